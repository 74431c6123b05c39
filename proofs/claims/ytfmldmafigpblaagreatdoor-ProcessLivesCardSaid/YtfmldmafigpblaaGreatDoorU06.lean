/- Part 6: SpaceB, SpaceC, Ref17, Keep, Same, Table, TableB, TableC, TableD, TableE, TableF, TableG. -/
import Derived.Test.YtfmldmafigpblaaGreatDoorU04
import Derived.Test.YtfmldmafigpblaaGreatDoorU05
section
namespace Go.Proofs.YtfmldmafigpblaaGreatDoor
open Go.Lift
set_option linter.unusedSimpArgs false
set_option linter.unusedVariables false
set_option maxRecDepth 10000
theorem LFz.rowS {α : Type} {B : List Own} {i e n E : Nat} {h : RowH} {xs : List (List SV)} {cells : α → List SV} {d : α} {l : List α} {r r' : List SV} (hB : getD' B i = .row h E e xs) (hx : xs = l.map cells) (hn : n = l.length) (hr : LFz 0 B r r') :
    LFz 0 B (.row i h e 0 n :: r) (slL e cells d l :: r') := LFz.row hB hx hn hr
def clP (n : Nat) (h : RowH) (i : Nat) : SV := .row i h 2 0 n
attribute [push_cast] clP
theorem ec_clone_PageRefM (l : List GPageRef) (hl : l.length ≤ 1000000) : EC Tryz.prog 67 [slL 2 GPageRef.c default l] [] fun r N => ∃ h : RowH, True ∧ r = clP l.length h 0 ∧ N = [.row h 85 2 (l.map GPageRef.c)] := by
  refine EC.ret (nA E_ok call_67 Tryz.func67 Tryz.ntmps67 Tryz.results67 ?_)
  (repeat (first | refine stepA ?_ | refine regA E_ok fun fr => ⟨?_⟩))
  (apply EV_cond; exact rfl; all_goals intro h)
  · have e := nil_of h
    subst e
    refine EV_seq ?_
    intro K2 hK2
    (try refine regA E_ok fun fr => ⟨?_⟩)
    (first | apply_assumption -exfalso | (try refine sT ?_))
    (first | apply_assumption -exfalso | (try refine sT ?_))
    refine EV_matr 2 85 2 rfl ?_
    intro hh
    (repeat (first | refine stepA ?_ | refine regA E_ok fun fr => ⟨?_⟩))
    (try refine sC ?_)
    exact ⟨_, SLe.refl _, hh, rfl, rfl⟩
  · (repeat (first | refine stepA ?_ | refine regA E_ok fun fr => ⟨?_⟩))
    (try refine sC ?_)
    exact ⟨_, SLe.refl _, _, rfl, rfl⟩
def shr (id : Int) : GPageRef := ⟨id, true⟩
def spAtt (l : List GPageRef) (ids : List Int) : List GPageRef × Int × Int :=
  if (!spOk l) = true then ([], 0, 1) else if ((ids.length : Int) == 0) = true then ([], 0, 2) else if decide (16 < (l.length : Int) + ids.length) = true then ([], 0, 3)
  else if (!spOk (l ++ ids.map shr)) = true then ([], 0, 1) else (l ++ ids.map shr, (l.length : Int) * 16, 0)
def r3t (x : List GPageRef × Int × Int) : SV := .tup [slL 2 GPageRef.c default x.1, .int .i64 x.2.1, .int .i64 x.2.2]
theorem ec_ref07_Attach (l : List GPageRef) (ids : List Int) (hl : l.length ≤ 1000000) (hi : ids.length ≤ 1000000) : EC Tryz.prog 165 [slL 2 GPageRef.c default l, slL 1 (intC .u64) default ids] [] fun r B => B = [] ∧ r = r3t (spAtt l ids) := by
  refine EC.fin (nA E_ok call_165 Tryz.func165 Tryz.ntmps165 Tryz.results165 ?_)
  (repeat (first | refine stepA ?_ | refine regA E_ok fun fr => ⟨?_⟩))
  (try refine regA E_ok fun fr => ⟨?_⟩)
  (refine EC.use (ec_ref07_Valid l hl) ?_; (try simp only [hg]); refine gA E_ok fun fr => ⟨?_⟩)
  (repeat (first | refine stepA ?_ | refine regA E_ok fun fr => ⟨?_⟩))
  (apply EV_cond; exact rfl; all_goals intro h)
  · (repeat (first | refine stepA ?_ | refine regA E_ok fun fr => ⟨?_⟩))
    (try refine sC ?_)
    rw [show r3t (spAtt l ids) = .tup [slL 2 GPageRef.c default [], .int .i64 0, .int .i64 1] by simp only [spAtt, h, if_true, r3t]]
    exact fin_t3 FzA.nil FzA.int FzA.int
  have h0 := h
  clear h
  have hl16 := spOk_len h0
  (repeat (first | refine stepA ?_ | refine regA E_ok fun fr => ⟨?_⟩))
  (apply EV_cond; exact rfl; all_goals intro h)
  · (repeat (first | refine stepA ?_ | refine regA E_ok fun fr => ⟨?_⟩))
    (try refine sC ?_)
    rw [show r3t (spAtt l ids) = .tup [slL 2 GPageRef.c default [], .int .i64 0, .int .i64 2] by simp only [spAtt, h0, h, if_true, if_false, Bool.false_eq_true, r3t]]
    exact fin_t3 FzA.nil FzA.int FzA.int
  have h1 := h
  clear h
  (repeat (first | refine stepA ?_ | refine regA E_ok fun fr => ⟨?_⟩))
  (apply EV_cond; exact rfl; all_goals intro h)
  · (repeat (first | refine stepA ?_ | refine regA E_ok fun fr => ⟨?_⟩))
    (try refine sC ?_)
    rw [show r3t (spAtt l ids) = .tup [slL 2 GPageRef.c default [], .int .i64 0, .int .i64 3] by simp only [spAtt, h0, h1, h, if_true, if_false, Bool.false_eq_true, r3t]]
    exact fin_t3 FzA.nil FzA.int FzA.int
  have h2 := h
  have hi16 : ids.length ≤ 16 := by simp at h; omega
  clear h
  (repeat (first | refine stepA ?_ | refine regA E_ok fun fr => ⟨?_⟩))
  refine EV_loopB [0, 1, 27, 28] (fun s : Nat × RowH => [(29, .int .i64 s.1), (7, .row 0 s.2 2 0 (l ++ (ids.take s.1).map shr).length)]) (fun B s => updH B 0 s.2 ((l ++ (ids.take s.1).map shr).map GPageRef.c)) (fun s => s.1 ≤ ids.length) (fun s => ids.length - s.1) (0, _) (Nat.zero_le _) ⟨rfl, congrArg (SV.row 0 _ 2 0) (by simp), trivial⟩ (by simp [updH]) ?_
  rintro ⟨i, hr⟩ hi1
  dsimp only at hi1
  obtain ⟨m, hm, hml⟩ : ∃ m, l ++ (ids.take i).map shr = m ∧ m.length = l.length + i := ⟨_, rfl, by simp; omega⟩
  have hml2 : m.length ≤ 100 := by omega
  refine sK ?_
  simp only [hm]
  (repeat (first | refine stepA ?_ | refine regA E_ok fun fr => ⟨?_⟩))
  (apply EV_cond; exact rfl; all_goals intro h)
  · have hlt : i < ids.length := by simp at h; omega
    clear h
    have e : List.map GPageRef.c m ++ [GPageRef.c ⟨ids.getD i default, true⟩] = (l ++ (ids.take (i + 1)).map shr).map GPageRef.c := by
      rw [← hm, List.take_succ_eq_append_getElem hlt]
      simp only [List.map_append, List.append_assoc, List.map_cons, List.map_nil, shr]
      rw [show ids.getD i default = ids[i] by simp [List.getD, hlt]]
    have e2 : m.length + 1 = (l ++ (ids.take (i + 1)).map shr).length := by simp [hml]; omega
    (repeat (first | refine stepA ?_ | refine regA E_ok fun fr => ⟨?_⟩))
    rw [e, e2]
    ((try refine sT ?_); first | refine nxA ((i + 1, _)) ?_ ?_ | refine nxB ((i + 1, _)) ?_ ?_)
    · dsimp only; omega
    · dsimp only; omega
  · have e : i = ids.length := by simp at h; omega
    clear h
    rw [e, List.take_length] at hm
    subst hm
    (repeat (first | refine stepA ?_ | refine regA E_ok fun fr => ⟨?_⟩))
    (try refine regA E_ok fun fr => ⟨?_⟩)
    refine EC.lend (ec_ref07_Valid (l ++ ids.map shr) (by omega)) (LFz.rowS rfl rfl (show l.length + ids.length = (l ++ ids.map shr).length by simp) .nil) (by rintro _ rfl; rfl) ?_
    rintro _ rfl
    ((try simp only [hg]); refine gA E_ok fun fr => ⟨?_⟩)
    (repeat (first | refine stepA ?_ | refine regA E_ok fun fr => ⟨?_⟩))
    (apply EV_cond; exact rfl; all_goals intro h)
    · (repeat (first | refine stepA ?_ | refine regA E_ok fun fr => ⟨?_⟩))
      (try refine sC ?_)
      rw [show r3t (spAtt l ids) = .tup [slL 2 GPageRef.c default [], .int .i64 0, .int .i64 1] by simp only [spAtt, h0, h1, h2, h, if_true, if_false, Bool.false_eq_true, r3t]]
      exact fin_t3 FzA.nil FzA.int FzA.int
    · (repeat (first | refine stepA ?_ | refine regA E_ok fun fr => ⟨?_⟩))
      (try refine sC ?_)
      rw [show r3t (spAtt l ids) = .tup [slL 2 GPageRef.c default (l ++ ids.map shr), .int .i64 ((l.length : Int) * 16), .int .i64 0] by simp only [spAtt, h0, h1, h2, h, if_false, Bool.false_eq_true, r3t]]
      exact fin_t3 (FzA.row (cells := GPageRef.c) (d := default) rfl rfl (by simp)) FzA.int FzA.int
def spPriv (l : List GPageRef) : List Int := if (!spOk l) = true then [] else (l.filter fun p => !p.Shared).map GPageRef.ID
theorem priv_step {l : List GPageRef} {i : Nat} (h : i < l.length) : ((l.take (i + 1)).filter fun p => !p.Shared).map GPageRef.ID = ((l.take i).filter fun p => !p.Shared).map GPageRef.ID ++ (if (!(l.getD i default).Shared) = true then [(l.getD i default).ID] else []) := by
  rw [List.take_succ_eq_append_getElem h, List.filter_append, List.map_append]
  rw [show l.getD i default = l[i] by simp [List.getD, h]]
  cases hs : l[i].Shared <;> simp [hs]
theorem ec_space_Private (l : List GPageRef) (hl : l.length ≤ 1000000) : EC Tryz.prog 66 [slL 2 GPageRef.c default l] [] fun r B => B = [] ∧ r = slL 1 (intC .u64) default (spPriv l) := by
  refine EC.fin (nA E_ok call_66 Tryz.func66 Tryz.ntmps66 Tryz.results66 ?_)
  (repeat (first | refine stepA ?_ | refine regA E_ok fun fr => ⟨?_⟩))
  (try refine regA E_ok fun fr => ⟨?_⟩)
  (refine EC.use (ec_space_Valid l hl) ?_; (try simp only [hg]); refine gA E_ok fun fr => ⟨?_⟩)
  (repeat (first | refine stepA ?_ | refine regA E_ok fun fr => ⟨?_⟩))
  (apply EV_cond; exact rfl; all_goals intro h)
  · (repeat (first | refine stepA ?_ | refine regA E_ok fun fr => ⟨?_⟩))
    (try refine sC ?_)
    rw [show spPriv l = [] by simp only [spPriv, h, if_true]]
    exact ⟨trivial, sle_nilL⟩
  have h0 := h
  clear h
  (repeat (first | refine stepA ?_ | refine regA E_ok fun fr => ⟨?_⟩))
  refine EV_matr 3 22 1 rfl ?_
  intro hh
  simp only [List.length_cons, List.length_nil, List.cons_append, List.nil_append, Nat.zero_add]
  refine EV_loopB [0, 9, 10] (fun s : Nat × RowH => [(11, .int .i64 s.1), (3, .row 0 s.2 1 0 (((l.take s.1).filter fun p => !p.Shared).map GPageRef.ID).length)]) (fun B s => updH B 0 s.2 ((((l.take s.1).filter fun p => !p.Shared).map GPageRef.ID).map (intC .u64))) (fun s => s.1 ≤ l.length) (fun s => l.length - s.1) (0, hh) (Nat.zero_le _) ⟨rfl, rfl, trivial⟩ rfl ?_
  rintro ⟨i, hr⟩ hi1
  dsimp only at hi1
  obtain ⟨m, hm⟩ : ∃ m, ((l.take i).filter fun p => !p.Shared).map GPageRef.ID = m := ⟨_, rfl⟩
  have hml : m.length ≤ 1000000 := by
    rw [← hm, List.length_map]
    exact Nat.le_trans (List.length_filter_le _ _) (by simp; omega)
  refine sK ?_
  simp only [hm]
  (repeat (first | refine stepA ?_ | refine regA E_ok fun fr => ⟨?_⟩))
  (apply EV_cond; exact rfl; all_goals intro h)
  · have hlt : i < l.length := by simp at h; omega
    clear h
    have hs := priv_step hlt
    rw [hm] at hs
    (repeat (first | refine stepA ?_ | refine regA E_ok fun fr => ⟨?_⟩))
    (apply EV_cond; exact rfl; all_goals intro h)
    · rw [if_pos h] at hs
      have e2 : m.length + 1 = (((l.take (i + 1)).filter fun p => !p.Shared).map GPageRef.ID).length := by rw [hs]; simp
      (repeat (first | refine stepA ?_ | refine regA E_ok fun fr => ⟨?_⟩))
      rw [← hs, e2]
      ((try refine sT ?_); first | refine nxA ((i + 1, _)) ?_ ?_ | refine nxB ((i + 1, _)) ?_ ?_)
      · dsimp only; omega
      · dsimp only; omega
    · rw [if_neg (by rw [h]; simp), List.append_nil] at hs
      rw [← hs]
      (repeat (first | refine stepA ?_ | refine regA E_ok fun fr => ⟨?_⟩))
      ((try refine sT ?_); first | refine nxA ((i + 1, hr)) ?_ ?_ | refine nxB ((i + 1, hr)) ?_ ?_)
      · dsimp only; omega
      · dsimp only; omega
  · have e : i = l.length := by simp at h; omega
    clear h
    rw [e, List.take_length] at hm
    (repeat (first | refine stepA ?_ | refine regA E_ok fun fr => ⟨?_⟩))
    (try refine sC ?_)
    rw [show spPriv l = m by simp only [spPriv, h0, if_false, Bool.false_eq_true, hm]]
    exact fin_rowT (cells := intC .u64) (d := default) rfl rfl rfl
theorem ec_ref07_Private (l : List GPageRef) (hl : l.length ≤ 1000000) : EC Tryz.prog 16 [slL 2 GPageRef.c default l] [] fun r B => B = [] ∧ r = slL 1 (intC .u64) default (spPriv l) := by
  refine EC.fin (nA E_ok call_16 Tryz.func16 Tryz.ntmps16 Tryz.results16 ?_)
  (repeat (first | refine stepA ?_ | refine regA E_ok fun fr => ⟨?_⟩))
  (try refine regA E_ok fun fr => ⟨?_⟩)
  (refine EC.use (ec_ref07_Valid l hl) ?_; (try simp only [hg]); refine gA E_ok fun fr => ⟨?_⟩)
  (repeat (first | refine stepA ?_ | refine regA E_ok fun fr => ⟨?_⟩))
  (apply EV_cond; exact rfl; all_goals intro h)
  · (repeat (first | refine stepA ?_ | refine regA E_ok fun fr => ⟨?_⟩))
    (try refine sC ?_)
    rw [show spPriv l = [] by simp only [spPriv, h, if_true]]
    exact ⟨trivial, sle_nilL⟩
  have h0 := h
  clear h
  (repeat (first | refine stepA ?_ | refine regA E_ok fun fr => ⟨?_⟩))
  refine EV_matr 3 22 1 rfl ?_
  intro hh
  simp only [List.length_cons, List.length_nil, List.cons_append, List.nil_append, Nat.zero_add]
  refine EV_loopB [0, 9, 10] (fun s : Nat × RowH => [(11, .int .i64 s.1), (3, .row 0 s.2 1 0 (((l.take s.1).filter fun p => !p.Shared).map GPageRef.ID).length)]) (fun B s => updH B 0 s.2 ((((l.take s.1).filter fun p => !p.Shared).map GPageRef.ID).map (intC .u64))) (fun s => s.1 ≤ l.length) (fun s => l.length - s.1) (0, hh) (Nat.zero_le _) ⟨rfl, rfl, trivial⟩ rfl ?_
  rintro ⟨i, hr⟩ hi1
  dsimp only at hi1
  obtain ⟨m, hm⟩ : ∃ m, ((l.take i).filter fun p => !p.Shared).map GPageRef.ID = m := ⟨_, rfl⟩
  have hml : m.length ≤ 1000000 := by
    rw [← hm, List.length_map]
    exact Nat.le_trans (List.length_filter_le _ _) (by simp; omega)
  refine sK ?_
  simp only [hm]
  (repeat (first | refine stepA ?_ | refine regA E_ok fun fr => ⟨?_⟩))
  (apply EV_cond; exact rfl; all_goals intro h)
  · have hlt : i < l.length := by simp at h; omega
    clear h
    have hs := priv_step hlt
    rw [hm] at hs
    (repeat (first | refine stepA ?_ | refine regA E_ok fun fr => ⟨?_⟩))
    (apply EV_cond; exact rfl; all_goals intro h)
    · rw [if_pos h] at hs
      have e2 : m.length + 1 = (((l.take (i + 1)).filter fun p => !p.Shared).map GPageRef.ID).length := by rw [hs]; simp
      (repeat (first | refine stepA ?_ | refine regA E_ok fun fr => ⟨?_⟩))
      rw [← hs, e2]
      ((try refine sT ?_); first | refine nxA ((i + 1, _)) ?_ ?_ | refine nxB ((i + 1, _)) ?_ ?_)
      · dsimp only; omega
      · dsimp only; omega
    · rw [if_neg (by rw [h]; simp), List.append_nil] at hs
      rw [← hs]
      (repeat (first | refine stepA ?_ | refine regA E_ok fun fr => ⟨?_⟩))
      ((try refine sT ?_); first | refine nxA ((i + 1, hr)) ?_ ?_ | refine nxB ((i + 1, hr)) ?_ ?_)
      · dsimp only; omega
      · dsimp only; omega
  · have e : i = l.length := by simp at h; omega
    clear h
    rw [e, List.take_length] at hm
    (repeat (first | refine stepA ?_ | refine regA E_ok fun fr => ⟨?_⟩))
    (try refine sC ?_)
    rw [show spPriv l = m by simp only [spPriv, h0, if_false, Bool.false_eq_true, hm]]
    exact fin_rowT (cells := intC .u64) (d := default) rfl rfl rfl
end Go.Proofs.YtfmldmafigpblaaGreatDoor
end
section
namespace Go.Proofs.YtfmldmafigpblaaGreatDoor
open Go.Lift
set_option linter.unusedSimpArgs false
set_option linter.unusedVariables false
set_option maxRecDepth 10000
def np (l : List GPageRef) : Nat := (l.filter fun p => !p.Shared).length
theorem np_step {l : List GPageRef} {i : Nat} (h : i < l.length) : np (l.take (i + 1)) = np (l.take i) + (if (!(l.getD i default).Shared) = true then 1 else 0) := by
  have := congrArg List.length (priv_step h)
  simp only [List.length_map, List.length_append] at this
  rw [np, this, np]
  split <;> rfl
theorem np_le (l : List GPageRef) (i : Nat) : np (l.take i) ≤ np l := by
  unfold np
  conv => rhs; rw [← List.take_append_drop i l]
  rw [List.filter_append, List.length_append]
  omega
def newP (p : GPageRef) (r : List Int) : GPageRef := if p.Shared = true then p else { p with ID := r.getD 0 default }
def replL : List GPageRef → List Int → List GPageRef
  | [], _ => []
  | p :: t, r => newP p r :: replL t (if p.Shared = true then r else r.drop 1)
theorem replL_len (l : List GPageRef) : ∀ r, (replL l r).length = l.length := by
  induction l with
  | nil => intro r; rfl
  | cons p t ih => intro r; simp [replL, ih]
theorem replL_snoc (l : List GPageRef) (p : GPageRef) : ∀ r, replL (l ++ [p]) r = replL l r ++ [newP p (r.drop (np l))] := by
  induction l with
  | nil => intro r; simp [replL, np]
  | cons q t ih =>
    intro r
    simp only [List.cons_append, replL, ih]
    congr 3
    by_cases h : q.Shared = true
    · simp [h, np]
    · simp [h, np]
def spRepl (l : List GPageRef) (ids : List Int) : List GPageRef × Int :=
  if (!spOk l) = true then ([], 1) else if ((ids.length : Int) != ((spPriv l).length : Int)) = true then ([], 2) else if (!spOk (replL l ids)) = true then ([], 1) else (replL l ids, 0)
def r2t (x : List GPageRef × Int) : SV := .tup [slL 2 GPageRef.c default x.1, .int .i64 x.2]
theorem spPriv_len {l : List GPageRef} (h : (!spOk l) = false) : (spPriv l).length = np l := by
  simp only [spPriv, h, if_false, Bool.false_eq_true, np, List.length_map]
theorem ec_space_Replace (l : List GPageRef) (ids : List Int) (hl : l.length ≤ 1000000) (hi : ids.length ≤ 1000000) : EC Tryz.prog 40 [slL 2 GPageRef.c default l, slL 1 (intC .u64) default ids] [] fun r B => B = [] ∧ r = r2t (spRepl l ids) := by
  refine EC.fin (nA E_ok call_40 Tryz.func40 Tryz.ntmps40 Tryz.results40 ?_)
  (repeat (first | refine stepA ?_ | refine regA E_ok fun fr => ⟨?_⟩))
  (try refine regA E_ok fun fr => ⟨?_⟩)
  (refine EC.use (ec_space_Valid l hl) ?_; (try simp only [hg]); refine gA E_ok fun fr => ⟨?_⟩)
  (repeat (first | refine stepA ?_ | refine regA E_ok fun fr => ⟨?_⟩))
  (apply EV_cond; exact rfl; all_goals intro h)
  · (repeat (first | refine stepA ?_ | refine regA E_ok fun fr => ⟨?_⟩))
    (try refine sC ?_)
    rw [show r2t (spRepl l ids) = .tup [slL 2 GPageRef.c default [], .int .i64 1] by simp only [spRepl, h, if_true, r2t]]
    exact fin_t2 FzA.nil FzA.int
  have h0 := h
  clear h
  have hl16 := spOk_len h0
  have hpl := spPriv_len h0
  have hpm : np l ≤ l.length := List.length_filter_le _ _
  (repeat (first | refine stepA ?_ | refine regA E_ok fun fr => ⟨?_⟩))
  (try refine regA E_ok fun fr => ⟨?_⟩)
  (refine EC.use (ec_space_Private l hl) ?_; (try simp only [hg]); refine gA E_ok fun fr => ⟨?_⟩)
  (repeat (first | refine stepA ?_ | refine regA E_ok fun fr => ⟨?_⟩))
  (apply EV_cond; exact rfl; all_goals intro h)
  · (repeat (first | refine stepA ?_ | refine regA E_ok fun fr => ⟨?_⟩))
    (try refine sC ?_)
    rw [show r2t (spRepl l ids) = .tup [slL 2 GPageRef.c default [], .int .i64 2] by simp only [spRepl, h0, h, if_true, if_false, Bool.false_eq_true, r2t]]
    exact fin_t2 FzA.nil FzA.int
  have h1 := h
  have hin : ids.length = np l := by simp only [bne_eq_false_iff_eq] at h; omega
  clear h
  (repeat (first | refine stepA ?_ | refine regA E_ok fun fr => ⟨?_⟩))
  (try refine regA E_ok fun fr => ⟨?_⟩)
  (refine EC.useN (ec_clone_PageRefM l hl) (fun _ _ => SLe.row) ?_; rintro hh -; (try simp only [hg]); refine gA E_ok fun fr => ⟨?_⟩)
  (repeat (first | refine stepA ?_ | refine regA E_ok fun fr => ⟨?_⟩))
  refine EV_loopB [0, 6, 21] (fun s : Nat × List Int × List GPageRef => [(22, .int .i64 s.1), (1, .sl false 1 s.2.1.length (elt (intC .u64) default s.2.1))]) (fun B s => updX B 0 (s.2.2.map GPageRef.c)) (fun s => s.1 ≤ l.length ∧ s.2.1 = ids.drop (np (l.take s.1)) ∧ s.2.2 = replL (l.take s.1) ids ++ l.drop s.1) (fun s => l.length - s.1) (0, ids, l) ⟨Nat.zero_le _, rfl, rfl⟩ ⟨rfl, rfl, trivial⟩ rfl ?_
  rintro ⟨i, r, m⟩ ⟨hi1, hr, hm⟩
  dsimp only at hi1 hr hm
  have hml : m.length = l.length := by rw [hm]; simp [replL_len]; omega
  have hrl : r.length = np l - np (l.take i) := by rw [hr]; simp; omega
  refine sK ?_
  (repeat (first | refine stepA ?_ | refine regA E_ok fun fr => ⟨?_⟩))
  (apply EV_cond; exact rfl; all_goals intro h)
  · have hlt : i < l.length := by simp at h; omega
    clear h
    have hg : m.getD i default = l.getD i default := by
      rw [hm]
      simp only [List.getD]
      rw [List.getElem?_append_right (by simp [replL_len]; omega)]
      simp [replL_len, Nat.min_eq_left hi1]
    have hst := np_step hlt
    have hle := np_le l (i + 1)
    have htk : l.take (i + 1) = l.take i ++ [l.getD i default] := by
      rw [List.take_succ_eq_append_getElem hlt]; simp [List.getD, hlt]
    have hm2 : replL (l.take (i + 1)) ids ++ l.drop (i + 1) = m.set i (newP (l.getD i default) r) := by
      rw [htk, replL_snoc, hm, hr]
      have hk : (replL (List.take i l) ids).length = i := by rw [replL_len]; simp; omega
      rw [List.set_append_right _ _ (by omega), hk, Nat.sub_self, List.append_assoc]
      congr 1
      rw [List.drop_eq_getElem_cons hlt, List.set_cons_zero]
      rfl
    (repeat (first | refine stepA ?_ | refine regA E_ok fun fr => ⟨?_⟩))
    rw [hg]
    generalize hp : l.getD i default = p at hg hst hm2
    (apply EV_cond; exact rfl; all_goals intro h)
    · rw [if_pos h] at hst
      have hsh : p.Shared = false := by simpa using h
      have hr0 : 0 < r.length := by omega
      obtain ⟨D, hD, hDl⟩ : ∃ D, List.drop 1 r = D ∧ r.length - 1 = D.length := ⟨_, rfl, by simp⟩
      have hnp : newP p r = ⟨r.getD 0 default, p.Shared⟩ := by simp [newP, hsh]
      rw [hnp] at hm2
      have hset : (List.map GPageRef.c m).set i (GPageRef.c ⟨r.getD 0 default, p.Shared⟩) = (m.set i ⟨r.getD 0 default, p.Shared⟩).map GPageRef.c := by rw [List.map_set]
      (refine dD E_ok [] [true] [0, 1, 2, 3, 4, 5, 6, 7, 8, 9] fol fun R hR => ?_; (repeat intro rh); (try refine sB ⟨?_⟩); (repeat ((with_reducible apply And.intro); exact sdB)); (repeat intro rh); (repeat ((with_reducible apply And.intro); exact sdB)); (try apply_assumption -exfalso))
      simp only [hg, hset, hD, hDl]
      (repeat (first | refine stepA ?_ | refine regA E_ok fun fr => ⟨?_⟩))
      ((try refine sT ?_); first | refine nxA ((i + 1, D, m.set i ⟨r.getD 0 default, p.Shared⟩)) ?_ ?_ | refine nxB ((i + 1, D, m.set i ⟨r.getD 0 default, p.Shared⟩)) ?_ ?_)
      · exact ⟨by dsimp only; omega, by dsimp only; rw [← hD, hr, hst, List.drop_drop], hm2.symm⟩
      · dsimp only; omega
    · rw [if_neg (by rw [h]; simp)] at hst
      have hsh : p.Shared = true := by simpa using h
      have hnp : newP p r = p := by simp [newP, hsh]
      rw [hnp] at hm2
      have : m.set i p = m := by
        rw [← hg]
        apply List.ext_getElem
        · simp
        · intro k h1 h2
          by_cases e : k = i
          · subst e; simp [List.getD, h2]
          · simp [List.getElem_set_ne (fun h => e h.symm)]
      rw [this] at hm2
      (repeat (first | refine stepA ?_ | refine regA E_ok fun fr => ⟨?_⟩))
      ((try refine sT ?_); first | refine nxA ((i + 1, r, m)) ?_ ?_ | refine nxB ((i + 1, r, m)) ?_ ?_)
      · exact ⟨by dsimp only; omega, by dsimp only; rw [hr, hst]; rfl, hm2.symm⟩
      · dsimp only; omega
  · have e : i = l.length := by simp at h; omega
    clear h
    rw [e, List.take_length, List.drop_length, List.append_nil] at hm
    have hml2 : (replL l ids).length = l.length := replL_len l ids
    (repeat (first | refine stepA ?_ | refine regA E_ok fun fr => ⟨?_⟩))
    (try refine regA E_ok fun fr => ⟨?_⟩)
    refine EC.lend (ec_space_Valid m (by omega)) (LFz.rowS rfl rfl hml.symm .nil) (by rintro _ rfl; rfl) ?_
    rintro _ rfl
    ((try simp only [hg]); refine gA E_ok fun fr => ⟨?_⟩)
    rw [hm]
    (repeat (first | refine stepA ?_ | refine regA E_ok fun fr => ⟨?_⟩))
    (apply EV_cond; exact rfl; all_goals intro h)
    · (repeat (first | refine stepA ?_ | refine regA E_ok fun fr => ⟨?_⟩))
      (try refine sC ?_)
      rw [show r2t (spRepl l ids) = .tup [slL 2 GPageRef.c default [], .int .i64 1] by simp only [spRepl, h0, h1, h, if_true, if_false, Bool.false_eq_true, r2t]]
      exact fin_t2 FzA.nil FzA.int
    · (repeat (first | refine stepA ?_ | refine regA E_ok fun fr => ⟨?_⟩))
      (try refine sC ?_)
      rw [show r2t (spRepl l ids) = .tup [slL 2 GPageRef.c default (replL l ids), .int .i64 0] by simp only [spRepl, h0, h1, h, if_false, Bool.false_eq_true, r2t]]
      exact fin_t2 (FzA.row (cells := GPageRef.c) (d := default) rfl rfl hml2.symm) FzA.int
theorem replL_step {l : List GPageRef} {ids r : List Int} {i : Nat} (h : i < l.length) (hr : r = ids.drop (np (l.take i))) : replL (l.take (i + 1)) ids = replL (l.take i) ids ++ [newP (l.getD i default) r] := by
  rw [show l.take (i + 1) = l.take i ++ [l.getD i default] by rw [List.take_succ_eq_append_getElem h]; simp [List.getD, h], replL_snoc, hr]
theorem ec_ref07_Replace (l : List GPageRef) (ids : List Int) (hl : l.length ≤ 1000000) (hi : ids.length ≤ 1000000) : EC Tryz.prog 42 [slL 2 GPageRef.c default l, slL 1 (intC .u64) default ids] [] fun r B => B = [] ∧ r = r2t (spRepl l ids) := by
  refine EC.fin (nA E_ok call_42 Tryz.func42 Tryz.ntmps42 Tryz.results42 ?_)
  (repeat (first | refine stepA ?_ | refine regA E_ok fun fr => ⟨?_⟩))
  (try refine regA E_ok fun fr => ⟨?_⟩)
  (refine EC.use (ec_ref07_Valid l hl) ?_; (try simp only [hg]); refine gA E_ok fun fr => ⟨?_⟩)
  (repeat (first | refine stepA ?_ | refine regA E_ok fun fr => ⟨?_⟩))
  (apply EV_cond; exact rfl; all_goals intro h)
  · (repeat (first | refine stepA ?_ | refine regA E_ok fun fr => ⟨?_⟩))
    (try refine sC ?_)
    rw [show r2t (spRepl l ids) = .tup [slL 2 GPageRef.c default [], .int .i64 1] by simp only [spRepl, h, if_true, r2t]]
    exact fin_t2 FzA.nil FzA.int
  have h0 := h
  clear h
  have hl16 := spOk_len h0
  have hpl := spPriv_len h0
  have hpm : np l ≤ l.length := List.length_filter_le _ _
  (repeat (first | refine stepA ?_ | refine regA E_ok fun fr => ⟨?_⟩))
  (try refine regA E_ok fun fr => ⟨?_⟩)
  (refine EC.use (ec_ref07_Private l hl) ?_; (try simp only [hg]); refine gA E_ok fun fr => ⟨?_⟩)
  (repeat (first | refine stepA ?_ | refine regA E_ok fun fr => ⟨?_⟩))
  (apply EV_cond; exact rfl; all_goals intro h)
  · (repeat (first | refine stepA ?_ | refine regA E_ok fun fr => ⟨?_⟩))
    (try refine sC ?_)
    rw [show r2t (spRepl l ids) = .tup [slL 2 GPageRef.c default [], .int .i64 2] by simp only [spRepl, h0, h, if_true, if_false, Bool.false_eq_true, r2t]]
    exact fin_t2 FzA.nil FzA.int
  have h1 := h
  have hin : ids.length = np l := by simp only [bne_eq_false_iff_eq] at h; omega
  clear h
  (repeat (first | refine stepA ?_ | refine regA E_ok fun fr => ⟨?_⟩))
  refine EV_matr 6 85 2 rfl ?_
  intro hh
  simp only [List.length_cons, List.length_nil, List.cons_append, List.nil_append, Nat.zero_add]
  refine EV_loopB [0, 18, 19] (fun s : Nat × List Int × RowH => [(20, .int .i64 s.1), (1, .sl false 1 s.2.1.length (elt (intC .u64) default s.2.1)), (6, .row 0 s.2.2 2 0 (replL (l.take s.1) ids).length)]) (fun B s => updH B 0 s.2.2 ((replL (l.take s.1) ids).map GPageRef.c)) (fun s => s.1 ≤ l.length ∧ s.2.1 = ids.drop (np (l.take s.1))) (fun s => l.length - s.1) (0, ids, hh) ⟨Nat.zero_le _, rfl⟩ ⟨rfl, rfl, rfl, trivial⟩ rfl ?_
  rintro ⟨i, r, hr⟩ ⟨hi1, hre⟩
  dsimp only at hi1 hre
  have hrl : r.length = np l - np (l.take i) := by rw [hre]; simp; omega
  obtain ⟨m, hm⟩ : ∃ m, replL (l.take i) ids = m := ⟨_, rfl⟩
  have hml : m.length = i := by rw [← hm, replL_len]; simp; omega
  refine sK ?_
  simp only [hm]
  (repeat (first | refine stepA ?_ | refine regA E_ok fun fr => ⟨?_⟩))
  (apply EV_cond; exact rfl; all_goals intro h)
  · have hlt : i < l.length := by simp at h; omega
    clear h
    have hst := np_step hlt
    have hle := np_le l (i + 1)
    have hnx := replL_step hlt hre
    rw [hm] at hnx
    (repeat (first | refine stepA ?_ | refine regA E_ok fun fr => ⟨?_⟩))
    generalize hp : l.getD i default = p at hst hnx
    (apply EV_cond; exact rfl; all_goals intro h)
    · rw [if_pos h] at hst
      have hsh : p.Shared = false := by simpa using h
      have hr0 : 0 < r.length := by omega
      obtain ⟨D, hD, hDl⟩ : ∃ D, List.drop 1 r = D ∧ r.length - 1 = D.length := ⟨_, rfl, by simp⟩
      have hnp : newP p r = ⟨r.getD 0 default, p.Shared⟩ := by simp [newP, hsh]
      rw [hnp] at hnx
      have e2 : m.length + 1 = (replL (l.take (i + 1)) ids).length := by rw [hnx]; simp
      (refine dD E_ok [] [true, true] [0, 1, 2, 3, 4, 5, 6, 7] fol fun R hR => ?_; (repeat intro rh); (try refine sB ⟨?_⟩); (repeat ((with_reducible apply And.intro); exact sdB)); (repeat intro rh); (repeat ((with_reducible apply And.intro); exact sdB)); (try apply_assumption -exfalso))
      simp only [hD, hDl]
      (repeat (first | refine stepA ?_ | refine regA E_ok fun fr => ⟨?_⟩))
      rw [show List.map GPageRef.c m ++ [GPageRef.c ⟨r.getD 0 default, p.Shared⟩] = (replL (l.take (i + 1)) ids).map GPageRef.c by rw [hnx, List.map_append]; rfl, e2]
      ((try refine sT ?_); first | refine nxA ((i + 1, D, _)) ?_ ?_ | refine nxB ((i + 1, D, _)) ?_ ?_)
      · exact ⟨by dsimp only; omega, by dsimp only; rw [← hD, hre, hst, List.drop_drop]⟩
      · dsimp only; omega
    · rw [if_neg (by rw [h]; simp)] at hst
      have hsh : p.Shared = true := by simpa using h
      have hnp : newP p r = p := by simp [newP, hsh]
      rw [hnp] at hnx
      have e2 : m.length + 1 = (replL (l.take (i + 1)) ids).length := by rw [hnx]; simp
      (repeat (first | refine stepA ?_ | refine regA E_ok fun fr => ⟨?_⟩))
      rw [show List.map GPageRef.c m ++ [GPageRef.c p] = (replL (l.take (i + 1)) ids).map GPageRef.c by rw [hnx, List.map_append]; rfl, e2]
      ((try refine sT ?_); first | refine nxA ((i + 1, r, _)) ?_ ?_ | refine nxB ((i + 1, r, _)) ?_ ?_)
      · exact ⟨by dsimp only; omega, by dsimp only; rw [hre, hst]; rfl⟩
      · dsimp only; omega
  · have e : i = l.length := by simp at h; omega
    clear h
    rw [e, List.take_length] at hm
    subst hm
    (repeat (first | refine stepA ?_ | refine regA E_ok fun fr => ⟨?_⟩))
    (try refine regA E_ok fun fr => ⟨?_⟩)
    refine EC.lend (ec_ref07_Valid (replL l ids) (by omega)) (LFz.rowS rfl rfl rfl .nil) (by rintro _ rfl; rfl) ?_
    rintro _ rfl
    ((try simp only [hg]); refine gA E_ok fun fr => ⟨?_⟩)
    (repeat (first | refine stepA ?_ | refine regA E_ok fun fr => ⟨?_⟩))
    (apply EV_cond; exact rfl; all_goals intro h)
    · (repeat (first | refine stepA ?_ | refine regA E_ok fun fr => ⟨?_⟩))
      (try refine sC ?_)
      rw [show r2t (spRepl l ids) = .tup [slL 2 GPageRef.c default [], .int .i64 1] by simp only [spRepl, h0, h1, h, if_true, if_false, Bool.false_eq_true, r2t]]
      exact fin_t2 FzA.nil FzA.int
    · (repeat (first | refine stepA ?_ | refine regA E_ok fun fr => ⟨?_⟩))
      (try refine sC ?_)
      rw [show r2t (spRepl l ids) = .tup [slL 2 GPageRef.c default (replL l ids), .int .i64 0] by simp only [spRepl, h0, h1, h, if_false, Bool.false_eq_true, r2t]]
      exact fin_t2 (FzA.row (cells := GPageRef.c) (d := default) rfl rfl rfl) FzA.int
end Go.Proofs.YtfmldmafigpblaaGreatDoor
end
section
namespace Go.Proofs.YtfmldmafigpblaaGreatDoor
open Go.Lift
set_option linter.unusedSimpArgs false
set_option linter.unusedVariables false
set_option maxRecDepth 10000
theorem ec_ref17_New (id : Int) : EC Tryz.prog 97 [.int .u64 id] [] fun r B => B = [] ∧ r = .agg (GObject.c { (default : GObject) with ID := id, Kind := 9 }) := by
  refine EC.fin (nA E_ok call_97 Tryz.func97 Tryz.ntmps97 Tryz.results97 ?_)
  (repeat (first | refine stepA ?_ | refine regA E_ok fun fr => ⟨?_⟩))
  ((try refine sC ?_); refine sF ?_; refine SLe.of_eq ?_; rfl)
def devOk (o : GObject) : Bool := o.Kind == 9 && !(o.ID == 0) && onlyB o 2048
theorem dev_bare (o : GObject) : onlyB o 2048 = bareB { o with Count := 0 } := by
  have h1 : bitI .andNot .i64 1 2048 = 1 := by decide
  have h2 : bitI .andNot .i64 2 2048 = 2 := by decide
  have h3 : bitI .andNot .i64 4 2048 = 4 := by decide
  have h4 : bitI .andNot .i64 8 2048 = 8 := by decide
  have h5 : bitI .andNot .i64 16 2048 = 16 := by decide
  have h6 : bitI .andNot .i64 32 2048 = 32 := by decide
  have h7 : bitI .andNot .i64 64 2048 = 64 := by decide
  have h8 : bitI .andNot .i64 128 2048 = 128 := by decide
  have h9 : bitI .andNot .i64 256 2048 = 256 := by decide
  have h10 : bitI .andNot .i64 512 2048 = 512 := by decide
  have h11 : bitI .andNot .i64 1024 2048 = 1024 := by decide
  have h12 : bitI .andNot .i64 2048 2048 = 0 := by decide
  have h13 : bitI .andNot .i64 4096 2048 = 4096 := by decide
  apply Bool.eq_iff_iff.2
  simp [onlyB, okB, bareB, h1, h2, h3, h4, h5, h6, h7, h8, h9, h10, h11, h12, h13]
  constructor <;> (intro h; simp [h])
theorem ec_ref17_Valid (o : GObject) : EC Tryz.prog 193 [.agg o.c] [] fun r B => B = [] ∧ r = .bool (devOk o) := by
  refine EC.fin (nA E_ok call_193 Tryz.func193 Tryz.ntmps193 Tryz.results193 ?_)
  (repeat (first | refine stepA ?_ | refine regA E_ok fun fr => ⟨?_⟩))
  (try refine regA E_ok fun fr => ⟨?_⟩)
  refine ⟨fun hg => ?_, fun hg => ?_⟩
  · (refine EC.use (ec_ref06_Bare { o with Count := 0 }) ?_; (try simp only [hg]); refine gA E_ok fun fr => ⟨?_⟩)
    (repeat (first | refine stepA ?_ | refine regA E_ok fun fr => ⟨?_⟩))
    ((try refine sC ?_); refine sF ?_; refine SLe.of_eq ?_; (simp only [devOk, ← bne_eq, hg, dev_bare]; (try rfl)))
  · ((try simp only [hg]); refine gA E_ok fun fr => ⟨?_⟩)
    (repeat (first | refine stepA ?_ | refine regA E_ok fun fr => ⟨?_⟩))
    ((try refine sC ?_); refine sF ?_; refine SLe.of_eq ?_; (simp only [devOk, ← bne_eq, hg]; (try rfl)))
def devDo (o : GObject) (v : Int) : Int × GObject × Int := if devOk o then (o.Count, { o with Count := IntKind.i64.wrap (o.Count + v) }, 0) else (0, default, 1)
def r3o (x : Int × GObject × Int) : SV := .tup [.int .i64 x.1, .agg x.2.1.c, .int .i64 x.2.2]
theorem ec_ref17_Do (o : GObject) (v : Int) : EC Tryz.prog 180 [.agg o.c, .int .i64 v] [] fun r B => B = [] ∧ r = r3o (devDo o v) := by
  refine EC.fin (nA E_ok call_180 Tryz.func180 Tryz.ntmps180 Tryz.results180 ?_)
  (repeat (first | refine stepA ?_ | refine regA E_ok fun fr => ⟨?_⟩))
  (try refine regA E_ok fun fr => ⟨?_⟩)
  (refine EC.use (ec_ref17_Valid o) ?_; (try simp only [hg]); refine gA E_ok fun fr => ⟨?_⟩)
  (repeat (first | refine stepA ?_ | refine regA E_ok fun fr => ⟨?_⟩))
  (apply EV_cond; exact rfl; all_goals intro h)
  · (repeat (first | refine stepA ?_ | refine regA E_ok fun fr => ⟨?_⟩))
    ((try refine sC ?_); refine sF ?_; refine SLe.of_eq ?_; (simp at h; simp [devDo, h, r3o]))
  · (repeat (first | refine stepA ?_ | refine regA E_ok fun fr => ⟨?_⟩))
    (refine dD E_ok [] [false, true] [0, 1, 2, 3, 4] fol fun R hR => ?_; (repeat intro rh); (try refine sB ⟨?_⟩); (repeat ((with_reducible apply And.intro); exact sdB)); (repeat intro rh); (repeat ((with_reducible apply And.intro); exact sdB)); (try apply_assumption -exfalso))
    (repeat (first | refine stepA ?_ | refine regA E_ok fun fr => ⟨?_⟩))
    ((try refine sC ?_); refine sF ?_; refine SLe.of_eq ?_; (simp at h; simp [devDo, h, r3o]))
end Go.Proofs.YtfmldmafigpblaaGreatDoor
end
section
namespace Go.Proofs.YtfmldmafigpblaaGreatDoor
open Go.Lift
set_option linter.unusedSimpArgs false
set_option linter.unusedVariables false
set_option maxRecDepth 10000
def keepP (p : GProgram) : Bool := p.Strings.all (fun s => !decide (200 < s.length)) && (decide (p.Code.length ≤ 300) && decide (p.Strings.length ≤ 40))
theorem ec_keep_Program (p : GProgram) (hl : p.Strings.length ≤ 9223372036854775807) : EC Tryz.prog 12 [.agg p.c] [] fun r B => B = [] ∧ r = .bool (keepP p) := by
  refine EC.fin (nA E_ok call_12 Tryz.func12 Tryz.ntmps12 Tryz.results12 ?_)
  (repeat (first | refine stepA ?_ | refine regA E_ok fun fr => ⟨?_⟩))
  refine EV_loopL [1, 6, 7] (fun i : Nat => [(8, .int .i64 i)]) (fun i => i ≤ p.Strings.length ∧ (p.Strings.take i).all (fun s => !decide (200 < s.length)) = true) (fun i => p.Strings.length - i) 0 ⟨Nat.zero_le _, rfl⟩ ⟨rfl, trivial⟩ ?_
  rintro i ⟨hi, hv⟩
  refine sK ?_
  (repeat (first | refine stepA ?_ | refine regA E_ok fun fr => ⟨?_⟩))
  (apply EV_cond; exact rfl; all_goals intro h)
  · have hlt : i < p.Strings.length := by simpa using h
    (repeat (first | refine stepA ?_ | refine regA E_ok fun fr => ⟨?_⟩))
    (apply EV_cond; exact rfl; all_goals intro h)
    · (repeat (first | refine stepA ?_ | refine regA E_ok fun fr => ⟨?_⟩))
      ((try refine sC ?_); refine sF ?_; refine SLe.of_eq ?_; (simp only [keepP, all_fail hlt (p := fun s => !decide (200 < s.length)) (by simp at h ⊢; omega)]; simp))
    · (repeat (first | refine stepA ?_ | refine regA E_ok fun fr => ⟨?_⟩))
      ((try refine sT ?_); first | refine nxA (i + 1) ?_ ?_ | refine nxB (i + 1) ?_ ?_)
      · exact ⟨hlt, all_succ hlt hv (by simp at h ⊢; omega)⟩
      · omega
  have e : i = p.Strings.length := by simp at h; omega
  subst e
  rw [List.take_length] at hv
  (repeat (first | refine stepA ?_ | refine regA E_ok fun fr => ⟨?_⟩))
  ((try refine sC ?_); refine sF ?_; refine SLe.of_eq ?_; (simp only [keepP, hv, Bool.true_and, Int.ofNat_le, show (300 : Int) = ((300 : Nat) : Int) from rfl, show (40 : Int) = ((40 : Nat) : Int) from rfl]))
def keepN (n : GName) : Bool := !(decide (200 < n.Path.length) || decide (20 < n.IDs.length))
def keepO (o : GObject) : Bool := o.Names.all keepN && (decide (o.Process.Children.length ≤ 40) && keepP o.Process.Program && decide (o.Process.Pages.length ≤ 20) && decide (o.Process.Table.length ≤ 20) && decide (o.Words.length ≤ 20) && decide (o.Data.length ≤ 5000) && decide (o.Backlog.length ≤ 12) &&
  decide (o.Queues.x0.length ≤ 80) && decide (o.Queues.x1.length ≤ 80) && decide (o.Names.length ≤ 30))
theorem keepO_small {o : GObject} (h : keepO o = true) : smallO o := by
  simp only [keepO, keepP, keepN, Bool.and_eq_true, List.all_eq_true, decide_eq_true_eq, Bool.not_eq_true', Bool.or_eq_false_iff, decide_eq_false_iff_not] at h
  obtain ⟨h0, ⟨⟨⟨⟨⟨⟨⟨⟨⟨h1, h2, h3, h4⟩, h5⟩, h6⟩, h7⟩, h8⟩, h9⟩, h10⟩, h11⟩, h12⟩⟩ := h
  refine ⟨⟨?_, ?_, ?_, ?_, ?_⟩, ?_, ?_, ?_, ?_, ?_, ?_, fun n hn => ?_⟩ <;> try omega
  have := h0 n hn
  omega
theorem ec_keep_Object (o : GObject) (hs : o.Names.length ≤ 9223372036854775807) (hl : o.Process.Program.Strings.length ≤ 9223372036854775807) : EC Tryz.prog 7 [.agg o.c] [] fun r B => B = [] ∧ r = .bool (keepO o) := by
  refine EC.fin (nA E_ok call_7 Tryz.func7 Tryz.ntmps7 Tryz.results7 ?_)
  (repeat (first | refine stepA ?_ | refine regA E_ok fun fr => ⟨?_⟩))
  refine EV_loopL [1, 7, 8] (fun i : Nat => [(9, .int .i64 i)]) (fun i => i ≤ o.Names.length ∧ (o.Names.take i).all keepN = true) (fun i => o.Names.length - i) 0 ⟨Nat.zero_le _, rfl⟩ ⟨rfl, trivial⟩ ?_
  rintro i ⟨hi, hv⟩
  refine sK ?_
  (repeat (first | refine stepA ?_ | refine regA E_ok fun fr => ⟨?_⟩))
  (apply EV_cond; exact rfl; all_goals intro h)
  · have hlt : i < o.Names.length := by simpa using h
    (repeat (first | refine stepA ?_ | refine regA E_ok fun fr => ⟨?_⟩))
    (apply EV_cond; exact rfl; all_goals intro h)
    · (repeat (first | refine stepA ?_ | refine regA E_ok fun fr => ⟨?_⟩))
      ((try refine sC ?_); refine sF ?_; refine SLe.of_eq ?_; (simp only [keepO, all_fail hlt (p := keepN) (by simp [keepN] at h ⊢; omega)]; simp))
    · (repeat (first | refine stepA ?_ | refine regA E_ok fun fr => ⟨?_⟩))
      ((try refine sT ?_); first | refine nxA (i + 1) ?_ ?_ | refine nxB (i + 1) ?_ ?_)
      · exact ⟨hlt, all_succ hlt hv (by simp [keepN] at h ⊢; omega)⟩
      · omega
  have e : i = o.Names.length := by simp at h; omega
  subst e
  rw [List.take_length] at hv
  (repeat (first | refine stepA ?_ | refine regA E_ok fun fr => ⟨?_⟩))
  (try refine regA E_ok fun fr => ⟨?_⟩)
  refine ⟨fun hg => ?_, fun hg => ?_⟩
  · (refine EC.use (ec_keep_Program o.Process.Program hl) ?_; (try simp only [hg]); refine gA E_ok fun fr => ⟨?_⟩)
    (repeat (first | refine stepA ?_ | refine regA E_ok fun fr => ⟨?_⟩))
    have hg2 : o.Process.Children.length ≤ 40 := by omega
    ((try refine sC ?_); refine sF ?_; refine SLe.of_eq ?_; (simp only [keepO, hv, hg2, decide_true, Bool.true_and]; congr 1; apply Bool.eq_iff_iff.2; cases keepP o.Process.Program <;> simp <;> omega))
  · ((try simp only [hg]); refine gA E_ok fun fr => ⟨?_⟩)
    (repeat (first | refine stepA ?_ | refine regA E_ok fun fr => ⟨?_⟩))
    have h40 : decide (o.Process.Children.length ≤ 40) = false := by simp at hg ⊢; omega
    ((try refine sC ?_); refine sF ?_; refine SLe.of_eq ?_; (simp only [keepO, h40, Bool.false_and, Bool.and_false]))
end Go.Proofs.YtfmldmafigpblaaGreatDoor
end
section
namespace Go.Proofs.YtfmldmafigpblaaGreatDoor
open Go.Lift
set_option linter.unusedSimpArgs false
set_option linter.unusedVariables false
set_option maxRecDepth 10000
theorem ec_same_IDs (a b : List Int) (ha : a.length ≤ 1000000) : EC Tryz.prog 31 [slL 1 (intC .u64) default a, slL 1 (intC .u64) default b] [] fun r B => B = [] ∧ r = .bool (decide (a = b)) := by
  refine EC.fin (nA E_ok call_31 Tryz.func31 Tryz.ntmps31 Tryz.results31 ?_)
  (repeat (first | refine stepA ?_ | refine regA E_ok fun fr => ⟨?_⟩))
  (apply EV_cond; exact rfl; all_goals intro h)
  · (repeat (first | refine stepA ?_ | refine regA E_ok fun fr => ⟨?_⟩))
    ((try refine sC ?_); refine sF ?_; refine SLe.of_eq ?_; (have : ¬ a = b := by rintro rfl; simp at h); simp [this])
  · have hl : a.length = b.length := by simp at h; omega
    (repeat (first | refine stepA ?_ | refine regA E_ok fun fr => ⟨?_⟩))
    refine EV_loopL [0, 1, 11, 12] (fun i : Nat => [(13, .int .i64 i)]) (fun i => i ≤ a.length ∧ a.take i = b.take i) (fun i => a.length - i) 0 ⟨Nat.zero_le _, rfl⟩ ⟨rfl, trivial⟩ ?_
    rintro i ⟨hi, hv⟩
    refine sK ?_
    (repeat (first | refine stepA ?_ | refine regA E_ok fun fr => ⟨?_⟩))
    (apply EV_cond; exact rfl; all_goals intro h)
    · have hlt : i < a.length := by simpa using h
      (repeat (first | refine stepA ?_ | refine regA E_ok fun fr => ⟨?_⟩))
      (refine dD E_ok [] [] [0, 1, 2, 3, 4, 5, 6, 7, 8] fol fun R hR => ?_; (repeat intro rh); (try refine sB ⟨?_⟩); (repeat ((with_reducible apply And.intro); exact sdB)); (repeat intro rh); (repeat ((with_reducible apply And.intro); exact sdB)); (try apply_assumption -exfalso))
      (repeat (first | refine stepA ?_ | refine regA E_ok fun fr => ⟨?_⟩))
      (apply EV_cond; exact rfl; all_goals intro h)
      · (repeat (first | refine stepA ?_ | refine regA E_ok fun fr => ⟨?_⟩))
        ((try refine sC ?_); refine sF ?_; refine SLe.of_eq ?_; (have : ¬ a = b := getD_ne (by simpa using h)); simp [this])
      · (repeat (first | refine stepA ?_ | refine regA E_ok fun fr => ⟨?_⟩))
        ((try refine sT ?_); first | refine nxA (i + 1) ?_ ?_ | refine nxB (i + 1) ?_ ?_)
        · exact ⟨hlt, take_eq_succ hlt (by omega) hv (by simpa using h)⟩
        · omega
    · have e : i = a.length := by simp at h; omega
      subst e
      (repeat (first | refine stepA ?_ | refine regA E_ok fun fr => ⟨?_⟩))
      ((try refine sC ?_); refine sF ?_; refine SLe.of_eq ?_; (have := take_eq_all hl hv); simp [this])
theorem ec_same_texts (a b : List (List UInt8)) (ha : a.length ≤ 1000000) : EC Tryz.prog 57 [slL 1 strC default a, slL 1 strC default b] [] fun r B => B = [] ∧ r = .bool (decide (a = b)) := by
  refine EC.fin (nA E_ok call_57 Tryz.func57 Tryz.ntmps57 Tryz.results57 ?_)
  (repeat (first | refine stepA ?_ | refine regA E_ok fun fr => ⟨?_⟩))
  (apply EV_cond; exact rfl; all_goals intro h)
  · (repeat (first | refine stepA ?_ | refine regA E_ok fun fr => ⟨?_⟩))
    ((try refine sC ?_); refine sF ?_; refine SLe.of_eq ?_; (have : ¬ a = b := by rintro rfl; simp at h); simp [this])
  · have hl : a.length = b.length := by simp at h; omega
    (repeat (first | refine stepA ?_ | refine regA E_ok fun fr => ⟨?_⟩))
    refine EV_loopL [0, 1, 11, 12] (fun i : Nat => [(13, .int .i64 i)]) (fun i => i ≤ a.length ∧ a.take i = b.take i) (fun i => a.length - i) 0 ⟨Nat.zero_le _, rfl⟩ ⟨rfl, trivial⟩ ?_
    rintro i ⟨hi, hv⟩
    refine sK ?_
    (repeat (first | refine stepA ?_ | refine regA E_ok fun fr => ⟨?_⟩))
    (apply EV_cond; exact rfl; all_goals intro h)
    · have hlt : i < a.length := by simpa using h
      (repeat (first | refine stepA ?_ | refine regA E_ok fun fr => ⟨?_⟩))
      (refine dD E_ok [] [] [0, 1, 2, 3, 4, 5, 6, 7, 8] fol fun R hR => ?_; (repeat intro rh); (try refine sB ⟨?_⟩); (repeat ((with_reducible apply And.intro); exact sdB)); (repeat intro rh); (repeat ((with_reducible apply And.intro); exact sdB)); (try apply_assumption -exfalso))
      (repeat (first | refine stepA ?_ | refine regA E_ok fun fr => ⟨?_⟩))
      (apply EV_cond; exact rfl; all_goals intro h)
      · (repeat (first | refine stepA ?_ | refine regA E_ok fun fr => ⟨?_⟩))
        ((try refine sC ?_); refine sF ?_; refine SLe.of_eq ?_; (have : ¬ a = b := getD_ne (by simpa using h)); simp [this])
      · (repeat (first | refine stepA ?_ | refine regA E_ok fun fr => ⟨?_⟩))
        ((try refine sT ?_); first | refine nxA (i + 1) ?_ ?_ | refine nxB (i + 1) ?_ ?_)
        · exact ⟨hlt, take_eq_succ hlt (by omega) hv (by simpa using h)⟩
        · omega
    · have e : i = a.length := by simp at h; omega
      subst e
      (repeat (first | refine stepA ?_ | refine regA E_ok fun fr => ⟨?_⟩))
      ((try refine sC ?_); refine sF ?_; refine SLe.of_eq ?_; (have := take_eq_all hl hv); simp [this])
theorem ec_same_Process (a b : GProcess) (ha : smallP a) : EC Tryz.prog 32 [.agg a.c, .agg b.c] [] fun r B => B = [] ∧ r = .bool (decide (a = b)) := by
  obtain ⟨s1, s2, s3, s4, s5⟩ := ha
  refine EC.fin (nA E_ok call_32 Tryz.func32 Tryz.ntmps32 Tryz.results32 ?_)
  (repeat (first | refine stepA ?_ | refine regA E_ok fun fr => ⟨?_⟩))
  (apply EV_cond; exact rfl; all_goals intro h)
  · (repeat (first | refine stepA ?_ | refine regA E_ok fun fr => ⟨?_⟩))
    ((try refine sC ?_); refine sF ?_; refine SLe.of_eq ?_; (have : ¬ a = b := by rintro rfl; simp at h); simp [this])
  · have ⟨l1, l2, l3⟩ : a.Program.Code.length = b.Program.Code.length ∧ a.Pages.length = b.Pages.length ∧ a.Table.length = b.Table.length := by simp at h; omega
    have hh : a.State = b.State ∧ a.Parent = b.Parent ∧ a.CPU = b.CPU ∧ a.Pending = b.Pending ∧ a.Alarm = b.Alarm ∧ a.Status = b.Status ∧ a.Program.Pages = b.Program.Pages := by
      simp at h; simp [h]
    clear h
    (repeat (first | refine stepA ?_ | refine regA E_ok fun fr => ⟨?_⟩))
    refine EV_loopL [2, 3, 89] (fun i : Nat => [(90, .int .i64 i)]) (fun i => i ≤ a.Program.Code.length ∧ a.Program.Code.take i = b.Program.Code.take i) (fun i => a.Program.Code.length - i) 0 ⟨Nat.zero_le _, rfl⟩ ⟨rfl, trivial⟩ ?_
    rintro i ⟨hi, hv⟩
    refine sK ?_
    (repeat (first | refine stepA ?_ | refine regA E_ok fun fr => ⟨?_⟩))
    (apply EV_cond; exact rfl; all_goals intro h)
    · have hlt : i < a.Program.Code.length := by simpa using h
      (repeat (first | refine stepA ?_ | refine regA E_ok fun fr => ⟨?_⟩))
      (refine dD E_ok [] [false, false] [0, 1, 2, 3, 4, 5, 6, 7, 8, 9, 10, 11, 12] fol fun R hR => ?_; (repeat intro rh); (try refine sB ⟨?_⟩); (repeat ((with_reducible apply And.intro); exact sdB)); (repeat intro rh); (repeat ((with_reducible apply And.intro); exact sdB)); (try apply_assumption -exfalso))
      (repeat (first | refine stepA ?_ | refine regA E_ok fun fr => ⟨?_⟩))
      (apply EV_cond; exact rfl; all_goals intro h)
      · (repeat (first | refine stepA ?_ | refine regA E_ok fun fr => ⟨?_⟩))
        ((try refine sC ?_); refine sF ?_; refine SLe.of_eq ?_; (have : ¬ a = b := by rintro rfl; simp at h); simp [this])
      · (repeat (first | refine stepA ?_ | refine regA E_ok fun fr => ⟨?_⟩))
        ((try refine sT ?_); first | refine nxA (i + 1) ?_ ?_ | refine nxB (i + 1) ?_ ?_)
        · exact ⟨hlt, take_eq_succ hlt (by omega) hv (by simpa using h)⟩
        · omega
    have q1 : a.Program.Code = b.Program.Code := by
      have e : i = a.Program.Code.length := by simp at h; omega
      subst e
      exact take_eq_all (by omega) hv
    clear hv hi h
    (repeat (first | refine stepA ?_ | refine regA E_ok fun fr => ⟨?_⟩))
    refine EV_loopL [2, 3, 109] (fun i : Nat => [(110, .int .i64 i)]) (fun i => i ≤ a.Pages.length ∧ a.Pages.take i = b.Pages.take i) (fun i => a.Pages.length - i) 0 ⟨Nat.zero_le _, rfl⟩ ⟨rfl, trivial⟩ ?_
    rintro i ⟨hi, hv⟩
    refine sK ?_
    (repeat (first | refine stepA ?_ | refine regA E_ok fun fr => ⟨?_⟩))
    (apply EV_cond; exact rfl; all_goals intro h)
    · have hlt : i < a.Pages.length := by simpa using h
      (repeat (first | refine stepA ?_ | refine regA E_ok fun fr => ⟨?_⟩))
      (refine dD E_ok [] [false, false] [0, 1, 2, 3, 4, 5, 6, 7, 8, 9, 10] fol fun R hR => ?_; (repeat intro rh); (try refine sB ⟨?_⟩); (repeat ((with_reducible apply And.intro); exact sdB)); (repeat intro rh); (repeat ((with_reducible apply And.intro); exact sdB)); (try apply_assumption -exfalso))
      (repeat (first | refine stepA ?_ | refine regA E_ok fun fr => ⟨?_⟩))
      (apply EV_cond; exact rfl; all_goals intro h)
      · (repeat (first | refine stepA ?_ | refine regA E_ok fun fr => ⟨?_⟩))
        ((try refine sC ?_); refine sF ?_; refine SLe.of_eq ?_; (have : ¬ a = b := by rintro rfl; simp at h); simp [this])
      · (repeat (first | refine stepA ?_ | refine regA E_ok fun fr => ⟨?_⟩))
        ((try refine sT ?_); first | refine nxA (i + 1) ?_ ?_ | refine nxB (i + 1) ?_ ?_)
        · exact ⟨hlt, take_eq_succ hlt (by omega) hv (by simpa using h)⟩
        · omega
    have q2 : a.Pages = b.Pages := by
      have e : i = a.Pages.length := by simp at h; omega
      subst e
      exact take_eq_all (by omega) hv
    clear hv hi h
    (repeat (first | refine stepA ?_ | refine regA E_ok fun fr => ⟨?_⟩))
    refine EV_loopL [2, 3, 127] (fun i : Nat => [(128, .int .i64 i)]) (fun i => i ≤ a.Table.length ∧ a.Table.take i = b.Table.take i) (fun i => a.Table.length - i) 0 ⟨Nat.zero_le _, rfl⟩ ⟨rfl, trivial⟩ ?_
    rintro i ⟨hi, hv⟩
    refine sK ?_
    (repeat (first | refine stepA ?_ | refine regA E_ok fun fr => ⟨?_⟩))
    (apply EV_cond; exact rfl; all_goals intro h)
    · have hlt : i < a.Table.length := by simpa using h
      (repeat (first | refine stepA ?_ | refine regA E_ok fun fr => ⟨?_⟩))
      (refine dD E_ok [] [false, false] [0, 1, 2, 3, 4, 5, 6, 7, 8, 9, 10] fol fun R hR => ?_; (repeat intro rh); (try refine sB ⟨?_⟩); (repeat ((with_reducible apply And.intro); exact sdB)); (repeat intro rh); (repeat ((with_reducible apply And.intro); exact sdB)); (try apply_assumption -exfalso))
      (repeat (first | refine stepA ?_ | refine regA E_ok fun fr => ⟨?_⟩))
      (apply EV_cond; exact rfl; all_goals intro h)
      · (repeat (first | refine stepA ?_ | refine regA E_ok fun fr => ⟨?_⟩))
        ((try refine sC ?_); refine sF ?_; refine SLe.of_eq ?_; (have : ¬ a = b := by rintro rfl; simp at h); simp [this])
      · (repeat (first | refine stepA ?_ | refine regA E_ok fun fr => ⟨?_⟩))
        ((try refine sT ?_); first | refine nxA (i + 1) ?_ ?_ | refine nxB (i + 1) ?_ ?_)
        · exact ⟨hlt, take_eq_succ hlt (by omega) hv (by simpa using h)⟩
        · omega
    have q3 : a.Table = b.Table := by
      have e : i = a.Table.length := by simp at h; omega
      subst e
      exact take_eq_all (by omega) hv
    clear hv hi h
    (repeat (first | refine stepA ?_ | refine regA E_ok fun fr => ⟨?_⟩))
    (try refine regA E_ok fun fr => ⟨?_⟩)
    (refine EC.use (ec_same_IDs a.Children b.Children s1) ?_; (try simp only [hg]); refine gA E_ok fun fr => ⟨?_⟩)
    refine ⟨fun hg => ?_, fun hg => ?_⟩
    · (refine EC.use (ec_same_texts a.Program.Strings b.Program.Strings s3) ?_; (try simp only [hg]); refine gA E_ok fun fr => ⟨?_⟩)
      (repeat (first | refine stepA ?_ | refine regA E_ok fun fr => ⟨?_⟩))
      ((try refine sC ?_); refine sF ?_; refine SLe.of_eq ?_; (have h1 : a.Children = b.Children := by simpa using hg); (have e : (a = b) = (a.Program.Strings = b.Program.Strings) := propext ⟨fun h => by rw [h], fun h => by
        obtain ⟨k1, k2, k3, k4, k5, k6, k7⟩ := hh
        apply GProcess.ext <;> try assumption
        apply GProgram.ext <;> assumption⟩); simp [e])
    · ((try simp only [hg]); refine gA E_ok fun fr => ⟨?_⟩)
      (repeat (first | refine stepA ?_ | refine regA E_ok fun fr => ⟨?_⟩))
      ((try refine sC ?_); refine sF ?_; refine SLe.of_eq ?_; (have : ¬ a = b := by rintro rfl; simp at hg); simp [this])
theorem ec_same_Object (a : GObject) (ha : smallO a) : EC Tryz.prog 11 [.agg a.c, .agg a.c] [] fun r B => B = [] ∧ r = .bool true := by
  obtain ⟨sp, s1, s2, s3, s4, s5, s6, s7⟩ := ha
  refine EC.fin (nA E_ok call_11 Tryz.func11 Tryz.ntmps11 Tryz.results11 ?_)
  (repeat (first | refine stepA ?_ | refine regA E_ok fun fr => ⟨?_⟩))
  (apply EV_cond; exact rfl; all_goals intro h)
  · simp at h
  clear h
  (repeat (first | refine stepA ?_ | refine regA E_ok fun fr => ⟨?_⟩))
  refine EV_loopL [2, 3, 88] (fun i : Nat => [(89, .int .i64 i)]) (fun i => i ≤ a.Words.length) (fun i => a.Words.length - i) 0 (Nat.zero_le _) ⟨rfl, trivial⟩ ?_
  rintro i hi
  refine sK ?_
  (repeat (first | refine stepA ?_ | refine regA E_ok fun fr => ⟨?_⟩))
  (apply EV_cond; exact rfl; all_goals intro h)
  · have hlt : i < a.Words.length := by simpa using h
    (repeat (first | refine stepA ?_ | refine regA E_ok fun fr => ⟨?_⟩))
    (refine dD E_ok [] [false, false] [0, 1, 2, 3, 4, 5, 6, 7, 8, 9, 10] fol fun R hR => ?_; (repeat intro rh); (try refine sB ⟨?_⟩); (repeat ((with_reducible apply And.intro); exact sdB)); (repeat intro rh); (repeat ((with_reducible apply And.intro); exact sdB)); (try apply_assumption -exfalso))
    (repeat (first | refine stepA ?_ | refine regA E_ok fun fr => ⟨?_⟩))
    (apply EV_cond; exact rfl; all_goals intro h)
    · simp at h
    · (repeat (first | refine stepA ?_ | refine regA E_ok fun fr => ⟨?_⟩))
      ((try refine sT ?_); first | refine nxA (i + 1) ?_ ?_ | refine nxB (i + 1) ?_ ?_)
      · exact hlt
      · omega
  clear hi h
  (repeat (first | refine stepA ?_ | refine regA E_ok fun fr => ⟨?_⟩))
  refine EV_loopL [2, 3, 106] (fun i : Nat => [(107, .int .i64 i)]) (fun i => i ≤ a.Names.length) (fun i => a.Names.length - i) 0 (Nat.zero_le _) ⟨rfl, trivial⟩ ?_
  rintro i hi
  refine sK ?_
  (repeat (first | refine stepA ?_ | refine regA E_ok fun fr => ⟨?_⟩))
  (apply EV_cond; exact rfl; all_goals intro h)
  · have hlt : i < a.Names.length := by simpa using h
    (repeat (first | refine stepA ?_ | refine regA E_ok fun fr => ⟨?_⟩))
    (refine dD E_ok [] [false, false] [0, 1, 2, 3, 4, 5, 6, 7, 8, 9, 10, 11, 12, 13, 14, 15, 16, 17, 18, 19, 20, 21, 22, 23, 24, 25, 26, 27, 28, 29, 30, 31, 32, 33, 34, 35, 36, 37, 38, 39, 40, 41, 42, 43] fol fun R hR => ?_; (repeat intro rh); (try refine sB ⟨?_⟩); (repeat ((with_reducible apply And.intro); exact sdB)); (repeat intro rh); (repeat ((with_reducible apply And.intro); exact sdB)); (try apply_assumption -exfalso))
    try (refine ⟨fun hg => ?_, fun hg => absurd hg (by simp)⟩)
    have hmem : a.Names.getD i default ∈ a.Names := by
      rw [show a.Names.getD i default = a.Names[i] by simp [List.getD, hlt]]; exact List.getElem_mem hlt
    (refine EC.use (ec_same_IDs _ _ (s7 _ hmem).1) ?_; (try simp only [hg]); refine dR E_ok [42, 43] ?_; (repeat intro rh); (try refine sB ⟨?_⟩); (repeat ((with_reducible apply And.intro); exact sdB)); (first | apply_assumption -exfalso | (try simp only [thenP])))
    (repeat (first | refine stepA ?_ | refine regA E_ok fun fr => ⟨?_⟩))
    (apply EV_cond; exact rfl; all_goals intro h)
    · simp at h
    · (repeat (first | refine stepA ?_ | refine regA E_ok fun fr => ⟨?_⟩))
      ((try refine sT ?_); first | refine nxA (i + 1) ?_ ?_ | refine nxB (i + 1) ?_ ?_)
      · exact hlt
      · omega
  clear hi h
  (repeat (first | refine stepA ?_ | refine regA E_ok fun fr => ⟨?_⟩))
  (try refine regA E_ok fun fr => ⟨?_⟩)
  (refine EC.use (ec_same_IDs a.Backlog a.Backlog s3) ?_; (try simp only [hg]); refine gA E_ok fun fr => ⟨?_⟩)
  (refine EC.use (ec_same_Process a.Process a.Process sp) ?_; (try simp only [hg]); refine gA E_ok fun fr => ⟨?_⟩)
  (repeat (first | refine stepA ?_ | refine regA E_ok fun fr => ⟨?_⟩))
  ((try refine sC ?_); refine sF ?_; refine SLe.of_eq ?_; simp)
end Go.Proofs.YtfmldmafigpblaaGreatDoor
end
section
namespace Go.Proofs.YtfmldmafigpblaaGreatDoor
open Go.Lift
set_option linter.unusedSimpArgs false
set_option linter.unusedVariables false
set_option maxRecDepth 10000
def slOk (s : GSlot) : Bool :=
  if (s.Kind == 0) = true then s == default else decide (0 < s.Kind) && decide (s.Kind ≤ 8) && s.Target != 0 && ((s.Description != 0) == (s.Kind == 1)) && (s.End == 0 || s.End == 1 && s.Kind == 4)
theorem ec_ref10_slot (s : GSlot) : EC Tryz.prog 76 [.agg s.c] [] fun r B => B = [] ∧ r = .bool (slOk s) := by
  refine EC.fin (nA E_ok call_76 Tryz.func76 Tryz.ntmps76 Tryz.results76 ?_)
  (repeat (first | refine stepA ?_ | refine regA E_ok fun fr => ⟨?_⟩))
  (apply EV_cond; exact rfl; all_goals intro h)
  · (repeat (first | refine stepA ?_ | refine regA E_ok fun fr => ⟨?_⟩))
    ((try refine sC ?_); refine sF ?_; refine SLe.of_eq ?_; (simp only [slOk, h, if_true]))
  · (repeat (first | refine stepA ?_ | refine regA E_ok fun fr => ⟨?_⟩))
    ((try refine sC ?_); refine sF ?_; refine SLe.of_eq ?_; (simp only [slOk, h, if_false, Bool.false_eq_true]))
def slBad (s : GSlot) : Bool := decide (s.Kind < 0) || decide (8 < s.Kind) || s.Target == 0 || ((s.Description != 0) != (s.Kind == 1))
theorem slOk_bad {s : GSlot} (h : (s.Kind == 0) = false) : slOk s = (!slBad s && (s.End == 0 || s.End == 1 && s.Kind == 4)) := by
  have h0 : s.Kind ≠ 0 := by simpa using h
  simp only [slOk, h, if_false, Bool.false_eq_true]
  congr 1
  unfold slBad
  cases (s.Description != 0) <;> cases (s.Kind == 1) <;> apply Bool.eq_iff_iff.2 <;> simp <;> omega
theorem ec_table_fine (s : GSlot) : EC Tryz.prog 73 [.agg s.c] [] fun r B => B = [] ∧ r = .bool (slOk s) := by
  refine EC.fin (nA E_ok call_73 Tryz.func73 Tryz.ntmps73 Tryz.results73 ?_)
  (repeat (first | refine stepA ?_ | refine regA E_ok fun fr => ⟨?_⟩))
  (apply EV_cond; exact rfl; all_goals intro h)
  · (repeat (first | refine stepA ?_ | refine regA E_ok fun fr => ⟨?_⟩))
    ((try refine sC ?_); refine sF ?_; refine SLe.of_eq ?_; (simp only [slOk, h, if_true]))
  · have hb := slOk_bad h
    clear h
    (repeat (first | refine stepA ?_ | refine regA E_ok fun fr => ⟨?_⟩))
    refine EV_meetB (σ := Bool) [1, 2] (fun b => [(10, .bool b)]) (fun B b => B) (fun b => b = slBad s) ?_ ?_
    · intro b hbb
      (intro t1 B1 ht hB; (try apply_assumption -exfalso); (try refine sT ?_); refine EV_weakR ht hB ?_)
      refine sK ?_
      (repeat (first | refine stepA ?_ | refine regA E_ok fun fr => ⟨?_⟩))
      (apply EV_cond; exact rfl; all_goals intro h)
      · (repeat (first | refine stepA ?_ | refine regA E_ok fun fr => ⟨?_⟩))
        ((try refine sC ?_); refine sF ?_; refine SLe.of_eq ?_; (rw [hb, ← hbb, h]; (try rfl)))
      · (repeat (first | refine stepA ?_ | refine regA E_ok fun fr => ⟨?_⟩))
        ((try refine sC ?_); refine sF ?_; refine SLe.of_eq ?_; (rw [hb, ← hbb, h]; (try rfl)))
    · (apply EV_cond; exact rfl; all_goals intro h)
      · (repeat (first | refine stepA ?_ | refine regA E_ok fun fr => ⟨?_⟩))
        ((try refine sT ?_); first | refine mt2 ((decide (s.Kind < 0))) ?_ | refine mt3 ((decide (s.Kind < 0))) ?_)
        unfold slBad; rw [h]; rfl
      · have h1 := h
        clear h
        (repeat (first | refine stepA ?_ | refine regA E_ok fun fr => ⟨?_⟩))
        (apply EV_cond; exact rfl; all_goals intro h)
        · (repeat (first | refine stepA ?_ | refine regA E_ok fun fr => ⟨?_⟩))
          ((try refine sT ?_); first | refine mt2 ((decide (8 < s.Kind))) ?_ | refine mt3 ((decide (8 < s.Kind))) ?_)
          unfold slBad; rw [h1, h]; rfl
        · have h2 := h
          clear h
          (repeat (first | refine stepA ?_ | refine regA E_ok fun fr => ⟨?_⟩))
          (apply EV_cond; exact rfl; all_goals intro h)
          · (repeat (first | refine stepA ?_ | refine regA E_ok fun fr => ⟨?_⟩))
            ((try refine sT ?_); first | refine mt2 ((s.Target == 0)) ?_ | refine mt3 ((s.Target == 0)) ?_)
            unfold slBad; rw [h1, h2, h]; rfl
          · (repeat (first | refine stepA ?_ | refine regA E_ok fun fr => ⟨?_⟩))
            ((try refine sT ?_); first | refine mt2 (((s.Description != 0) != (s.Kind == 1))) ?_ | refine mt3 (((s.Description != 0) != (s.Kind == 1))) ?_)
            simp only [slBad, h, h1, h2, Bool.false_or]
theorem ec_bad (q : GSlot) : EC Tryz.prog 72 [.agg q.c] [] fun r B => B = [] ∧ r = .bool (!slOk q) := by
  refine EC.fin (nA E_ok call_72 Tryz.func72 Tryz.ntmps72 Tryz.results72 ?_)
  (repeat (first | refine stepA ?_ | refine regA E_ok fun fr => ⟨?_⟩))
  (try refine regA E_ok fun fr => ⟨?_⟩)
  (refine EC.use (ec_table_fine q) ?_; (try simp only [hg]); refine gA E_ok fun fr => ⟨?_⟩)
  (repeat (first | refine stepA ?_ | refine regA E_ok fun fr => ⟨?_⟩))
  ((try refine sC ?_); refine sF ?_; refine SLe.of_eq ?_; rfl)
theorem ec_indexFunc_SL {g : FuncId} {p : GSlot → Bool} (l : List GSlot) (hl : l.length ≤ 1000000)
    (hg : ∀ q : GSlot, EC Tryz.prog g [.agg q.c] [] fun r N => N = [] ∧ r = .bool (p q)) :
    EC Tryz.prog 93 [slL 4 GSlot.c default l, .fn g []] [] fun r N => N = [] ∧ r = .int .i64 (idxP p 0 l) := by
  refine EC.fin (nA E_ok call_93 Tryz.func93 Tryz.ntmps93 Tryz.results93 ?_)
  (repeat (first | refine stepA ?_ | refine regA E_ok fun fr => ⟨?_⟩))
  refine EV_loopL [0, 1, 7] (fun i : Nat => [(8, .int .i64 i)]) (fun i => i ≤ l.length ∧ idxP p 0 l = idxP p i (l.drop i)) (fun i => l.length - i) 0 ⟨Nat.zero_le _, rfl⟩ ⟨rfl, trivial⟩ ?_
  rintro i ⟨hi, hx⟩
  refine sK ?_
  (repeat (first | refine stepA ?_ | refine regA E_ok fun fr => ⟨?_⟩))
  (apply EV_cond; exact rfl; all_goals intro h)
  · have hlt : i < l.length := by simp at h; omega
    rw [idxP_step hlt] at hx
    (repeat (first | refine stepA ?_ | refine regA E_ok fun fr => ⟨?_⟩))
    (try refine regA E_ok fun fr => ⟨?_⟩)
    (refine EC.use (hg (l.getD i default)) ?_; (try simp only [hg]); refine gA E_ok fun fr => ⟨?_⟩)
    (repeat (first | refine stepA ?_ | refine regA E_ok fun fr => ⟨?_⟩))
    (apply EV_cond; exact rfl; all_goals intro h)
    · rw [if_pos h] at hx
      (repeat (first | refine stepA ?_ | refine regA E_ok fun fr => ⟨?_⟩))
      ((try refine sC ?_); refine sF ?_; refine SLe.of_eq ?_; (rw [hx]))
    · rw [h, if_neg (by simp)] at hx
      (repeat (first | refine stepA ?_ | refine regA E_ok fun fr => ⟨?_⟩))
      ((try refine sT ?_); first | refine nxA (i + 1) ?_ ?_ | refine nxB (i + 1) ?_ ?_)
      · exact ⟨by omega, hx⟩
      · omega
  · have e : i = l.length := by simp at h; omega
    rw [e, List.drop_length] at hx
    (repeat (first | refine stepA ?_ | refine regA E_ok fun fr => ⟨?_⟩))
    ((try refine sC ?_); refine sF ?_; refine SLe.of_eq ?_; (rw [hx]; (try rfl)))
theorem ec_containsFunc_SL {g : FuncId} {p : GSlot → Bool} (l : List GSlot) (hl : l.length ≤ 1000000)
    (hg : ∀ q : GSlot, EC Tryz.prog g [.agg q.c] [] fun r N => N = [] ∧ r = .bool (p q)) :
    EC Tryz.prog 74 [slL 4 GSlot.c default l, .fn g []] [] fun r N => N = [] ∧ r = .bool (l.any p) := by
  refine EC.fin (nA E_ok call_74 Tryz.func74 Tryz.ntmps74 Tryz.results74 ?_)
  (repeat (first | refine stepA ?_ | refine regA E_ok fun fr => ⟨?_⟩))
  (try refine regA E_ok fun fr => ⟨?_⟩)
  (refine EC.use (ec_indexFunc_SL l hl hg) ?_; (try simp only [hg]); refine gA E_ok fun fr => ⟨?_⟩)
  (repeat (first | refine stepA ?_ | refine regA E_ok fun fr => ⟨?_⟩))
  ((try refine sC ?_); refine sF ?_; refine SLe.of_eq ?_; (rw [idxP_ge]))
def tbOk (t : List GSlot) : Bool := t.all slOk && decide ((t.length : Int) ≤ 16) && ((t.length : Int) == 0 || (t.getD (t.length - 1) default).Kind != 0)
theorem allOk_any {α : Type} (p : α → Bool) (t : List α) : t.all p = !t.any fun q => !p q := by
  induction t with
  | nil => rfl
  | cons a t ih => simp [ih]
theorem nat_pred (n : Nat) : n - 1 = ((n : Int) - 1).toNat := by omega
theorem ec_table_Valid (t : List GSlot) (hl : t.length ≤ 1000000) : EC Tryz.prog 47 [slL 4 GSlot.c default t] [] fun r N => N = [] ∧ r = .bool (tbOk t) := by
  refine EC.fin (nA E_ok call_47 Tryz.func47 Tryz.ntmps47 Tryz.results47 ?_)
  (repeat (first | refine stepA ?_ | refine regA E_ok fun fr => ⟨?_⟩))
  (try refine regA E_ok fun fr => ⟨?_⟩)
  refine ⟨fun hg => ?_, fun hg => ?_⟩
  · (refine EC.use (ec_containsFunc_SL t hl ec_bad) ?_; (try simp only [hg]); refine gA E_ok fun fr => ⟨?_⟩)
    refine ⟨fun hx => ⟨hx, ?_⟩, fun hx => ⟨hx, fun hy => by rw [hx, hy]; rfl⟩, ?_⟩
    · have : (t.length : Int) ≠ 0 := by intro e; rw [e] at hx; simp at hx
      omega
    (first | apply_assumption -exfalso | (try refine sT ?_))
    (repeat (first | refine stepA ?_ | refine regA E_ok fun fr => ⟨?_⟩))
    ((try refine sC ?_); refine sF ?_; refine SLe.of_eq ?_; (rw [tbOk, decide_eq_true hg, Bool.and_true, allOk_any, nat_pred]))
  · ((try simp only [hg]); refine gA E_ok fun fr => ⟨?_⟩)
    (repeat (first | refine stepA ?_ | refine regA E_ok fun fr => ⟨?_⟩))
    ((try refine sC ?_); refine sF ?_; refine SLe.of_eq ?_; (rw [tbOk, hg, Bool.and_false, Bool.false_and]))
end Go.Proofs.YtfmldmafigpblaaGreatDoor
end
section
namespace Go.Proofs.YtfmldmafigpblaaGreatDoor
open Go.Lift
set_option linter.unusedSimpArgs false
set_option linter.unusedVariables false
set_option maxRecDepth 10000
attribute [push_cast] r3t
theorem all_take_step {α : Type} [Inhabited α] {p : α → Bool} {l : List α} {i : Nat} (h : i < l.length) : (l.take (i + 1)).all p = ((l.take i).all p && p (l.getD i default)) := by
  rw [List.take_succ_eq_append_getElem h, List.all_append]
  simp [List.getD, h]
theorem all_no {α : Type} [Inhabited α] {p : α → Bool} {l : List α} {i : Nat} (h : i < l.length) (hp : p (l.getD i default) = false) : l.all p = false := by
  rw [List.all_eq_false]
  exact ⟨_, getD_mem h, by rw [hp]; simp⟩
theorem ec_ref10_Valid (t : List GSlot) (hl : t.length ≤ 1000000) : EC Tryz.prog 50 [slL 4 GSlot.c default t] [] fun r N => N = [] ∧ r = .bool (tbOk t) := by
  refine EC.fin (nA E_ok call_50 Tryz.func50 Tryz.ntmps50 Tryz.results50 ?_)
  (repeat (first | refine stepA ?_ | refine regA E_ok fun fr => ⟨?_⟩))
  refine EV_loopL [0, 5, 6] (fun i : Nat => [(7, .int .i64 i)]) (fun i => i ≤ t.length ∧ (t.take i).all slOk = true) (fun i => t.length - i) 0 ⟨Nat.zero_le _, rfl⟩ ⟨rfl, trivial⟩ ?_
  rintro i ⟨hi, hp⟩
  refine sK ?_
  (repeat (first | refine stepA ?_ | refine regA E_ok fun fr => ⟨?_⟩))
  (apply EV_cond; exact rfl; all_goals intro h)
  · have hlt : i < t.length := by simp at h; omega
    clear h
    (repeat (first | refine stepA ?_ | refine regA E_ok fun fr => ⟨?_⟩))
    (try refine regA E_ok fun fr => ⟨?_⟩)
    (refine EC.use (ec_ref10_slot (t.getD i default)) ?_; (try simp only [hg]); refine gA E_ok fun fr => ⟨?_⟩)
    (repeat (first | refine stepA ?_ | refine regA E_ok fun fr => ⟨?_⟩))
    (apply EV_cond; exact rfl; all_goals intro h)
    · (repeat (first | refine stepA ?_ | refine regA E_ok fun fr => ⟨?_⟩))
      ((try refine sC ?_); refine sF ?_; refine SLe.of_eq ?_; (rw [tbOk, all_no hlt (by simpa using h), Bool.false_and, Bool.false_and]))
    · (repeat (first | refine stepA ?_ | refine regA E_ok fun fr => ⟨?_⟩))
      ((try refine sT ?_); first | refine nxA (i + 1) ?_ ?_ | refine nxB (i + 1) ?_ ?_)
      · exact ⟨by omega, by rw [all_take_step hlt, hp, Bool.true_and]; simpa using h⟩
      · omega
  · have e : i = t.length := by simp at h; omega
    clear h
    rw [e, List.take_length] at hp
    (repeat (first | refine stepA ?_ | refine regA E_ok fun fr => ⟨?_⟩))
    (try refine regA E_ok fun fr => ⟨?_⟩)
    refine ⟨fun hx => ⟨hx, ?_⟩, fun hx => ⟨hx, fun hy => by rw [hy, decide_eq_true hx]; rfl⟩, ?_⟩
    · have : (t.length : Int) ≠ 0 := by intro e; rw [e] at hx; simp at hx
      omega
    (first | apply_assumption -exfalso | (try refine sT ?_))
    (repeat (first | refine stepA ?_ | refine regA E_ok fun fr => ⟨?_⟩))
    ((try refine sC ?_); refine sF ?_; refine SLe.of_eq ?_; (rw [tbOk, hp, Bool.true_and, nat_pred]))
def tbGet (t : List GSlot) (i : Int) : GSlot × Int :=
  if (decide (i < 0) || decide ((t.length : Int) ≤ i) || (t.getD i.toNat default).Kind == 0) = true then (default, 6) else (t.getD i.toNat default, 0)
@[push_cast] def sl2 (x : GSlot × Int) : SV := .tup [.agg x.1.c, .int .i64 x.2]
theorem ec_ref10_Get (t : List GSlot) (i : Int) (hl : t.length ≤ 1000000) : EC Tryz.prog 169 [slL 4 GSlot.c default t, .int .i64 i] [] fun r N => N = [] ∧ r = sl2 (tbGet t i) := by
  refine EC.fin (nA E_ok call_169 Tryz.func169 Tryz.ntmps169 Tryz.results169 ?_)
  (repeat (first | refine stepA ?_ | refine regA E_ok fun fr => ⟨?_⟩))
  (apply EV_cond; exact rfl; all_goals intro h)
  · (repeat (first | refine stepA ?_ | refine regA E_ok fun fr => ⟨?_⟩))
    ((try refine sC ?_); refine sF ?_; refine SLe.of_eq ?_; (simp only [tbGet, h, if_true]))
  · have hr : 0 ≤ i ∧ i < (t.length : Int) := by simp at h; omega
    (repeat (first | refine stepA ?_ | refine regA E_ok fun fr => ⟨?_⟩))
    ((try refine sC ?_); refine sF ?_; refine SLe.of_eq ?_; (simp only [tbGet, h, if_false, Bool.false_eq_true]))
def slHold (s : GSlot) : Int := if slOk s = true then (if (s.Kind == 1) = true then s.Description else if (s.Kind == 2 || s.Kind == 3 || s.Kind == 4 || s.Kind == 5) = true then s.Target else 0) else 0
theorem ec_ref10_Holder (s : GSlot) : EC Tryz.prog 153 [.agg s.c] [] fun r N => N = [] ∧ r = .int .u64 (slHold s) := by
  refine EC.fin (nA E_ok call_153 Tryz.func153 Tryz.ntmps153 Tryz.results153 ?_)
  (repeat (first | refine stepA ?_ | refine regA E_ok fun fr => ⟨?_⟩))
  (try refine regA E_ok fun fr => ⟨?_⟩)
  (refine EC.use (ec_ref10_slot s) ?_; (try simp only [hg]); refine gA E_ok fun fr => ⟨?_⟩)
  (repeat (first | refine stepA ?_ | refine regA E_ok fun fr => ⟨?_⟩))
  (apply EV_cond; exact rfl; all_goals intro h)
  · have h0 : slOk s = false := by simpa using h
    (repeat (first | refine stepA ?_ | refine regA E_ok fun fr => ⟨?_⟩))
    ((try refine sC ?_); refine sF ?_; refine SLe.of_eq ?_; (simp only [slHold, h0, if_false, Bool.false_eq_true]))
  have h0 : slOk s = true := by simpa using h
  clear h
  (repeat (first | refine stepA ?_ | refine regA E_ok fun fr => ⟨?_⟩))
  (apply EV_cond; exact rfl; all_goals intro h)
  · (repeat (first | refine stepA ?_ | refine regA E_ok fun fr => ⟨?_⟩))
    ((try refine sC ?_); refine sF ?_; refine SLe.of_eq ?_; (simp only [slHold, h0, h, if_true]))
  have h1 := h
  clear h
  (repeat (first | refine stepA ?_ | refine regA E_ok fun fr => ⟨?_⟩))
  refine EV_meetB (σ := Bool) [1, 2] (fun b => [(12, .bool b)]) (fun B b => B) (fun b => b = (s.Kind == 2 || s.Kind == 3 || s.Kind == 4 || s.Kind == 5)) ?_ ?_
  · intro b hbb
    (intro t1 B1 ht hB; (try apply_assumption -exfalso); (try refine sT ?_); refine EV_weakR ht hB ?_)
    refine sK ?_
    (repeat (first | refine stepA ?_ | refine regA E_ok fun fr => ⟨?_⟩))
    (apply EV_cond; exact rfl; all_goals intro h)
    · rw [h] at hbb
      (repeat (first | refine stepA ?_ | refine regA E_ok fun fr => ⟨?_⟩))
      ((try refine sC ?_); refine sF ?_; refine SLe.of_eq ?_; (simp only [slHold, h0, h1, ← hbb, if_true, if_false, Bool.false_eq_true]))
    · rw [h] at hbb
      (repeat (first | refine stepA ?_ | refine regA E_ok fun fr => ⟨?_⟩))
      ((try refine sC ?_); refine sF ?_; refine SLe.of_eq ?_; (simp only [slHold, h0, h1, ← hbb, if_true, if_false, Bool.false_eq_true]))
  · (apply EV_cond; exact rfl; all_goals intro h)
    · (repeat (first | refine stepA ?_ | refine regA E_ok fun fr => ⟨?_⟩))
      ((try refine sT ?_); first | refine mt2 ((s.Kind == 2)) ?_ | refine mt3 ((s.Kind == 2)) ?_)
      rw [h]; rfl
    · have h2 := h
      clear h
      (repeat (first | refine stepA ?_ | refine regA E_ok fun fr => ⟨?_⟩))
      (apply EV_cond; exact rfl; all_goals intro h)
      · (repeat (first | refine stepA ?_ | refine regA E_ok fun fr => ⟨?_⟩))
        ((try refine sT ?_); first | refine mt2 ((s.Kind == 3)) ?_ | refine mt3 ((s.Kind == 3)) ?_)
        rw [h2, h]; rfl
      · have h3 := h
        clear h
        (repeat (first | refine stepA ?_ | refine regA E_ok fun fr => ⟨?_⟩))
        (apply EV_cond; exact rfl; all_goals intro h)
        · (repeat (first | refine stepA ?_ | refine regA E_ok fun fr => ⟨?_⟩))
          ((try refine sT ?_); first | refine mt2 ((s.Kind == 4)) ?_ | refine mt3 ((s.Kind == 4)) ?_)
          rw [h2, h3, h]; rfl
        · (repeat (first | refine stepA ?_ | refine regA E_ok fun fr => ⟨?_⟩))
          ((try refine sT ?_); first | refine mt2 ((s.Kind == 5)) ?_ | refine mt3 ((s.Kind == 5)) ?_)
          rw [h2, h3, h]; rfl
def clS (n : Nat) (h : RowH) (i : Nat) : SV := .row i h 4 0 n
attribute [push_cast] clS
end Go.Proofs.YtfmldmafigpblaaGreatDoor
end
section
namespace Go.Proofs.YtfmldmafigpblaaGreatDoor
open Go.Lift
set_option linter.unusedSimpArgs false
set_option linter.unusedVariables false
set_option maxRecDepth 10000
theorem LFz.slot {m : Nat} {B : List Own} {o : GSlot} {r r' : List SV} (hr : LFz m B r r') : LFz m B (.agg o.c :: r) (.agg o.c :: r') := by
  refine .cons (by simp only [frzKT, frzKA, GSlot.fk]) ?_ hr
  simp only [frzT, frzA, GSlot.fz]
  exact SLe.refl _
def fz (t : List GSlot) : Nat := t.findIdx fun x => x.Kind == 0
theorem fz_le (t : List GSlot) : fz t ≤ t.length := List.findIdx_le_length
def putAt (t : List GSlot) (s : GSlot) : List GSlot := if fz t < t.length then t.set (fz t) s else t ++ [s]
def tbPut (t : List GSlot) (s : GSlot) : List GSlot × Int × Int :=
  if (!tbOk t || !slOk s || s.Kind == 0) = true then ([], 0, 1) else if fz t = 16 then ([], 0, 3) else (putAt t s, (fz t : Int), 0)
def sl3 (x : List GSlot × Int × Int) : SV := .tup [slL 4 GSlot.c default x.1, .int .i64 x.2.1, .int .i64 x.2.2]
theorem tbOk_len {t : List GSlot} (h : tbOk t = true) : t.length ≤ 16 ∧ t.all slOk = true := by
  simp only [tbOk, Bool.and_eq_true, decide_eq_true_eq] at h
  exact ⟨by omega, h.1.1⟩
theorem fz_at {t : List GSlot} {i : Nat} (h : i < t.length) (hi : i ≤ fz t) : ((t.getD i default).Kind == 0) = true → fz t = i := by
  intro hk
  rcases Nat.lt_or_eq_of_le hi with hlt | he
  · exfalso
    have := List.not_of_lt_findIdx hlt
    rw [show t.getD i default = t[i] by simp [List.getD, h]] at hk
    simp_all
  · exact he.symm
theorem fz_no {t : List GSlot} {i : Nat} (h : i < t.length) (hi : i ≤ fz t) (hk : ((t.getD i default).Kind == 0) = false) : i + 1 ≤ fz t := by
  rcases Nat.lt_or_eq_of_le hi with hlt | he
  · exact hlt
  · exfalso
    have hw : t.findIdx (fun x => x.Kind == 0) < t.length := by rw [show t.findIdx (fun x => x.Kind == 0) = fz t from rfl]; omega
    have := List.findIdx_getElem (w := hw)
    rw [show t.getD i default = t[i] by simp [List.getD, h]] at hk
    have e : t.findIdx (fun x => x.Kind == 0) = i := he.symm
    simp only [e] at this
    rw [hk] at this
    simp at this
theorem ec_ref10_Put (t : List GSlot) (s : GSlot) (hl : t.length ≤ 1000000) : EC Tryz.prog 164 [slL 4 GSlot.c default t, .agg s.c] [] fun r N => N = [] ∧ r = sl3 (tbPut t s) := by
  refine EC.fin (nA E_ok call_164 Tryz.func164 Tryz.ntmps164 Tryz.results164 ?_)
  (repeat (first | refine stepA ?_ | refine regA E_ok fun fr => ⟨?_⟩))
  (try refine regA E_ok fun fr => ⟨?_⟩)
  (refine EC.use (ec_ref10_Valid t hl) ?_; (try simp only [hg]); refine gA E_ok fun fr => ⟨?_⟩)
  refine ⟨fun hg => ?_, fun hg => ?_⟩
  rotate_left 1
  · have hg0 : tbOk t = false := by simpa using hg
    ((try simp only [hg]); refine gA E_ok fun fr => ⟨?_⟩)
    (repeat (first | refine stepA ?_ | refine regA E_ok fun fr => ⟨?_⟩))
    (apply EV_cond; exact rfl; all_goals intro h)
    · (repeat (first | refine stepA ?_ | refine regA E_ok fun fr => ⟨?_⟩))
      (try refine sC ?_)
      rw [show sl3 (tbPut t s) = .tup [slL 4 GSlot.c default [], .int .i64 0, .int .i64 1] by simp only [tbPut, hg0, Bool.not_false, Bool.true_or, if_true, sl3]]
      exact fin_t3 FzA.nil FzA.int FzA.int
    · simp [hg0] at h
  have hok : tbOk t = true := by simpa using hg
  obtain ⟨ht16, hall⟩ := tbOk_len hok
  (refine EC.use (ec_ref10_slot s) ?_; (try simp only [hg]); refine gA E_ok fun fr => ⟨?_⟩)
  (repeat (first | refine stepA ?_ | refine regA E_ok fun fr => ⟨?_⟩))
  (apply EV_cond; exact rfl; all_goals intro h)
  · (repeat (first | refine stepA ?_ | refine regA E_ok fun fr => ⟨?_⟩))
    (try refine sC ?_)
    rw [show sl3 (tbPut t s) = .tup [slL 4 GSlot.c default [], .int .i64 0, .int .i64 1] by simp only [tbPut, hok, Bool.not_true, Bool.false_or, h, if_true, sl3]]
    exact fin_t3 FzA.nil FzA.int FzA.int
  have h0 := h
  clear h
  have hfl := fz_le t
  (repeat (first | refine stepA ?_ | refine regA E_ok fun fr => ⟨?_⟩))
  refine EV_loopL [3, 7, 25, 26] (fun i : Nat => [(27, .int .i64 i)]) (fun i => i ≤ t.length ∧ i ≤ fz t) (fun i => t.length - i) 0 ⟨Nat.zero_le _, Nat.zero_le _⟩ ⟨rfl, trivial⟩ ?_
  rintro i ⟨hi, hx⟩
  refine sK ?_
  (repeat (first | refine stepA ?_ | refine regA E_ok fun fr => ⟨?_⟩))
  (apply EV_cond; exact rfl; all_goals intro h)
  · have hlt : i < t.length := by simp at h; omega
    clear h
    (repeat (first | refine stepA ?_ | refine regA E_ok fun fr => ⟨?_⟩))
    (apply EV_cond; exact rfl; all_goals intro h)
    · have hf := fz_at hlt hx h
      (repeat (first | refine stepA ?_ | refine regA E_ok fun fr => ⟨?_⟩))
      (try refine sC ?_)
      rw [show tbPut t s = (t.set i s, (i : Int), 0) by simp only [tbPut, putAt, hok, Bool.not_true, Bool.false_or, h0, Bool.false_eq_true, if_false, if_neg (show ¬ fz t = 16 by omega), if_pos (show fz t < t.length by omega)]; rw [hf]]
      exact fin_t3 (FzA.row (cells := GSlot.c) (d := default) rfl (by simp [List.map_set]) (by simp)) FzA.int FzA.int
    · have hn := fz_no hlt hx h
      (repeat (first | refine stepA ?_ | refine regA E_ok fun fr => ⟨?_⟩))
      ((try refine sT ?_); first | refine nxA (i + 1) ?_ ?_ | refine nxB (i + 1) ?_ ?_)
      · exact ⟨by omega, hn⟩
      · omega
  · have e : i = t.length := by simp at h; omega
    have hf : ¬ fz t < t.length := by omega
    have hfe : fz t = t.length := by omega
    clear h
    (repeat (first | refine stepA ?_ | refine regA E_ok fun fr => ⟨?_⟩))
    (apply EV_cond; exact rfl; all_goals intro h)
    · have h16 : fz t = 16 := by simp at h; omega
      (repeat (first | refine stepA ?_ | refine regA E_ok fun fr => ⟨?_⟩))
      (try refine sC ?_)
      rw [show sl3 (tbPut t s) = .tup [slL 4 GSlot.c default [], .int .i64 0, .int .i64 3] by simp only [tbPut, hok, Bool.not_true, Bool.false_or, h0, Bool.false_eq_true, if_false, if_pos h16, sl3]]
      exact fin_t3 FzA.nil FzA.int FzA.int
    · have h16 : ¬ fz t = 16 := by simp at h; omega
      clear h
      (repeat (first | refine stepA ?_ | refine regA E_ok fun fr => ⟨?_⟩))
      (try refine sC ?_)
      rw [show tbPut t s = (t ++ [s], (t.length : Int), 0) by simp only [tbPut, putAt, hok, Bool.not_true, Bool.false_or, h0, Bool.false_eq_true, if_false, if_neg h16, if_neg hf]; rw [hfe]]
      exact fin_t3 (FzA.row (cells := GSlot.c) (d := default) rfl (by simp [GSlot.q]) (by simp)) FzA.int FzA.int
end Go.Proofs.YtfmldmafigpblaaGreatDoor
end
section
namespace Go.Proofs.YtfmldmafigpblaaGreatDoor
open Go.Lift
set_option linter.unusedSimpArgs false
set_option linter.unusedVariables false
set_option maxRecDepth 10000
def stripN (l : List GSlot) : Nat → Nat
  | 0 => 0
  | n + 1 => if ((l.getD n default).Kind == 0) = true then stripN l n else n + 1
theorem strip_dec {u : List GSlot} {n : Nat} (h : 0 < n) (h2 : ((u.getD (n - 1) default).Kind == 0) = true) : stripN u (n - 1) = stripN u n := by
  obtain ⟨k, rfl⟩ : ∃ k, n = k + 1 := ⟨n - 1, by omega⟩
  rw [Nat.add_sub_cancel] at h2 ⊢
  rw [stripN, if_pos h2]
theorem stripN_le (l : List GSlot) : ∀ n, stripN l n ≤ n
  | 0 => Nat.le_refl _
  | n + 1 => by
    rw [stripN]
    split
    · exact Nat.le_succ_of_le (stripN_le l n)
    · exact Nat.le_refl _
def strip (l : List GSlot) : List GSlot := l.take (stripN l l.length)
def tbClear (t : List GSlot) (i : Int) : List GSlot × Int :=
  if (!tbOk t) = true then ([], 1) else if ((tbGet t i).2 != 0) = true then ([], (tbGet t i).2) else (strip (t.set i.toNat default), 0)
def sl2t (x : List GSlot × Int) : SV := .tup [slL 4 GSlot.c default x.1, .int .i64 x.2]
theorem tbGet_in {t : List GSlot} {i : Int} (h : ((tbGet t i).2 != 0) = false) : 0 ≤ i ∧ i < (t.length : Int) := by
  unfold tbGet at h
  split at h
  · simp at h
  · rename_i hc
    simp at hc; omega
theorem ec_ref10_Clear (t : List GSlot) (i : Int) (hl : t.length ≤ 1000000) : EC Tryz.prog 170 [slL 4 GSlot.c default t, .int .i64 i] [] fun r N => N = [] ∧ r = sl2t (tbClear t i) := by
  refine EC.fin (nA E_ok call_170 Tryz.func170 Tryz.ntmps170 Tryz.results170 ?_)
  (repeat (first | refine stepA ?_ | refine regA E_ok fun fr => ⟨?_⟩))
  (try refine regA E_ok fun fr => ⟨?_⟩)
  (refine EC.use (ec_ref10_Valid t hl) ?_; (try simp only [hg]); refine gA E_ok fun fr => ⟨?_⟩)
  (repeat (first | refine stepA ?_ | refine regA E_ok fun fr => ⟨?_⟩))
  (apply EV_cond; exact rfl; all_goals intro h)
  · (repeat (first | refine stepA ?_ | refine regA E_ok fun fr => ⟨?_⟩))
    (try refine sC ?_)
    rw [show sl2t (tbClear t i) = .tup [slL 4 GSlot.c default [], .int .i64 1] by simp only [tbClear, h, if_true, sl2t]]
    exact fin_t2 FzA.nil FzA.int
  have hok := h
  clear h
  (repeat (first | refine stepA ?_ | refine regA E_ok fun fr => ⟨?_⟩))
  (try refine regA E_ok fun fr => ⟨?_⟩)
  (refine EC.use (ec_ref10_Get t i hl) ?_; (try simp only [hg]); refine gA E_ok fun fr => ⟨?_⟩)
  (repeat (first | refine stepA ?_ | refine regA E_ok fun fr => ⟨?_⟩))
  (apply EV_cond; exact rfl; all_goals intro h)
  · (repeat (first | refine stepA ?_ | refine regA E_ok fun fr => ⟨?_⟩))
    (try refine sC ?_)
    rw [show sl2t (tbClear t i) = .tup [slL 4 GSlot.c default [], .int .i64 (tbGet t i).2] by simp only [tbClear, hok, h, Bool.false_eq_true, if_false, if_true, sl2t]]
    exact fin_t2 FzA.nil FzA.int
  have hge := h
  have hin := tbGet_in h
  clear h
  (repeat (first | refine stepA ?_ | refine regA E_ok fun fr => ⟨?_⟩))
  have hset : (List.map GSlot.c t).set i.toNat (GSlot.c default) = (t.set i.toNat default).map GSlot.c := by rw [List.map_set]
  obtain ⟨u, hu, hul⟩ : ∃ u, t.set i.toNat default = u ∧ u.length = t.length := ⟨_, rfl, by simp⟩
  simp only [hset, hu]
  refine EV_loopL [] (fun n : Nat => [(8, .row 1 _ 4 0 n)]) (fun n => n ≤ u.length ∧ stripN u n = stripN u u.length) (fun n => n) t.length ⟨by omega, by rw [hul]⟩ ⟨rfl, trivial⟩ ?_
  rintro n ⟨hn, hs⟩
  refine sK ?_
  (repeat (first | refine stepA ?_ | refine regA E_ok fun fr => ⟨?_⟩))
  (apply EV_cond; exact rfl; all_goals intro h)
  · have hn0 : 0 < n ∧ ((u.getD (n - 1) default).Kind == 0) = true := by
      rw [Bool.and_eq_true, ← nat_pred] at h
      exact ⟨by have := of_decide_eq_true h.1; omega, h.2⟩
    have hs1 : stripN u (n - 1) = stripN u n := by
      exact strip_dec hn0.1 hn0.2
    clear h
    (repeat (first | refine stepA ?_ | refine regA E_ok fun fr => ⟨?_⟩))
    ((try refine sT ?_); first | refine nxA (n - 1) ?_ ?_ | refine nxB (n - 1) ?_ ?_)
    · exact ⟨by omega, by rw [hs1, hs]⟩
    · omega
  · have hs1 : stripN u n = n := by
      rw [← nat_pred] at h
      cases n with
      | zero => rfl
      | succ k =>
        rw [stripN, if_neg]
        intro e
        simp only [Nat.add_sub_cancel] at h
        rw [e] at h
        simp at h
    clear h
    (repeat (first | refine stepA ?_ | refine regA E_ok fun fr => ⟨?_⟩))
    (try refine sC ?_)
    rw [show tbClear t i = (u.take n, 0) by simp only [tbClear, hok, hge, Bool.false_eq_true, if_false, strip, hu, ← hs, hs1]]
    exact fin_t2 (FzA.part (cells := GSlot.c) (d := default) (l := u) rfl rfl (by simp; omega) (by simp) (by omega)) FzA.int
attribute [push_cast] sl3 sl2t
end Go.Proofs.YtfmldmafigpblaaGreatDoor
end
section
namespace Go.Proofs.YtfmldmafigpblaaGreatDoor
open Go.Lift
set_option linter.unusedSimpArgs false
set_option linter.unusedVariables false
set_option maxRecDepth 10000
def slKind (s : GSlot) : Int := if (s.Kind == 1) = true then 4 else if (s.Kind == 2 || s.Kind == 3) = true then 5 else if (s.Kind == 4) = true then 7 else 6
def slCnt (o : GObject) (s : GSlot) : Int := if (s.Kind == 2) = true then o.Readers else if (s.Kind == 3) = true then o.Writers else if (s.Kind == 4) = true then (if s.End = 0 then o.Ends.x0 else o.Ends.x1) else o.Refs
def slSet (o : GObject) (s : GSlot) (n : Int) : GObject := if (s.Kind == 2) = true then { o with Readers := n } else if (s.Kind == 3) = true then { o with Writers := n } else if (s.Kind == 4) = true then (if s.End = 0 then { o with Ends := ⟨n, o.Ends.x1⟩ } else { o with Ends := ⟨o.Ends.x0, n⟩ }) else { o with Refs := n }
theorem ec_ref10_kind (s : GSlot) : EC Tryz.prog 194 [.agg s.c] [] fun r B => B = [] ∧ r = .int .i64 (slKind s) := by
  refine EC.fin (nA E_ok call_194 Tryz.func194 Tryz.ntmps194 Tryz.results194 ?_)
  (repeat (first | refine stepA ?_ | refine regA E_ok fun fr => ⟨?_⟩))
  (apply EV_cond; exact rfl; all_goals intro h)
  · (repeat (first | refine stepA ?_ | refine regA E_ok fun fr => ⟨?_⟩))
    ((try refine sC ?_); refine sF ?_; refine SLe.of_eq ?_; (simp only [slKind, h, if_true]))
  have h1 := h
  clear h
  (repeat (first | refine stepA ?_ | refine regA E_ok fun fr => ⟨?_⟩))
  refine EV_meetB (σ := Bool) [1, 2, 4] (fun b => [(7, .bool b)]) (fun B b => B) (fun b => b = (s.Kind == 2 || s.Kind == 3)) ?_ ?_
  · intro b hbb
    (intro t1 B1 ht hB; (try apply_assumption -exfalso); (try refine sT ?_); refine EV_weakR ht hB ?_)
    refine sK ?_
    (repeat (first | refine stepA ?_ | refine regA E_ok fun fr => ⟨?_⟩))
    (apply EV_cond; exact rfl; all_goals intro h)
    · rw [h] at hbb
      (repeat (first | refine stepA ?_ | refine regA E_ok fun fr => ⟨?_⟩))
      ((try refine sC ?_); refine sF ?_; refine SLe.of_eq ?_; (simp only [slKind, h1, ← hbb, if_true, if_false, Bool.false_eq_true]))
    · rw [h] at hbb
      (repeat (first | refine stepA ?_ | refine regA E_ok fun fr => ⟨?_⟩))
      (apply EV_cond; exact rfl; all_goals intro h)
      · (repeat (first | refine stepA ?_ | refine regA E_ok fun fr => ⟨?_⟩))
        ((try refine sC ?_); refine sF ?_; refine SLe.of_eq ?_; (simp only [slKind, h1, ← hbb, h, if_true, if_false, Bool.false_eq_true]))
      · (repeat (first | refine stepA ?_ | refine regA E_ok fun fr => ⟨?_⟩))
        ((try refine sC ?_); refine sF ?_; refine SLe.of_eq ?_; (simp only [slKind, h1, ← hbb, h, if_true, if_false, Bool.false_eq_true]))
  · (apply EV_cond; exact rfl; all_goals intro h)
    · (repeat (first | refine stepA ?_ | refine regA E_ok fun fr => ⟨?_⟩))
      ((try refine sT ?_); first | refine mt2 ((s.Kind == 2)) ?_ | refine mt3 ((s.Kind == 2)) ?_)
      rw [h]; rfl
    · (repeat (first | refine stepA ?_ | refine regA E_ok fun fr => ⟨?_⟩))
      ((try refine sT ?_); first | refine mt2 ((s.Kind == 3)) ?_ | refine mt3 ((s.Kind == 3)) ?_)
      rw [h]; rfl
theorem ec_ref10_count (o : GObject) (s : GSlot) (he : s.End = 0 ∨ s.End = 1) : EC Tryz.prog 182 [.agg o.c, .agg s.c] [] fun r B => B = [] ∧ r = .int .i64 (slCnt o s) := by
  refine EC.fin (nA E_ok call_182 Tryz.func182 Tryz.ntmps182 Tryz.results182 ?_)
  (repeat (first | refine stepA ?_ | refine regA E_ok fun fr => ⟨?_⟩))
  (apply EV_cond; exact rfl; all_goals intro h)
  · (repeat (first | refine stepA ?_ | refine regA E_ok fun fr => ⟨?_⟩))
    ((try refine sC ?_); refine sF ?_; refine SLe.of_eq ?_; (simp only [slCnt, h, if_true]))
  have h1 := h
  clear h
  (repeat (first | refine stepA ?_ | refine regA E_ok fun fr => ⟨?_⟩))
  (apply EV_cond; exact rfl; all_goals intro h)
  · (repeat (first | refine stepA ?_ | refine regA E_ok fun fr => ⟨?_⟩))
    ((try refine sC ?_); refine sF ?_; refine SLe.of_eq ?_; (simp only [slCnt, h1, h, if_true, if_false, Bool.false_eq_true]))
  have h2 := h
  clear h
  (repeat (first | refine stepA ?_ | refine regA E_ok fun fr => ⟨?_⟩))
  (apply EV_cond; exact rfl; all_goals intro h)
  · rcases he with e | e
    · rw [show s.c = GSlot.c { s with End := 0 } by rw [← e]]
      (repeat (first | refine stepA ?_ | refine regA E_ok fun fr => ⟨?_⟩))
      ((try refine sC ?_); refine sF ?_; refine SLe.of_eq ?_; (simp only [slCnt, h1, h2, h, e, if_true, if_false, Bool.false_eq_true]))
    · rw [show s.c = GSlot.c { s with End := 1 } by rw [← e]]
      (repeat (first | refine stepA ?_ | refine regA E_ok fun fr => ⟨?_⟩))
      ((try refine sC ?_); refine sF ?_; refine SLe.of_eq ?_; (simp only [slCnt, h1, h2, h, e, if_true, if_false, Bool.false_eq_true]; (try rfl)))
  (repeat (first | refine stepA ?_ | refine regA E_ok fun fr => ⟨?_⟩))
  ((try refine sC ?_); refine sF ?_; refine SLe.of_eq ?_; (simp only [slCnt, h1, h2, h, if_false, Bool.false_eq_true]))
theorem ec_ref10_changed (o : GObject) (s : GSlot) (n : Int) (he : s.End = 0 ∨ s.End = 1) : EC Tryz.prog 183 [.agg o.c, .agg s.c, .int .i64 n] [] fun r B => B = [] ∧ r = .agg (slSet o s n).c := by
  refine EC.fin (nA E_ok call_183 Tryz.func183 Tryz.ntmps183 Tryz.results183 ?_)
  (repeat (first | refine stepA ?_ | refine regA E_ok fun fr => ⟨?_⟩))
  (apply EV_cond; exact rfl; all_goals intro h)
  · (repeat (first | refine stepA ?_ | refine regA E_ok fun fr => ⟨?_⟩))
    ((try refine sC ?_); refine sF ?_; refine SLe.of_eq ?_; (simp only [slSet, h, if_true]))
  have h1 := h
  clear h
  (repeat (first | refine stepA ?_ | refine regA E_ok fun fr => ⟨?_⟩))
  (apply EV_cond; exact rfl; all_goals intro h)
  · (repeat (first | refine stepA ?_ | refine regA E_ok fun fr => ⟨?_⟩))
    ((try refine sC ?_); refine sF ?_; refine SLe.of_eq ?_; (simp only [slSet, h1, h, if_true, if_false, Bool.false_eq_true]))
  have h2 := h
  clear h
  (repeat (first | refine stepA ?_ | refine regA E_ok fun fr => ⟨?_⟩))
  (apply EV_cond; exact rfl; all_goals intro h)
  · rcases he with e | e
    · rw [show s.c = GSlot.c { s with End := 0 } by rw [← e]]
      (repeat (first | refine stepA ?_ | refine regA E_ok fun fr => ⟨?_⟩))
      ((try refine sC ?_); refine sF ?_; refine SLe.of_eq ?_; (simp only [slSet, h1, h2, h, e, if_true, if_false, Bool.false_eq_true]))
    · rw [show s.c = GSlot.c { s with End := 1 } by rw [← e]]
      (repeat (first | refine stepA ?_ | refine regA E_ok fun fr => ⟨?_⟩))
      ((try refine sC ?_); refine sF ?_; refine SLe.of_eq ?_; (simp only [slSet, h1, h2, h, e, if_true, if_false, Bool.false_eq_true]; (try rfl)))
  (repeat (first | refine stepA ?_ | refine regA E_ok fun fr => ⟨?_⟩))
  ((try refine sC ?_); refine sF ?_; refine SLe.of_eq ?_; (simp only [slSet, h1, h2, h, if_false, Bool.false_eq_true]))
def tbFits (o : GObject) (s : GSlot) : Int := if (!slOk s) = true then 1 else if (slHold s == 0 || o.ID != slHold s || o.Kind != slKind s) = true then 10 else 0
theorem ec_ref10_fits (o : GObject) (s : GSlot) : EC Tryz.prog 181 [.agg o.c, .agg s.c] [] fun r B => B = [] ∧ r = .int .i64 (tbFits o s) := by
  refine EC.fin (nA E_ok call_181 Tryz.func181 Tryz.ntmps181 Tryz.results181 ?_)
  (repeat (first | refine stepA ?_ | refine regA E_ok fun fr => ⟨?_⟩))
  (try refine regA E_ok fun fr => ⟨?_⟩)
  (refine EC.use (ec_ref10_slot s) ?_; (try simp only [hg]); refine gA E_ok fun fr => ⟨?_⟩)
  (repeat (first | refine stepA ?_ | refine regA E_ok fun fr => ⟨?_⟩))
  (apply EV_cond; exact rfl; all_goals intro h)
  · (repeat (first | refine stepA ?_ | refine regA E_ok fun fr => ⟨?_⟩))
    ((try refine sC ?_); refine sF ?_; refine SLe.of_eq ?_; (simp only [tbFits, h, if_true]))
  have h1 := h
  clear h
  (repeat (first | refine stepA ?_ | refine regA E_ok fun fr => ⟨?_⟩))
  (try refine regA E_ok fun fr => ⟨?_⟩)
  (refine EC.use (ec_ref10_Holder s) ?_; (try simp only [hg]); refine gA E_ok fun fr => ⟨?_⟩)
  (repeat (first | refine stepA ?_ | refine regA E_ok fun fr => ⟨?_⟩))
  (refine dD E_ok [] [false, false] [0, 1, 2, 3, 4, 5, 6, 7, 8, 9, 10, 11, 12, 13, 14] fol fun R hR => ?_; (repeat intro rh); (try refine sB ⟨?_⟩); (repeat ((with_reducible apply And.intro); exact sdB)); (repeat intro rh); (repeat ((with_reducible apply And.intro); exact sdB)); (try apply_assumption -exfalso))
  refine ⟨fun hg => ?_, fun hg => ?_⟩
  · (refine EC.use (ec_ref10_kind s) ?_; (try simp only [hg]); refine dR E_ok [13, 14] ?_; (repeat intro rh); (try refine sB ⟨?_⟩); (repeat ((with_reducible apply And.intro); exact sdB)); (first | apply_assumption -exfalso | (try simp only [thenP])))
    (repeat (first | refine stepA ?_ | refine regA E_ok fun fr => ⟨?_⟩))
    (apply EV_cond; exact rfl; all_goals intro h)
    · (repeat (first | refine stepA ?_ | refine regA E_ok fun fr => ⟨?_⟩))
      ((try refine sC ?_); refine sF ?_; refine SLe.of_eq ?_; (simp only [tbFits, h1, hg, Bool.false_or, h, if_true, if_false, Bool.false_eq_true]))
    · (repeat (first | refine stepA ?_ | refine regA E_ok fun fr => ⟨?_⟩))
      ((try refine sC ?_); refine sF ?_; refine SLe.of_eq ?_; (simp only [tbFits, h1, hg, Bool.false_or, h, if_true, if_false, Bool.false_eq_true]))
  · have hg2 : (slHold s == 0 || o.ID != slHold s) = true := by rw [Bool.not_eq_false'] at hg; exact hg
    simp only [hg2]
    (skip; (try simp only [hg]); refine dR E_ok [13, 14] ?_; (repeat intro rh); (try refine sB ⟨?_⟩); (repeat ((with_reducible apply And.intro); exact sdB)); (first | apply_assumption -exfalso | (try simp only [thenP])))
    (repeat (first | refine stepA ?_ | refine regA E_ok fun fr => ⟨?_⟩))
    (apply EV_cond; exact rfl; all_goals intro h)
    · (repeat (first | refine stepA ?_ | refine regA E_ok fun fr => ⟨?_⟩))
      ((try refine sC ?_); refine sF ?_; refine SLe.of_eq ?_; (simp only [tbFits, h1, hg2, Bool.true_or, if_true, if_false, Bool.false_eq_true]))
    · simp [hg2] at h
end Go.Proofs.YtfmldmafigpblaaGreatDoor
end
section
namespace Go.Proofs.YtfmldmafigpblaaGreatDoor
open Go.Lift
set_option linter.unusedSimpArgs false
set_option linter.unusedVariables false
set_option maxRecDepth 10000
def tbChange (o : GObject) (s : GSlot) (b : Int) : GObject × Int :=
  if (tbFits o s != 0) = true then (default, tbFits o s) else if (decide (0 < b) && decide (1073741824 ≤ slCnt o s)) = true then (default, 3)
  else if (decide (b < 0) && decide (slCnt o s < 1)) = true then (default, 8) else (slSet o s (IntKind.i64.wrap (slCnt o s + b)), 0)
def ob2 (x : GObject × Int) : SV := .tup [.agg x.1.c, .int .i64 x.2]
theorem tbc_fit {o : GObject} {s : GSlot} {b n : Int} (h : tbFits o s = n) (hn : (n != 0) = true) : tbChange o s b = (default, n) := by
  rw [tbChange, h, if_pos hn]
theorem tbc_ok {o : GObject} {s : GSlot} {b : Int} (h : tbFits o s = 0) : tbChange o s b = if (decide (0 < b) && decide (1073741824 ≤ slCnt o s)) = true then (default, 3)
  else if (decide (b < 0) && decide (slCnt o s < 1)) = true then (default, 8) else (slSet o s (IntKind.i64.wrap (slCnt o s + b)), 0) := by
  rw [tbChange, h, if_neg (by simp)]
theorem slOk_end {s : GSlot} (h : slOk s = true) : s.End = 0 ∨ s.End = 1 := by
  by_cases hk : (s.Kind == 0) = true
  · rw [slOk, if_pos hk] at h
    have : s = default := by simpa using h
    subst this; exact .inl rfl
  · rw [slOk, if_neg hk] at h
    simp at h; omega
end Go.Proofs.YtfmldmafigpblaaGreatDoor
end
section
namespace Go.Proofs.YtfmldmafigpblaaGreatDoor
open Go.Lift
set_option linter.unusedSimpArgs false
set_option linter.unusedVariables false
set_option maxRecDepth 10000
attribute [push_cast] ob2
theorem hold_eq {o : GObject} {s : GSlot} (h : tbFits o s = 0) : tbChange o s 1 = if decide (1073741824 ≤ slCnt o s) = true then (default, 3) else (slSet o s (IntKind.i64.wrap (slCnt o s + 1)), 0) := by
  rw [tbc_ok h]; rfl
theorem drop_eq {o : GObject} {s : GSlot} (h : tbFits o s = 0) : tbChange o s (-1) = if decide (slCnt o s < 1) = true then (default, 8) else (slSet o s (IntKind.i64.wrap (slCnt o s - 1)), 0) := by
  rw [tbc_ok h]; rfl
theorem fits_ok {o : GObject} {s : GSlot} (h : (tbFits o s != 0) = false) : tbFits o s = 0 ∧ slOk s = true := by
  have h0 : tbFits o s = 0 := by simpa using h
  refine ⟨h0, ?_⟩
  unfold tbFits at h0
  split at h0
  · simp at h0
  · rename_i hc; simpa using hc
theorem ec_ref10_Hold (o : GObject) (s : GSlot) : EC Tryz.prog 184 [.agg o.c, .agg s.c] [] fun r B => B = [] ∧ r = ob2 (tbChange o s 1) := by
  refine EC.fin (nA E_ok call_184 Tryz.func184 Tryz.ntmps184 Tryz.results184 ?_)
  (repeat (first | refine stepA ?_ | refine regA E_ok fun fr => ⟨?_⟩))
  (try refine regA E_ok fun fr => ⟨?_⟩)
  (refine EC.use (ec_ref10_fits o s) ?_; (try simp only [hg]); refine gA E_ok fun fr => ⟨?_⟩)
  (repeat (first | refine stepA ?_ | refine regA E_ok fun fr => ⟨?_⟩))
  (apply EV_cond; exact rfl; all_goals intro h)
  · have hch := tbc_fit (b := 1) (rfl : tbFits o s = _) h
    (repeat (first | refine stepA ?_ | refine regA E_ok fun fr => ⟨?_⟩))
    ((try refine sC ?_); refine sF ?_; refine SLe.of_eq ?_; (simp only [hch, ob2]))
  obtain ⟨h0, hok⟩ := fits_ok h
  have hend := slOk_end hok
  have hch := hold_eq h0
  clear h
  (repeat (first | refine stepA ?_ | refine regA E_ok fun fr => ⟨?_⟩))
  (try refine regA E_ok fun fr => ⟨?_⟩)
  (refine EC.use (ec_ref10_count o s hend) ?_; (try simp only [hg]); refine gA E_ok fun fr => ⟨?_⟩)
  (repeat (first | refine stepA ?_ | refine regA E_ok fun fr => ⟨?_⟩))
  (apply EV_cond; exact rfl; all_goals intro h)
  · rw [if_pos h] at hch
    (repeat (first | refine stepA ?_ | refine regA E_ok fun fr => ⟨?_⟩))
    ((try refine sC ?_); refine sF ?_; refine SLe.of_eq ?_; (simp only [hch, ob2]))
  rw [h, if_neg (by simp)] at hch
  clear h
  (repeat (first | refine stepA ?_ | refine regA E_ok fun fr => ⟨?_⟩))
  (refine dD E_ok [7] [false, false, false] [0, 1, 2, 3, 4, 5, 6, 7, 8] fol fun R hR => ?_; (repeat intro rh); (try refine sB ⟨?_⟩); (repeat ((with_reducible apply And.intro); exact sdB)); (repeat intro rh); (repeat ((with_reducible apply And.intro); exact sdB)); (try apply_assumption -exfalso))
  (refine EC.use (ec_ref10_count o s hend) ?_; (try simp only [hg]); refine dR E_ok [5, 6, 7, 8] ?_; (repeat intro rh); (try refine sB ⟨?_⟩); (repeat ((with_reducible apply And.intro); exact sdB)); (first | apply_assumption -exfalso | (try simp only [thenP])))
  (refine EC.use (ec_ref10_changed o s _ hend) ?_; (try simp only [hg]); refine dR E_ok [7, 8] ?_; (repeat intro rh); (try refine sB ⟨?_⟩); (repeat ((with_reducible apply And.intro); exact sdB)); (first | apply_assumption -exfalso | (try simp only [thenP])))
  (repeat (first | refine stepA ?_ | refine regA E_ok fun fr => ⟨?_⟩))
  ((try refine sC ?_); refine sF ?_; refine SLe.of_eq ?_; (simp only [hch, ob2]))
def goneB (x : GObject) : Bool := if (x.Kind == 4) = true then x.Refs == 0 else if (x.Kind == 5) = true then x.Readers == 0 && x.Writers == 0 else if (x.Kind == 7) = true then x.Ends == default else false
def tbDrop (o : GObject) (s : GSlot) : GObject × Bool × Int := if ((tbChange o s (-1)).2 != 0) = true then (default, false, (tbChange o s (-1)).2) else ((tbChange o s (-1)).1, goneB (tbChange o s (-1)).1, 0)
@[push_cast] def ob3 (x : GObject × Bool × Int) : SV := .tup [.agg x.1.c, .bool x.2.1, .int .i64 x.2.2]
theorem ec_ref10_Drop (o : GObject) (s : GSlot) : EC Tryz.prog 154 [.agg o.c, .agg s.c] [] fun r B => B = [] ∧ r = ob3 (tbDrop o s) := by
  refine EC.fin (nA E_ok call_154 Tryz.func154 Tryz.ntmps154 Tryz.results154 ?_)
  (repeat (first | refine stepA ?_ | refine regA E_ok fun fr => ⟨?_⟩))
  (try refine regA E_ok fun fr => ⟨?_⟩)
  (refine EC.use (ec_ref10_fits o s) ?_; (try simp only [hg]); refine gA E_ok fun fr => ⟨?_⟩)
  (repeat (first | refine stepA ?_ | refine regA E_ok fun fr => ⟨?_⟩))
  (apply EV_cond; exact rfl; all_goals intro h)
  · have hch := tbc_fit (b := -1) (rfl : tbFits o s = _) h
    have hd : tbDrop o s = (default, false, tbFits o s) := by rw [tbDrop, hch, if_pos h]
    (repeat (first | refine stepA ?_ | refine regA E_ok fun fr => ⟨?_⟩))
    ((try refine sC ?_); refine sF ?_; refine SLe.of_eq ?_; (simp only [hd]))
  obtain ⟨h0, hok⟩ := fits_ok h
  have hend := slOk_end hok
  have hch := drop_eq h0
  clear h
  (repeat (first | refine stepA ?_ | refine regA E_ok fun fr => ⟨?_⟩))
  (try refine regA E_ok fun fr => ⟨?_⟩)
  (refine EC.use (ec_ref10_count o s hend) ?_; (try simp only [hg]); refine gA E_ok fun fr => ⟨?_⟩)
  (repeat (first | refine stepA ?_ | refine regA E_ok fun fr => ⟨?_⟩))
  (apply EV_cond; exact rfl; all_goals intro h)
  · rw [if_pos h] at hch
    have hd : tbDrop o s = (default, false, 8) := by rw [tbDrop, hch]; rfl
    (repeat (first | refine stepA ?_ | refine regA E_ok fun fr => ⟨?_⟩))
    ((try refine sC ?_); refine sF ?_; refine SLe.of_eq ?_; (simp only [hd]))
  rw [h, if_neg (by simp)] at hch
  have hd : tbDrop o s = ((tbChange o s (-1)).1, goneB (tbChange o s (-1)).1, 0) := by rw [tbDrop, hch]; rfl
  rw [hch] at hd
  clear h
  (repeat (first | refine stepA ?_ | refine regA E_ok fun fr => ⟨?_⟩))
  (refine dD E_ok [7] [false, false, false] [0, 1, 2, 3, 4, 5, 6, 7] fol fun R hR => ?_; (repeat intro rh); (try refine sB ⟨?_⟩); (repeat ((with_reducible apply And.intro); exact sdB)); (repeat intro rh); (repeat ((with_reducible apply And.intro); exact sdB)); (try apply_assumption -exfalso))
  (refine EC.use (ec_ref10_count o s hend) ?_; (try simp only [hg]); refine dR E_ok [5, 6, 7] ?_; (repeat intro rh); (try refine sB ⟨?_⟩); (repeat ((with_reducible apply And.intro); exact sdB)); (first | apply_assumption -exfalso | (try simp only [thenP])))
  (refine EC.use (ec_ref10_changed o s _ hend) ?_; (try simp only [hg]); refine dR E_ok [7] ?_; (repeat intro rh); (try refine sB ⟨?_⟩); (repeat ((with_reducible apply And.intro); exact sdB)); (first | apply_assumption -exfalso | (try simp only [thenP])))
  generalize slSet o s (IntKind.i64.wrap (slCnt o s - 1)) = x at hd ⊢
  (repeat (first | refine stepS ?_ | refine regA E_ok fun fr => ⟨?_⟩))
  refine EV_meetB (σ := Bool) [2, 4, 5, 6] (fun b => [(8, .bool b)]) (fun B b => B) (fun b => b = goneB x) ?_ ?_
  · intro b hbb
    (intro t1 B1 ht hB; (try apply_assumption -exfalso); (try refine sT ?_); refine EV_weakR ht hB ?_)
    refine sK ?_
    (repeat (first | refine stepA ?_ | refine regA E_ok fun fr => ⟨?_⟩))
    ((try refine sC ?_); refine sF ?_; refine SLe.of_eq ?_; (simp only [hd, hbb]))
  · refine EV_block ?_
    (repeat (first | refine stepA ?_ | refine regA E_ok fun fr => ⟨?_⟩))
    (apply EV_cond; exact rfl; all_goals intro h)
    · (repeat (first | refine stepA ?_ | refine regA E_ok fun fr => ⟨?_⟩))
      ((try refine sT ?_); first | refine mt2 ((x.Refs == 0)) ?_ | refine mt3 ((x.Refs == 0)) ?_)
      rw [goneB, if_pos h]
    have h4 := h
    clear h
    (repeat (first | refine stepA ?_ | refine regA E_ok fun fr => ⟨?_⟩))
    (apply EV_cond; exact rfl; all_goals intro h)
    · (repeat (first | refine stepA ?_ | refine regA E_ok fun fr => ⟨?_⟩))
      ((try refine sT ?_); first | refine mt2 ((x.Readers == 0 && x.Writers == 0)) ?_ | refine mt3 ((x.Readers == 0 && x.Writers == 0)) ?_)
      rw [goneB, if_neg (by rw [h4]; simp), if_pos h]
    have h5 := h
    clear h
    (repeat (first | refine stepA ?_ | refine regA E_ok fun fr => ⟨?_⟩))
    (apply EV_cond; exact rfl; all_goals intro h)
    · (repeat (first | refine stepA ?_ | refine regA E_ok fun fr => ⟨?_⟩))
      ((try refine sT ?_); first | refine mt2 ((x.Ends == default)) ?_ | refine mt3 ((x.Ends == default)) ?_)
      rw [goneB, if_neg (by rw [h4]; simp), if_neg (by rw [h5]; simp), if_pos h]
    · (repeat (first | refine stepA ?_ | refine regA E_ok fun fr => ⟨?_⟩))
      ((try refine sT ?_); first | refine mt2 (false) ?_ | refine mt3 (false) ?_)
      rw [goneB, if_neg (by rw [h4]; simp), if_neg (by rw [h5]; simp), if_neg (by rw [h]; simp)]
theorem EC.give {P : Program} {f : Nat} {args args' : List SV} {B : List Own} {Q : SV → List Own → Prop} (m : Nat) (ha : LFz m B args args') (h : EC P f args' (B.take m) Q) : EC P f args B Q := by
  have hb : ∀ i, getD' (B.take m) i = if fromM m i then .gone else getD' B i := fun i => by
    rw [getD'_take]
    by_cases hi : i < m
    · have : fromM m i = false := by simp [fromM]; omega
      simp [hi, this]
    · have : fromM m i = true := by simp [fromM]; omega
      simp [hi, this]
  refine ⟨h.1, fun X w vs hs hd => ?_⟩
  have hsp := ha.spec
  refine (h.2 (withSel X B (fromM m)) w vs (hs.drop_sel hb) ⟨by rw [hd.1, hsp.1], fun i c hc => ?_⟩).mono ?_
  · obtain ⟨d, h1, h2, h3⟩ := hsp.2 i c hc
    exact h3 _ _ _ (frzT_sound hs (hd.2 i d h1) h2)
  · rintro e w' ⟨v, r, X', B', he, hq, hsat, hden, hext⟩
    exact ⟨v, r, X', B', he, hq, hsat, hden, (Ext.drop_sel hb).trans hext⟩
theorem LFz.rowM {α : Type} {m : Nat} {B : List Own} {i e n E : Nat} {h : RowH} {xs : List (List SV)} {cells : α → List SV} {d : α} {l : List α} {r r' : List SV} (hm : m ≤ i) (hB : getD' B i = .row h E e xs) (hx : xs = l.map cells) (hn : n = l.length) (hr : LFz m B r r') :
    LFz m B (.row i h e 0 n :: r) (slL e cells d l :: r') := by
  subst hx hn
  refine .cons ?_ ?_ hr
  · simp [frzKT, frzKA, frzKC, fromM, hm, hB]
  · simp only [frzT, frzA, frzC, fromM, hm, decide_true, hB]
    refine SLe.sl (fun h => h) (.inr rfl) fun k hk => ?_
    simp [List.getD, hk, elt]
end Go.Proofs.YtfmldmafigpblaaGreatDoor
end
