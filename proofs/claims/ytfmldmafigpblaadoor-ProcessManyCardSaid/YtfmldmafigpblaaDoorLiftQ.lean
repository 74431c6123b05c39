/-
  Drawn regions in which two operations may come next, and in which rows that are read are written at the end ('late').
-/
import Derived.Test.YtfmldmafigpblaaDoorLiftZ
namespace Go.Lift
set_option linter.unusedVariables false
section
variable {P : Program} {E : Env} {n : Nat} {ws : List Bool} {ops : Array Oper} {t : Slots} {B : List Own} {K : Slots → List Own → Prop} {fuel : Nat} {listed : Array Bool} {late : List Nat}
def EDj (P : Program) (n : Nat) (ops : Array Oper) (late : List Nat) (ws : List Bool) (t : Slots) (B : List Own) (K : Slots → List Own → Prop) (fuel : Nat) (listed : Array Bool) (i : Nat) : Prop :=
  ∀ X0 w0 B0 X w a, Ext X0 w0 B0 X w B → St X w B t n a → wpOp P ops (GoodN n K X0 w0 B0) i (fun a' w' => (hasL late (listed.setIfInBounds i true) = true ∨ Kept w (rwB ws B) w') ∧ wpAnyS P ops (GoodN n K X0 w0 B0) late (Kept w (rwB ws B)) fuel (listed.setIfInBounds i true) a' w') a w
theorem EDj_two {i j : Nat} (hr : Region.ready .any ops listed = [i, j]) (h1 : EDj P n ops late ws t B K fuel listed i) (h2 : EDj P n ops late ws t B K fuel listed j) : ED P n ops late ws t B K (fuel + 1) listed := by
  intro X0 w0 B0 X w a he hs
  refine wpAnyS_all hr (by simp) fun k hk => ?_
  simp only [List.mem_cons, List.not_mem_nil, or_false] at hk
  rcases hk with rfl | rfl
  · exact h1 X0 w0 B0 X w a he hs
  · exact h2 X0 w0 B0 X w a he hs
theorem EDj_call {i : Nat} {o : Oper} {f : FuncId} {args : List SV} (hi : ops[i]? = some o) (hw : ∀ X w a, St X w B t n a → Region.wanted o (yielded ops a.tmps) = true)
    (hrun : ∀ X w a, St X w B t n a → ∃ vals, (execOp a.eval o).run P w = .ok (.enter f vals) w ∧ DenL X w args vals)
    (h : EC P f args (rwB ws B) fun s B' => ED P n ops late ws (setT n t o.dst s) (mrB ws B B') K fuel (listed.setIfInBounds i true)) : EDj P n ops late ws t B K fuel listed i := by
  intro X0 w0 B0 X w a he hs
  unfold wpOp
  simp only [hi]
  rw [if_pos (hw X w a hs)]
  left
  obtain ⟨vals, h1, h2⟩ := hrun X w a hs
  unfold Oper.wp
  rw [h1]
  simp only [Oper.upon]
  refine (h.2 X w vals (hs.sat.rw ws) h2).mono ?_
  rintro e w' ⟨v, s, X', B', rfl, hK, hsat0, hden, hext0⟩
  simp only
  obtain ⟨hsat, hext⟩ := hs.sat.merge hsat0 hext0
  have hst : St X' w' (mrB ws B B') (setT n t o.dst s) n (a.put o.dst v) := by
    refine ⟨?_, hsat, ?_⟩
    · have := hs.defers; cases o.dst <;> simpa [Act.put] using this
    · exact denT_put ⟨hs.den.1, fun i => (hs.den.2 i).ext hs.sat hext⟩ hden
  exact ⟨.inr (Kept.ext hext0), wpAnyS_weak (fun w'' hk => Kept.transW hext0 (fun b hb => owns_mr hb) hk) _ _ _ _ (hK X0 w0 B0 X' w' _ (he.trans hext) hst)⟩
theorem EDj_mem {i : Nat} {o : Oper} {out : RowH → Out} (hi : ops[i]? = some o) (hw : ∀ X w a, St X w B t n a → Region.wanted o (yielded ops a.tmps) = true)
    (hu : ∀ X w a, St X w B t n a → ∃ h, (out h).vc → Done P X w (rwB ws B) (execOp a.eval o) (out h)) (hh : ∀ h, (out h).vc ∧ ED P n ops late ws (setT n t o.dst (out h).v) (mrB ws B (out h).B) K fuel (listed.setIfInBounds i true)) : EDj P n ops late ws t B K fuel listed i := by
  intro X0 w0 B0 X w a he hs
  unfold wpOp
  simp only [hi]
  rw [if_pos (hw X w a hs)]
  left
  obtain ⟨hd, hu⟩ := hu X w a hs
  obtain ⟨hvc, h⟩ := hh hd
  obtain ⟨v, w', h1, hsat0, hden, hext0⟩ := hu hvc
  obtain ⟨hsat, hext⟩ := hs.sat.merge hsat0 hext0
  have hst : St X w' (mrB ws B (out hd).B) (setT n t o.dst (out hd).v) n (a.put o.dst v) := by
    refine ⟨?_, hsat, ?_⟩
    · have := hs.defers; cases o.dst <;> simpa [Act.put] using this
    · exact denT_put ⟨hs.den.1, fun i => (hs.den.2 i).ext hs.sat hext⟩ hden
  have key : (hasL late (listed.setIfInBounds i true) = true ∨ Kept w (rwB ws B) w') ∧ wpAnyS P ops (GoodN n K X0 w0 B0) late (Kept w (rwB ws B)) fuel (listed.setIfInBounds i true) (a.put o.dst v) w' :=
    ⟨.inr (Kept.ext hext0), wpAnyS_weak (fun w'' hk => Kept.transW hext0 (fun b hb => owns_mr hb) hk) _ _ _ _ (h X0 w0 B0 X w' _ (he.trans hext) hst)⟩
  unfold Oper.wp
  rcases h1 with h1 | ⟨h1, rfl⟩
  · rw [h1]; simp only [Oper.upon]; exact key
  · rw [h1]; simp only [Oper.upon]; exact key
def stepJ (P : Program) (E : Env) (n : Nat) (ops : Array Oper) (late : List Nat) (ws : List Bool) (t : Slots) (B : List Own) (K : Slots → List Own → Prop) (fuel : Nat) (listed : Array Bool) (i : Nat) : Prop :=
  match ops[i]? with
  | none => False
  | some o => match o.guard with
    | some _ => False
    | none => match isCallOp o.op with
      | true => match callOf false t o.op with
        | some (f, args) => EC P f args (rwB ws B) fun s B' => ED P n ops late ws (setT n t o.dst s) (mrB ws B B') K fuel (listed.setIfInBounds i true)
        | none => False
      | false => ∀ h, match evOp E false h t (rwB ws B) o.op with
        | ⟨v, B', c⟩ => c ∧ ED P n ops late ws (setT n t o.dst v) (mrB ws B B') K fuel (listed.setIfInBounds i true)
theorem EDj_step (hE : EnvOK P E) {i : Nat} (h : stepJ P E n ops late ws t B K fuel listed i) : EDj P n ops late ws t B K fuel listed i := by
  unfold stepJ at h
  cases hi : ops[i]? with
  | none => simp [hi] at h
  | some o =>
    simp only [hi] at h
    cases hg : o.guard with
    | some jw => simp [hg] at h
    | none =>
      have hw : ∀ X w a, St X w B t n a → Region.wanted o (yielded ops a.tmps) = true := fun X w a _ => by simp [Region.wanted, hg]
      simp only [hg] at h
      cases hco : isCallOp o.op with
      | true =>
        simp only [hco] at h
        cases hcall : callOf false t o.op with
        | none => simp [hcall] at h
        | some fa =>
          obtain ⟨f, args⟩ := fa
          simp only [hcall] at h
          exact EDj_call hi hw (fun X w a hs => call_run hcall (fun x _ => den_evS_false hs.sat.xg hs.den x) h.1) h
      | false =>
        simp only [hco] at h
        exact EDj_mem hi hw (out := fun h => evOp E false h t (rwB ws B) o.op) (fun X w a hs => evOp_sound' hE (hs.sat.rw ws) hs.den (o := o) (st := false) (by simp)) fun hd => h hd
/-- What neither writes nor calls, first. -/
def preJ (ops : Array Oper) (late : List Nat) : List Nat → Array Bool → Bool
  | [], _ => true
  | i :: r, listed => (match ops[i]? with
    | none => false
    | some o => !(isCallOp o.op || isMemOp o.op) && (Region.free .any ops listed i && (Region.ready .any ops listed).contains i) && (!hasL late listed && late.all fun b => b != i && (match ops[b]? with
      | some ob => ob.after.any fun e => Region.binds .any e && e.on == i
      | none => true))) && preJ ops late r (listed.setIfInBounds i true)
def runJ (P : Program) (E : Env) (n : Nat) (ops : Array Oper) (late : List Nat) (ws : List Bool) (K : Slots → List Own → Prop) (m : Nat) : List Nat → Slots → List Own → Array Bool → Prop
  | [], t, B, listed => ED P n ops late ws t B K m listed
  | i :: r, t, B, listed => match ops[i]? with
    | none => False
    | some o => match o.guard with
      | some _ => False
      | none => match evOp E false (.void none) t (roB ws B) o.op with
        | ⟨v, _, c⟩ => pureOp o.op v ∧ c ∧ runJ P E n ops late ws K m r (setT n t o.dst v) B (listed.setIfInBounds i true)
theorem EDj_pre (hE : EnvOK P E) (hns : Region.noSelect ops = true) {m : Nat} : ∀ (ord : List Nat) (t : Slots) (B : List Own) (listed : Array Bool), preJ ops late ord listed = true → runJ P E n ops late ws K m ord t B listed → ED P n ops late ws t B K (m + ord.length) listed
  | [], t, B, listed, _, h => h
  | i :: r, t, B, listed, ho, h => by
    simp only [preJ, Bool.and_eq_true] at ho
    obtain ⟨ho, ho2⟩ := ho
    simp only [runJ] at h
    cases hi : ops[i]? with
    | none => simp [hi] at h
    | some o =>
      simp only [hi, Bool.and_eq_true] at h ho
      cases hg : o.guard with
      | some jw => simp [hg] at h
      | none =>
        have hw : ∀ X w a, St X w B t n a → Region.wanted o (yielded ops a.tmps) = true := fun X w a _ => by simp [Region.wanted, hg]
        simp only [hg] at h
        obtain ⟨h1, h2, h3⟩ := h
        refine ED_take (fuel := m + r.length) hi hns ho.1.2.1 ho.1.2.2 (by simpa using ho.2.1) (fun b hb => by have := List.all_eq_true.1 ho.2.2 b hb; simp only [Bool.and_eq_true, bne_iff_ne, ne_eq] at this; exact this.1) (fun b hb ob hob => by have := List.all_eq_true.1 ho.2.2 b hb; simp only [Bool.and_eq_true, hob, Array.any_eq_true] at this; obtain ⟨k, hk, h1⟩ := this.2; simp only [beq_iff_eq] at h1; exact ⟨_, Array.getElem_mem hk, h1⟩) (fun X w a hs => ?_) (EDj_pre hE hns r _ _ _ ho2 h3)
        obtain ⟨v, hd, hu⟩ := pure_st hE hs (st := false) (by simp) h1 h2
        exact ⟨v, .inl ⟨hw X w a hs, hu⟩, hd⟩
end
theorem getD'_app {B N : List Own} {j : Nat} : getD' (B ++ N) j = if j < B.length then getD' B j else getD' N (j - B.length) := by
  unfold getD'
  simp only [List.getD, List.getElem?_append]
  split <;> rfl
/-- A function that makes rows. -/
theorem EC.useN {P : Program} {f : Nat} {args : List SV} {B : List Own} {σ : Type} {C : σ → Prop} {N : σ → List Own} {R : σ → Nat → SV} {Q : SV → List Own → Prop}
    (hc : EC P f args [] fun r B' => ∃ s, C s ∧ r = R s 0 ∧ B' = N s) (hR : ∀ s i, SLe (R s 0) (R s i)) (hk : ∀ s, C s → Q (R s B.length) (B ++ N s)) : EC P f args B Q := by
  refine ⟨hc.1, fun X w vs hs hd => ?_⟩
  have h0 : Sat X w [] := hs.sub fun i => .inr (by simp [getD'])
  refine (hc.2 X w vs h0 hd).mono ?_
  rintro ex w' ⟨v, r, X', N', rfl, ⟨s, hC, rfl, rfl⟩, hsat, hden, hext⟩
  have hx : ∀ b, ¬ owns ([] : List Own) b := fun b ⟨i, hi⟩ => by simp [getD', Own.blocks] at hi
  have nb : ∀ i b, b ∈ (getD' (N s) i).blocks → w.heap.size ≤ b := fun i b hb => (hext.own b ⟨i, hb⟩).elim (fun ho => absurd ho (hx b)) id
  refine ⟨v, _, X', _, rfl, hk s hC, ⟨fun a b c h1 h2 => ?_, fun a b h1 => ?_, hsat.xg, fun b hb ⟨a, h1⟩ => ?_, fun a => ?_⟩, hR _ _ _ _ _ hden, ⟨hext.os, hext.tape, hext.output, hext.size, fun b hb _ => hext.block b hb (hx b), hext.xin, fun b hb => (hext.xout b hb).imp_right fun h => .inr (h.elim (fun ho => absurd ho (hx b)) id), fun b hb => ?_⟩⟩
  · rw [getD'_app] at h1 h2
    split at h1 <;> split at h2
    · exact hs.inj a b c h1 h2
    · have := nb _ c h2; have := hs.lt a c h1; omega
    · have := nb _ c h1; have := hs.lt b c h2; omega
    · have := hsat.inj _ _ c h1 h2; omega
  · rw [getD'_app] at h1
    split at h1
    · exact Nat.lt_of_lt_of_le (hs.lt a b h1) hext.size
    · exact hsat.lt _ b h1
  · rw [getD'_app] at h1
    split at h1
    · rcases hext.xout b hb with h | h | h
      · exact hs.apart b h ⟨a, h1⟩
      · exact hx b h
      · have := hs.lt a b h1; omega
    · exact hsat.apart b hb ⟨_, h1⟩
  · rw [getD'_app]
    split
    · exact Own.ok_mono (hs.ok a) hext.xin (fun b hb => hext.block b (hs.xlt b hb) (hx b)) fun b hb => hext.block b (hs.lt a b hb) (hx b)
    · exact hsat.ok _
  · obtain ⟨a, h1⟩ := hb
    rw [getD'_app] at h1
    split at h1
    · exact .inl ⟨a, h1⟩
    · exact .inr (nb _ b h1)
theorem Den.rowX {X X' : Nat → Prop} {w w' : World} {i j : Nat} {h : RowH} {e lo n : Nat} {v : Value} (hd : Den X w (.row i h e lo n) v) : Den X' w' (.row j h e lo n) v := by
  cases hd with
  | rowVoid => exact .rowVoid ..
  | rowAt _ _ _ _ _ h => exact .rowAt _ _ _ _ _ h
  | rowLo _ _ _ _ _ _ _ hn h => exact .rowLo _ _ _ _ _ _ _ hn h
  | rowLo0 => exact .rowLo0 ..
/-- Cells that do not hang on what is outside. -/
def freeC (s : SV) : Bool := foC s || match s with | .row .. => true | _ => false
theorem Den.freeC {X X' : Nat → Prop} {w w' : World} {s : SV} {v : Value} (h : Go.Lift.freeC s = true) (hd : Den X w s v) : Den X' w' s v := by
  cases s with
  | row i hh e lo n => exact hd.rowX
  | _ => exact hd.foC (by simpa [Go.Lift.freeC] using h)
def free : SV → Bool
  | .agg cs => cs.all freeC
  | s => freeC s
theorem Den.free {X X' : Nat → Prop} {w w' : World} {s : SV} {v : Value} (h : Go.Lift.free s = true) (hd : Den X w s v) : Den X' w' s v := by
  cases s with
  | agg cs =>
    cases hd with
    | agg hs hc =>
      refine .agg hs fun i c hi => (hc i c hi).freeC ?_
      simp only [Go.Lift.free, List.all_eq_true] at h
      exact h c (List.mem_of_getElem? hi)
  | _ => exact hd.freeC (by simpa [Go.Lift.free] using h)
def Own.free : Own → Prop
  | .row _ _ _ xs => ∀ x ∈ xs, ∀ c ∈ x, freeC c = true
  | .gone => True
theorem Own.ok_free {X X' : Nat → Prop} {w : World} {o : Own} (hf : o.free) (h : Own.ok X w o) : Own.ok X' w o := by
  cases o with
  | gone => trivial
  | row h0 E e xs =>
    cases h0 with
    | void a => exact h
    | mp b => exact h
    | «at» b cap =>
      obtain ⟨vs, h1, h2, h3, h4, h5⟩ := h
      exact ⟨vs, h1, h2, h3, h4, fun k j x c hx hc => (h5 k j x c hx hc).freeC (hf x (List.mem_of_getElem? hx) c (List.mem_of_getElem? hc))⟩
/-- Rows are lent to a callee that makes rows of its own, and names no others. -/
theorem EC.lendN {P : Program} {f : Nat} {args args' : List SV} {B : List Own} {σ : Type} {C : σ → Prop} {N : σ → List Own} {R : σ → Nat → SV} {Q : SV → List Own → Prop}
    (hc : EC P f args' [] fun r B' => ∃ s, C s ∧ r = R s 0 ∧ B' = N s) (ha : LFz 0 B args args') (hf : ∀ s, free (R s 0) = true) (hn : ∀ s i, (getD' (N s) i).free) (hR : ∀ s i, SLe (R s 0) (R s i)) (hk : ∀ s, C s → Q (R s B.length) (B ++ N s)) : EC P f args B Q := by
  have hb : ∀ i, getD' ([] : List Own) i = if fromM 0 i then .gone else getD' B i := fun i => by simp [fromM, getD']
  refine ⟨hc.1, fun X w vs hs hd => ?_⟩
  have hsp := ha.spec
  refine (hc.2 (withSel X B (fromM 0)) w vs (hs.drop_sel hb) ⟨by rw [hd.1, hsp.1], fun i c hc => ?_⟩).mono ?_
  · obtain ⟨d, h1, h2, h3⟩ := hsp.2 i c hc
    exact h3 _ _ _ (frzT_sound hs (hd.2 i d h1) h2)
  · rintro e w' ⟨v, r, X', B', he, ⟨s, hC, rfl, rfl⟩, hsat, hden, hext⟩
    have hx : ∀ b, ¬ owns ([] : List Own) b := fun b ⟨i, hi⟩ => by simp [getD', Own.blocks] at hi
    have hblk : ∀ b, b < w.heap.size → w'.heap[b]? = w.heap[b]? := fun b hb => hext.block b hb (hx b)
    have nb : ∀ i b, b ∈ (getD' (N s) i).blocks → w.heap.size ≤ b := fun i b hb => (hext.own b ⟨i, hb⟩).elim (fun ho => absurd ho (hx b)) id
    refine ⟨v, _, X, _, he, hk s hC, ⟨fun a b c h1 h2 => ?_, fun a b h1 => ?_, hs.xg.mono (fun _ h => h) (fun b hb => hblk b (hs.xlt b hb)) fun b h => Nat.lt_of_lt_of_le (hs.xlt b h) hext.size, fun b hb ⟨a, h1⟩ => ?_, fun a => ?_⟩, hR _ _ _ _ _ (hden.free (hf s)),
      ⟨hext.os, hext.tape, hext.output, hext.size, fun b hb _ => hblk b hb, fun _ h => h, fun _ h => .inl h, fun b hb => ?_⟩⟩
    · rw [getD'_app] at h1 h2
      split at h1 <;> split at h2
      · exact hs.inj a b c h1 h2
      · have := nb _ c h2; have := hs.lt a c h1; omega
      · have := nb _ c h1; have := hs.lt b c h2; omega
      · have := hsat.inj _ _ c h1 h2; omega
    · rw [getD'_app] at h1
      split at h1
      · exact Nat.lt_of_lt_of_le (hs.lt a b h1) hext.size
      · exact hsat.lt _ b h1
    · rw [getD'_app] at h1
      split at h1
      · exact hs.apart b hb ⟨a, h1⟩
      · have := nb _ b h1; have := hs.xlt b hb; omega
    · rw [getD'_app]
      split
      · exact Own.ok_mono (hs.ok a) (fun _ h => h) (fun b hb => hblk b (hs.xlt b hb)) fun b hb => hblk b (hs.lt a b hb)
      · exact Own.ok_free (hn s _) (hsat.ok _)
    · obtain ⟨a, h1⟩ := hb
      rw [getD'_app] at h1
      split at h1
      · exact .inl ⟨a, h1⟩
      · exact .inr (nb _ b h1)
/-- A row is given up, and the slice that names it is read as a list. -/
theorem EV_frzI {P : Program} {n : Nat} {t : Slots} {B : List Own} {Q : Post} {c : Code} (d i : Nat) {s : SV} (hi : i < B.length) (hk : frzKT (fun j => j == i) B (lkp t d)) (hs : SLe (frzT (fun j => j == i) B (lkp t d)) s)
    (h : EV P n c ((d, s) :: t) (B.set i .gone) Q) : EV P n c t B Q := by
  intro X0 w0 B0 X w a he hst
  have hb : ∀ j, getD' (B.set i .gone) j = if (fun j => j == i) j then .gone else getD' B j := fun j => by rw [getD'_set hi]; simp [beq_iff_eq]
  refine h X0 w0 B0 (withSel X B (fun j => j == i)) w a (he.trans (Ext.drop_sel hb)) ⟨hst.defers, hst.sat.drop_sel hb, hst.den.1, fun j => ?_⟩
  simp only [lkp]
  split
  · rename_i e; subst e; exact hs _ _ _ (frzT_sound hst.sat (hst.den.2 _) hk)
  · exact (hst.den.2 j).ext hst.sat (Ext.drop_sel hb)
/-- A slot is described more loosely. -/
theorem EV_le {P : Program} {n : Nat} {t : Slots} {B : List Own} {Q : Post} {c : Code} (d : Nat) {s : SV} (hs : SLe (lkp t d) s) (h : EV P n c ((d, s) :: t) B Q) : EV P n c t B Q := by
  intro X0 w0 B0 X w a he hst
  refine h X0 w0 B0 X w a he ⟨hst.defers, hst.sat, hst.den.1, fun j => ?_⟩
  simp only [lkp]
  split
  · rename_i e; subst e; exact hs _ _ _ (hst.den.2 _)
  · exact hst.den.2 j
attribute [push_cast] stepJ runJ
end Go.Lift
