/-
  Drawn regions in which two operations may come next: one of them is a call or makes memory, and so is the other.
-/
import Derived.Test.YtfmldmafigpblaaDoorLiftX
namespace Go.Lift
set_option linter.unusedVariables false
section
variable {P : Program} {E : Env} {n : Nat} {ws : List Bool} {ops : Array Oper} {t : Slots} {B : List Own} {K : Slots → List Own → Prop} {fuel : Nat} {listed : Array Bool}
def EDi (P : Program) (n : Nat) (ops : Array Oper) (ws : List Bool) (t : Slots) (B : List Own) (K : Slots → List Own → Prop) (fuel : Nat) (listed : Array Bool) (i : Nat) : Prop :=
  ∀ X0 w0 B0 X w a, Ext X0 w0 B0 X w B → St X w B t n a → wpOp P ops (GoodN n K X0 w0 B0) i (fun a' w' => (hasL [] (listed.setIfInBounds i true) = true ∨ Kept w (rwB ws B) w') ∧ wpAnyS P ops (GoodN n K X0 w0 B0) [] (Kept w (rwB ws B)) fuel (listed.setIfInBounds i true) a' w') a w
theorem ED_two {i j : Nat} (hr : Region.ready .any ops listed = [i, j]) (h1 : EDi P n ops ws t B K fuel listed i) (h2 : EDi P n ops ws t B K fuel listed j) : ED P n ops [] ws t B K (fuel + 1) listed := by
  intro X0 w0 B0 X w a he hs
  refine wpAnyS_all hr (by simp) fun k hk => ?_
  simp only [List.mem_cons, List.not_mem_nil, or_false] at hk
  rcases hk with rfl | rfl
  · exact h1 X0 w0 B0 X w a he hs
  · exact h2 X0 w0 B0 X w a he hs
theorem EDi_call {i : Nat} {o : Oper} {f : FuncId} {args : List SV} (hi : ops[i]? = some o) (hw : ∀ X w a, St X w B t n a → Region.wanted o (yielded ops a.tmps) = true)
    (hrun : ∀ X w a, St X w B t n a → ∃ vals, (execOp a.eval o).run P w = .ok (.enter f vals) w ∧ DenL X w args vals)
    (h : EC P f args (rwB ws B) fun s B' => ED P n ops [] ws (setT n t o.dst s) (mrB ws B B') K fuel (listed.setIfInBounds i true)) : EDi P n ops ws t B K fuel listed i := by
  intro X0 w0 B0 X w a he hs
  unfold wpOp
  simp only [hi]
  rw [if_pos (hw X w a hs)]
  left
  obtain ⟨vals, h1, h2⟩ := hrun X w a hs
  unfold Oper.wp
  rw [h1]
  simp only [Oper.upon]
  refine (h.2 X w vals (hs.sat.rw ws) h2).mono ?_
  rintro e w' ⟨v, s, X', B', rfl, hK, hsat0, hden, hext0⟩
  simp only
  obtain ⟨hsat, hext⟩ := hs.sat.merge hsat0 hext0
  have hst : St X' w' (mrB ws B B') (setT n t o.dst s) n (a.put o.dst v) := by
    refine ⟨?_, hsat, ?_⟩
    · have := hs.defers; cases o.dst <;> simpa [Act.put] using this
    · exact denT_put ⟨hs.den.1, fun i => (hs.den.2 i).ext hs.sat hext⟩ hden
  exact ⟨.inr (Kept.ext hext0), wpAnyS_weak (fun w'' hk => Kept.transW hext0 (fun b hb => owns_mr hb) hk) _ _ _ _ (hK X0 w0 B0 X' w' _ (he.trans hext) hst)⟩
theorem EDi_mem {i : Nat} {o : Oper} {out : RowH → Out} (hi : ops[i]? = some o) (hw : ∀ X w a, St X w B t n a → Region.wanted o (yielded ops a.tmps) = true)
    (hu : ∀ X w a, St X w B t n a → ∃ h, (out h).vc → Done P X w (rwB ws B) (execOp a.eval o) (out h)) (hh : ∀ h, (out h).vc ∧ ED P n ops [] ws (setT n t o.dst (out h).v) (mrB ws B (out h).B) K fuel (listed.setIfInBounds i true)) : EDi P n ops ws t B K fuel listed i := by
  intro X0 w0 B0 X w a he hs
  unfold wpOp
  simp only [hi]
  rw [if_pos (hw X w a hs)]
  left
  obtain ⟨hd, hu⟩ := hu X w a hs
  obtain ⟨hvc, h⟩ := hh hd
  obtain ⟨v, w', h1, hsat0, hden, hext0⟩ := hu hvc
  obtain ⟨hsat, hext⟩ := hs.sat.merge hsat0 hext0
  have hst : St X w' (mrB ws B (out hd).B) (setT n t o.dst (out hd).v) n (a.put o.dst v) := by
    refine ⟨?_, hsat, ?_⟩
    · have := hs.defers; cases o.dst <;> simpa [Act.put] using this
    · exact denT_put ⟨hs.den.1, fun i => (hs.den.2 i).ext hs.sat hext⟩ hden
  have key : (hasL [] (listed.setIfInBounds i true) = true ∨ Kept w (rwB ws B) w') ∧ wpAnyS P ops (GoodN n K X0 w0 B0) [] (Kept w (rwB ws B)) fuel (listed.setIfInBounds i true) (a.put o.dst v) w' :=
    ⟨.inr (Kept.ext hext0), wpAnyS_weak (fun w'' hk => Kept.transW hext0 (fun b hb => owns_mr hb) hk) _ _ _ _ (h X0 w0 B0 X w' _ (he.trans hext) hst)⟩
  unfold Oper.wp
  rcases h1 with h1 | ⟨h1, rfl⟩
  · rw [h1]; simp only [Oper.upon]; exact key
  · rw [h1]; simp only [Oper.upon]; exact key
def stepI (P : Program) (E : Env) (n : Nat) (ops : Array Oper) (ws : List Bool) (t : Slots) (B : List Own) (K : Slots → List Own → Prop) (fuel : Nat) (listed : Array Bool) (i : Nat) : Prop :=
  match ops[i]? with
  | none => False
  | some o => match o.guard with
    | some _ => False
    | none => match isCallOp o.op with
      | true => match callOf false t o.op with
        | some (f, args) => EC P f args (rwB ws B) fun s B' => ED P n ops [] ws (setT n t o.dst s) (mrB ws B B') K fuel (listed.setIfInBounds i true)
        | none => False
      | false => ∀ h, match evOp E false h t (rwB ws B) o.op with
        | ⟨v, B', c⟩ => c ∧ ED P n ops [] ws (setT n t o.dst v) (mrB ws B B') K fuel (listed.setIfInBounds i true)
theorem EDi_step (hE : EnvOK P E) {i : Nat} (h : stepI P E n ops ws t B K fuel listed i) : EDi P n ops ws t B K fuel listed i := by
  unfold stepI at h
  cases hi : ops[i]? with
  | none => simp [hi] at h
  | some o =>
    simp only [hi] at h
    cases hg : o.guard with
    | some jw => simp [hg] at h
    | none =>
      have hw : ∀ X w a, St X w B t n a → Region.wanted o (yielded ops a.tmps) = true := fun X w a _ => by simp [Region.wanted, hg]
      simp only [hg] at h
      cases hco : isCallOp o.op with
      | true =>
        simp only [hco] at h
        cases hcall : callOf false t o.op with
        | none => simp [hcall] at h
        | some fa =>
          obtain ⟨f, args⟩ := fa
          simp only [hcall] at h
          exact EDi_call hi hw (fun X w a hs => call_run hcall (fun x _ => den_evS_false hs.sat.xg hs.den x) h.1) h
      | false =>
        simp only [hco] at h
        exact EDi_mem hi hw (out := fun h => evOp E false h t (rwB ws B) o.op) (fun X w a hs => evOp_sound' hE (hs.sat.rw ws) hs.den (o := o) (st := false) (by simp)) fun hd => h hd
/-- What neither writes nor calls, first. -/
def preOK (ops : Array Oper) : List Nat → Array Bool → Bool
  | [], _ => true
  | i :: r, listed => (match ops[i]? with
    | none => false
    | some o => !(isCallOp o.op || isMemOp o.op) && (Region.free .any ops listed i && (Region.ready .any ops listed).contains i)) && preOK ops r (listed.setIfInBounds i true)
def runP (P : Program) (E : Env) (n : Nat) (ops : Array Oper) (ws : List Bool) (K : Slots → List Own → Prop) (m : Nat) : List Nat → Slots → List Own → Array Bool → Prop
  | [], t, B, listed => ED P n ops [] ws t B K m listed
  | i :: r, t, B, listed => match ops[i]? with
    | none => False
    | some o => match o.guard with
      | some _ => False
      | none => match evOp E false (.void none) t (roB ws B) o.op with
        | ⟨v, _, c⟩ => pureOp o.op v ∧ c ∧ runP P E n ops ws K m r (setT n t o.dst v) B (listed.setIfInBounds i true)
theorem ED_pre (hE : EnvOK P E) (hns : Region.noSelect ops = true) {m : Nat} : ∀ (ord : List Nat) (t : Slots) (B : List Own) (listed : Array Bool), preOK ops ord listed = true → runP P E n ops ws K m ord t B listed → ED P n ops [] ws t B K (m + ord.length) listed
  | [], t, B, listed, _, h => h
  | i :: r, t, B, listed, ho, h => by
    simp only [preOK, Bool.and_eq_true] at ho
    obtain ⟨ho, ho2⟩ := ho
    simp only [runP] at h
    cases hi : ops[i]? with
    | none => simp [hi] at h
    | some o =>
      simp only [hi, Bool.and_eq_true] at h ho
      cases hg : o.guard with
      | some jw => simp [hg] at h
      | none =>
        have hw : ∀ X w a, St X w B t n a → Region.wanted o (yielded ops a.tmps) = true := fun X w a _ => by simp [Region.wanted, hg]
        simp only [hg] at h
        obtain ⟨h1, h2, h3⟩ := h
        refine ED_take (fuel := m + r.length) hi hns ho.2.1 ho.2.2 (by simp [hasL]) (by simp) (by simp) (fun X w a hs => ?_) (ED_pre hE hns r _ _ _ ho2 h3)
        obtain ⟨v, hd, hu⟩ := pure_st hE hs (st := false) (by simp) h1 h2
        exact ⟨v, .inl ⟨hw X w a hs, hu⟩, hd⟩
end
attribute [push_cast] stepI runP
end Go.Lift
