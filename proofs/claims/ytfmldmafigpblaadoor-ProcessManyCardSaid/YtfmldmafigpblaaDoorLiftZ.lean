/-
  Drawn regions with two operations that make memory and hang on nothing: they may come at any time. Four states go side by side: neither, the one, the other, both.
-/
import Derived.Test.YtfmldmafigpblaaDoorLiftY
namespace Go.Lift
set_option linter.unusedVariables false
section
variable {P : Program} {E : Env} {n : Nat} {ws : List Bool} {ops : Array Oper} {t t' : Slots} {B : List Own} {K : Slots → List Own → Prop} {fuel : Nat} {listed : Array Bool}
theorem getD'_setZ {B : List Own} {m i : Nat} {o : Own} (hm : m < B.length) : getD' (B.set m o) i = if i = m then o else getD' B i := by
  simp only [getD', List.getD_eq_getElem?_getD, List.getElem?_set]
  by_cases e : m = i
  · subst e; simp [hm]
  · simp [e, Ne.symm e]
theorem owns_nil {b : Nat} : ¬ owns [] b := by rintro ⟨i, hi⟩; simp [getD', Own.blocks] at hi
/-- One more row, in a place that was empty. -/
theorem Sat.addAt {X X' : Nat → Prop} {w w' : World} {B : List Own} {m : Nat} {o : Own} (hs : Sat X w B) (hn : Sat X' w' [o]) (he : Ext X w [] X' w' [o]) (hm : m < B.length) (hg : getD' B m = .gone) : Sat X' w' (B.set m o) ∧ Ext X w B X' w' (B.set m o) := by
  have hb : ∀ b, b ∈ o.blocks → w.heap.size ≤ b := fun b hb => (he.own b ⟨0, by simpa [getD'] using hb⟩).elim (fun h => absurd h owns_nil) id
  refine ⟨⟨fun i j b h1 h2 => ?_, fun i b h1 => ?_, hn.xg, fun b hx ⟨i, hi⟩ => ?_, fun i => ?_⟩, ⟨he.os, he.tape, he.output, he.size, fun b hb _ => he.block b hb owns_nil, he.xin, fun b hx => ?_, fun b ⟨i, hi⟩ => ?_⟩⟩
  · rw [getD'_setZ hm] at h1 h2
    split at h1 <;> split at h2
    · omega
    · have := hb b h1; have := hs.lt j b h2; omega
    · have := hb b h2; have := hs.lt i b h1; omega
    · exact hs.inj i j b h1 h2
  · rw [getD'_setZ hm] at h1
    split at h1
    · exact hn.lt 0 b (by simpa [getD'] using h1)
    · exact Nat.lt_of_lt_of_le (hs.lt i b h1) he.size
  · rw [getD'_setZ hm] at hi
    split at hi
    · exact hn.apart b hx ⟨0, by simpa [getD'] using hi⟩
    · rcases he.xout b hx with h | h | h
      · exact hs.apart b h ⟨i, hi⟩
      · exact owns_nil h
      · have := hs.lt i b hi; omega
  · rw [getD'_setZ hm]
    split
    · simpa [getD'] using hn.ok 0
    · exact Own.ok_mono (hs.ok i) he.xin (fun b hb => he.block b (hs.xlt b hb) owns_nil) fun b hb => he.block b (hs.lt i b hb) owns_nil
  · rcases he.xout b hx with h | h | h
    · exact .inl h
    · exact absurd h owns_nil
    · exact .inr (.inr h)
  · rw [getD'_setZ hm] at hi
    split at hi
    · exact .inr (hb b hi)
    · exact .inl ⟨i, hi⟩
theorem Kept.transA {X X' : Nat → Prop} {w w1 w2 : World} {B1 C : List Own} (h : Ext X w [] X' w1 B1) (k : Kept w1 C w2) : Kept w C w2 :=
  ⟨k.os.trans h.os, k.tape.trans h.tape, k.output.trans h.output, Nat.le_trans h.size k.size, fun b hb hn => (k.block b (Nat.lt_of_lt_of_le hb h.size) hn).trans (h.block b hb owns_nil)⟩
theorem Kept.sub {w w1 : World} {C C' : List Own} (k : Kept w C' w1) (h : ∀ b, owns C' b → owns C b) : Kept w C w1 := ⟨k.os, k.tape, k.output, k.size, fun b hb hn => k.block b hb fun ho => hn (h b ho)⟩
/-- What an operation of this kind makes. -/
structure Flt where
  i : Nat
  d : Nat
  m : Nat
  row : RowH → Own
  sv : RowH → SV
def FltOK (E : Env) (ops : Array Oper) (F : Flt) : Prop := match ops[F.i]? with
  | some o => o.guard = none ∧ o.dst = some F.d ∧ ∀ h, match evOp E false h [] [] o.op with
    | ⟨v, B, c⟩ => c ∧ B = [F.row h] ∧ SLe v (F.sv h)
  | none => False
theorem rwB_set {ws : List Bool} : ∀ {B : List Own} {m : Nat} {o : Own}, ws[m]? = some false → rwB ws (B.set m o) = rwB ws B := by
  induction ws with
  | nil => intro B m o h; simp at h
  | cons a r ih =>
    intro B m o h
    cases B with
    | nil => simp
    | cons b B =>
      cases m with
      | zero => simp at h; subst h; rfl
      | succ m =>
        simp only [List.set_cons_succ]
        have := ih (B := B) (m := m) (o := o) (by simpa using h)
        cases a <;> simp [rwB, this]
theorem Kept.step {X X' : Nat → Prop} {w w1 w2 : World} {C C1 C2 B1 : List Own} (h : Ext X w C X' w1 B1) (hc : ∀ b, b < w.heap.size → owns C b → owns C1 b) (k : Kept w1 C2 w2) (hb : ∀ b, b < w.heap.size → owns C2 b → owns C1 b) : Kept w C1 w2 :=
  ⟨k.os.trans h.os, k.tape.trans h.tape, k.output.trans h.output, Nat.le_trans h.size k.size, fun b hl hn => (k.block b (Nat.lt_of_lt_of_le hl h.size) fun ho => hn (hb b hl ho)).trans (h.block b hl fun ho => hn (hc b hl ho))⟩
/-- 'fs' hides more rows than 'ws' says are only read. -/
def leM : List Bool → List Bool → Bool
  | [], _ => true
  | a :: r, fs => (a || fs.head? == some false) && leM r fs.tail
theorem leM_spec : ∀ {ws fs : List Bool} {i : Nat}, leM ws fs = true → ronly ws i = true → ronly fs i = true
  | [], _, _, _, h => by simp [ronly] at h
  | a :: r, fs, i, hl, h => by
    simp only [leM, Bool.and_eq_true] at hl
    cases fs with
    | nil => cases i with
      | zero => simp [ronly] at h; subst h; simp at hl
      | succ i => have := leM_spec (i := i) hl.2 (by simpa [ronly] using h); simp [ronly] at this
    | cons f fs => cases i with
      | zero => simp [ronly] at h; subst h; simpa [ronly] using hl.1
      | succ i => have := leM_spec (i := i) hl.2 (by simpa [ronly] using h); simpa [ronly] using this
theorem owns_le {ws fs : List Bool} {B : List Own} {b : Nat} (hl : leM ws fs = true) (h : owns (rwB fs B) b) : owns (rwB ws B) b := by
  obtain ⟨i, hi⟩ := h
  rw [rwB_get] at hi
  split at hi
  · simp [Own.blocks] at hi
  · rename_i hne
    exact ⟨i, by rw [rwB_get, if_neg fun h => hne (leM_spec hl h)]; exact hi⟩
theorem owns_mrF {ws fs : List Bool} {X X' : Nat → Prop} {w w' : World} {B B' : List Own} {b : Nat} (hl : leM ws fs = true) (he : Ext X w (rwB fs B) X' w' B') (hb : b < w.heap.size) (h : owns (rwB ws (mrB fs B B')) b) : owns (rwB ws B) b := by
  obtain ⟨i, hi⟩ := h
  rw [rwB_get] at hi
  split at hi
  · simp [Own.blocks] at hi
  · rename_i hne
    rw [mrB_get] at hi
    split at hi
    · exact ⟨i, by rw [rwB_get, if_neg hne]; exact hi⟩
    · rcases he.own b ⟨i, hi⟩ with h | h
      · exact owns_le hl h
      · omega
theorem EDi_callF {fs : List Bool} (hl : leM ws fs = true) {i : Nat} {o : Oper} {f : FuncId} {args : List SV} (hi : ops[i]? = some o) (hw : ∀ X w a, St X w B t n a → Region.wanted o (yielded ops a.tmps) = true)
    (hrun : ∀ X w a, St X w B t n a → ∃ vals, (execOp a.eval o).run P w = .ok (.enter f vals) w ∧ DenL X w args vals)
    (h : EC P f args (rwB fs B) fun s B' => ED P n ops [] ws (setT n t o.dst s) (mrB fs B B') K fuel (listed.setIfInBounds i true)) : EDi P n ops ws t B K fuel listed i := by
  intro X0 w0 B0 X w a he hs
  unfold wpOp
  simp only [hi]
  rw [if_pos (hw X w a hs)]
  left
  obtain ⟨vals, h1, h2⟩ := hrun X w a hs
  unfold Oper.wp
  rw [h1]
  simp only [Oper.upon]
  refine (h.2 X w vals (hs.sat.rw fs) h2).mono ?_
  rintro e w' ⟨v, s, X', B', rfl, hK, hsat0, hden, hext0⟩
  simp only
  obtain ⟨hsat, hext⟩ := hs.sat.merge hsat0 hext0
  have hst : St X' w' (mrB fs B B') (setT n t o.dst s) n (a.put o.dst v) := by
    refine ⟨?_, hsat, ?_⟩
    · have := hs.defers; cases o.dst <;> simpa [Act.put] using this
    · exact denT_put ⟨hs.den.1, fun i => (hs.den.2 i).ext hs.sat hext⟩ hden
  exact ⟨.inr (Kept.sub (Kept.ext hext0) fun b => owns_le hl), wpAnyS_weak (fun w'' hk => Kept.step hext0 (fun b _ => owns_le hl) hk fun b hb => owns_mrF hl hext0 hb) _ _ _ _ (hK X0 w0 B0 X' w' _ (he.trans hext) hst)⟩
theorem EDi_memF {fs : List Bool} (hl : leM ws fs = true) {i : Nat} {o : Oper} {out : RowH → Out} (hi : ops[i]? = some o) (hw : ∀ X w a, St X w B t n a → Region.wanted o (yielded ops a.tmps) = true)
    (hu : ∀ X w a, St X w B t n a → ∃ h, (out h).vc → Done P X w (rwB fs B) (execOp a.eval o) (out h)) (hh : ∀ h, (out h).vc ∧ ED P n ops [] ws (setT n t o.dst (out h).v) (mrB fs B (out h).B) K fuel (listed.setIfInBounds i true)) : EDi P n ops ws t B K fuel listed i := by
  intro X0 w0 B0 X w a he hs
  unfold wpOp
  simp only [hi]
  rw [if_pos (hw X w a hs)]
  left
  obtain ⟨hd, hu⟩ := hu X w a hs
  obtain ⟨hvc, h⟩ := hh hd
  obtain ⟨v, w', h1, hsat0, hden, hext0⟩ := hu hvc
  obtain ⟨hsat, hext⟩ := hs.sat.merge hsat0 hext0
  have hst : St X w' (mrB fs B (out hd).B) (setT n t o.dst (out hd).v) n (a.put o.dst v) := by
    refine ⟨?_, hsat, ?_⟩
    · have := hs.defers; cases o.dst <;> simpa [Act.put] using this
    · exact denT_put ⟨hs.den.1, fun i => (hs.den.2 i).ext hs.sat hext⟩ hden
  have key : (hasL [] (listed.setIfInBounds i true) = true ∨ Kept w (rwB ws B) w') ∧ wpAnyS P ops (GoodN n K X0 w0 B0) [] (Kept w (rwB ws B)) fuel (listed.setIfInBounds i true) (a.put o.dst v) w' :=
    ⟨.inr (Kept.sub (Kept.ext hext0) fun b => owns_le hl), wpAnyS_weak (fun w'' hk => Kept.step hext0 (fun b _ => owns_le hl) hk fun b hb => owns_mrF hl hext0 hb) _ _ _ _ (h X0 w0 B0 X w' _ (he.trans hext) hst)⟩
  unfold Oper.wp
  rcases h1 with h1 | ⟨h1, rfl⟩
  · rw [h1]; simp only [Oper.upon]; exact key
  · rw [h1]; simp only [Oper.upon]; exact key
def stepF (P : Program) (E : Env) (n : Nat) (ops : Array Oper) (ws fs : List Bool) (t : Slots) (B : List Own) (K : Slots → List Own → Prop) (fuel : Nat) (listed : Array Bool) (i : Nat) : Prop :=
  match ops[i]? with
  | none => False
  | some o => match o.guard with
    | some _ => False
    | none => match isCallOp o.op with
      | true => match callOf false t o.op with
        | some (f, args) => EC P f args (rwB fs B) fun s B' => ED P n ops [] ws (setT n t o.dst s) (mrB fs B B') K fuel (listed.setIfInBounds i true)
        | none => False
      | false => ∀ h, match evOp E false h t (rwB fs B) o.op with
        | ⟨v, B', c⟩ => c ∧ ED P n ops [] ws (setT n t o.dst v) (mrB fs B B') K fuel (listed.setIfInBounds i true)
theorem EDi_stepF (hE : EnvOK P E) {fs : List Bool} (hl : leM ws fs = true) {i : Nat} (h : stepF P E n ops ws fs t B K fuel listed i) : EDi P n ops ws t B K fuel listed i := by
  unfold stepF at h
  cases hi : ops[i]? with
  | none => simp [hi] at h
  | some o =>
    simp only [hi] at h
    cases hg : o.guard with
    | some jw => simp [hg] at h
    | none =>
      have hw : ∀ X w a, St X w B t n a → Region.wanted o (yielded ops a.tmps) = true := fun X w a _ => by simp [Region.wanted, hg]
      simp only [hg] at h
      cases hco : isCallOp o.op with
      | true =>
        simp only [hco] at h
        cases hcall : callOf false t o.op with
        | none => simp [hcall] at h
        | some fa =>
          obtain ⟨f, args⟩ := fa
          simp only [hcall] at h
          exact EDi_callF hl hi hw (fun X w a hs => call_run hcall (fun x _ => den_evS_false hs.sat.xg hs.den x) h.1) h
      | false =>
        simp only [hco] at h
        exact EDi_memF hl hi hw (out := fun h => evOp E false h t (rwB fs B) o.op) (fun X w a hs => evOp_sound' hE (hs.sat.rw fs) hs.den (o := o) (st := false) (by simp)) fun hd => h hd
theorem EDi_flt (hE : EnvOK P E) {F : Flt} (hF : FltOK E ops F) (hm : F.m < B.length) (hg : getD' B F.m = .gone)
    (h : ∀ h, ED P n ops [] ws (setT n t (some F.d) (F.sv h)) (B.set F.m (F.row h)) K fuel (listed.setIfInBounds F.i true)) : EDi P n ops ws t B K fuel listed F.i := by
  unfold FltOK at hF
  cases hi : ops[F.i]? with
  | none => simp [hi] at hF
  | some o =>
    simp only [hi] at hF
    obtain ⟨hgu, hdst, hev⟩ := hF
    intro X0 w0 B0 X w a he hs
    unfold wpOp
    simp only [hi]
    rw [if_pos (by simp [Region.wanted, hgu])]
    left
    have hs0 : Sat X w [] := hs.sat.sub fun i => .inr (by simp [getD'])
    have hd0 : DenT X w [] n a.tmps := ⟨hs.den.1, fun i => .any _⟩
    obtain ⟨hd, hu⟩ := evOp_sound' (P := P) (E := E) (n := n) (t := []) (a := a) (o := o) (st := false) hE hs0 hd0 (by simp)
    have hv := hev hd
    generalize evOp E false hd [] [] o.op = out at hu hv
    obtain ⟨v0, B', c⟩ := out
    obtain ⟨h1, rfl, h3⟩ := hv
    obtain ⟨v, w', hrun, hsat0, hden, hext0⟩ := hu h1
    simp only at hsat0 hden hext0
    obtain ⟨hsat, hext⟩ := hs.sat.addAt hsat0 hext0 hm hg
    have hst : St X w' (B.set F.m (F.row hd)) (setT n t o.dst (F.sv hd)) n (a.put o.dst v) := by
      refine ⟨?_, hsat, ?_⟩
      · have := hs.defers; cases o.dst <;> simpa [Act.put] using this
      · exact denT_put ⟨hs.den.1, fun i => (hs.den.2 i).ext hs.sat hext⟩ (h3 _ _ _ hden)
    rw [hdst] at hst
    have key : (hasL [] (listed.setIfInBounds F.i true) = true ∨ Kept w (rwB ws B) w') ∧ wpAnyS P ops (GoodN n K X0 w0 B0) [] (Kept w (rwB ws B)) fuel (listed.setIfInBounds F.i true) (a.put o.dst v) w' := by
      refine ⟨.inr (Kept.transA hext0 (Kept.refl _ _)), ?_⟩
      rw [hdst]
      have := h hd X0 w0 B0 X w' _ (he.trans hext) hst
      refine wpAnyS_weak (fun w'' hk => ?_) _ _ _ _ this
      refine Kept.step hext0 (fun b _ h => absurd h owns_nil) hk fun b hb ⟨i, hi⟩ => ⟨i, ?_⟩
      rw [rwB_get] at hi ⊢
      split at hi
      · simp [Own.blocks] at hi
      · rename_i hne
        rw [if_neg hne]
        rw [getD'_setZ hm] at hi
        split at hi
        · have := hext0.own b ⟨0, by simpa [getD'] using hi⟩
          rcases this with h | h
          · exact absurd h owns_nil
          · omega
        · exact hi
    unfold Oper.wp
    rcases hrun with hrun | ⟨hrun, rfl⟩
    · rw [hrun]; simp only [Oper.upon]; exact key
    · rw [hrun]; simp only [Oper.upon]; exact key
def readyIn (ops : Array Oper) (listed : Array Bool) (rs : List Nat) : Bool := (Region.ready .any ops listed).all (fun k => rs.contains k) && !(Region.ready .any ops listed).isEmpty
theorem ED_many {rs : List Nat} (hr : readyIn ops listed rs = true) (h : ∀ i ∈ rs, EDi P n ops ws t B K fuel listed i) : ED P n ops [] ws t B K (fuel + 1) listed := by
  intro X0 w0 B0 X w a he hs
  simp only [readyIn, Bool.and_eq_true, List.all_eq_true, Bool.not_eq_true', List.isEmpty_eq_false_iff] at hr
  exact wpAnyS_all rfl hr.2 fun k hk => h k (by simpa using hr.1 k hk) X0 w0 B0 X w a he hs
theorem ED_wk (h : wkS t t') (hv : ED P n ops [] ws t' B K fuel listed) : ED P n ops [] ws t B K fuel listed := fun X0 w0 B0 X w a he hs => by
  have := hs.weak h B.length
  rw [List.take_length] at this
  exact hv X0 w0 B0 X w a he this
/-- Empty places behind the rows. -/
theorem ED_pad (k : Nat) (h : ED P n ops [] ws t (B ++ List.replicate k .gone) K fuel listed) : ED P n ops [] ws t B K fuel listed := by
  have hget : ∀ i, getD' (B ++ List.replicate k .gone) i = getD' B i := fun i => by
    simp only [getD', List.getD_eq_getElem?_getD]
    by_cases hi : i < B.length
    · rw [List.getElem?_append_left hi]
    · rw [List.getElem?_append_right (by omega), List.getElem?_eq_none (show B.length ≤ i by omega)]
      by_cases h2 : i - B.length < k
      · simp [h2]
      · simp [h2]
  have hown : ∀ b, owns (B ++ List.replicate k .gone) b → owns B b := fun b ⟨i, hi⟩ => ⟨i, by rwa [hget] at hi⟩
  have hown2 : ∀ b, owns (rwB ws (B ++ List.replicate k .gone)) b → owns (rwB ws B) b := fun b ⟨i, hi⟩ => ⟨i, by rwa [rwB_get, hget, ← rwB_get] at hi⟩
  intro X0 w0 B0 X w a he hs
  have h1 : Sat X w (B ++ List.replicate k .gone) := hs.sat.sub fun i => .inl (hget i)
  have h2 : Ext X w B X w (B ++ List.replicate k .gone) := ⟨rfl, rfl, rfl, Nat.le_refl _, fun _ _ _ => rfl, fun _ h => h, fun _ h => .inl h, fun b hb => .inl (hown b hb)⟩
  exact wpAnyS_weak (fun w'' hk => Kept.sub hk hown2) _ _ _ _ (h X0 w0 B0 X w a (he.trans h2) ⟨hs.defers, h1, hs.den⟩)
theorem ED_tr {B' : List Own} {listed' : Array Bool} (hl : listed' = listed) (hB : B' = B) (ht : wkS t t') (h : ED P n ops [] ws t' B' K fuel listed') : ED P n ops [] ws t B K fuel listed := by
  subst hl hB; exact ED_wk ht h
/-! The four states. -/
variable {A C : Flt} {t0 : Slots} {B0 : List Own} {l0 lA lC lX : Array Bool} {f0 fA fC fX : Nat} {tA tC : RowH → Slots} {BA BC : RowH → List Own} {tX : RowH → RowH → Slots} {BX : RowH → RowH → List Own}
theorem ED4_start (h : ∀ a c, ED P n ops [] ws t B K (fuel + 2) listed ∧ ED P n ops [] ws (setT n t (some A.d) (A.sv a)) (B.set A.m (A.row a)) K (fuel + 1) (listed.setIfInBounds A.i true) ∧
    ED P n ops [] ws (setT n t (some C.d) (C.sv c)) (B.set C.m (C.row c)) K (fuel + 1) (listed.setIfInBounds C.i true) ∧
    ED P n ops [] ws (setT n (setT n t (some A.d) (A.sv a)) (some C.d) (C.sv c)) ((B.set A.m (A.row a)).set C.m (C.row c)) K fuel ((listed.setIfInBounds A.i true).setIfInBounds C.i true)) : ED P n ops [] ws t B K (fuel + 2) listed := (h (.void none) (.void none)).1
/-- The next operation of the four states; the others may come in between. -/
theorem ED4_step (hE : EnvOK P E) (fs : List Bool) (hl : leM ws fs = true) (j : Nat) (A C : Flt) (hA : FltOK E ops A) (hC : FltOK E ops C)
    (r0 : readyIn ops l0 [j, A.i, C.i] = true) (rA : readyIn ops lA [j, C.i] = true) (rC : readyIn ops lC [j, A.i] = true) (rX : readyIn ops lX [j] = true)
    (g0A : A.m < B0.length ∧ getD' B0 A.m = .gone) (g0C : C.m < B0.length ∧ getD' B0 C.m = .gone) (gA : ∀ a, C.m < (BA a).length ∧ getD' (BA a) C.m = .gone) (gC : ∀ c, A.m < (BC c).length ∧ getD' (BC c) A.m = .gone)
    (t0A : ∀ a, ED P n ops [] ws (tA a) (BA a) K (fA + 1) lA → ED P n ops [] ws (setT n t0 (some A.d) (A.sv a)) (B0.set A.m (A.row a)) K f0 (l0.setIfInBounds A.i true))
    (t0C : ∀ c, ED P n ops [] ws (tC c) (BC c) K (fC + 1) lC → ED P n ops [] ws (setT n t0 (some C.d) (C.sv c)) (B0.set C.m (C.row c)) K f0 (l0.setIfInBounds C.i true))
    (tAX : ∀ a c, ED P n ops [] ws (tX a c) (BX a c) K (fX + 1) lX → ED P n ops [] ws (setT n (tA a) (some C.d) (C.sv c)) ((BA a).set C.m (C.row c)) K fA (lA.setIfInBounds C.i true))
    (tCX : ∀ a c, ED P n ops [] ws (tX a c) (BX a c) K (fX + 1) lX → ED P n ops [] ws (setT n (tC c) (some A.d) (A.sv a)) ((BC c).set A.m (A.row a)) K fC (lC.setIfInBounds A.i true))
    (h : ∀ a c, stepF P E n ops ws fs t0 B0 K f0 l0 j ∧ stepF P E n ops ws fs (tA a) (BA a) K fA lA j ∧ stepF P E n ops ws fs (tC c) (BC c) K fC lC j ∧ stepF P E n ops ws fs (tX a c) (BX a c) K fX lX j) :
    ∀ a c, ED P n ops [] ws t0 B0 K (f0 + 1) l0 ∧ ED P n ops [] ws (tA a) (BA a) K (fA + 1) lA ∧ ED P n ops [] ws (tC c) (BC c) K (fC + 1) lC ∧ ED P n ops [] ws (tX a c) (BX a c) K (fX + 1) lX := by
  have hX : ∀ a c, ED P n ops [] ws (tX a c) (BX a c) K (fX + 1) lX := fun a c => ED_many rX fun i hi => by
    simp only [List.mem_cons, List.not_mem_nil, or_false] at hi
    subst hi; exact EDi_stepF hE hl (h a c).2.2.2
  have hAA : ∀ a, ED P n ops [] ws (tA a) (BA a) K (fA + 1) lA := fun a => ED_many rA fun i hi => by
    simp only [List.mem_cons, List.not_mem_nil, or_false] at hi
    rcases hi with rfl | rfl
    · exact EDi_stepF hE hl (h a (.void none)).2.1
    · exact EDi_flt hE hC (gA a).1 (gA a).2 fun c => tAX a c (hX a c)
  have hCC : ∀ c, ED P n ops [] ws (tC c) (BC c) K (fC + 1) lC := fun c => ED_many rC fun i hi => by
    simp only [List.mem_cons, List.not_mem_nil, or_false] at hi
    rcases hi with rfl | rfl
    · exact EDi_stepF hE hl (h (.void none) c).2.2.1
    · exact EDi_flt hE hA (gC c).1 (gC c).2 fun a => tCX a c (hX a c)
  have h0 : ED P n ops [] ws t0 B0 K (f0 + 1) l0 := ED_many r0 fun i hi => by
    simp only [List.mem_cons, List.not_mem_nil, or_false] at hi
    rcases hi with rfl | rfl | rfl
    · exact EDi_stepF hE hl (h (.void none) (.void none)).1
    · exact EDi_flt hE hA g0A.1 g0A.2 fun a => t0A a (hAA a)
    · exact EDi_flt hE hC g0C.1 g0C.2 fun c => t0C c (hCC c)
  exact fun a c => ⟨h0, hAA a, hCC c, hX a c⟩
/-- From here on both are there. -/
theorem ED4_join (hE : EnvOK P E) (A C : Flt) (hA : FltOK E ops A) (hC : FltOK E ops C)
    (r0 : readyIn ops l0 [A.i, C.i] = true) (rA : readyIn ops lA [C.i] = true) (rC : readyIn ops lC [A.i] = true)
    (g0A : A.m < B0.length ∧ getD' B0 A.m = .gone) (g0C : C.m < B0.length ∧ getD' B0 C.m = .gone) (gA : ∀ a, C.m < (BA a).length ∧ getD' (BA a) C.m = .gone) (gC : ∀ c, A.m < (BC c).length ∧ getD' (BC c) A.m = .gone)
    (t0A : ∀ a, ED P n ops [] ws (tA a) (BA a) K (fA + 1) lA → ED P n ops [] ws (setT n t0 (some A.d) (A.sv a)) (B0.set A.m (A.row a)) K f0 (l0.setIfInBounds A.i true))
    (t0C : ∀ c, ED P n ops [] ws (tC c) (BC c) K (fC + 1) lC → ED P n ops [] ws (setT n t0 (some C.d) (C.sv c)) (B0.set C.m (C.row c)) K f0 (l0.setIfInBounds C.i true))
    (tAX : ∀ a c, ED P n ops [] ws (tX a c) (BX a c) K fX lX → ED P n ops [] ws (setT n (tA a) (some C.d) (C.sv c)) ((BA a).set C.m (C.row c)) K fA (lA.setIfInBounds C.i true))
    (tCX : ∀ a c, ED P n ops [] ws (tX a c) (BX a c) K fX lX → ED P n ops [] ws (setT n (tC c) (some A.d) (A.sv a)) ((BC c).set A.m (A.row a)) K fC (lC.setIfInBounds A.i true))
    (h : ∀ a c, ED P n ops [] ws (tX a c) (BX a c) K fX lX) :
    ∀ a c, ED P n ops [] ws t0 B0 K (f0 + 1) l0 ∧ ED P n ops [] ws (tA a) (BA a) K (fA + 1) lA ∧ ED P n ops [] ws (tC c) (BC c) K (fC + 1) lC ∧ ED P n ops [] ws (tX a c) (BX a c) K fX lX := by
  have hAA : ∀ a, ED P n ops [] ws (tA a) (BA a) K (fA + 1) lA := fun a => ED_many rA fun i hi => by
    simp only [List.mem_cons, List.not_mem_nil, or_false] at hi
    subst hi; exact EDi_flt hE hC (gA a).1 (gA a).2 fun c => tAX a c (h a c)
  have hCC : ∀ c, ED P n ops [] ws (tC c) (BC c) K (fC + 1) lC := fun c => ED_many rC fun i hi => by
    simp only [List.mem_cons, List.not_mem_nil, or_false] at hi
    subst hi; exact EDi_flt hE hA (gC c).1 (gC c).2 fun a => tCX a c (h a c)
  have h0 : ED P n ops [] ws t0 B0 K (f0 + 1) l0 := ED_many r0 fun i hi => by
    simp only [List.mem_cons, List.not_mem_nil, or_false] at hi
    rcases hi with rfl | rfl
    · exact EDi_flt hE hA g0A.1 g0A.2 fun a => t0A a (hAA a)
    · exact EDi_flt hE hC g0C.1 g0C.2 fun c => t0C c (hCC c)
  exact fun a c => ⟨h0, hAA a, hCC c, h a c⟩
/-- What neither writes nor calls, in the four states. -/
theorem ED4_pre (hE : EnvOK P E) (hns : Region.noSelect ops = true) {m0 mA mC mX : Nat} (o0 oA oC oX : List Nat) (h0 : preOK ops o0 l0 = true) (hA : preOK ops oA lA = true) (hC : preOK ops oC lC = true) (hX : preOK ops oX lX = true)
    (h : ∀ a c, runP P E n ops ws K m0 o0 t0 B0 l0 ∧ runP P E n ops ws K mA oA (tA a) (BA a) lA ∧ runP P E n ops ws K mC oC (tC c) (BC c) lC ∧ runP P E n ops ws K mX oX (tX a c) (BX a c) lX) :
    ∀ a c, ED P n ops [] ws t0 B0 K (m0 + o0.length) l0 ∧ ED P n ops [] ws (tA a) (BA a) K (mA + oA.length) lA ∧ ED P n ops [] ws (tC c) (BC c) K (mC + oC.length) lC ∧ ED P n ops [] ws (tX a c) (BX a c) K (mX + oX.length) lX :=
  fun a c => ⟨ED_pre hE hns _ _ _ _ h0 (h a c).1, ED_pre hE hns _ _ _ _ hA (h a c).2.1, ED_pre hE hns _ _ _ _ hC (h a c).2.2.1, ED_pre hE hns _ _ _ _ hX (h a c).2.2.2⟩
theorem EC4 {f : Nat} {args : List SV} {D : List Own} {Q0 : SV → List Own → Prop} {QA QC : RowH → SV → List Own → Prop} {QX : RowH → RowH → SV → List Own → Prop} (h : EC P f args D fun s B' => ∀ a c, Q0 s B' ∧ QA a s B' ∧ QC c s B' ∧ QX a c s B') :
    ∀ a c, EC P f args D Q0 ∧ EC P f args D (QA a) ∧ EC P f args D (QC c) ∧ EC P f args D (QX a c) :=
  fun a c => ⟨h.mono fun _ _ q => (q a c).1, h.mono fun _ _ q => (q a c).2.1, h.mono fun _ _ q => (q a c).2.2.1, h.mono fun _ _ q => (q a c).2.2.2⟩
theorem M4 {Q0 : RowH → Prop} {QA QC : RowH → RowH → Prop} {QX : RowH → RowH → RowH → Prop} (h : ∀ h a c, Q0 h ∧ QA a h ∧ QC c h ∧ QX a c h) : ∀ a c, (∀ h, Q0 h) ∧ (∀ h, QA a h) ∧ (∀ h, QC c h) ∧ (∀ h, QX a c h) :=
  fun a c => ⟨fun k => (h k a c).1, fun k => (h k a c).2.1, fun k => (h k a c).2.2.1, fun k => (h k a c).2.2.2⟩
theorem EV_weakR {c : Code} {Q : Post} {m : Nat} {R : List Own} (h : wkS t t') (hB : B.take m = R) (hv : EV P n c t' R Q) : EV P n c t B Q := EV_weak m h (hB ▸ hv)
/-- Where several ways meet: slots that stay, slots and rows that may differ. -/
theorem EV_meetB {σ : Type} (live : List Nat) (V : σ → Slots) (R : List Own → σ → List Own) (Inv : σ → Prop) {c : Code} {Q : Post}
    (hrest : ∀ s, Inv s → ∀ t' B', wkS t' (V s ++ keepS t live) → B'.take (R B s).length = R B s → K t' B')
    (h : EV P n c t B (thenP (fun t' B' => ∃ s, Inv s ∧ wkS t' (V s ++ keepS t live) ∧ B'.take (R B s).length = R B s) Q)) : EV P n c t B (thenP K Q) :=
  EV_meet (fun s => V s ++ keepS t live) (fun s => R B s) Inv (fun s t' B' h1 h2 h3 => hrest s h1 t' B' h2 h3) h
/-! Rows that are lent to a callee that only reads, and yields plain values. -/
theorem Den.foC {X X' : Nat → Prop} {w w' : World} {s : SV} {v : Value} (h : Go.Lift.foC s = true) (hd : Den X w s v) : Den X' w' s v := by
  cases hd <;> first | (constructor; done) | (simp [Go.Lift.foC] at h; done)
theorem Den.fo {X X' : Nat → Prop} {w w' : World} {s : SV} {v : Value} (h : Go.Lift.fo s = true) (hd : Den X w s v) : Den X' w' s v := by
  cases s with
  | agg cs =>
    cases hd with
    | agg hs hc =>
      refine .agg hs fun i c hi => (hc i c hi).foC ?_
      simp only [Go.Lift.fo, List.all_eq_true] at h
      exact h c (List.mem_of_getElem? hi)
  | _ => exact hd.foC (by simpa [Go.Lift.fo] using h)
def fot : SV → Bool
  | .tup cs => cs.all fo
  | s => fo s
theorem Den.fot {X X' : Nat → Prop} {w w' : World} {s : SV} {v : Value} (h : Go.Lift.fot s = true) (hd : Den X w s v) : Den X' w' s v := by
  cases s with
  | tup cs =>
    cases hd with
    | tup hs hc =>
      refine .tup hs fun i c hi => (hc i c hi).fo ?_
      simp only [Go.Lift.fot, List.all_eq_true] at h
      exact h c (List.mem_of_getElem? hi)
  | _ => exact hd.fo (by simpa [Go.Lift.fot] using h)
theorem EC.lend {f : Nat} {args args' : List SV} {B : List Own} {C : SV → Prop} {Q : SV → List Own → Prop} (h : EC P f args' [] fun r N => N = [] ∧ C r) (ha : LFz 0 B args args') (hf : ∀ r, C r → fot r = true) (hk : ∀ r, C r → Q r B) : EC P f args B Q := by
  have hb : ∀ i, getD' ([] : List Own) i = if fromM 0 i then .gone else getD' B i := fun i => by simp [fromM, getD']
  refine ⟨h.1, fun X w vs hs hd => ?_⟩
  have hsp := ha.spec
  refine (h.2 (withSel X B (fromM 0)) w vs (hs.drop_sel hb) ⟨by rw [hd.1, hsp.1], fun i c hc => ?_⟩).mono ?_
  · obtain ⟨d, h1, h2, h3⟩ := hsp.2 i c hc
    exact h3 _ _ _ (frzT_sound hs (hd.2 i d h1) h2)
  · rintro e w' ⟨v, r, X', B', he, ⟨rfl, hq⟩, h1, h2, h3⟩
    have hblk : ∀ b, b < w.heap.size → w'.heap[b]? = w.heap[b]? := fun b hb => h3.block b hb owns_nil
    refine ⟨v, r, X, B, he, hk r hq, ⟨hs.inj, fun i b h => Nat.lt_of_lt_of_le (hs.lt i b h) h3.size, hs.xg.mono (fun _ h => h) (fun b hb => hblk b (hs.xlt b hb)) fun b h => Nat.lt_of_lt_of_le (hs.xlt b h) h3.size, hs.apart, fun i => ?_⟩, h2.fot (hf r hq),
      ⟨h3.os, h3.tape, h3.output, h3.size, fun b hb _ => hblk b hb, fun _ h => h, fun _ h => .inl h, fun _ h => .inl h⟩⟩
    exact Own.ok_mono (hs.ok i) (fun _ h => h) (fun b hb => hblk b (hs.xlt b hb)) fun b hb => hblk b (hs.lt i b hb)
/-- A row is lent as a list. -/
theorem LFz.row {α : Type} {B : List Own} {i e n E : Nat} {h : RowH} {xs : List (List SV)} {cells : α → List SV} {d : α} {l : List α} {r r' : List SV} (hB : getD' B i = .row h E e xs) (hx : xs = l.map cells) (hn : n = l.length) (hr : LFz 0 B r r') :
    LFz 0 B (.row i h e 0 n :: r) (.sl false e l.length (elt cells d l) :: r') := by
  subst hx hn
  refine .cons ?_ ?_ hr
  · simp [frzKT, frzKA, frzKC, fromM, hB]
  · simp only [frzT, frzA, frzC, fromM, Nat.zero_le, decide_true, hB]
    refine SLe.sl (fun h => h) (.inr rfl) fun k hk => ?_
    simp [List.getD, hk, elt]
theorem LFz.int {B : List Own} {k : IntKind} {n : Int} {r r' : List SV} (hr : LFz 0 B r r') : LFz 0 B (.int k n :: r) (.int k n :: r') := .cons trivial (SLe.refl _) hr
theorem LFz.str {B : List Own} {n : List UInt8} {r r' : List SV} (hr : LFz 0 B r r') : LFz 0 B (.str n :: r) (.str n :: r') := .cons trivial (SLe.refl _) hr
end
attribute [push_cast] stepF
end Go.Lift
