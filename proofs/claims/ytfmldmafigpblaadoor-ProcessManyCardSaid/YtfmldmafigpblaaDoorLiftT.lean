/-
  Regions that draw their order.
-/
import Derived.Test.YtfmldmafigpblaaDoorLiftS
import Derived.OrdersHeld
namespace Go.Lift
set_option linter.unusedVariables false
section
variable {P : Program} {E : Env} {n : Nat}

/-- Only a normal end. -/
def GoodN (n : Nat) (K : Slots → List Own → Prop) (X0 : Nat → Prop) (w0 : World) (B0 : List Own) : Exit → Act → World → Prop :=
  fun e a w => e = .normal ∧ ∃ X t B, K t B ∧ St X w B t n a ∧ Ext X0 w0 B0 X w B
/-! Orders of a region: behind every operation that is carried out 'S' holds, until one of the late operations has come up. -/
def hasL (late : List Nat) (listed : Array Bool) : Bool := late.any fun b => listed.getD b false
def wpAnyS (P : Program) (ops : Array Oper) (Q : Exit → Act → World → Prop) (late : List Nat) (S : World → Prop) : Nat → Array Bool → Act → World → Prop
  | 0, listed, a, w => Region.ready .any ops listed = [] ∧ Q .normal a w
  | fuel + 1, listed, a, w => (Region.ready .any ops listed = [] → Q .normal a w) ∧
    ∀ i ∈ Region.ready .any ops listed, wpOp P ops Q i (fun a' w' => (hasL late (listed.setIfInBounds i true) = true ∨ S w') ∧ wpAnyS P ops Q late S fuel (listed.setIfInBounds i true) a' w') a w
theorem wpAny_ofS {ops : Array Oper} {Q : Exit → Act → World → Prop} {late : List Nat} {S : World → Prop} : ∀ (fuel : Nat) (listed : Array Bool) (a : Act) (w : World), wpAnyS P ops Q late S fuel listed a w → wpAny P .any ops Q fuel listed a w
  | 0, _, _, _, h => h
  | fuel + 1, _, _, _, h => ⟨h.1, fun i hi => wpOp_mono (fun _ _ k => wpAny_ofS fuel _ _ _ k.2) (h.2 i hi)⟩
theorem wpAnyS_weak {ops : Array Oper} {Q : Exit → Act → World → Prop} {late : List Nat} {S S' : World → Prop} (h : ∀ w, S w → S' w) : ∀ (fuel : Nat) (listed : Array Bool) (a : Act) (w : World), wpAnyS P ops Q late S fuel listed a w → wpAnyS P ops Q late S' fuel listed a w
  | 0, _, _, _, k => k
  | fuel + 1, _, _, _, k => ⟨k.1, fun i hi => wpOp_mono (fun a' w' h' => ⟨h'.1.imp id (h _), wpAnyS_weak h fuel _ a' w' h'.2⟩) (k.2 i hi)⟩
/-- Once a late operation has come up, 'S' says nothing any more. -/
theorem wpAnyS_late {ops : Array Oper} {Q : Exit → Act → World → Prop} {late : List Nat} {S S' : World → Prop} : ∀ (fuel : Nat) (listed : Array Bool) (a : Act) (w : World), hasL late listed = true → wpAnyS P ops Q late S fuel listed a w → wpAnyS P ops Q late S' fuel listed a w
  | 0, _, _, _, _, k => k
  | fuel + 1, listed, _, _, hl, k => by
    refine ⟨k.1, fun i hi => wpOp_mono (fun a' w' h' => ?_) (k.2 i hi)⟩
    have h1 : hasL late (listed.setIfInBounds i true) = true := by
      simp only [hasL, List.any_eq_true] at hl ⊢
      obtain ⟨b, hb, h⟩ := hl
      exact ⟨b, hb, getD_set_true h⟩
    exact ⟨.inl h1, wpAnyS_late fuel _ a' w' h1 h'.2⟩
theorem hasL_set {late : List Nat} {listed : Array Bool} {i : Nat} (hi : ∀ b ∈ late, b ≠ i) : hasL late (listed.setIfInBounds i true) = hasL late listed := by
  apply Bool.eq_iff_iff.2
  simp only [hasL, List.any_eq_true]
  constructor
  · rintro ⟨b, hb, h⟩
    exact ⟨b, hb, by rw [getD_set_ne false (Ne.symm (hi b hb))] at h; exact h⟩
  · rintro ⟨b, hb, h⟩
    exact ⟨b, hb, getD_set_true h⟩
theorem wpAnyS_first {ops : Array Oper} {Q : Exit → Act → World → Prop} {late : List Nat} {S : World → Prop} {i : Nat} {oi : Oper} {v : Value} (hi : ops[i]? = some oi) (hsel : ∀ (j : Nat) (o : Oper) cs b, ops[j]? = some o → o.op ≠ .select cs b)
    (hQ : ∀ c a w, Q (.panic c) (a.put oi.dst v) w → Q (.panic c) a w) (hne : ∀ b ∈ late, b ≠ i) (hwait : ∀ b ∈ late, ∀ o, ops[b]? = some o → ∃ e ∈ o.after, Region.binds .any e = true ∧ e.on = i) :
    ∀ (fuel : Nat) (listed : Array Bool) (a : Act) (w : World),
      (∀ j oj, ops[j]? = some oj → j ≠ i → listed.getD j true = false → (∀ e ∈ oj.after, Region.binds .any e = true → e.on ≠ i) → oi.apart ops oj = true) →
      i ∈ Region.ready .any ops listed → YieldsIf P ops S oi v a → S w → hasL late listed = false →
      wpAnyS P ops Q late S fuel (listed.setIfInBounds i true) (a.put oi.dst v) w → wpAnyS P ops Q late S (fuel + 1) listed a w := by
  intro fuel
  induction fuel with
  | zero =>
    intro listed a w _ hr hy hS hL H
    refine ⟨fun h => (by rw [h] at hr; cases hr), fun j hj => ?_⟩
    by_cases hji : j = i
    · subst hji; exact hy.wpOp hi hS ⟨.inr hS, H⟩
    · have h1 := ready_mono hj hji
      rw [H.1] at h1
      cases h1
  | succ fuel ih =>
    intro listed a w hfree hr hy hS hL H
    refine ⟨fun h => (by rw [h] at hr; cases hr), fun j hj => ?_⟩
    by_cases hji : j = i
    · subst hji; exact hy.wpOp hi hS ⟨.inr hS, H⟩
    obtain ⟨hun, oj, hoj, hall⟩ := mem_ready.1 hj
    have hni := (mem_ready.1 hr).1
    -- number j does not wait for number i, so it is not late
    have hfi : listed.getD i false = false := by
      rcases Nat.lt_or_ge i listed.size with h' | h'
      · simp [h'] at hni ⊢; exact hni
      · simp [Array.getElem?_eq_none h']
    have hno : ∀ e ∈ oj.after, Region.binds .any e = true → e.on ≠ i := fun e he hb heq => by
      have := hall e he hb
      rw [heq, hfi] at this
      cases this
    have hjl : ∀ b ∈ late, b ≠ j := fun b hb heq => by
      subst heq
      obtain ⟨e, he, hb1, hb2⟩ := hwait b hb oj hoj
      exact hno e he hb1 hb2
    have k1 := wpOp_putIf hoj (hfree j oj hoj hji hun hno) (fun cs b => hsel i oi cs b hi) (fun cs b => hsel j oj cs b hoj) hQ hy (H.2 j (ready_mono hj hji))
    have hL' : hasL late (listed.setIfInBounds j true) = false := by rw [hasL_set hjl]; exact hL
    refine wpOp_mono (fun a' w' k => ?_) k1
    obtain ⟨ky, ks, kw⟩ := k
    have hS' : S w' := by
      rcases ks with ks | ks
      · rw [hasL_set hjl, hasL_set hne, hL] at ks; cases ks
      · exact ks
    refine ⟨.inr hS', ih _ a' w' (fun k ok hk hki hkun hkno => hfree k ok hk hki ?_ hkno) (ready_mono hr (Ne.symm hji)) ky hS' hL' ?_⟩
    · by_cases hjk : j = k
      · subst hjk; exact hun
      · rw [getD_set_ne true hjk] at hkun; exact hkun
    · rw [Array.setIfInBounds_comm _ _ hji]; exact kw
theorem wpAnyS_all {ops : Array Oper} {Q : Exit → Act → World → Prop} {late : List Nat} {S : World → Prop} {rs : List Nat} {fuel : Nat} {listed : Array Bool} {a : Act} {w : World} (hr : Region.ready .any ops listed = rs) (hne : rs ≠ [])
    (h : ∀ i ∈ rs, wpOp P ops Q i (fun a' w' => (hasL late (listed.setIfInBounds i true) = true ∨ S w') ∧ wpAnyS P ops Q late S fuel (listed.setIfInBounds i true) a' w') a w) : wpAnyS P ops Q late S (fuel + 1) listed a w :=
  ⟨fun h0 => absurd (hr ▸ h0) hne, hr ▸ h⟩
theorem wpAnyS_done {ops : Array Oper} {Q : Exit → Act → World → Prop} {late : List Nat} {S : World → Prop} {listed : Array Bool} {a : Act} {w : World} (hr : Region.ready .any ops listed = []) (h : Q .normal a w) : ∀ fuel, wpAnyS P ops Q late S fuel listed a w
  | 0 => ⟨hr, h⟩
  | _ + 1 => ⟨fun _ => h, by rw [hr]; simp⟩

theorem owns_mr {ws : List Bool} {B N : List Own} {b : Nat} (hb : owns (rwB ws (mrB ws B N)) b) : owns N b := by
  obtain ⟨i, hi⟩ := hb
  rw [rwB_get] at hi
  split at hi
  · simp [Own.blocks] at hi
  · rename_i hne
    rw [mrB_get, if_neg fun h => hne h.1] at hi
    exact ⟨i, hi⟩
theorem Kept.transW {X X' : Nat → Prop} {w w1 w2 : World} {B B1 B2 : List Own} (h : Ext X w B X' w1 B1) (hb : ∀ b, owns B2 b → owns B1 b) (k : Kept w1 B2 w2) : Kept w B w2 :=
  ⟨k.os.trans h.os, k.tape.trans h.tape, k.output.trans h.output, Nat.le_trans h.size k.size, fun b hl hn => by
    rw [k.block b (Nat.lt_of_lt_of_le hl h.size) fun ho => (h.own b (hb b ho)).elim hn fun h => by omega, h.block b hl hn]⟩
def ED (P : Program) (n : Nat) (ops : Array Oper) (late : List Nat) (ws : List Bool) (t : Slots) (B : List Own) (K : Slots → List Own → Prop) (fuel : Nat) (listed : Array Bool) : Prop :=
  ∀ X0 w0 B0 X w a, Ext X0 w0 B0 X w B → St X w B t n a → wpAnyS P ops (GoodN n K X0 w0 B0) late (Kept w (rwB ws B)) fuel listed a w
variable {late : List Nat} {ws : List Bool} {ops : Array Oper} {t : Slots} {B : List Own} {K : Slots → List Own → Prop} {fuel : Nat} {listed : Array Bool}
theorem ED_done (hr : Region.ready .any ops listed = []) (h : K t B) : ED P n ops late ws t B K fuel listed :=
  fun X0 w0 B0 X w a he hs => wpAnyS_done hr ⟨rfl, X, t, B, h, hs, he⟩ fuel
theorem St.put {X : Nat → Prop} {w : World} {a : Act} {d : Option Nat} {s : SV} {v : Value} (hs : St X w B t n a) (hd : Den X w s v) : St X w B (setT n t d s) n (a.put d v) := by
  refine ⟨?_, hs.sat, denT_put hs.den hd⟩
  have := hs.defers; cases d <;> simpa [Act.put] using this
theorem ED_take {i : Nat} {o : Oper} {sv : SV} (hi : ops[i]? = some o) (hs : Region.noSelect ops = true) (hf : Region.free .any ops listed i = true) (hr : (Region.ready .any ops listed).contains i = true)
    (hL : hasL late listed = false) (hne : ∀ b ∈ late, b ≠ i) (hwait : ∀ b ∈ late, ∀ o, ops[b]? = some o → ∃ e ∈ o.after, Region.binds .any e = true ∧ e.on = i)
    (hu : ∀ X w a, St X w B t n a → ∃ v, YieldsIf P ops (Kept w (rwB ws B)) o v a ∧ Den X w sv v) (h : ED P n ops late ws (setT n t o.dst sv) B K fuel (listed.setIfInBounds i true)) : ED P n ops late ws t B K (fuel + 1) listed := by
  intro X0 w0 B0 X w a he hst
  obtain ⟨v, hy, hd⟩ := hu X w a hst
  exact wpAnyS_first hi (Region.noSelect_spec hs) (fun c a w h => by cases h.1) hne hwait fuel listed a w (Region.free_spec hi hf) (by simpa using hr) hy (Kept.refl w (rwB ws B)) hL (h X0 w0 B0 X w _ he (hst.put hd))
theorem ED_call {i : Nat} {o : Oper} {f : FuncId} {args : List SV} (hi : ops[i]? = some o) (hr : Region.ready .any ops listed = [i]) (hw : ∀ X w a, St X w B t n a → Region.wanted o (yielded ops a.tmps) = true)
    (hrun : ∀ X w a, St X w B t n a → ∃ vals, (execOp a.eval o).run P w = .ok (.enter f vals) w ∧ DenL X w args vals)
    (h : EC P f args (rwB ws B) fun s B' => ED P n ops late ws (setT n t o.dst s) (mrB ws B B') K fuel (listed.setIfInBounds i true)) : ED P n ops late ws t B K (fuel + 1) listed := by
  intro X0 w0 B0 X w a he hs
  refine wpAnyS_all hr (by simp) fun j hj => ?_
  simp only [List.mem_singleton] at hj
  subst hj
  unfold wpOp
  simp only [hi]
  rw [if_pos (hw X w a hs)]
  left
  obtain ⟨vals, h1, h2⟩ := hrun X w a hs
  unfold Oper.wp
  rw [h1]
  simp only [Oper.upon]
  refine (h.2 X w vals (hs.sat.rw ws) h2).mono ?_
  rintro e w' ⟨v, s, X', B', rfl, hK, hsat0, hden, hext0⟩
  simp only
  obtain ⟨hsat, hext⟩ := hs.sat.merge hsat0 hext0
  have hst : St X' w' (mrB ws B B') (setT n t o.dst s) n (a.put o.dst v) := by
    refine ⟨?_, hsat, ?_⟩
    · have := hs.defers; cases o.dst <;> simpa [Act.put] using this
    · exact denT_put ⟨hs.den.1, fun i => (hs.den.2 i).ext hs.sat hext⟩ hden
  exact ⟨.inr (Kept.ext hext0), wpAnyS_weak (fun w'' hk => Kept.transW hext0 (fun b hb => owns_mr hb) hk) _ _ _ _ (hK X0 w0 B0 X' w' _ (he.trans hext) hst)⟩
theorem ED_mem {i : Nat} {o : Oper} {out : RowH → Out} (hi : ops[i]? = some o) (hr : Region.ready .any ops listed = [i]) (hw : ∀ X w a, St X w B t n a → Region.wanted o (yielded ops a.tmps) = true)
    (hu : ∀ X w a, St X w B t n a → ∃ h, (out h).vc → Done P X w (rwB ws B) (execOp a.eval o) (out h)) (hh : ∀ h, (out h).vc ∧ ED P n ops late ws (setT n t o.dst (out h).v) (mrB ws B (out h).B) K fuel (listed.setIfInBounds i true)) : ED P n ops late ws t B K (fuel + 1) listed := by
  intro X0 w0 B0 X w a he hs
  refine wpAnyS_all hr (by simp) fun j hj => ?_
  simp only [List.mem_singleton] at hj
  subst hj
  unfold wpOp
  simp only [hi]
  rw [if_pos (hw X w a hs)]
  left
  obtain ⟨hd, hu⟩ := hu X w a hs
  obtain ⟨hvc, h⟩ := hh hd
  obtain ⟨v, w', h1, hsat0, hden, hext0⟩ := hu hvc
  obtain ⟨hsat, hext⟩ := hs.sat.merge hsat0 hext0
  have hst : St X w' (mrB ws B (out hd).B) (setT n t o.dst (out hd).v) n (a.put o.dst v) := by
    refine ⟨?_, hsat, ?_⟩
    · have := hs.defers; cases o.dst <;> simpa [Act.put] using this
    · exact denT_put ⟨hs.den.1, fun i => (hs.den.2 i).ext hs.sat hext⟩ hden
  have key : (hasL late (listed.setIfInBounds j true) = true ∨ Kept w (rwB ws B) w') ∧ wpAnyS P ops (GoodN n K X0 w0 B0) late (Kept w (rwB ws B)) fuel (listed.setIfInBounds j true) (a.put o.dst v) w' :=
    ⟨.inr (Kept.ext hext0), wpAnyS_weak (fun w'' hk => Kept.transW hext0 (fun b hb => owns_mr hb) hk) _ _ _ _ (h X0 w0 B0 X w' _ (he.trans hext) hst)⟩
  unfold Oper.wp
  rcases h1 with h1 | ⟨h1, rfl⟩
  · rw [h1]; simp only [Oper.upon]; exact key
  · rw [h1]; simp only [Oper.upon]; exact key
/-- A late operation, or one behind a late one, comes alone; it sees all rows. -/
theorem ED_lcall {i : Nat} {o : Oper} {f : FuncId} {args : List SV} (hi : ops[i]? = some o) (hr : Region.ready .any ops listed = [i]) (hl : hasL late (listed.setIfInBounds i true) = true) (hw : ∀ X w a, St X w B t n a → Region.wanted o (yielded ops a.tmps) = true)
    (hrun : ∀ X w a, St X w B t n a → ∃ vals, (execOp a.eval o).run P w = .ok (.enter f vals) w ∧ DenL X w args vals)
    (h : EC P f args B fun s B' => ED P n ops late ws (setT n t o.dst s) B' K fuel (listed.setIfInBounds i true)) : ED P n ops late ws t B K (fuel + 1) listed := by
  intro X0 w0 B0 X w a he hs
  refine wpAnyS_all hr (by simp) fun j hj => ?_
  simp only [List.mem_singleton] at hj
  subst hj
  unfold wpOp
  simp only [hi]
  rw [if_pos (hw X w a hs)]
  left
  obtain ⟨vals, h1, h2⟩ := hrun X w a hs
  unfold Oper.wp
  rw [h1]
  simp only [Oper.upon]
  refine (h.2 X w vals hs.sat h2).mono ?_
  rintro e w' ⟨v, s, X', B', rfl, hK, hsat, hden, hext⟩
  simp only
  have hst : St X' w' B' (setT n t o.dst s) n (a.put o.dst v) := by
    refine ⟨?_, hsat, ?_⟩
    · have := hs.defers; cases o.dst <;> simpa [Act.put] using this
    · exact denT_put ⟨hs.den.1, fun i => (hs.den.2 i).ext hs.sat hext⟩ hden
  exact ⟨.inl hl, wpAnyS_late _ _ _ _ hl (hK X0 w0 B0 X' w' _ (he.trans hext) hst)⟩
theorem ED_lmem {i : Nat} {o : Oper} {out : RowH → Out} (hi : ops[i]? = some o) (hr : Region.ready .any ops listed = [i]) (hl : hasL late (listed.setIfInBounds i true) = true) (hw : ∀ X w a, St X w B t n a → Region.wanted o (yielded ops a.tmps) = true)
    (hu : ∀ X w a, St X w B t n a → ∃ h, (out h).vc → Done P X w B (execOp a.eval o) (out h)) (hh : ∀ h, (out h).vc ∧ ED P n ops late ws (setT n t o.dst (out h).v) (out h).B K fuel (listed.setIfInBounds i true)) : ED P n ops late ws t B K (fuel + 1) listed := by
  intro X0 w0 B0 X w a he hs
  refine wpAnyS_all hr (by simp) fun j hj => ?_
  simp only [List.mem_singleton] at hj
  subst hj
  unfold wpOp
  simp only [hi]
  rw [if_pos (hw X w a hs)]
  left
  obtain ⟨hd, hu⟩ := hu X w a hs
  obtain ⟨hvc, h⟩ := hh hd
  obtain ⟨v, w', h1, hsat, hden, hext⟩ := hu hvc
  have hst : St X w' (out hd).B (setT n t o.dst (out hd).v) n (a.put o.dst v) := by
    refine ⟨?_, hsat, ?_⟩
    · have := hs.defers; cases o.dst <;> simpa [Act.put] using this
    · exact denT_put ⟨hs.den.1, fun i => (hs.den.2 i).ext hs.sat hext⟩ hden
  have key := wpAnyS_late (P := P) (S' := Kept w (rwB ws B)) _ _ _ _ hl (h X0 w0 B0 X w' _ (he.trans hext) hst)
  unfold Oper.wp
  rcases h1 with h1 | ⟨h1, rfl⟩
  · rw [h1]; simp only [Oper.upon]; exact ⟨.inl hl, key⟩
  · rw [h1]; simp only [Oper.upon]; exact ⟨.inl hl, key⟩
theorem EV_draw {id : Nat} {Q : Post} (hm : P.follows .mixedOrders = true) (h : ∀ K : Slots → List Own → Prop, (∀ t B, Q .normal t B → K t B) → ED P n ops late ws t B K ops.size (Array.replicate ops.size false)) : EV P n (.region id ops true) t B Q := by
  intro X0 w0 B0 X w a he hs
  have hext : Ext X w B X { w with drawn := w.drawn + 1 } B := ⟨rfl, rfl, rfl, Nat.le_refl _, fun _ _ _ => rfl, fun _ h => h, fun _ h => .inl h, fun _ h => .inl h⟩
  have hs' : St X { w with drawn := w.drawn + 1 } B t n a := ⟨hs.defers, ⟨hs.sat.inj, hs.sat.lt, hs.sat.xg.mono (fun _ h => h) (fun _ _ => rfl) hs.sat.xlt, hs.sat.apart, fun i => Own.ok_mono (hs.sat.ok i) (fun _ h => h) (fun _ _ => rfl) fun _ _ => rfl⟩, hs.den.1, fun i => (hs.den.2 i).ext hs.sat hext⟩
  refine wp_mono (wp_region_any hm (wpAny_ofS _ _ _ _ (h (fun t B => Q .normal t B) (fun _ _ h => h) X0 w0 B0 X _ a (he.trans hext) hs'))) ?_
  rintro e a' w' ⟨rfl, X', t', B', h1, h2, h3⟩
  exact ⟨X', t', B', h1, h2, h3⟩
theorem ED_skip {i : Nat} {o : Oper} {s : SV} (hi : ops[i]? = some o) (hr : Region.ready .any ops listed = [i]) (hw : ∀ X w a, St X w B t n a → Region.wanted o (yielded ops a.tmps) = false)
    (hu : ∀ X w, Den X w s undef) (h : ED P n ops late ws (setT n t o.dst s) B K fuel (listed.setIfInBounds i true)) : ED P n ops late ws t B K (fuel + 1) listed := by
  intro X0 w0 B0 X w a he hs
  refine wpAnyS_all hr (by simp) fun j hj => ?_
  simp only [List.mem_singleton] at hj
  subst hj
  unfold wpOp
  simp only [hi]
  rw [if_neg (by rw [hw X w a hs]; simp)]
  exact ⟨.inr (Kept.refl w _), h X0 w0 B0 X w _ he (hs.put (hu X w))⟩

def isCallOp : Op → Bool
  | .call c => match c.callee with
    | .value _ => true
    | _ => false
  | _ => false
/-- Operations that write or make memory: they must come alone. -/
def isMemOp : Op → Bool
  | .store .. | .alloc _ | .box .. | .buildSlice .. | .makeSlice .. | .makeMap .. | .insert .. | .mapUpdate .. => true
  | .call c => match c.callee with
    | .builtin .append | .builtin .copy | .builtin .clear => true
    | _ => false
  | .binOp _ _ _ y _ => nilOpd y
  | _ => false
def inL : List Nat → Nat → Bool
  | [], _ => false
  | a :: r, i => if i = a then true else inL r i
theorem inL_contains : ∀ (l : List Nat) (i : Nat), inL l i = l.contains i
  | [], _ => rfl
  | a :: r, i => by
    simp only [inL, List.contains_cons, inL_contains r i]
    by_cases h : i = a <;> simp [h]
/-- An order in which what neither writes nor calls may be taken first, and each call is alone. From the first late operation on each is alone. -/
def ordOK (ops : Array Oper) (late : List Nat) : List Nat → Array Bool → Bool
  | [], listed => Region.ready .any ops listed == []
  | i :: r, listed => (match ops[i]? with
    | none => false
    | some o => match isCallOp o.op || isMemOp o.op || late.contains i || hasL late listed with
      | true => Region.ready .any ops listed == [i]
      | false => Region.free .any ops listed i && (Region.ready .any ops listed).contains i && late.all fun b => match ops[b]? with
        | some ob => ob.after.any fun e => Region.binds .any e && e.on == i
        | none => true) && ordOK ops late r (listed.setIfInBounds i true)
def runD (P : Program) (E : Env) (n : Nat) (ops : Array Oper) (late : List Nat) (ws : List Bool) (K : Slots → List Own → Prop) : Bool → List Nat → Slots → List Own → Array Bool → Prop
  | _, [], t, B, _ => K t B
  | b, i :: r, t, B, listed => match ops[i]? with
    | none => False
    | some o => match o.guard with
      | none => match b || inL late i with
        | true => match isCallOp o.op with
          | true => match callOf false t o.op with
            | some (f, args) => EC P f args B fun s B' => ED P n ops late ws (setT n t o.dst s) B' K r.length (listed.setIfInBounds i true)
            | none => False
          | false => ∀ h, match evOp E false h t B o.op with
            | ⟨v, B', c⟩ => c ∧ runD P E n ops late ws K (b || inL late i) r (setT n t o.dst v) B' (listed.setIfInBounds i true)
        | false => match isCallOp o.op with
          | true => match callOf false t o.op with
            | some (f, args) => EC P f args (rwB ws B) fun s B' => ED P n ops late ws (setT n t o.dst s) (mrB ws B B') K r.length (listed.setIfInBounds i true)
            | none => False
          | false => match isMemOp o.op with
            | true => ∀ h, match evOp E false h t (rwB ws B) o.op with
              | ⟨v, B', c⟩ => c ∧ runD P E n ops late ws K (b || inL late i) r (setT n t o.dst v) (mrB ws B B') (listed.setIfInBounds i true)
            | false => match evOp E false (.void none) t (roB ws B) o.op with
              | ⟨v, _, c⟩ => pureOp o.op v ∧ c ∧ runD P E n ops late ws K (b || inL late i) r (setT n t o.dst v) B (listed.setIfInBounds i true)
      | some (j, want) => match b || inL late i with
        | true => False
        | false => match guardOf ops.toList t j want with
          | none => False
          | some c => match isCallOp o.op with
            | true => match callOf true t o.op with
              | some (f, args) => (c = true → condsOk t (opnds o.op)) ∧ (c = true → EC P f args (rwB ws B) fun s B' => ED P n ops late ws (setT n t o.dst s) (mrB ws B B') K r.length (listed.setIfInBounds i true)) ∧
                  (c = false → ED P n ops late ws (setT n t o.dst .any) B K r.length (listed.setIfInBounds i true))
              | none => False
            | false => match isMemOp o.op with
              | true => False
              | false => match evOp E true (.void none) t (roB ws B) o.op with
                | ⟨v, _, vc⟩ => quiet o.op = true ∧ (c = true → condsOk t (opnds o.op) ∧ pureOp o.op v ∧ vc) ∧ runD P E n ops late ws K (b || inL late i) r (setT n t o.dst (.opt c v)) B (listed.setIfInBounds i true)

theorem pure_st (hE : EnvOK P E) {X : Nat → Prop} {w : World} {a : Act} {o : Oper} {st : Bool} (hs : St X w B t n a) (hst : st = true → quiet o.op = true ∧ condsOk t (opnds o.op)) (hp : pureOp o.op (evOp E st (.void none) t (roB ws B) o.op).v)
    (hc : (evOp E st (.void none) t (roB ws B) o.op).vc) : Uni P X w (rwB ws B) (execOp a.eval o) (evOp E st (.void none) t (roB ws B) o.op).v := by
  by_cases hpk : ∃ c x y, o.op = .pick c x y
  · obtain ⟨c, x, y, hpk⟩ := hpk
    rw [hpk] at hc hp ⊢
    refine uni_fo hp fun w' hk => ?_
    obtain ⟨r, h1, h2, h3⟩ := pick_sound (P := P) (hk.denW hs.sat (den_ev hs.sat.xg hs.den c)) (hk.denW hs.sat (den_ev hs.sat.xg hs.den x)) (hk.denW hs.sat (den_ev hs.sat.xg hs.den y)) hc
    exact ⟨r, by simpa [execOp, hpk] using h1, h2⟩
  · refine pure_uni hE hs.sat (fun x => den_ev hs.sat.xg hs.den x) (fun _ => rfl) (fun x hx => ?_) hp hc
    cases st with
    | false => exact den_evS_false hs.sat.xg hs.den x
    | true =>
      obtain ⟨h1, h2⟩ := hst rfl
      rcases quiet_opnds h1 x hx with ⟨c, a', b, e⟩ | h3
      · exact absurd ⟨c, a', b, e⟩ hpk
      · exact den_evS_true hs.sat.xg hs.den h2 x h3
theorem wait_of {ops : Array Oper} {late : List Nat} {i : Nat} (h : (late.all fun b => match ops[b]? with | some ob => ob.after.any fun e => Region.binds .any e && e.on == i | none => true) = true) :
    ∀ b ∈ late, ∀ o, ops[b]? = some o → ∃ e ∈ o.after, Region.binds .any e = true ∧ e.on = i := by
  intro b hb o ho
  have := List.all_eq_true.1 h b hb
  simp only [ho, Array.any_eq_true', Bool.and_eq_true, beq_iff_eq] at this
  exact this
theorem late_ne {late : List Nat} {i : Nat} (h : late.contains i = false) : ∀ b ∈ late, b ≠ i := fun b hb e => by subst e; rw [List.contains_iff_mem.2 hb] at h; cases h
theorem hasL_now {late : List Nat} {listed : Array Bool} {i : Nat} (h : hasL late (listed.setIfInBounds i true) = false) : (late.contains i || hasL late listed) = false ∨ listed.size ≤ i := by
  by_cases hi : i < listed.size
  · left
    have h1 : hasL late listed = false := Bool.eq_false_iff.2 fun h2 => by
      simp only [hasL, List.any_eq_true] at h2
      obtain ⟨b, hb, hh⟩ := h2
      have : hasL late (listed.setIfInBounds i true) = true := by
        simp only [hasL, List.any_eq_true]; exact ⟨b, hb, getD_set_true hh⟩
      rw [h] at this; cases this
    rw [h1, Bool.or_false]
    refine Bool.eq_false_iff.2 fun h2 => ?_
    have : hasL late (listed.setIfInBounds i true) = true := by
      simp only [hasL, List.any_eq_true]
      refine ⟨i, List.contains_iff_mem.1 h2, ?_⟩
      simp [hi]
    rw [h] at this; cases this
  · exact .inr (by omega)
theorem ready_lt {listed : Array Bool} {i : Nat} (h : i ∈ Region.ready .any ops listed) : i < listed.size := by
  have := (mem_ready.1 h).1
  rcases Nat.lt_or_ge i listed.size with h' | h'
  · exact h'
  · simp [Array.getElem?_eq_none h'] at this
theorem ED_run (hE : EnvOK P E) (hns : Region.noSelect ops = true) : ∀ (b : Bool) (ord : List Nat) (t : Slots) (B : List Own) (listed : Array Bool), b = hasL late listed → ordOK ops late ord listed = true → runD P E n ops late ws K b ord t B listed → ED P n ops late ws t B K ord.length listed
  | _, [], t, B, listed, _, ho, h => ED_done (by simpa [ordOK] using ho) h
  | b, i :: r, t, B, listed, hb, ho, h => by
    simp only [ordOK, Bool.and_eq_true] at ho
    obtain ⟨ho, ho2⟩ := ho
    simp only [runD] at h
    cases hi : ops[i]? with
    | none => simp [hi] at h
    | some o =>
      simp only [hi] at h ho
      have hlt : i < listed.size := by
        refine ready_lt (ops := ops) ?_
        split at ho
        · rw [beq_iff_eq.1 ho]; simp
        · simp only [Bool.and_eq_true] at ho
          exact List.contains_iff_mem.1 ho.1.2
      have hset : hasL late (listed.setIfInBounds i true) = (b || inL late i) := by
        rw [hb, inL_contains]
        apply Bool.eq_iff_iff.2
        simp only [hasL, List.any_eq_true, Bool.or_eq_true, List.contains_iff_mem]
        constructor
        · rintro ⟨c, hc, h1⟩
          by_cases e : c = i
          · exact .inr (e ▸ hc)
          · exact .inl ⟨c, hc, by rw [getD_set_ne false (Ne.symm e)] at h1; exact h1⟩
        · rintro (⟨c, hc, h1⟩ | h1)
          · exact ⟨c, hc, getD_set_true h1⟩
          · exact ⟨i, h1, by simp [hlt]⟩
      rw [← hset] at h
      -- from the first late operation on: alone
      cases hl : hasL late (listed.setIfInBounds i true) with
      | true =>
        cases hg : o.guard with
        | some jw => obtain ⟨j, want⟩ := jw; simp [hg, hl] at h
        | none =>
          have hw : ∀ X w a, St X w B t n a → Region.wanted o (yielded ops a.tmps) = true := fun X w a _ => by simp [Region.wanted, hg]
          have halone : Region.ready .any ops listed = [i] := by
            have hor : (late.contains i || hasL late listed) = true := by
              cases hc : late.contains i with
              | true => rfl
              | false => rw [hasL_set (late_ne hc)] at hl; simpa using hl
            have : (isCallOp o.op || isMemOp o.op || late.contains i || hasL late listed) = true := by rw [Bool.or_assoc, hor, Bool.or_true]
            simp only [this] at ho
            simpa using ho
          simp only [hg, hl] at h
          cases hco : isCallOp o.op with
          | true =>
            simp only [hco] at h
            cases hcall : callOf false t o.op with
            | none => simp [hcall] at h
            | some fa =>
              obtain ⟨f, args⟩ := fa
              simp only [hcall] at h
              exact ED_lcall hi halone hl hw (fun X w a hs => call_run hcall (fun x _ => den_evS_false hs.sat.xg hs.den x) h.1) h
          | false =>
            simp only [hco] at h
            exact ED_lmem hi halone hl hw (out := fun h => evOp E false h t B o.op) (fun X w a hs => evOp_sound' hE hs.sat hs.den (o := o) (st := false) (by simp)) fun hd => ⟨(h hd).1, ED_run hE hns _ r _ _ _ hl.symm ho2 (h hd).2⟩
      | false =>
      cases hg : o.guard with
      | none =>
        have hw : ∀ X w a, St X w B t n a → Region.wanted o (yielded ops a.tmps) = true := fun X w a _ => by simp [Region.wanted, hg]
        simp only [hg, hl] at h
        cases hco : isCallOp o.op with
        | true =>
          simp only [hco, Bool.true_or] at h ho
          cases hcall : callOf false t o.op with
          | none => simp [hcall] at h
          | some fa =>
            obtain ⟨f, args⟩ := fa
            simp only [hcall] at h
            exact ED_call hi (by simpa using ho) hw (fun X w a hs => call_run hcall (fun x _ => den_evS_false hs.sat.xg hs.den x) h.1) h
        | false =>
          simp only [hco, Bool.false_or] at h ho
          cases hmo : isMemOp o.op with
          | true =>
            simp only [hmo, Bool.true_or] at h ho
            exact ED_mem hi (by simpa using ho) hw (out := fun h => evOp E false h t (rwB ws B) o.op) (fun X w a hs => evOp_sound' hE (hs.sat.rw ws) hs.den (o := o) (st := false) (by simp)) fun hd => ⟨(h hd).1, ED_run hE hns _ r _ _ _ hl.symm ho2 (h hd).2⟩
          | false =>
          simp only [hmo, Bool.false_or] at h ho
          obtain ⟨h1, h2, h3⟩ := h
          cases hlc : (late.contains i || hasL late listed) with
          | true =>
            simp only [hlc] at ho
            have hr1 : Region.ready .any ops listed = [i] := by simpa using ho
            rcases hasL_now hl with h4 | h4
            · rw [hlc] at h4; cases h4
            · have := ready_lt (ops := ops) (listed := listed) (i := i) (by rw [hr1]; simp); omega
          | false =>
          simp only [hlc, Bool.and_eq_true] at ho
          simp only [Bool.or_eq_false_iff] at hlc
          refine ED_take hi hns ho.1.1 ho.1.2 hlc.2 (late_ne hlc.1) (wait_of ho.2) (fun X w a hs => ?_) (ED_run hE hns _ r _ _ _ hl.symm ho2 h3)
          obtain ⟨v, hd, hu⟩ := pure_st hE hs (st := false) (by simp) h1 h2
          exact ⟨v, .inl ⟨hw X w a hs, hu⟩, hd⟩
      | some jw =>
        obtain ⟨j, want⟩ := jw
        simp only [hg, hl] at h
        cases hgd : guardOf ops.toList t j want with
        | none => simp [hgd] at h
        | some c =>
          simp only [hgd] at h
          have hwc : ∀ X w a, St X w B t n a → Region.wanted o (yielded ops a.tmps) = c := fun X w a hs => by simpa using guardOf_spec hgd hs.den o hg
          cases hco : isCallOp o.op with
          | true =>
            simp only [hco, Bool.true_or] at h ho
            cases hcall : callOf true t o.op with
            | none => simp [hcall] at h
            | some fa =>
              obtain ⟨f, args⟩ := fa
              simp only [hcall] at h
              obtain ⟨h1, h2, h3⟩ := h
              cases c with
              | true => exact ED_call hi (by simpa using ho) hwc (fun X w a hs => call_run hcall (fun x hx => den_evS_true hs.sat.xg hs.den (h1 rfl) x hx) (h2 rfl).1) (h2 rfl)
              | false => exact ED_skip hi (by simpa using ho) hwc (fun _ _ => .any _) (h3 rfl)
          | false =>
            simp only [hco, Bool.false_or] at h ho
            cases hmo : isMemOp o.op with
            | true => simp [hmo] at h
            | false =>
            simp only [hmo, Bool.false_or] at h ho
            obtain ⟨hq, h1, h3⟩ := h
            cases hlc : (late.contains i || hasL late listed) with
            | true =>
              simp only [hlc] at ho
              have hr1 : Region.ready .any ops listed = [i] := by simpa using ho
              rcases hasL_now hl with h4 | h4
              · rw [hlc] at h4; cases h4
              · have := ready_lt (ops := ops) (listed := listed) (i := i) (by rw [hr1]; simp); omega
            | false =>
            simp only [hlc, Bool.and_eq_true] at ho
            simp only [Bool.or_eq_false_iff] at hlc
            refine ED_take hi hns ho.1.1 ho.1.2 hlc.2 (late_ne hlc.1) (wait_of ho.2) (fun X w a hs => ?_) (ED_run hE hns _ r _ _ _ hl.symm ho2 h3)
            cases c with
            | true =>
              obtain ⟨k1, k2, k3⟩ := h1 rfl
              obtain ⟨v, hd, hu⟩ := pure_st hE hs (st := true) (fun _ => ⟨hq, k1⟩) k2 k3
              exact ⟨v, .inl ⟨hwc X w a hs, hu⟩, .opt (fun _ => hd) fun e => by cases e⟩
            | false => exact ⟨undef, .inr ⟨hwc X w a hs, rfl⟩, .opt (fun e => by cases e) fun _ => rfl⟩
theorem EV_drawn (hE : EnvOK P E) {id : Nat} {Q : Post} (late : List Nat) (ws : List Bool) (ord : List Nat) (hm : P.follows .mixedOrders = true) (hns : Region.noSelect ops = true) (hl : ord.length = ops.size) (ho : ordOK ops late ord (Array.replicate ops.size false) = true)
    (h : ∀ K : Slots → List Own → Prop, (∀ t B, Q .normal t B → K t B) → runD P E n ops late ws K false ord t B (Array.replicate ops.size false)) : EV P n (.region id ops true) t B Q :=
  EV_draw hm fun K hK => by
    have := ED_run hE hns false ord t B _ (by simp [hasL, Array.getD]) ho (h K hK)
    rw [hl] at this
    exact this
end
end Go.Lift
