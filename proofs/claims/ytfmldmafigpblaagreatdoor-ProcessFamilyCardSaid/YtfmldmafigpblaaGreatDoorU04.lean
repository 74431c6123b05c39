/- Part 4: LiftY, LiftZ, LiftZ1, LiftQ, LiftZ2, LiftR, LiftW. -/
import Derived.ProofKit
import Derived.SizedLaws
import Derived.OpenShut
import Derived.Test.YtfmldmafigpblaaGreatDoorU01
section
namespace Go.Lift
set_option linter.unusedVariables false
section
variable {P : Program} {E : Env} {n : Nat} {ws : List Bool} {ops : Array Oper} {t : Slots} {B : List Own} {K : Slots → List Own → Prop} {fuel : Nat} {listed : Array Bool}
def EDi (P : Program) (n : Nat) (ops : Array Oper) (ws : List Bool) (t : Slots) (B : List Own) (K : Slots → List Own → Prop) (fuel : Nat) (listed : Array Bool) (i : Nat) : Prop :=
  ∀ X0 w0 B0 X w a, Ext X0 w0 B0 X w B → St X w B t n a → wpOp P ops (GoodN n K X0 w0 B0) i (fun a' w' => (hasL [] (listed.setIfInBounds i true) = true ∨ Kept w (rwB ws B) w') ∧ wpAnyS P ops (GoodN n K X0 w0 B0) [] (Kept w (rwB ws B)) fuel (listed.setIfInBounds i true) a' w') a w
theorem ED_two {i j : Nat} (hr : Region.ready .any ops listed = [i, j]) (h1 : EDi P n ops ws t B K fuel listed i) (h2 : EDi P n ops ws t B K fuel listed j) : ED P n ops [] ws t B K (fuel + 1) listed := by
  intro X0 w0 B0 X w a he hs
  refine wpAnyS_all hr (by simp) fun k hk => ?_
  simp only [List.mem_cons, List.not_mem_nil, or_false] at hk
  rcases hk with rfl | rfl
  · exact h1 X0 w0 B0 X w a he hs
  · exact h2 X0 w0 B0 X w a he hs
theorem EDi_call {i : Nat} {o : Oper} {f : FuncId} {args : List SV} (hi : ops[i]? = some o) (hw : ∀ X w a, St X w B t n a → Region.wanted o (yielded ops a.tmps) = true)
    (hrun : ∀ X w a, St X w B t n a → ∃ vals, (execOp a.eval o).run P w = .ok (.enter f vals) w ∧ DenL X w args vals)
    (h : EC P f args (rwB ws B) fun s B' => ED P n ops [] ws (setT n t o.dst s) (mrB ws B B') K fuel (listed.setIfInBounds i true)) : EDi P n ops ws t B K fuel listed i := by
  intro X0 w0 B0 X w a he hs
  unfold wpOp
  simp only [hi]
  rw [if_pos (hw X w a hs)]
  left
  obtain ⟨vals, h1, h2⟩ := hrun X w a hs
  unfold Oper.wp
  rw [h1]
  simp only [Oper.upon]
  refine (h.2 X w vals (hs.sat.rw ws) h2).mono ?_
  rintro e w' ⟨v, s, X', B', rfl, hK, hsat0, hden, hext0⟩
  simp only
  obtain ⟨hsat, hext⟩ := hs.sat.merge hsat0 hext0
  have hst : St X' w' (mrB ws B B') (setT n t o.dst s) n (a.put o.dst v) := by
    refine ⟨?_, hsat, ?_⟩
    · have := hs.defers; cases o.dst <;> simpa [Act.put] using this
    · exact denT_put ⟨hs.den.1, fun i => (hs.den.2 i).ext hs.sat hext⟩ hden
  exact ⟨.inr (Kept.ext hext0), wpAnyS_weak (fun w'' hk => Kept.transW hext0 (fun b hb => owns_mr hb) hk) _ _ _ _ (hK X0 w0 B0 X' w' _ (he.trans hext) hst)⟩
theorem EDi_mem {i : Nat} {o : Oper} {out : RowH → Out} (hi : ops[i]? = some o) (hw : ∀ X w a, St X w B t n a → Region.wanted o (yielded ops a.tmps) = true)
    (hu : ∀ X w a, St X w B t n a → ∃ h, (out h).vc → Done P X w (rwB ws B) (execOp a.eval o) (out h)) (hh : ∀ h, (out h).vc ∧ ED P n ops [] ws (setT n t o.dst (out h).v) (mrB ws B (out h).B) K fuel (listed.setIfInBounds i true)) : EDi P n ops ws t B K fuel listed i := by
  intro X0 w0 B0 X w a he hs
  unfold wpOp
  simp only [hi]
  rw [if_pos (hw X w a hs)]
  left
  obtain ⟨hd, hu⟩ := hu X w a hs
  obtain ⟨hvc, h⟩ := hh hd
  obtain ⟨v, w', h1, hsat0, hden, hext0⟩ := hu hvc
  obtain ⟨hsat, hext⟩ := hs.sat.merge hsat0 hext0
  have hst : St X w' (mrB ws B (out hd).B) (setT n t o.dst (out hd).v) n (a.put o.dst v) := by
    refine ⟨?_, hsat, ?_⟩
    · have := hs.defers; cases o.dst <;> simpa [Act.put] using this
    · exact denT_put ⟨hs.den.1, fun i => (hs.den.2 i).ext hs.sat hext⟩ hden
  have key : (hasL [] (listed.setIfInBounds i true) = true ∨ Kept w (rwB ws B) w') ∧ wpAnyS P ops (GoodN n K X0 w0 B0) [] (Kept w (rwB ws B)) fuel (listed.setIfInBounds i true) (a.put o.dst v) w' :=
    ⟨.inr (Kept.ext hext0), wpAnyS_weak (fun w'' hk => Kept.transW hext0 (fun b hb => owns_mr hb) hk) _ _ _ _ (h X0 w0 B0 X w' _ (he.trans hext) hst)⟩
  unfold Oper.wp
  rcases h1 with h1 | ⟨h1, rfl⟩
  · rw [h1]; simp only [Oper.upon]; exact key
  · rw [h1]; simp only [Oper.upon]; exact key
def stepI (P : Program) (E : Env) (n : Nat) (ops : Array Oper) (ws : List Bool) (t : Slots) (B : List Own) (K : Slots → List Own → Prop) (fuel : Nat) (listed : Array Bool) (i : Nat) : Prop :=
  match ops[i]? with
  | none => False
  | some o => match o.guard with
    | some _ => False
    | none => match isCallOp o.op with
      | true => match callOf false t o.op with
        | some (f, args) => EC P f args (rwB ws B) fun s B' => ED P n ops [] ws (setT n t o.dst s) (mrB ws B B') K fuel (listed.setIfInBounds i true)
        | none => False
      | false => ∀ h, match evOp E false h t (rwB ws B) o.op with
        | ⟨v, B', c⟩ => c ∧ ED P n ops [] ws (setT n t o.dst v) (mrB ws B B') K fuel (listed.setIfInBounds i true)
theorem EDi_step (hE : EnvOK P E) {i : Nat} (h : stepI P E n ops ws t B K fuel listed i) : EDi P n ops ws t B K fuel listed i := by
  unfold stepI at h
  cases hi : ops[i]? with
  | none => simp [hi] at h
  | some o =>
    simp only [hi] at h
    cases hg : o.guard with
    | some jw => simp [hg] at h
    | none =>
      have hw : ∀ X w a, St X w B t n a → Region.wanted o (yielded ops a.tmps) = true := fun X w a _ => by simp [Region.wanted, hg]
      simp only [hg] at h
      cases hco : isCallOp o.op with
      | true =>
        simp only [hco] at h
        cases hcall : callOf false t o.op with
        | none => simp [hcall] at h
        | some fa =>
          obtain ⟨f, args⟩ := fa
          simp only [hcall] at h
          exact EDi_call hi hw (fun X w a hs => call_run hcall (fun x _ => den_evS_false hs.sat.xg hs.den x) h.1) h
      | false =>
        simp only [hco] at h
        exact EDi_mem hi hw (out := fun h => evOp E false h t (rwB ws B) o.op) (fun X w a hs => evOp_sound' hE (hs.sat.rw ws) hs.den (o := o) (st := false) (by simp)) fun hd => h hd
def preOK (ops : Array Oper) : List Nat → Array Bool → Bool
  | [], _ => true
  | i :: r, listed => (match ops[i]? with
    | none => false
    | some o => !(isCallOp o.op || isMemOp o.op) && (Region.free .any ops listed i && (Region.ready .any ops listed).contains i)) && preOK ops r (listed.setIfInBounds i true)
def runP (P : Program) (E : Env) (n : Nat) (ops : Array Oper) (ws : List Bool) (K : Slots → List Own → Prop) (m : Nat) : List Nat → Slots → List Own → Array Bool → Prop
  | [], t, B, listed => ED P n ops [] ws t B K m listed
  | i :: r, t, B, listed => match ops[i]? with
    | none => False
    | some o => match o.guard with
      | some _ => False
      | none => match evOp E false (.void none) t (roB ws B) o.op with
        | ⟨v, _, c⟩ => pureOp o.op v ∧ c ∧ runP P E n ops ws K m r (setT n t o.dst v) B (listed.setIfInBounds i true)
theorem ED_pre (hE : EnvOK P E) (hns : Region.noSelect ops = true) {m : Nat} : ∀ (ord : List Nat) (t : Slots) (B : List Own) (listed : Array Bool), preOK ops ord listed = true → runP P E n ops ws K m ord t B listed → ED P n ops [] ws t B K (m + ord.length) listed
  | [], t, B, listed, _, h => h
  | i :: r, t, B, listed, ho, h => by
    simp only [preOK, Bool.and_eq_true] at ho
    obtain ⟨ho, ho2⟩ := ho
    simp only [runP] at h
    cases hi : ops[i]? with
    | none => simp [hi] at h
    | some o =>
      simp only [hi, Bool.and_eq_true] at h ho
      cases hg : o.guard with
      | some jw => simp [hg] at h
      | none =>
        have hw : ∀ X w a, St X w B t n a → Region.wanted o (yielded ops a.tmps) = true := fun X w a _ => by simp [Region.wanted, hg]
        simp only [hg] at h
        obtain ⟨h1, h2, h3⟩ := h
        refine ED_take (fuel := m + r.length) hi hns ho.2.1 ho.2.2 (by simp [hasL]) (by simp) (by simp) (fun X w a hs => ?_) (ED_pre hE hns r _ _ _ ho2 h3)
        obtain ⟨v, hd, hu⟩ := pure_st hE hs (st := false) (by simp) h1 h2
        exact ⟨v, .inl ⟨hw X w a hs, hu⟩, hd⟩
end
attribute [push_cast] stepI runP
end Go.Lift
end
section
namespace Go.Lift
set_option linter.unusedVariables false
section
variable {P : Program} {E : Env} {n : Nat} {ws : List Bool} {ops : Array Oper} {t t' : Slots} {B : List Own} {K : Slots → List Own → Prop} {fuel : Nat} {listed : Array Bool}
theorem getD'_setZ {B : List Own} {m i : Nat} {o : Own} (hm : m < B.length) : getD' (B.set m o) i = if i = m then o else getD' B i := by
  simp only [getD', List.getD_eq_getElem?_getD, List.getElem?_set]
  by_cases e : m = i
  · subst e; simp [hm]
  · simp [e, Ne.symm e]
theorem owns_nil {b : Nat} : ¬ owns [] b := by rintro ⟨i, hi⟩; simp [getD', Own.blocks] at hi
theorem Kept.sub {w w1 : World} {C C' : List Own} (k : Kept w C' w1) (h : ∀ b, owns C' b → owns C b) : Kept w C w1 := ⟨k.os, k.tape, k.output, k.size, fun b hb hn => k.block b hb fun ho => hn (h b ho)⟩
structure Flt where
  i : Nat
  d : Nat
  m : Nat
  row : RowH → Own
  sv : RowH → SV
def stepF (P : Program) (E : Env) (n : Nat) (ops : Array Oper) (ws fs : List Bool) (t : Slots) (B : List Own) (K : Slots → List Own → Prop) (fuel : Nat) (listed : Array Bool) (i : Nat) : Prop :=
  match ops[i]? with
  | none => False
  | some o => match o.guard with
    | some _ => False
    | none => match isCallOp o.op with
      | true => match callOf false t o.op with
        | some (f, args) => EC P f args (rwB fs B) fun s B' => ED P n ops [] ws (setT n t o.dst s) (mrB fs B B') K fuel (listed.setIfInBounds i true)
        | none => False
      | false => ∀ h, match evOp E false h t (rwB fs B) o.op with
        | ⟨v, B', c⟩ => c ∧ ED P n ops [] ws (setT n t o.dst v) (mrB fs B B') K fuel (listed.setIfInBounds i true)
variable {A C : Flt} {t0 : Slots} {B0 : List Own} {l0 lA lC lX : Array Bool} {f0 fA fC fX : Nat} {tA tC : RowH → Slots} {BA BC : RowH → List Own} {tX : RowH → RowH → Slots} {BX : RowH → RowH → List Own}
theorem EV_weakR {c : Code} {Q : Post} {m : Nat} {R : List Own} (h : wkS t t') (hB : B.take m = R) (hv : EV P n c t' R Q) : EV P n c t B Q := EV_weak m h (hB ▸ hv)
theorem EV_meetB {σ : Type} (live : List Nat) (V : σ → Slots) (R : List Own → σ → List Own) (Inv : σ → Prop) {c : Code} {Q : Post}
    (hrest : ∀ s, Inv s → ∀ t' B', wkS t' (V s ++ keepS t live) → B'.take (R B s).length = R B s → K t' B')
    (h : EV P n c t B (thenP (fun t' B' => ∃ s, Inv s ∧ wkS t' (V s ++ keepS t live) ∧ B'.take (R B s).length = R B s) Q)) : EV P n c t B (thenP K Q) :=
  EV_meet (fun s => V s ++ keepS t live) (fun s => R B s) Inv (fun s t' B' h1 h2 h3 => hrest s h1 t' B' h2 h3) h
theorem Den.foC {X X' : Nat → Prop} {w w' : World} {s : SV} {v : Value} (h : Go.Lift.foC s = true) (hd : Den X w s v) : Den X' w' s v := by
  cases hd <;> first | (constructor; done) | (simp [Go.Lift.foC] at h; done)
theorem Den.fo {X X' : Nat → Prop} {w w' : World} {s : SV} {v : Value} (h : Go.Lift.fo s = true) (hd : Den X w s v) : Den X' w' s v := by
  cases s with
  | agg cs =>
    cases hd with
    | agg hs hc =>
      refine .agg hs fun i c hi => (hc i c hi).foC ?_
      simp only [Go.Lift.fo, List.all_eq_true] at h
      exact h c (List.mem_of_getElem? hi)
  | _ => exact hd.foC (by simpa [Go.Lift.fo] using h)
def fot : SV → Bool
  | .tup cs => cs.all fo
  | s => fo s
theorem Den.fot {X X' : Nat → Prop} {w w' : World} {s : SV} {v : Value} (h : Go.Lift.fot s = true) (hd : Den X w s v) : Den X' w' s v := by
  cases s with
  | tup cs =>
    cases hd with
    | tup hs hc =>
      refine .tup hs fun i c hi => (hc i c hi).fo ?_
      simp only [Go.Lift.fot, List.all_eq_true] at h
      exact h c (List.mem_of_getElem? hi)
  | _ => exact hd.fo (by simpa [Go.Lift.fot] using h)
theorem EC.lend {f : Nat} {args args' : List SV} {B : List Own} {C : SV → Prop} {Q : SV → List Own → Prop} (h : EC P f args' [] fun r N => N = [] ∧ C r) (ha : LFz 0 B args args') (hf : ∀ r, C r → fot r = true) (hk : ∀ r, C r → Q r B) : EC P f args B Q := by
  have hb : ∀ i, getD' ([] : List Own) i = if fromM 0 i then .gone else getD' B i := fun i => by simp [fromM, getD']
  refine ⟨h.1, fun X w vs hs hd => ?_⟩
  have hsp := ha.spec
  refine (h.2 (withSel X B (fromM 0)) w vs (hs.drop_sel hb) ⟨by rw [hd.1, hsp.1], fun i c hc => ?_⟩).mono ?_
  · obtain ⟨d, h1, h2, h3⟩ := hsp.2 i c hc
    exact h3 _ _ _ (frzT_sound hs (hd.2 i d h1) h2)
  · rintro e w' ⟨v, r, X', B', he, ⟨rfl, hq⟩, h1, h2, h3⟩
    have hblk : ∀ b, b < w.heap.size → w'.heap[b]? = w.heap[b]? := fun b hb => h3.block b hb owns_nil
    refine ⟨v, r, X, B, he, hk r hq, ⟨hs.inj, fun i b h => Nat.lt_of_lt_of_le (hs.lt i b h) h3.size, hs.xg.mono (fun _ h => h) (fun b hb => hblk b (hs.xlt b hb)) fun b h => Nat.lt_of_lt_of_le (hs.xlt b h) h3.size, hs.apart, fun i => ?_⟩, h2.fot (hf r hq),
      ⟨h3.os, h3.tape, h3.output, h3.size, fun b hb _ => hblk b hb, fun _ h => h, fun _ h => .inl h, fun _ h => .inl h⟩⟩
    exact Own.ok_mono (hs.ok i) (fun _ h => h) (fun b hb => hblk b (hs.xlt b hb)) fun b hb => hblk b (hs.lt i b hb)
theorem LFz.row {α : Type} {B : List Own} {i e n E : Nat} {h : RowH} {xs : List (List SV)} {cells : α → List SV} {d : α} {l : List α} {r r' : List SV} (hB : getD' B i = .row h E e xs) (hx : xs = l.map cells) (hn : n = l.length) (hr : LFz 0 B r r') :
    LFz 0 B (.row i h e 0 n :: r) (.sl false e l.length (elt cells d l) :: r') := by
  subst hx hn
  refine .cons ?_ ?_ hr
  · simp [frzKT, frzKA, frzKC, fromM, hB]
  · simp only [frzT, frzA, frzC, fromM, Nat.zero_le, decide_true, hB]
    refine SLe.sl (fun h => h) (.inr rfl) fun k hk => ?_
    simp [List.getD, hk, elt]
theorem LFz.int {B : List Own} {k : IntKind} {n : Int} {r r' : List SV} (hr : LFz 0 B r r') : LFz 0 B (.int k n :: r) (.int k n :: r') := .cons trivial (SLe.refl _) hr
theorem LFz.str {B : List Own} {n : List UInt8} {r r' : List SV} (hr : LFz 0 B r r') : LFz 0 B (.str n :: r) (.str n :: r') := .cons trivial (SLe.refl _) hr
end
attribute [push_cast] stepF
end Go.Lift
end
section
namespace Go.Lift
set_option linter.unusedVariables false
structure Kn where
  f : Exit → Slots → List Own → Prop
def EOK (P : Program) (n : Nat) (all l : List Oper) (t : Slots) (B : List Own) (k : Kn) : Prop := EO P n all l t B (k.f .normal)
def holdsK (P : Program) (n : Nat) (all : List Oper) (k : Kn) : Res → Prop
  | .done t B => k.f .normal t B
  | .chk c r => c ∧ holdsK P n all k r
  | .call f args d rest t B => EC P f args B fun r B' => EOK P n all rest (setT n t d r) B' k
  | .callG c f args d rest t B => (c = true → EC P f args B fun r B' => EOK P n all rest (setT n t d r) B' k) ∧ (c = false → EOK P n all rest (setT n t d .any) B k)
  | .split c o rest t B => (c = true → EOK P n all (unguard o :: rest) t B k) ∧ (c = false → EOK P n all rest (setT n t o.dst .any) B k)
theorem holdsK_eq {P : Program} {n : Nat} {all : List Oper} {k : Kn} : ∀ (r : Res), holdsK P n all k r = holds P n all (k.f .normal) r
  | .done _ _ => rfl
  | .chk c r => by simp only [holdsK, holds, holdsK_eq r]
  | .call .. => rfl
  | .callG .. => rfl
  | .split .. => rfl
def wk (P : Program) (E : Env) (n : Nat) : Code → Kn → Slots → List Own → Prop
  | .skip, k, t, B => k.f .normal t B
  | .ret, k, t, B => k.f .ret t B
  | .exit id, k, t, B => k.f (.exit id) t B
  | .label _, k, t, B => k.f .normal t B
  | .seq x y, k, t, B => wk P E n x ⟨thenP (fun t B => wk P E n y k t B) k.f⟩ t B
  | .block id c, k, t, B => wk P E n c ⟨blockP id k.f⟩ t B
  | .scope c, k, t, B => wk P E n c ⟨scopeP k.f⟩ t B
  | .cond c x y, k, t, B => match ev t c with
    | .bool p => (p = true → wk P E n x k t B) ∧ (p = false → wk P E n y k t B)
    | _ => False
  | .region _ ops false, k, t, B => ∀ fr, holdsK P n ops.toList k (run E n ops.toList fr 0 ops.toList t B)
  | .region id ops true, k, t, B => EV P n (.region id ops true) t B k.f
  | .loop c, k, t, B => EV P n (.loop c) t B k.f
  | _, _, _, _ => False
def thK (P : Program) (E : Env) (n : Nat) (y : Code) (k : Kn) : Kn := ⟨thenP (fun t B => wk P E n y k t B) k.f⟩
def blK (id : Nat) (k : Kn) : Kn := ⟨blockP id k.f⟩
def scK (k : Kn) : Kn := ⟨scopeP k.f⟩
def lpK (N : Slots → List Own → Prop) (k : Kn) : Kn := ⟨thenP N k.f⟩
def baK (Q : Post) : Kn := ⟨Q⟩
section
variable {P : Program} {E : Env} {n : Nat} {k : Kn} {t : Slots} {B : List Own} {Q : Post}
theorem wk_skip : wk P E n .skip k t B = k.f .normal t B := rfl
theorem wk_ret : wk P E n .ret k t B = k.f .ret t B := rfl
theorem wk_exit {id : Nat} : wk P E n (.exit id) k t B = k.f (.exit id) t B := rfl
theorem wk_label {id : Nat} : wk P E n (.label id) k t B = k.f .normal t B := rfl
theorem wk_seq {x y : Code} : wk P E n (.seq x y) k t B = wk P E n x (thK P E n y k) t B := rfl
theorem wk_block {id : Nat} {c : Code} : wk P E n (.block id c) k t B = wk P E n c (blK id k) t B := rfl
theorem wk_scope {c : Code} : wk P E n (.scope c) k t B = wk P E n c (scK k) t B := rfl
theorem wk_cond {c : Operand} {x y : Code} : wk P E n (.cond c x y) k t B = match ev t c with
    | .bool p => (p = true → wk P E n x k t B) ∧ (p = false → wk P E n y k t B)
    | _ => False := rfl
theorem wk_region {id : Nat} {ops : Array Oper} : wk P E n (.region id ops false) k t B = ∀ fr, holdsK P n ops.toList k (run E n ops.toList fr 0 ops.toList t B) := rfl
theorem wk_drawn {id : Nat} {ops : Array Oper} : wk P E n (.region id ops true) k t B = EV P n (.region id ops true) t B k.f := rfl
theorem wk_loop {c : Code} : wk P E n (.loop c) k t B = EV P n (.loop c) t B k.f := rfl
theorem thK_n {y : Code} : (thK P E n y k).f .normal t B = wk P E n y k t B := rfl
theorem thK_e {y : Code} {i : Nat} : (thK P E n y k).f (.exit i) t B = k.f (.exit i) t B := rfl
theorem thK_r {y : Code} : (thK P E n y k).f .ret t B = k.f .ret t B := rfl
theorem blK_n {i : Nat} : (blK i k).f .normal t B = k.f .normal t B := rfl
theorem blK_e {i j : Nat} : (blK i k).f (.exit j) t B = if j = i then k.f .normal t B else k.f (.exit j) t B := rfl
theorem blK_r {i : Nat} : (blK i k).f .ret t B = k.f .ret t B := rfl
theorem scK_n : (scK k).f .normal t B = k.f .normal t B := rfl
theorem scK_e {j : Nat} : (scK k).f (.exit j) t B = k.f (.exit j) t B := rfl
theorem scK_r : (scK k).f .ret t B = k.f .ret t B := rfl
theorem lpK_n {N : Slots → List Own → Prop} : (lpK N k).f .normal t B = N t B := rfl
theorem lpK_e {N : Slots → List Own → Prop} {j : Nat} : (lpK N k).f (.exit j) t B = k.f (.exit j) t B := rfl
theorem lpK_r {N : Slots → List Own → Prop} : (lpK N k).f .ret t B = k.f .ret t B := rfl
theorem baK_f {e : Exit} : (baK Q).f e t B = Q e t B := rfl
theorem wk_sound (hE : EnvOK P E) : ∀ (c : Code) (k : Kn) (t : Slots) (B : List Own), wk P E n c k t B → EV P n c t B k.f
  | .skip, _, _, _, h => EV_skip h
  | .ret, _, _, _, h => EV_ret h
  | .exit _, _, _, _, h => EV_exit h
  | .label _, _, _, _, h => EV_label h
  | .seq x y, k, t, B, h => EV_seq fun K hK => (wk_sound hE x _ t B h).mono fun e t' B' hq => by
      cases e <;> try exact hq
      exact hK _ _ (wk_sound hE y k t' B' hq)
  | .block id c, k, t, B, h => EV_block (wk_sound hE c _ t B h)
  | .scope c, k, t, B, h => EV_scope (wk_sound hE c _ t B h)
  | .cond c x y, k, t, B, h => by
      rw [wk_cond] at h
      split at h
      · rename_i p hp
        exact EV_cond hp (fun e => wk_sound hE x k t B (h.1 e)) (fun e => wk_sound hE y k t B (h.2 e))
      · exact h.elim
  | .region id ops false, k, t, B, h => by
      intro X0 w0 B0 X w a he hs
      refine wp_region_list ?_
      have := EO_run hE (K := k.f .normal) ops.toList 0 t B (fun fr => by rw [← holdsK_eq]; exact h fr) k.f (fun _ _ h => h) X0 w0 B0 X w a he hs
      simpa using this
  | .region id ops true, k, t, B, h => h
  | .loop c, k, t, B, h => h
theorem EOK_run (hE : EnvOK P E) {all l : List Oper} {m : Nat} (h : ∀ fr, holdsK P n all k (run E n all fr m l t B)) : EOK P n all l t B k :=
  EO_run hE l m t B fun fr => by rw [← holdsK_eq]; exact h fr
theorem EC.enterK (hE : EnvOK P E) {f : FuncId} {fn : Func} {c : Code} {args : List SV} {B : List Own} {Q : SV → List Own → Prop} (hc : callable P f = true) (hf : P.funcs[f]? = some fn) (hb : fn.body = some c) (hn : args.length ≤ fn.ntmps)
    (h : wk P E fn.ntmps c (baK (retP E fn.results.toList Q)) (bindA 0 args) B) : EC P f args B Q :=
  EC.enter hE hc hf hb hn (wk_sound hE c _ _ B h)
variable {all rest : List Oper} {d : Option Nat} {f : FuncId} {args : List SV}
theorem EC.useK (hE : EnvOK P E) {T : SV → Slots} {R : SV} (hc : EC P f args [] fun r B' => B' = [] ∧ r = R) (h : ∀ fr, holdsK P n all k (run E n all fr 0 rest (T R) B)) :
    EC P f args B fun r B' => EOK P n all rest (T r) B' k := EC.use hc (EOK_run hE h)
theorem EC.useKP (hE : EnvOK P E) {T : SV → Slots} {σ : Type} {C : σ → Prop} {R : σ → SV} (hc : EC P f args [] fun r N => N = [] ∧ ∃ x, C x ∧ r = R x) (h : ∀ x, C x → ∀ fr, holdsK P n all k (run E n all fr 0 rest (T (R x)) B)) :
    EC P f args B fun r B' => EOK P n all rest (T r) B' k := EC.useP hc fun x hx => EOK_run hE (h x hx)
def NX {σ : Type} (V : σ → Slots) (R : σ → List Own) (Inv : σ → Prop) (μ : σ → Nat) (live : Slots) (s : σ) (t' : Slots) (B' : List Own) : Prop :=
  ∃ s', Inv s' ∧ μ s' < μ s ∧ wkS t' (V s' ++ live) ∧ B'.take (R s').length = R s'
theorem NX_mk {σ : Type} {V : σ → Slots} {R : σ → List Own} {Inv : σ → Prop} {μ : σ → Nat} {live : Slots} {s : σ} {t' : Slots} {B' : List Own} (s' : σ) (hI : Inv s')
    (hm : μ s' < μ s := by first | omega | (simp; omega)) (hw : wkS t' (V s' ++ live) := by first | (simp [wkS, lkp, List.take_length]; done) | (repeat (first | exact trivial | refine And.intro (by first | rfl | (simp only [lkp, push_cast, simprocAttr]; done) | (simp [lkp]; done)) ?_)))
    (hb : B'.take (R s').length = R s' := by first | rfl | (simp only [push_cast, List.take_length, List.take_append_of_le_length, simprocAttr]; done) | (simp [updX, updH, setX]; done)) : NX V R Inv μ live s t' B' := ⟨s', hI, hm, hw, hb⟩
theorem EV_loopK (hE : EnvOK P E) {σ : Type} (live : List Nat) (V : σ → Slots) (R : List Own → σ → List Own) (Inv : σ → Prop) (μ : σ → Nat) (s0 : σ) {c : Code} (h0 : Inv s0)
    (round : ∀ s, Inv s → wk P E n c (lpK (NX V (R B) Inv μ (keepS t live) s) k) (V s ++ keepS t live) (R B s)) (hw : wkS t (V s0) := by first | exact ⟨rfl, trivial⟩ | (simp [wkS, lkp]; done) | (repeat (first | exact trivial | refine And.intro (by first | rfl | (simp only [lkp, push_cast, simprocAttr]; done) | (simp [lkp]; done)) ?_)))
    (hb : R B s0 = B := by first | rfl | (simp [updX, updH, setX]; done)) : EV P n (.loop c) t B k.f :=
  EV_loopB live V R Inv μ s0 h0 hw hb fun s hs => (wk_sound hE c _ _ _ (round s hs)).mono fun e t' B' h => by cases e <;> exact h
theorem EC.matr {f : FuncId} {args : List SV} {Q : SV → List Own → Prop} (E e : Nat) (h : EC P f args [] fun r N => Q r N ∨ ∃ g, r = .sl true 0 0 g ∧ N = [] ∧ ∀ hh, Q (.row 0 hh e 0 0) [.row hh E e []]) : EC P f args [] Q := by
  refine ⟨h.1, fun X w vs hs hd => (h.2 X w vs hs hd).mono ?_⟩
  rintro ex w' ⟨v, r, X', B', he, hq | ⟨g, rfl, rfl, hq⟩, hsat, hden, hext⟩
  · exact ⟨v, r, X', B', he, hq, hsat, hden, hext⟩
  · obtain ⟨a, rfl⟩ : ∃ a, v = .slice a 0 0 := by
      cases hden with
      | slNil hf => rw [hf rfl]; exact ⟨_, rfl⟩
      | slAt g hn => exact absurd hn (Nat.lt_irrefl 0)
    exact ⟨_, .row 0 (.void a) e 0 0, X', [.row (.void a) E e []], he, hq _, hsat.push (Nat.le_refl _) (fun _ _ => rfl) (fun c hc => by simp [Own.blocks] at hc) rfl, .rowVoid .., hext.trans (Ext.push rfl rfl rfl (Nat.le_refl _) (fun _ _ => rfl) fun c hc => by simp [Own.blocks] at hc)⟩
def envK (E : Env) : Env := { E with kp := true }
theorem envK_ok (hE : EnvOK P E) : EnvOK P (envK E) := ⟨hE.ty, hE.zr, hE.lv⟩
theorem envK_ty : (envK E).ty = E.ty := rfl
theorem envK_zr : (envK E).zr = E.zr := rfl
theorem envK_lv : (envK E).lv = E.lv := rfl
theorem envK_kp : (envK E).kp = true := rfl
theorem sd {a b : Prop} (hb : b) (ha : a := by first | omega | (simp (maxDischargeDepth := 9) only [push_cast, simprocAttr]; done) | decide | (simp; done) | (simp; omega)) : a ∧ b := ⟨ha, hb⟩
end
attribute [push_cast] envK_ty envK_zr envK_lv envK_kp wk_skip wk_ret wk_exit wk_label wk_seq wk_block wk_scope wk_cond wk_region wk_drawn wk_loop thK_n thK_e thK_r blK_n blK_e blK_r scK_n scK_e scK_r lpK_n lpK_e lpK_r baK_f holdsK retP evR evRes evRes1 bindA GV
end Go.Lift
end
section
namespace Go.Lift
set_option linter.unusedVariables false
section
variable {P : Program} {E : Env} {n : Nat} {ws : List Bool} {ops : Array Oper} {t : Slots} {B : List Own} {K : Slots → List Own → Prop} {fuel : Nat} {listed : Array Bool} {late : List Nat}
def EDj (P : Program) (n : Nat) (ops : Array Oper) (late : List Nat) (ws : List Bool) (t : Slots) (B : List Own) (K : Slots → List Own → Prop) (fuel : Nat) (listed : Array Bool) (i : Nat) : Prop :=
  ∀ X0 w0 B0 X w a, Ext X0 w0 B0 X w B → St X w B t n a → wpOp P ops (GoodN n K X0 w0 B0) i (fun a' w' => (hasL late (listed.setIfInBounds i true) = true ∨ Kept w (rwB ws B) w') ∧ wpAnyS P ops (GoodN n K X0 w0 B0) late (Kept w (rwB ws B)) fuel (listed.setIfInBounds i true) a' w') a w
theorem EDj_two {i j : Nat} (hr : Region.ready .any ops listed = [i, j]) (h1 : EDj P n ops late ws t B K fuel listed i) (h2 : EDj P n ops late ws t B K fuel listed j) : ED P n ops late ws t B K (fuel + 1) listed := by
  intro X0 w0 B0 X w a he hs
  refine wpAnyS_all hr (by simp) fun k hk => ?_
  simp only [List.mem_cons, List.not_mem_nil, or_false] at hk
  rcases hk with rfl | rfl
  · exact h1 X0 w0 B0 X w a he hs
  · exact h2 X0 w0 B0 X w a he hs
theorem EDj_call {i : Nat} {o : Oper} {f : FuncId} {args : List SV} (hi : ops[i]? = some o) (hw : ∀ X w a, St X w B t n a → Region.wanted o (yielded ops a.tmps) = true)
    (hrun : ∀ X w a, St X w B t n a → ∃ vals, (execOp a.eval o).run P w = .ok (.enter f vals) w ∧ DenL X w args vals)
    (h : EC P f args (rwB ws B) fun s B' => ED P n ops late ws (setT n t o.dst s) (mrB ws B B') K fuel (listed.setIfInBounds i true)) : EDj P n ops late ws t B K fuel listed i := by
  intro X0 w0 B0 X w a he hs
  unfold wpOp
  simp only [hi]
  rw [if_pos (hw X w a hs)]
  left
  obtain ⟨vals, h1, h2⟩ := hrun X w a hs
  unfold Oper.wp
  rw [h1]
  simp only [Oper.upon]
  refine (h.2 X w vals (hs.sat.rw ws) h2).mono ?_
  rintro e w' ⟨v, s, X', B', rfl, hK, hsat0, hden, hext0⟩
  simp only
  obtain ⟨hsat, hext⟩ := hs.sat.merge hsat0 hext0
  have hst : St X' w' (mrB ws B B') (setT n t o.dst s) n (a.put o.dst v) := by
    refine ⟨?_, hsat, ?_⟩
    · have := hs.defers; cases o.dst <;> simpa [Act.put] using this
    · exact denT_put ⟨hs.den.1, fun i => (hs.den.2 i).ext hs.sat hext⟩ hden
  exact ⟨.inr (Kept.ext hext0), wpAnyS_weak (fun w'' hk => Kept.transW hext0 (fun b hb => owns_mr hb) hk) _ _ _ _ (hK X0 w0 B0 X' w' _ (he.trans hext) hst)⟩
theorem EDj_mem {i : Nat} {o : Oper} {out : RowH → Out} (hi : ops[i]? = some o) (hw : ∀ X w a, St X w B t n a → Region.wanted o (yielded ops a.tmps) = true)
    (hu : ∀ X w a, St X w B t n a → ∃ h, (out h).vc → Done P X w (rwB ws B) (execOp a.eval o) (out h)) (hh : ∀ h, (out h).vc ∧ ED P n ops late ws (setT n t o.dst (out h).v) (mrB ws B (out h).B) K fuel (listed.setIfInBounds i true)) : EDj P n ops late ws t B K fuel listed i := by
  intro X0 w0 B0 X w a he hs
  unfold wpOp
  simp only [hi]
  rw [if_pos (hw X w a hs)]
  left
  obtain ⟨hd, hu⟩ := hu X w a hs
  obtain ⟨hvc, h⟩ := hh hd
  obtain ⟨v, w', h1, hsat0, hden, hext0⟩ := hu hvc
  obtain ⟨hsat, hext⟩ := hs.sat.merge hsat0 hext0
  have hst : St X w' (mrB ws B (out hd).B) (setT n t o.dst (out hd).v) n (a.put o.dst v) := by
    refine ⟨?_, hsat, ?_⟩
    · have := hs.defers; cases o.dst <;> simpa [Act.put] using this
    · exact denT_put ⟨hs.den.1, fun i => (hs.den.2 i).ext hs.sat hext⟩ hden
  have key : (hasL late (listed.setIfInBounds i true) = true ∨ Kept w (rwB ws B) w') ∧ wpAnyS P ops (GoodN n K X0 w0 B0) late (Kept w (rwB ws B)) fuel (listed.setIfInBounds i true) (a.put o.dst v) w' :=
    ⟨.inr (Kept.ext hext0), wpAnyS_weak (fun w'' hk => Kept.transW hext0 (fun b hb => owns_mr hb) hk) _ _ _ _ (h X0 w0 B0 X w' _ (he.trans hext) hst)⟩
  unfold Oper.wp
  rcases h1 with h1 | ⟨h1, rfl⟩
  · rw [h1]; simp only [Oper.upon]; exact key
  · rw [h1]; simp only [Oper.upon]; exact key
def stepJ (P : Program) (E : Env) (n : Nat) (ops : Array Oper) (late : List Nat) (ws : List Bool) (t : Slots) (B : List Own) (K : Slots → List Own → Prop) (fuel : Nat) (listed : Array Bool) (i : Nat) : Prop :=
  match ops[i]? with
  | none => False
  | some o => match o.guard with
    | some _ => False
    | none => match isCallOp o.op with
      | true => match callOf false t o.op with
        | some (f, args) => EC P f args (rwB ws B) fun s B' => ED P n ops late ws (setT n t o.dst s) (mrB ws B B') K fuel (listed.setIfInBounds i true)
        | none => False
      | false => ∀ h, match evOp E false h t (rwB ws B) o.op with
        | ⟨v, B', c⟩ => c ∧ ED P n ops late ws (setT n t o.dst v) (mrB ws B B') K fuel (listed.setIfInBounds i true)
theorem EDj_step (hE : EnvOK P E) {i : Nat} (h : stepJ P E n ops late ws t B K fuel listed i) : EDj P n ops late ws t B K fuel listed i := by
  unfold stepJ at h
  cases hi : ops[i]? with
  | none => simp [hi] at h
  | some o =>
    simp only [hi] at h
    cases hg : o.guard with
    | some jw => simp [hg] at h
    | none =>
      have hw : ∀ X w a, St X w B t n a → Region.wanted o (yielded ops a.tmps) = true := fun X w a _ => by simp [Region.wanted, hg]
      simp only [hg] at h
      cases hco : isCallOp o.op with
      | true =>
        simp only [hco] at h
        cases hcall : callOf false t o.op with
        | none => simp [hcall] at h
        | some fa =>
          obtain ⟨f, args⟩ := fa
          simp only [hcall] at h
          exact EDj_call hi hw (fun X w a hs => call_run hcall (fun x _ => den_evS_false hs.sat.xg hs.den x) h.1) h
      | false =>
        simp only [hco] at h
        exact EDj_mem hi hw (out := fun h => evOp E false h t (rwB ws B) o.op) (fun X w a hs => evOp_sound' hE (hs.sat.rw ws) hs.den (o := o) (st := false) (by simp)) fun hd => h hd
def preJ (ops : Array Oper) (late : List Nat) : List Nat → Array Bool → Bool
  | [], _ => true
  | i :: r, listed => (match ops[i]? with
    | none => false
    | some o => !(isCallOp o.op || isMemOp o.op) && (Region.free .any ops listed i && (Region.ready .any ops listed).contains i) && (!hasL late listed && late.all fun b => b != i && (match ops[b]? with
      | some ob => ob.after.any fun e => Region.binds .any e && e.on == i
      | none => true))) && preJ ops late r (listed.setIfInBounds i true)
def runJ (P : Program) (E : Env) (n : Nat) (ops : Array Oper) (late : List Nat) (ws : List Bool) (K : Slots → List Own → Prop) (m : Nat) : List Nat → Slots → List Own → Array Bool → Prop
  | [], t, B, listed => ED P n ops late ws t B K m listed
  | i :: r, t, B, listed => match ops[i]? with
    | none => False
    | some o => match o.guard with
      | some _ => False
      | none => match evOp E false (.void none) t (roB ws B) o.op with
        | ⟨v, _, c⟩ => pureOp o.op v ∧ c ∧ runJ P E n ops late ws K m r (setT n t o.dst v) B (listed.setIfInBounds i true)
theorem EDj_pre (hE : EnvOK P E) (hns : Region.noSelect ops = true) {m : Nat} : ∀ (ord : List Nat) (t : Slots) (B : List Own) (listed : Array Bool), preJ ops late ord listed = true → runJ P E n ops late ws K m ord t B listed → ED P n ops late ws t B K (m + ord.length) listed
  | [], t, B, listed, _, h => h
  | i :: r, t, B, listed, ho, h => by
    simp only [preJ, Bool.and_eq_true] at ho
    obtain ⟨ho, ho2⟩ := ho
    simp only [runJ] at h
    cases hi : ops[i]? with
    | none => simp [hi] at h
    | some o =>
      simp only [hi, Bool.and_eq_true] at h ho
      cases hg : o.guard with
      | some jw => simp [hg] at h
      | none =>
        have hw : ∀ X w a, St X w B t n a → Region.wanted o (yielded ops a.tmps) = true := fun X w a _ => by simp [Region.wanted, hg]
        simp only [hg] at h
        obtain ⟨h1, h2, h3⟩ := h
        refine ED_take (fuel := m + r.length) hi hns ho.1.2.1 ho.1.2.2 (by simpa using ho.2.1) (fun b hb => by have := List.all_eq_true.1 ho.2.2 b hb; simp only [Bool.and_eq_true, bne_iff_ne, ne_eq] at this; exact this.1) (fun b hb ob hob => by have := List.all_eq_true.1 ho.2.2 b hb; simp only [Bool.and_eq_true, hob, Array.any_eq_true] at this; obtain ⟨k, hk, h1⟩ := this.2; simp only [beq_iff_eq] at h1; exact ⟨_, Array.getElem_mem hk, h1⟩) (fun X w a hs => ?_) (EDj_pre hE hns r _ _ _ ho2 h3)
        obtain ⟨v, hd, hu⟩ := pure_st hE hs (st := false) (by simp) h1 h2
        exact ⟨v, .inl ⟨hw X w a hs, hu⟩, hd⟩
end
theorem getD'_app {B N : List Own} {j : Nat} : getD' (B ++ N) j = if j < B.length then getD' B j else getD' N (j - B.length) := by
  unfold getD'
  simp only [List.getD, List.getElem?_append]
  split <;> rfl
theorem EC.useN {P : Program} {f : Nat} {args : List SV} {B : List Own} {σ : Type} {C : σ → Prop} {N : σ → List Own} {R : σ → Nat → SV} {Q : SV → List Own → Prop}
    (hc : EC P f args [] fun r B' => ∃ s, C s ∧ r = R s 0 ∧ B' = N s) (hR : ∀ s i, SLe (R s 0) (R s i)) (hk : ∀ s, C s → Q (R s B.length) (B ++ N s)) : EC P f args B Q := by
  refine ⟨hc.1, fun X w vs hs hd => ?_⟩
  have h0 : Sat X w [] := hs.sub fun i => .inr (by simp [getD'])
  refine (hc.2 X w vs h0 hd).mono ?_
  rintro ex w' ⟨v, r, X', N', rfl, ⟨s, hC, rfl, rfl⟩, hsat, hden, hext⟩
  have hx : ∀ b, ¬ owns ([] : List Own) b := fun b ⟨i, hi⟩ => by simp [getD', Own.blocks] at hi
  have nb : ∀ i b, b ∈ (getD' (N s) i).blocks → w.heap.size ≤ b := fun i b hb => (hext.own b ⟨i, hb⟩).elim (fun ho => absurd ho (hx b)) id
  refine ⟨v, _, X', _, rfl, hk s hC, ⟨fun a b c h1 h2 => ?_, fun a b h1 => ?_, hsat.xg, fun b hb ⟨a, h1⟩ => ?_, fun a => ?_⟩, hR _ _ _ _ _ hden, ⟨hext.os, hext.tape, hext.output, hext.size, fun b hb _ => hext.block b hb (hx b), hext.xin, fun b hb => (hext.xout b hb).imp_right fun h => .inr (h.elim (fun ho => absurd ho (hx b)) id), fun b hb => ?_⟩⟩
  · rw [getD'_app] at h1 h2
    split at h1 <;> split at h2
    · exact hs.inj a b c h1 h2
    · have := nb _ c h2; have := hs.lt a c h1; omega
    · have := nb _ c h1; have := hs.lt b c h2; omega
    · have := hsat.inj _ _ c h1 h2; omega
  · rw [getD'_app] at h1
    split at h1
    · exact Nat.lt_of_lt_of_le (hs.lt a b h1) hext.size
    · exact hsat.lt _ b h1
  · rw [getD'_app] at h1
    split at h1
    · rcases hext.xout b hb with h | h | h
      · exact hs.apart b h ⟨a, h1⟩
      · exact hx b h
      · have := hs.lt a b h1; omega
    · exact hsat.apart b hb ⟨_, h1⟩
  · rw [getD'_app]
    split
    · exact Own.ok_mono (hs.ok a) hext.xin (fun b hb => hext.block b (hs.xlt b hb) (hx b)) fun b hb => hext.block b (hs.lt a b hb) (hx b)
    · exact hsat.ok _
  · obtain ⟨a, h1⟩ := hb
    rw [getD'_app] at h1
    split at h1
    · exact .inl ⟨a, h1⟩
    · exact .inr (nb _ b h1)
theorem Den.rowX {X X' : Nat → Prop} {w w' : World} {i j : Nat} {h : RowH} {e lo n : Nat} {v : Value} (hd : Den X w (.row i h e lo n) v) : Den X' w' (.row j h e lo n) v := by
  cases hd with
  | rowVoid => exact .rowVoid ..
  | rowAt _ _ _ _ _ h => exact .rowAt _ _ _ _ _ h
  | rowLo _ _ _ _ _ _ _ hn h => exact .rowLo _ _ _ _ _ _ _ hn h
  | rowLo0 => exact .rowLo0 ..
def freeC (s : SV) : Bool := foC s || match s with | .row .. => true | _ => false
theorem Den.freeC {X X' : Nat → Prop} {w w' : World} {s : SV} {v : Value} (h : Go.Lift.freeC s = true) (hd : Den X w s v) : Den X' w' s v := by
  cases s with
  | row i hh e lo n => exact hd.rowX
  | _ => exact hd.foC (by simpa [Go.Lift.freeC] using h)
def free : SV → Bool
  | .agg cs => cs.all freeC
  | s => freeC s
theorem Den.free {X X' : Nat → Prop} {w w' : World} {s : SV} {v : Value} (h : Go.Lift.free s = true) (hd : Den X w s v) : Den X' w' s v := by
  cases s with
  | agg cs =>
    cases hd with
    | agg hs hc =>
      refine .agg hs fun i c hi => (hc i c hi).freeC ?_
      simp only [Go.Lift.free, List.all_eq_true] at h
      exact h c (List.mem_of_getElem? hi)
  | _ => exact hd.freeC (by simpa [Go.Lift.free] using h)
def Own.free : Own → Prop
  | .row _ _ _ xs => ∀ x ∈ xs, ∀ c ∈ x, freeC c = true
  | .gone => True
theorem Own.ok_free {X X' : Nat → Prop} {w : World} {o : Own} (hf : o.free) (h : Own.ok X w o) : Own.ok X' w o := by
  cases o with
  | gone => trivial
  | row h0 E e xs =>
    cases h0 with
    | void a => exact h
    | mp b => exact h
    | «at» b cap =>
      obtain ⟨vs, h1, h2, h3, h4, h5⟩ := h
      exact ⟨vs, h1, h2, h3, h4, fun k j x c hx hc => (h5 k j x c hx hc).freeC (hf x (List.mem_of_getElem? hx) c (List.mem_of_getElem? hc))⟩
theorem EC.lendN {P : Program} {f : Nat} {args args' : List SV} {B : List Own} {σ : Type} {C : σ → Prop} {N : σ → List Own} {R : σ → Nat → SV} {Q : SV → List Own → Prop}
    (hc : EC P f args' [] fun r B' => ∃ s, C s ∧ r = R s 0 ∧ B' = N s) (ha : LFz 0 B args args') (hf : ∀ s, free (R s 0) = true) (hn : ∀ s i, (getD' (N s) i).free) (hR : ∀ s i, SLe (R s 0) (R s i)) (hk : ∀ s, C s → Q (R s B.length) (B ++ N s)) : EC P f args B Q := by
  have hb : ∀ i, getD' ([] : List Own) i = if fromM 0 i then .gone else getD' B i := fun i => by simp [fromM, getD']
  refine ⟨hc.1, fun X w vs hs hd => ?_⟩
  have hsp := ha.spec
  refine (hc.2 (withSel X B (fromM 0)) w vs (hs.drop_sel hb) ⟨by rw [hd.1, hsp.1], fun i c hc => ?_⟩).mono ?_
  · obtain ⟨d, h1, h2, h3⟩ := hsp.2 i c hc
    exact h3 _ _ _ (frzT_sound hs (hd.2 i d h1) h2)
  · rintro e w' ⟨v, r, X', B', he, ⟨s, hC, rfl, rfl⟩, hsat, hden, hext⟩
    have hx : ∀ b, ¬ owns ([] : List Own) b := fun b ⟨i, hi⟩ => by simp [getD', Own.blocks] at hi
    have hblk : ∀ b, b < w.heap.size → w'.heap[b]? = w.heap[b]? := fun b hb => hext.block b hb (hx b)
    have nb : ∀ i b, b ∈ (getD' (N s) i).blocks → w.heap.size ≤ b := fun i b hb => (hext.own b ⟨i, hb⟩).elim (fun ho => absurd ho (hx b)) id
    refine ⟨v, _, X, _, he, hk s hC, ⟨fun a b c h1 h2 => ?_, fun a b h1 => ?_, hs.xg.mono (fun _ h => h) (fun b hb => hblk b (hs.xlt b hb)) fun b h => Nat.lt_of_lt_of_le (hs.xlt b h) hext.size, fun b hb ⟨a, h1⟩ => ?_, fun a => ?_⟩, hR _ _ _ _ _ (hden.free (hf s)),
      ⟨hext.os, hext.tape, hext.output, hext.size, fun b hb _ => hblk b hb, fun _ h => h, fun _ h => .inl h, fun b hb => ?_⟩⟩
    · rw [getD'_app] at h1 h2
      split at h1 <;> split at h2
      · exact hs.inj a b c h1 h2
      · have := nb _ c h2; have := hs.lt a c h1; omega
      · have := nb _ c h1; have := hs.lt b c h2; omega
      · have := hsat.inj _ _ c h1 h2; omega
    · rw [getD'_app] at h1
      split at h1
      · exact Nat.lt_of_lt_of_le (hs.lt a b h1) hext.size
      · exact hsat.lt _ b h1
    · rw [getD'_app] at h1
      split at h1
      · exact hs.apart b hb ⟨a, h1⟩
      · have := nb _ b h1; have := hs.xlt b hb; omega
    · rw [getD'_app]
      split
      · exact Own.ok_mono (hs.ok a) (fun _ h => h) (fun b hb => hblk b (hs.xlt b hb)) fun b hb => hblk b (hs.lt a b hb)
      · exact Own.ok_free (hn s _) (hsat.ok _)
    · obtain ⟨a, h1⟩ := hb
      rw [getD'_app] at h1
      split at h1
      · exact .inl ⟨a, h1⟩
      · exact .inr (nb _ b h1)
theorem EV_frzI {P : Program} {n : Nat} {t : Slots} {B : List Own} {Q : Post} {c : Code} (d i : Nat) {s : SV} (hi : i < B.length) (hk : frzKT (fun j => j == i) B (lkp t d)) (hs : SLe (frzT (fun j => j == i) B (lkp t d)) s)
    (h : EV P n c ((d, s) :: t) (B.set i .gone) Q) : EV P n c t B Q := by
  intro X0 w0 B0 X w a he hst
  have hb : ∀ j, getD' (B.set i .gone) j = if (fun j => j == i) j then .gone else getD' B j := fun j => by rw [getD'_set hi]; simp [beq_iff_eq]
  refine h X0 w0 B0 (withSel X B (fun j => j == i)) w a (he.trans (Ext.drop_sel hb)) ⟨hst.defers, hst.sat.drop_sel hb, hst.den.1, fun j => ?_⟩
  simp only [lkp]
  split
  · rename_i e; subst e; exact hs _ _ _ (frzT_sound hst.sat (hst.den.2 _) hk)
  · exact (hst.den.2 j).ext hst.sat (Ext.drop_sel hb)
attribute [push_cast] stepJ runJ
end Go.Lift
end
section
namespace Go.Lift
set_option linter.unusedVariables false
set_option linter.unusedSimpArgs false
def drawnB : Code → Bool
  | .region _ _ true => true
  | _ => false
def thS (P : Program) (n : Nat) (y : Code) (k : Kn) : Kn := ⟨thenP (fun t B => EV P n y t B k.f) k.f⟩
def wl (P : Program) (E : Env) (n : Nat) : Code → Kn → Slots → List Own → Prop
  | .skip, k, t, B => k.f .normal t B
  | .ret, k, t, B => k.f .ret t B
  | .exit id, k, t, B => k.f (.exit id) t B
  | .label _, k, t, B => k.f .normal t B
  | .seq x y, k, t, B => match drawnB x with
    | true => EV P n x t B (thS P n y k).f
    | false => wl P E n x ⟨thenP (fun t B => wl P E n y k t B) k.f⟩ t B
  | .block id c, k, t, B => wl P E n c ⟨blockP id k.f⟩ t B
  | .scope c, k, t, B => wl P E n c ⟨scopeP k.f⟩ t B
  | .cond c x y, k, t, B => match ev t c with
    | .bool p => (p = true → wl P E n x k t B) ∧ (p = false → wl P E n y k t B)
    | _ => False
  | .region _ ops false, k, t, B => ∀ fr, holdsK P n ops.toList k (run E n ops.toList fr 0 ops.toList t B)
  | .region id ops true, k, t, B => EV P n (.region id ops true) t B k.f
  | .loop c, k, t, B => EV P n (.loop c) t B k.f
  | _, _, _, _ => False
def thW (P : Program) (E : Env) (n : Nat) (y : Code) (k : Kn) : Kn := ⟨thenP (fun t B => wl P E n y k t B) k.f⟩
section
variable {P : Program} {E : Env} {n : Nat} {k : Kn} {t : Slots} {B : List Own} {Q : Post}
theorem wl_skip : wl P E n .skip k t B = k.f .normal t B := rfl
theorem wl_ret : wl P E n .ret k t B = k.f .ret t B := rfl
theorem wl_exit {id : Nat} : wl P E n (.exit id) k t B = k.f (.exit id) t B := rfl
theorem wl_label {id : Nat} : wl P E n (.label id) k t B = k.f .normal t B := rfl
theorem wl_seq {x y : Code} : wl P E n (.seq x y) k t B = match drawnB x with
    | true => EV P n x t B (thS P n y k).f
    | false => wl P E n x (thW P E n y k) t B := rfl
theorem wl_block {id : Nat} {c : Code} : wl P E n (.block id c) k t B = wl P E n c (blK id k) t B := rfl
theorem wl_scope {c : Code} : wl P E n (.scope c) k t B = wl P E n c (scK k) t B := rfl
theorem wl_cond {c : Operand} {x y : Code} : wl P E n (.cond c x y) k t B = match ev t c with
    | .bool p => (p = true → wl P E n x k t B) ∧ (p = false → wl P E n y k t B)
    | _ => False := rfl
theorem wl_region {id : Nat} {ops : Array Oper} : wl P E n (.region id ops false) k t B = ∀ fr, holdsK P n ops.toList k (run E n ops.toList fr 0 ops.toList t B) := rfl
theorem wl_drawn {id : Nat} {ops : Array Oper} : wl P E n (.region id ops true) k t B = EV P n (.region id ops true) t B k.f := rfl
theorem wl_loop {c : Code} : wl P E n (.loop c) k t B = EV P n (.loop c) t B k.f := rfl
theorem thW_n {y : Code} : (thW P E n y k).f .normal t B = wl P E n y k t B := rfl
theorem thW_e {y : Code} {i : Nat} : (thW P E n y k).f (.exit i) t B = k.f (.exit i) t B := rfl
theorem thW_r {y : Code} : (thW P E n y k).f .ret t B = k.f .ret t B := rfl
theorem thS_n {y : Code} : (thS P n y k).f .normal t B = EV P n y t B k.f := rfl
theorem thS_e {y : Code} {i : Nat} : (thS P n y k).f (.exit i) t B = k.f (.exit i) t B := rfl
theorem thS_r {y : Code} : (thS P n y k).f .ret t B = k.f .ret t B := rfl
theorem drawn_r {id : Nat} {ops : Array Oper} {b : Bool} : drawnB (.region id ops b) = b := by cases b <;> rfl
theorem drawn_skip : drawnB .skip = false := rfl
theorem drawn_ret : drawnB .ret = false := rfl
theorem drawn_exit {id : Nat} : drawnB (.exit id) = false := rfl
theorem drawn_label {id : Nat} : drawnB (.label id) = false := rfl
theorem drawn_seq {x y : Code} : drawnB (.seq x y) = false := rfl
theorem drawn_block {id : Nat} {c : Code} : drawnB (.block id c) = false := rfl
theorem drawn_scope {c : Code} : drawnB (.scope c) = false := rfl
theorem drawn_cond {c : Operand} {x y : Code} : drawnB (.cond c x y) = false := rfl
theorem drawn_loop {c : Code} : drawnB (.loop c) = false := rfl
theorem wl_sound (hE : EnvOK P E) : ∀ (c : Code) (k : Kn) (t : Slots) (B : List Own), wl P E n c k t B → EV P n c t B k.f
  | .skip, _, _, _, h => EV_skip h
  | .ret, _, _, _, h => EV_ret h
  | .exit _, _, _, _, h => EV_exit h
  | .label _, _, _, _, h => EV_label h
  | .seq x y, k, t, B, h => by
      rw [wl_seq] at h
      split at h
      · exact EV_seq fun K hK => h.mono fun e t' B' hq => by
          cases e <;> try exact hq
          exact hK _ _ hq
      · exact EV_seq fun K hK => (wl_sound hE x _ t B h).mono fun e t' B' hq => by
          cases e <;> try exact hq
          exact hK _ _ (wl_sound hE y k t' B' hq)
  | .block id c, k, t, B, h => EV_block (wl_sound hE c _ t B h)
  | .scope c, k, t, B, h => EV_scope (wl_sound hE c _ t B h)
  | .cond c x y, k, t, B, h => by
      rw [wl_cond] at h
      split at h
      · rename_i p hp
        exact EV_cond hp (fun e => wl_sound hE x k t B (h.1 e)) (fun e => wl_sound hE y k t B (h.2 e))
      · exact h.elim
  | .region id ops false, k, t, B, h => by
      intro X0 w0 B0 X w a he hs
      refine wp_region_list ?_
      have := EO_run hE (K := k.f .normal) ops.toList 0 t B (fun fr => by rw [← holdsK_eq]; exact h fr) k.f (fun _ _ h => h) X0 w0 B0 X w a he hs
      simpa using this
  | .region id ops true, k, t, B, h => h
  | .loop c, k, t, B, h => h
theorem EC.enterW (hE : EnvOK P E) {f : FuncId} {fn : Func} {c : Code} {args : List SV} {B : List Own} {Q : SV → List Own → Prop} (hc : callable P f = true) (hf : P.funcs[f]? = some fn) (hb : fn.body = some c) (hn : args.length ≤ fn.ntmps)
    (h : wl P E fn.ntmps c (baK (retP E fn.results.toList Q)) (bindA 0 args) B) : EC P f args B Q :=
  EC.enter hE hc hf hb hn (wl_sound hE c _ _ B h)
theorem EV_loopW (hE : EnvOK P E) {σ : Type} (live : List Nat) (V : σ → Slots) (R : List Own → σ → List Own) (Inv : σ → Prop) (μ : σ → Nat) (s0 : σ) {c : Code} (h0 : Inv s0)
    (round : ∀ s, Inv s → wl P E n c (lpK (NX V (R B) Inv μ (keepS t live) s) k) (V s ++ keepS t live) (R B s)) (hw : wkS t (V s0) := by first | exact ⟨rfl, trivial⟩ | (simp [wkS, lkp]; done) | (repeat (first | exact trivial | refine And.intro (by first | rfl | (simp only [lkp, push_cast, simprocAttr]; done) | (simp [lkp]; done)) ?_)))
    (hb : R B s0 = B := by first | rfl | (simp [updX, updH, setX]; done)) : EV P n (.loop c) t B k.f :=
  EV_loopB live V R Inv μ s0 h0 hw hb fun s hs => (wl_sound hE c _ _ _ (round s hs)).mono fun e t' B' h => by cases e <;> exact h
def MT {σ : Type} (V : σ → Slots) (R : σ → List Own) (Inv : σ → Prop) (live : Slots) (t' : Slots) (B' : List Own) : Prop :=
  ∃ s, Inv s ∧ wkS t' (V s ++ live) ∧ B'.take (R s).length = R s
theorem MT_mk {σ : Type} {V : σ → Slots} {R : σ → List Own} {Inv : σ → Prop} {live t' : Slots} {B' : List Own} (s : σ) (hI : Inv s)
    (hw : wkS t' (V s ++ live) := by first | (simp [wkS, lkp, List.take_length]; done) | (repeat (first | exact trivial | refine And.intro (by first | rfl | (simp only [lkp, push_cast, simprocAttr]; done) | (simp [lkp]; done)) ?_)))
    (hb : B'.take (R s).length = R s := by first | rfl | (simp only [push_cast, List.take_length, List.take_append_of_le_length, simprocAttr]; done) | (simp [updX, updH, setX]; done)) : MT V R Inv live t' B' := ⟨s, hI, hw, hb⟩
theorem EV_meetW {σ : Type} (live : List Nat) (V : σ → Slots) (R : List Own → σ → List Own) (Inv : σ → Prop) {c y : Code}
    (hrest : ∀ s, Inv s → EV P n y (V s ++ keepS t live) (R B s) k.f) (h : EV P n c t B (lpK (MT V (R B) Inv (keepS t live)) k).f) : EV P n c t B (thS P n y k).f :=
  EV_meetB live V R Inv (fun s hs t' B' hw hb => EV_weakR hw hb (hrest s hs)) (by
    refine h.mono fun e t' B' hq => ?_
    cases e <;> exact hq)
end
attribute [push_cast] wl_skip wl_ret wl_exit wl_label wl_seq wl_block wl_scope wl_cond wl_region wl_drawn wl_loop thW_n thW_e thW_r thS_n thS_e thS_r drawn_r drawn_skip drawn_ret drawn_exit drawn_label drawn_seq drawn_block drawn_scope drawn_cond drawn_loop
section
variable {P : Program} {n : Nat} {ops : Array Oper} {late : List Nat} {ws : List Bool} {t : Slots} {B : List Own} {K : Slots → List Own → Prop} {fuel : Nat} {listed : Array Bool}
def maskOf (w : List Nat) : Nat → List Own → List Bool
  | _, [] => []
  | i, _ :: B => inL w i :: maskOf w (i + 1) B
theorem EV_drawM {id : Nat} {Q : Post} (w : List Nat) (hm : P.follows .mixedOrders = true) (h : ∀ K : Slots → List Own → Prop, (∀ t B, Q .normal t B → K t B) → ED P n ops [] (maskOf w 0 B) t B K ops.size (Array.replicate ops.size false)) : EV P n (.region id ops true) t B Q :=
  EV_draw hm h
theorem EV_drawnM {E : Env} (hE : EnvOK P E) {id : Nat} {Q : Post} (late : List Nat) (w : List Nat) (ord : List Nat) (hm : P.follows .mixedOrders = true) (hns : Region.noSelect ops = true) (hl : ord.length = ops.size) (ho : ordOK ops late ord (Array.replicate ops.size false) = true)
    (h : ∀ K : Slots → List Own → Prop, (∀ t B, Q .normal t B → K t B) → runD P E n ops late (maskOf w 0 B) K false ord t B (Array.replicate ops.size false)) : EV P n (.region id ops true) t B Q := EV_drawn hE late (maskOf w 0 B) ord hm hns hl ho h
theorem ED_one {i : Nat} (hr : Region.ready .any ops listed = [i]) (h1 : EDi P n ops ws t B K fuel listed i) : ED P n ops [] ws t B K (fuel + 1) listed := by
  intro X0 w0 B0 X w a he hs
  refine wpAnyS_all hr (by simp) fun k hk => ?_
  simp only [List.mem_cons, List.not_mem_nil, or_false] at hk
  subst hk
  exact h1 X0 w0 B0 X w a he hs
theorem ED_three {i j k : Nat} (hr : Region.ready .any ops listed = [i, j, k]) (h1 : EDi P n ops ws t B K fuel listed i) (h2 : EDi P n ops ws t B K fuel listed j) (h3 : EDi P n ops ws t B K fuel listed k) : ED P n ops [] ws t B K (fuel + 1) listed := by
  intro X0 w0 B0 X w a he hs
  refine wpAnyS_all hr (by simp) fun l hl => ?_
  simp only [List.mem_cons, List.not_mem_nil, or_false] at hl
  rcases hl with rfl | rfl | rfl
  · exact h1 X0 w0 B0 X w a he hs
  · exact h2 X0 w0 B0 X w a he hs
  · exact h3 X0 w0 B0 X w a he hs
end
attribute [push_cast] maskOf inL
section
variable {P : Program} {E : Env} {n : Nat} {k : Kn} {t : Slots} {B : List Own}
theorem EV_loopS {σ : Type} (live : List Nat) (V : σ → Slots) (R : List Own → σ → List Own) (Inv : σ → Prop) (μ : σ → Nat) (s0 : σ) {c : Code} (h0 : Inv s0)
    (round : ∀ s, Inv s → EV P n c (V s ++ keepS t live) (R B s) (lpK (NX V (R B) Inv μ (keepS t live) s) k).f) (hw : wkS t (V s0) := by first | exact ⟨rfl, trivial⟩ | (simp [wkS, lkp]; done) | (repeat (first | exact trivial | refine And.intro (by first | rfl | (simp only [lkp, push_cast, simprocAttr]; done) | (simp [lkp]; done)) ?_)))
    (hb : R B s0 = B := by first | rfl | (simp [updX, updH, setX]; done)) : EV P n (.loop c) t B k.f :=
  EV_loopB live V R Inv μ s0 h0 hw hb fun s hs => (round s hs).mono fun e t' B' h => by cases e <;> exact h
theorem EV_seqT {x y : Code} (h : EV P n x t B (thS P n y k).f) : EV P n (.seq x y) t B k.f :=
  EV_seq fun K hK => h.mono fun e t' B' hq => by
    cases e <;> try exact hq
    exact hK _ _ hq
theorem EV_blkS {id : Nat} {c : Code} (h : EV P n c t B (blK id k).f) : EV P n (.block id c) t B k.f := EV_block h
end
section
variable {P : Program} {n : Nat} {ops : Array Oper} {late : List Nat} {ws : List Bool} {t : Slots} {B : List Own} {K : Slots → List Own → Prop} {fuel : Nat} {listed : Array Bool}
theorem EDj_one {i : Nat} (hr : Region.ready .any ops listed = [i]) (h1 : EDj P n ops late ws t B K fuel listed i) : ED P n ops late ws t B K (fuel + 1) listed := by
  intro X0 w0 B0 X w a he hs
  refine wpAnyS_all hr (by simp) fun k hk => ?_
  simp only [List.mem_cons, List.not_mem_nil, or_false] at hk
  subst hk
  exact h1 X0 w0 B0 X w a he hs
theorem EV_drawMJ {id : Nat} {Q : Post} (late w : List Nat) (hm : P.follows .mixedOrders = true) (h : ∀ K : Slots → List Own → Prop, (∀ t B, Q .normal t B → K t B) → ED P n ops late (maskOf w 0 B) t B K ops.size (Array.replicate ops.size false)) : EV P n (.region id ops true) t B Q :=
  EV_draw hm h
end
section
variable {P : Program} {E : Env} {n : Nat} {k : Kn} {t : Slots} {B : List Own} {all rest : List Oper} {m : Nat}
theorem EC.useAtK (hE : EnvOK P E) {f : Nat} {args args' : List SV} {T : SV → Slots} (i : Nat) {h : RowH} {E0 e : Nat} {xs : List (List SV)} {σ : Type} {C : σ → Prop} {R : σ → SV} {X : σ → List (List SV)}
    (hc : EC P f args [.row h E0 e xs] fun r N => ∃ x, C x ∧ r = R x ∧ N = [.row h E0 e (X x)]) (hi : getD' B i = .row h E0 e xs) (ha : LLe args' args) (hk : ∀ x, C x → ∀ fr, holdsK P n all k (run E n all fr 0 rest (T (R x)) (B.set i (.row h E0 e (X x))))) :
    EC P f args' B fun r B' => EOK P n all rest (T r) B' k := EC.useAtE i hc hi ha fun x hx => EOK_run hE (hk x hx)
theorem EC.useAtX (hE : EnvOK P E) {f : Nat} {args args' : List SV} {T : SV → Slots} (i : Nat) {h : RowH} {E0 e : Nat} {xs xs' : List (List SV)} {R : SV}
    (hc : EC P f args [.row h E0 e xs] fun r N => r = R ∧ N = [.row h E0 e xs']) (hi : getD' B i = .row h E0 e xs) (ha : LLe args' args) (hk : ∀ fr, holdsK P n all k (run E n all fr 0 rest (T R) (B.set i (.row h E0 e xs')))) :
    EC P f args' B fun r B' => EOK P n all rest (T r) B' k := EC.useAt i hc hi ha (EOK_run hE hk)
end
attribute [push_cast] bne_self_eq_false
structure Bx (p : Prop) : Prop where
  out : p
theorem sdB {a : Prop} (h : a := by first | (intro hA; exact ⟨hA, fun hB => (by first | (rw [hA, hB]; rfl) | simp_all)⟩) | omega | decide | (simp; done) | (simp; omega) | (intro hA; (repeat' apply And.intro) <;> first | exact hA | omega)) : a := h
theorem sA {P Q : Prop} (k : Q) (h : Q → P := by first | (intro hq; simp only [push_cast, simprocAttr]; exact hq) | (intro (_ : True); simp only [push_cast, simprocAttr])) : P := h k
theorem sB {P Q : Prop} (k : Bx Q) (h : Bx Q → P := by intro hq; (try (simp (disch := omega) only [i64_in', sub_elt, sub_elt0, getD_map2]; (try simp only [push_cast, simprocAttr]))); exact hq.out) : P := h k
theorem sC {P Q : Prop} (k : Q) (h : Q → P := by intro hq; simp only [push_cast, thenP, blockP, scopeP, retP, evR, evRes, evRes1, Nat.zero_lt_one, Nat.reduceEqDiff, Nat.reduceLT, Nat.reduceAdd, Nat.reduceLeDiff, reduceIte, reduceCtorEq]; exact hq) : P := h k
theorem sF {P Q : Prop} (k : Q) (h : Q → P := by intro hq; simp only [frzKT, frzKLA, frzKA, frzKL, frzKC, frzT, frzLA, frzA, frzL, frzC, fromM, getD', List.getD_cons_zero, List.getD_cons_succ, Nat.zero_le, decide_true, and_true, true_and, and_self, push_cast]; exact hq) : P := h k
theorem sT {P Q : Prop} (k : Q) (h : Q → P := by intro hq; simp only [thenP, blockP, scopeP, if_true, reduceIte, reduceCtorEq, if_false, Nat.reduceEqDiff]; exact hq) : P := h k
theorem sK {P Q : Prop} (k : Q) (h : Q → P := by intro hq; simp only [updX, updH, setX, keepS, lkp, Nat.reduceEqDiff, if_true, if_false, reduceIte, List.cons_append, List.nil_append, List.take_succ_cons, List.take_zero, List.append_nil]; exact hq) : P := h k
section
variable {P : Program} {E : Env} {n : Nat} {k : Kn} {t : Slots} {B : List Own} {all rest l : List Oper} {Q0 : Prop} {Q : Post} {T : SV → Slots} {f : FuncId} {args args' : List SV}
theorem EV_seqN {x y : Code} (h : EV P n x t B (thenP (fun t B => EV P n y t B Q) Q)) : EV P n (.seq x y) t B Q :=
  EV_seq fun K hK => h.mono fun e t' B' h => by
    cases e with
    | normal => exact hK _ _ h
    | _ => exact h
theorem stepA {P Q : Prop} (k : Q) (h : Q → P := by first | exact EV_seqN | exact EV_block | exact EV_skip | exact EV_scope | exact EV_label | exact EV_exit | exact EV_ret | (intro hq; simp only [thenP, blockP, scopeP, if_true, reduceIte, reduceCtorEq, if_false, Nat.reduceEqDiff]; exact hq)) : P := h k
theorem stepS {P Q : Prop} (k : Q) (h : Q → P := by first | exact EV_seqN | exact EV_skip | exact EV_scope | exact EV_label | exact EV_exit | exact EV_ret | (intro hq; simp only [thenP, blockP, scopeP, if_true, reduceIte, reduceCtorEq, if_false, Nat.reduceEqDiff]; exact hq)) : P := h k
theorem regA (hE : EnvOK P E) {id : Nat} {ops : Array Oper} {R : (Nat → RowH) → Prop} (k : ∀ fr, Bx (R fr))
    (h : ∀ fr, Bx (R fr) → holds P n ops.toList (fun t B => Q .normal t B) (run E n ops.toList fr 0 ops.toList t B) := by
      intro fr hq; simp only [push_cast, simprocAttr]; (try (simp (disch := omega) only [i64_in', sub_elt, sub_elt0, getD_map2]; (try simp only [push_cast, simprocAttr]))); (repeat ((with_reducible apply And.intro); exact sdB)); (try simp only [thenP, blockP, scopeP, if_true, reduceIte, reduceCtorEq, if_false, Nat.reduceEqDiff]); exact hq.out) : EV P n (.region id ops false) t B Q := by
  intro X0 w0 B0 X w a he hs
  refine wp_region_list ?_
  have := EO_run hE (K := fun t B => Q .normal t B) ops.toList 0 t B (fun fr => h fr (k fr)) Q (fun _ _ h => h) X0 w0 B0 X w a he hs
  simpa using this
theorem gA (hE : EnvOK P E) {K : Slots → List Own → Prop} {R : (Nat → RowH) → Prop} (k : ∀ fr, Bx (R fr))
    (h : ∀ fr, Bx (R fr) → holds P n all K (run E n all fr 0 l t B) := by
      intro fr hq; simp only [push_cast, simprocAttr]; (try (simp (disch := omega) only [i64_in', sub_elt, sub_elt0, getD_map2]; (try simp only [push_cast, simprocAttr]))); (repeat ((with_reducible apply And.intro); exact sdB)); (try simp only [thenP, blockP, scopeP, if_true, reduceIte, reduceCtorEq, if_false, Nat.reduceEqDiff]); exact hq.out) : EO P n all l t B K := EO_run hE l 0 t B fun fr => h fr (k fr)
theorem nA (hE : EnvOK P E) {fn : Func} {c : Code} {m : Nat} {rs : Array ResultVar} {Q : SV → List Own → Prop} (hc : callable P f = true) (hf : P.funcs[f]? = some fn) (hm : fn.ntmps = m) (hr : fn.results = rs) (q : Q0) (hb : fn.body = some c := by exact rfl) (hn : args.length ≤ m := by simp)
    (h : Q0 → EV P m c (bindA 0 args) B (retP E rs.toList Q) := by intro hq; simp only [bindA]; exact hq) : EC P f args B Q := by
  subst hm hr; exact EC.enter hE hc hf hb hn (h q)
theorem nK (hE : EnvOK P E) {fn : Func} {c : Code} {m : Nat} {rs : Array ResultVar} {Q : SV → List Own → Prop} (hc : callable P f = true) (hf : P.funcs[f]? = some fn) (hm : fn.ntmps = m) (hr : fn.results = rs) (q : Q0) (hb : fn.body = some c := by exact rfl) (hn : args.length ≤ m := by simp)
    (h : Q0 → wk P E m c (baK (retP E rs.toList Q)) (bindA 0 args) B := by first | (intro hq; simp only [push_cast, simprocAttr]; exact hq) | (intro (_ : True); simp only [push_cast, simprocAttr])) : EC P f args B Q := by
  subst hm hr; exact EC.enterK hE hc hf hb hn (h q)
theorem nW (hE : EnvOK P E) {fn : Func} {c : Code} {m : Nat} {rs : Array ResultVar} {Q : SV → List Own → Prop} (hc : callable P f = true) (hf : P.funcs[f]? = some fn) (hm : fn.ntmps = m) (hr : fn.results = rs) (q : Q0) (hb : fn.body = some c := by exact rfl) (hn : args.length ≤ m := by simp)
    (h : Q0 → wl P E m c (baK (retP E rs.toList Q)) (bindA 0 args) B := by first | (intro hq; simp only [push_cast, simprocAttr]; exact hq) | (intro (_ : True); simp only [push_cast, simprocAttr])) : EC P f args B Q := by
  subst hm hr; exact EC.enterW hE hc hf hb hn (h q)
theorem eK (hE : EnvOK P E) (q : Q0) (h : Q0 → ∀ fr, holdsK P n all k (run E n all fr 0 l t B) := by first | (intro hq; simp only [push_cast, simprocAttr]; exact hq) | (intro (_ : True); simp only [push_cast, simprocAttr])) : EOK P n all l t B k := EOK_run hE (h q)
def wlB : Code → Bool
  | .loop _ => false
  | .label _ => false
  | .region _ _ b => !b
  | _ => true
theorem wA (hE : EnvOK P E) {c : Code} (q : Q0) (hl : wlB c = true := by exact rfl) (h : Q0 → wl P E n c k t B := by first | (intro hq; simp only [push_cast, simprocAttr]; exact hq) | (intro (_ : True); simp only [push_cast, simprocAttr])) : EV P n c t B k.f := wl_sound hE _ _ _ _ (h q)
theorem aX (i : Nat) {h : RowH} {E0 e : Nat} {xs xs' : List (List SV)} {R : SV} {Q : SV → List Own → Prop}
    (hc : EC P f args [.row h E0 e xs] fun r N => r = R ∧ N = [.row h E0 e xs']) (hi : getD' B i = .row h E0 e xs) (q : Q R (B.set i (.row h E0 e xs'))) (ha : LLe args' args := by (repeat (first | exact LLe.nil | refine LLe.cons (SLe.refl _) ?_ | refine LLe.cons SLe.rptr ?_))) :
    EC P f args' B Q := EC.useAt i hc hi ha q
theorem aE (i : Nat) {h : RowH} {E0 e : Nat} {xs : List (List SV)} {σ : Type} {C : σ → Prop} {R : σ → SV} {X : σ → List (List SV)} {Q : SV → List Own → Prop}
    (hc : EC P f args [.row h E0 e xs] fun r N => ∃ x, C x ∧ r = R x ∧ N = [.row h E0 e (X x)]) (hi : getD' B i = .row h E0 e xs) (q : ∀ x, C x → Q (R x) (B.set i (.row h E0 e (X x)))) (ha : LLe args' args := by (repeat (first | exact LLe.nil | refine LLe.cons (SLe.refl _) ?_ | refine LLe.cons SLe.rptr ?_))) :
    EC P f args' B Q := EC.useAtE i hc hi ha q
variable {ops : Array Oper} {late : List Nat} {ws : List Bool} {K : Slots → List Own → Prop} {fuel : Nat} {listed : Array Bool} {Q1 Q2 Q3 : Prop}
theorem dP (hE : EnvOK P E) (m : Nat) (pre : List Nat) (q : Q0) (hns : Region.noSelect ops = true := by decide +kernel) (hp : preOK ops pre listed = true := by decide +kernel) (h : Q0 → runP P E n ops ws K m pre t B listed := by intro hq; simp only [push_cast, simprocAttr]; exact hq) : ED P n ops [] ws t B K (m + pre.length) listed := ED_pre hE hns pre t B listed hp (h q)
theorem dR (hE : EnvOK P E) (ord : List Nat) (q : Q0) (hns : Region.noSelect ops = true := by decide +kernel) (hb : false = hasL late listed := by decide +kernel) (ho : ordOK ops late ord listed = true := by decide +kernel) (h : Q0 → runD P E n ops late ws K false ord t B listed := by intro hq; simp only [push_cast, simprocAttr]; exact hq) : ED P n ops late ws t B K ord.length listed := ED_run hE hns false ord t B listed hb ho (h q)
theorem ed1 (hE : EnvOK P E) (i : Nat) (q1 : Q1) (hr : Region.ready .any ops listed = [i] := by decide +kernel) (h1 : Q1 → stepI P E n ops ws t B K fuel listed i := by intro hq; simp only [push_cast, simprocAttr]; exact hq) : ED P n ops [] ws t B K (fuel + 1) listed := ED_one hr (EDi_step hE (h1 q1))
theorem ed2 (hE : EnvOK P E) (i j : Nat) (q1 : Q1) (q2 : Q2) (hr : Region.ready .any ops listed = [i, j] := by decide +kernel) (h1 : Q1 → stepI P E n ops ws t B K fuel listed i := by intro hq; simp only [push_cast, simprocAttr]; exact hq) (h2 : Q2 → stepI P E n ops ws t B K fuel listed j := by intro hq; simp only [push_cast, simprocAttr]; exact hq) : ED P n ops [] ws t B K (fuel + 1) listed := ED_two hr (EDi_step hE (h1 q1)) (EDi_step hE (h2 q2))
theorem ed3 (hE : EnvOK P E) (i j m : Nat) (q1 : Q1) (q2 : Q2) (q3 : Q3) (hr : Region.ready .any ops listed = [i, j, m] := by decide +kernel) (h1 : Q1 → stepI P E n ops ws t B K fuel listed i := by intro hq; simp only [push_cast, simprocAttr]; exact hq) (h2 : Q2 → stepI P E n ops ws t B K fuel listed j := by intro hq; simp only [push_cast, simprocAttr]; exact hq) (h3 : Q3 → stepI P E n ops ws t B K fuel listed m := by intro hq; simp only [push_cast, simprocAttr]; exact hq) : ED P n ops [] ws t B K (fuel + 1) listed := ED_three hr (EDi_step hE (h1 q1)) (EDi_step hE (h2 q2)) (EDi_step hE (h3 q3))
theorem jP (hE : EnvOK P E) (m : Nat) (pre : List Nat) (q : Q0) (hns : Region.noSelect ops = true := by decide +kernel) (hp : preJ ops late pre listed = true := by decide +kernel) (h : Q0 → runJ P E n ops late ws K m pre t B listed := by intro hq; simp only [push_cast, simprocAttr]; exact hq) : ED P n ops late ws t B K (m + pre.length) listed := EDj_pre hE hns pre t B listed hp (h q)
theorem ej1 (hE : EnvOK P E) (i : Nat) (q1 : Q1) (hr : Region.ready .any ops listed = [i] := by decide +kernel) (h1 : Q1 → stepJ P E n ops late ws t B K fuel listed i := by intro hq; simp only [push_cast, simprocAttr]; exact hq) : ED P n ops late ws t B K (fuel + 1) listed := EDj_one hr (EDj_step hE (h1 q1))
theorem ej2 (hE : EnvOK P E) (i j : Nat) (q1 : Q1) (q2 : Q2) (hr : Region.ready .any ops listed = [i, j] := by decide +kernel) (h1 : Q1 → stepJ P E n ops late ws t B K fuel listed i := by intro hq; simp only [push_cast, simprocAttr]; exact hq) (h2 : Q2 → stepJ P E n ops late ws t B K fuel listed j := by intro hq; simp only [push_cast, simprocAttr]; exact hq) : ED P n ops late ws t B K (fuel + 1) listed := EDj_two hr (EDj_step hE (h1 q1)) (EDj_step hE (h2 q2))
variable {id : Nat} {S : (Slots → List Own → Prop) → Prop}
theorem dM (hE : EnvOK P E) (m : Nat) (w pre : List Nat) (hm : P.follows .mixedOrders = true) (q : ∀ R : Slots → List Own → Prop, (∀ t B, Q .normal t B → R t B) → S R) (hs : ops.size = m + pre.length := by exact rfl) (hns : Region.noSelect ops = true := by decide +kernel) (hp : preOK ops pre (Array.replicate ops.size false) = true := by decide +kernel)
    (h : ∀ R, S R → runP P E n ops (maskOf w 0 B) R m pre t B (Array.replicate ops.size false) := by intro R hq; simp only [push_cast, simprocAttr]; exact hq) : EV P n (.region id ops true) t B Q :=
  EV_drawM w hm fun R hR => by
    have := ED_pre hE hns pre t B _ hp (h R (q R hR))
    rw [← hs] at this
    exact this
theorem dJ (hE : EnvOK P E) (m : Nat) (late w pre : List Nat) (hm : P.follows .mixedOrders = true) (q : ∀ R : Slots → List Own → Prop, (∀ t B, Q .normal t B → R t B) → S R) (hs : ops.size = m + pre.length := by exact rfl) (hns : Region.noSelect ops = true := by decide +kernel) (hp : preJ ops late pre (Array.replicate ops.size false) = true := by decide +kernel)
    (h : ∀ R, S R → runJ P E n ops late (maskOf w 0 B) R m pre t B (Array.replicate ops.size false) := by intro R hq; simp only [push_cast, simprocAttr]; exact hq) : EV P n (.region id ops true) t B Q :=
  EV_drawMJ late w hm fun R hR => by
    have := EDj_pre hE hns pre t B _ hp (h R (q R hR))
    rw [← hs] at this
    exact this
theorem dW (hE : EnvOK P E) (m : Nat) (w : List Bool) (pre : List Nat) (hm : P.follows .mixedOrders = true) (q : ∀ R : Slots → List Own → Prop, (∀ t B, Q .normal t B → R t B) → S R) (hs : ops.size = m + pre.length := by exact rfl) (hns : Region.noSelect ops = true := by decide +kernel) (hp : preOK ops pre (Array.replicate ops.size false) = true := by decide +kernel)
    (h : ∀ R, S R → runP P E n ops w R m pre t B (Array.replicate ops.size false) := by intro R hq; simp only [push_cast, simprocAttr]; exact hq) : EV P n (.region id ops true) t B Q :=
  EV_draw (late := []) hm fun R hR => by
    have := ED_pre hE hns pre t B _ hp (h R (q R hR))
    rw [← hs] at this
    exact this
theorem dV (hE : EnvOK P E) (m : Nat) (late : List Nat) (w : List Bool) (pre : List Nat) (hm : P.follows .mixedOrders = true) (q : ∀ R : Slots → List Own → Prop, (∀ t B, Q .normal t B → R t B) → S R) (hs : ops.size = m + pre.length := by exact rfl) (hns : Region.noSelect ops = true := by decide +kernel) (hp : preJ ops late pre (Array.replicate ops.size false) = true := by decide +kernel)
    (h : ∀ R, S R → runJ P E n ops late w R m pre t B (Array.replicate ops.size false) := by intro R hq; simp only [push_cast, simprocAttr]; exact hq) : EV P n (.region id ops true) t B Q :=
  EV_draw (late := late) hm fun R hR => by
    have := EDj_pre hE hns pre t B _ hp (h R (q R hR))
    rw [← hs] at this
    exact this
theorem dN (hE : EnvOK P E) (late w ord : List Nat) (hm : P.follows .mixedOrders = true) (q : ∀ R : Slots → List Own → Prop, (∀ t B, Q .normal t B → R t B) → S R) (hl : ord.length = ops.size := by exact rfl) (hns : Region.noSelect ops = true := by decide +kernel) (ho : ordOK ops late ord (Array.replicate ops.size false) = true := by decide +kernel)
    (h : ∀ R, S R → runD P E n ops late (maskOf w 0 B) R false ord t B (Array.replicate ops.size false) := by intro R hq; simp only [push_cast, simprocAttr]; exact hq) : EV P n (.region id ops true) t B Q :=
  EV_drawnM hE late w ord hm hns hl ho fun R hR => h R (q R hR)
theorem dD (hE : EnvOK P E) (late : List Nat) (w : List Bool) (ord : List Nat) (hm : P.follows .mixedOrders = true) (q : ∀ R : Slots → List Own → Prop, (∀ t B, Q .normal t B → R t B) → S R) (hl : ord.length = ops.size := by exact rfl) (hns : Region.noSelect ops = true := by decide +kernel) (ho : ordOK ops late ord (Array.replicate ops.size false) = true := by decide +kernel)
    (h : ∀ R, S R → runD P E n ops late w R false ord t B (Array.replicate ops.size false) := by intro R hq; simp only [push_cast, simprocAttr]; exact hq) : EV P n (.region id ops true) t B Q :=
  EV_drawn hE late w ord hm hns hl ho fun R hR => h R (q R hR)
end
theorem nxA {σ : Type} {I M W : σ → Prop} (s : σ) (hi : I s) (hm : M s) (hw : W s := by first | (simp [wkS, lkp, List.take_length]; done) | (simp [wkS, lkp]; omega) | ((repeat (first | exact trivial | refine And.intro (by first | rfl | (simp only [lkp, push_cast, simprocAttr]; done) | (simp only [lkp, push_cast, simprocAttr]; rfl) | (simp [lkp]; done) | fail) ?_)); done) | fail) : ∃ s, I s ∧ M s ∧ W s := ⟨s, hi, hm, hw⟩
theorem nxB {σ : Type} {I M W Z : σ → Prop} (s : σ) (hi : I s) (hm : M s) (hw : W s := by first | (simp [wkS, lkp, List.take_length]; done) | (simp [wkS, lkp]; omega) | ((repeat (first | exact trivial | refine And.intro (by first | rfl | (simp only [lkp, push_cast, simprocAttr]; done) | (simp only [lkp, push_cast, simprocAttr]; rfl) | (simp [lkp]; done) | fail) ?_)); done) | fail)
    (hz : Z s := by first | rfl | (simp only [push_cast, List.take_length, List.take_append_of_le_length, simprocAttr]; done) | (simp [updX, updH, setX]; done) | fail) : ∃ s, I s ∧ M s ∧ W s ∧ Z s := ⟨s, hi, hm, hw, hz⟩
theorem mt2 {σ : Type} {I W : σ → Prop} (s : σ) (hi : I s) (hw : W s := by first | (simp [wkS, lkp, List.take_length]; done) | (simp [wkS, lkp]; omega) | ((repeat (first | exact trivial | refine And.intro (by first | rfl | (simp only [lkp, push_cast, simprocAttr]; done) | (simp only [lkp, push_cast, simprocAttr]; rfl) | (simp [lkp]; done) | fail) ?_)); done) | fail) : ∃ s, I s ∧ W s := ⟨s, hi, hw⟩
theorem mt3 {σ : Type} {I W Z : σ → Prop} (s : σ) (hi : I s) (hw : W s := by first | (simp [wkS, lkp, List.take_length]; done) | (simp [wkS, lkp]; omega) | ((repeat (first | exact trivial | refine And.intro (by first | rfl | (simp only [lkp, push_cast, simprocAttr]; done) | (simp only [lkp, push_cast, simprocAttr]; rfl) | (simp [lkp]; done) | fail) ?_)); done) | fail)
    (hz : Z s := by first | rfl | (simp only [push_cast, List.take_length, List.take_append_of_le_length, simprocAttr]; done) | (simp [updX, updH, setX]; done) | fail) : ∃ s, I s ∧ W s ∧ Z s := ⟨s, hi, hw, hz⟩
theorem zL {P Q : Prop} (k : Q) (h : Q → P := by intro hq; first | exact Lt.bool hq | exact Lt.int hq | exact Lt.aggO hq | exact FzA.aggO hq | exact FzA.boolE hq | exact FzA.intE hq | exact Lt.str hq | exact Lt.str (B := []) hq | fail) : P := h k
theorem zA {P : Prop} (h : P := by first | rfl | omega | contradiction | (simp [*]; done) | (simp_all; done) | fail) : P := h
end Go.Lift
end
section
namespace Go.Lift
open Go.ChangeShapes Go.WideShapes Go.ChangeAt Go.RowKit

def old (W : World) (b : Nat) : Prop := b < W.heap.size
theorem sat_old (W : World) (hg : ∀ g, GV g ≠ [] → Den (old W) W (.xp (GV g)) (.pointer (some ⟨g, 0, none⟩))) : Sat (old W) W [] :=
  ⟨fun i j b hi => by simp [getD', Own.blocks] at hi, fun i b hi => by simp [getD', Own.blocks] at hi, ⟨fun b hb => hb, hg⟩, fun b _ ⟨i, hi⟩ => by simp [getD', Own.blocks] at hi, fun i => by simp [getD', Own.ok]⟩
theorem Ext.below {W W' : World} {X' : Nat → Prop} {B' : List Own} (h : Ext (old W) W [] X' W' B') : Below W.heap.size W W' :=
  ⟨h.os, h.tape, h.output, h.size, fun k hk => h.block k hk fun ⟨i, hi⟩ => by simp [getD', Own.blocks] at hi⟩

section
variable {H : Type} {enc : TypeId × Value → H} {P : Program} {W W' : World}
theorem trodAll_below (hl : laidOutB P = true) (hb : Below W.heap.size W W') : ∀ {ts : List TypeId} {vs : List Value} {ds : List (DataW H)} {ps : List MemPlace},
    (∀ t ∈ ts, P.readableRec t = true ∧ t < P.types.size) → DataW.TrodAll enc P W 0 (fun _ => true) true ts vs ds ps → (∀ x ∈ ps, x.block < W.heap.size) →
    DataW.TrodAll enc P W' 0 (fun b => decide (b < W.heap.size)) true ts vs ds ps
  | [], [], [], _, _, h, _ => h
  | t :: ts, v :: vs, d :: ds, ps, ht, h, hlt => by
    obtain ⟨p, q, h1, h2, rfl⟩ := h
    exact ⟨p, q, Below.trod hl (ht t (.head _)).1 (ht t (.head _)).2 h1 hb fun x hx => hlt x (List.mem_append_left _ hx),
      trodAll_below hl hb (fun t ht' => ht t (.tail _ ht')) h2 fun x hx => hlt x (List.mem_append_right _ hx), rfl⟩
  | [], [], _ :: _, _, _, h, _ => h.elim
  | [], _ :: _, _, _, _, h, _ => h.elim
  | _ :: _, [], _, _, _, h, _ => h.elim
  | _ :: _, _ :: _, [], _, _, h, _ => h.elim
theorem trodAll_len : ∀ {ts : List TypeId} {vs : List Value} {ds : List (DataW H)} {ps : List MemPlace} {w : World} {base : Nat} {sp : Nat → Bool} {hd : Bool},
    DataW.TrodAll enc P w base sp hd ts vs ds ps → vs.length = ts.length ∧ ds.length = ts.length
  | [], [], [], _, _, _, _, _, _ => ⟨rfl, rfl⟩
  | t :: ts, v :: vs, d :: ds, ps, _, _, _, _, h => by
    obtain ⟨p, q, _, h2, _⟩ := h
    have := trodAll_len h2
    exact ⟨by simp [this.1], by simp [this.2]⟩
  | [], [], _ :: _, _, _, _, _, _, h => h.elim
  | [], _ :: _, _, _, _, _, _, _, h => h.elim
  | _ :: _, [], _, _, _, _, _, _, h => h.elim
  | _ :: _, _ :: _, [], _, _, _, _, _, h => h.elim
theorem shut_bool {w : World} {base : Nat} {spare : Nat → Bool} {held : Bool} {t : TypeId} (ht : P.underlying t = some .bool) (b : Bool) : DataW.Trod enc P w base spare held t (.bool b) (.lit (.bool b)) [] :=
  ⟨1, by simp [Value.cells, DataW.trod, ht]⟩
end

section
variable {H : Type} {enc : TypeId × Value → H} {P : Program} {W : World}
end
end Go.Lift
end
section
namespace Go.Lift
open Go.ChangeShapes Go.WideShapes Go.ChangeAt
def DenC (X : Nat → Prop) (w : World) (ss : List SV) (cs : List Value) : Prop := cs.length = ss.length ∧ ∀ (i : Nat) (c : SV), ss[i]? = some c → Den X w c (cs.getD i undef)
def RD (P : Program) (t : TypeId) {α : Type} (c : α → List SV) (Wf : α → Prop) : Prop :=
  ∀ (H : Type) (enc : TypeId × Value → H) (W : World) (fuel : Nat) (cs : List Value) (y : DataW H × List MemPlace), DataW.trod enc P W 0 (fun _ => true) true fuel t cs = some y → (∀ x ∈ y.2, x.block < W.heap.size) →
    ∃ x, Wf x ∧ DenC (old W) W (c x) cs
section
variable {P : Program} {t e : TypeId}
theorem DenC.one {X : Nat → Prop} {w : World} {s : SV} {v : Value} (h : Den X w s v) : DenC X w [s] [v] := ⟨rfl, fun i c hc => by
  cases i with
  | zero => simp at hc; subst hc; exact h
  | succ i => simp at hc⟩
theorem DenC.app {X : Nat → Prop} {w : World} {a b : List SV} {u v : List Value} (h : DenC X w a u) (k : DenC X w b v) : DenC X w (a ++ b) (u ++ v) := by
  refine ⟨by simp [h.1, k.1], fun i c hc => ?_⟩
  by_cases hi : i < a.length
  · rw [List.getElem?_append_left hi] at hc
    have : (u ++ v).getD i undef = u.getD i undef := by
      simp only [List.getD_eq_getElem?_getD]; rw [List.getElem?_append_left (by rw [h.1]; exact hi)]
    rw [this]; exact h.2 i c hc
  · rw [List.getElem?_append_right (by omega)] at hc
    have : (u ++ v).getD i undef = v.getD (i - a.length) undef := by
      simp only [List.getD_eq_getElem?_getD]; rw [List.getElem?_append_right (by rw [h.1]; omega), h.1]
    rw [this]; exact k.2 _ c hc
theorem RD.int {k : IntKind} (ht : P.underlying t = some (.int k)) : RD P t (intC k) (fun n => (Lit.int k n).wf = true) := by
  intro H enc W fuel cs y h _
  obtain ⟨n, rfl, rfl, hw⟩ := DataW.trod_int ht h
  exact ⟨n, hw, .one (.int ..)⟩
theorem RD.bool (ht : P.underlying t = some .bool) : RD P t boolC (fun _ => True) := by
  intro H enc W fuel cs y h _
  obtain ⟨b, rfl, rfl⟩ := DataW.trod_bool ht h
  exact ⟨b, trivial, .one (.bool ..)⟩
theorem RD.str (ht : P.underlying t = some .string) : RD P t strC (fun s => s.length ≤ maxLen) := by
  intro H enc W fuel cs y h _
  obtain ⟨⟨s⟩, rfl, rfl, hw⟩ := DataW.trod_string ht h
  refine ⟨s.toList, by simpa [ByteArray.size] using hw, .one ?_⟩
  have := Den.str (X := old W) (w := W) s.toList
  simpa using this
theorem cells_of_cells? {w : World} {a : Addr} {n : Nat} {cs : List Value} (h : w.cells? 0 a n = some cs) : cs.length = n ∧ ∀ j, j < n → w.cell? (a.add j) = some (cs.getD j undef) := by
  simp only [World.cells?, Nat.zero_le, if_true] at h
  have hl := mapM_some_length h
  refine ⟨by simpa using hl, fun j hj => ?_⟩
  have := mapM_some_get h j j (by simp [hj])
  rw [this]
  have hj' : j < cs.length := by rw [hl]; simpa using hj
  simp [List.getD, hj']
theorem choose_list {α : Type} [Inhabited α] {n : Nat} {p : Nat → α → Prop} (h : ∀ i, i < n → ∃ x, p i x) : ∃ l : List α, l.length = n ∧ ∀ i, i < n → p i (l.getD i default) := by
  induction n with
  | zero => exact ⟨[], rfl, fun i hi => absurd hi (Nat.not_lt_zero i)⟩
  | succ n ih =>
    obtain ⟨l, h1, h2⟩ := ih fun i hi => h i (by omega)
    obtain ⟨x, hx⟩ := h n (by omega)
    refine ⟨l ++ [x], by simp [h1], fun i hi => ?_⟩
    by_cases hn : i < n
    · have : (l ++ [x]).getD i default = l.getD i default := by simp [List.getD, List.getElem?_append_left (show i < l.length by omega)]
      rw [this]; exact h2 i hn
    · have : i = n := by omega
      subst this
      have : (l ++ [x]).getD l.length default = x := by simp [List.getD]
      rw [← h1, this, h1]; exact hx
theorem RD.slice {α : Type} [Inhabited α] {c : α → List SV} {Wf : α → Prop} {m : Nat} (ht : P.underlying t = some (.slice e)) (hm : P.cellsOf e = m) (hpos : 0 < m) (hc : ∀ x, (c x).length = m) (he : RD P e c Wf) :
    RD P t (fun l => [slL m c default l]) (fun l => l.length ≤ maxLen ∧ ∀ x ∈ l, Wf x) := by
  intro H enc W fuel cs y h hlt
  rcases DataW.trod_slice ht h with ⟨rfl, rfl⟩ | ⟨a, len, cap, elems, rest, n, _, rfl, rfl, hb, hl, hmx, hlen, hel, hsp, hns⟩
  · exact ⟨[], ⟨Nat.zero_le _, by simp⟩, .one (.slNil fun h => (nomatch h))⟩
  · rw [hm] at hel hsp hlt
    have each : ∀ i, i < len → ∃ x, Wf x ∧ ∃ vs : List Value, vs.length = m ∧ (∀ j, j < m → W.cell? ((a.add (i * m)).add j) = some (vs.getD j undef)) ∧ DenC (old W) W (c x) vs := by
      intro i hi
      have h1 := hel i hi
      have hie : i < elems.length := by omega
      rw [List.getElem?_eq_getElem hie, Option.bind_eq_some_iff] at h1
      obtain ⟨vs, h2, h3⟩ := h1
      obtain ⟨k1, k2⟩ := cells_of_cells? h2
      obtain ⟨x, hx, hd⟩ := he H enc W n vs elems[i] h3 fun z hz => hlt z (by
        simp only [List.mem_append, List.mem_flatMap]
        exact .inr ⟨elems[i], .inl (List.getElem_mem hie), hz⟩)
      exact ⟨x, hx, vs, k1, k2, hd⟩
    obtain ⟨l, hll, hp⟩ := choose_list each
    refine ⟨l, ⟨by omega, fun x hx => ?_⟩, .one ?_⟩
    · obtain ⟨i, hi, rfl⟩ := List.getElem_of_mem hx
      have := (hp i (by omega)).1
      simpa [List.getD, hi] using this
    · rcases Nat.eq_zero_or_pos len with h0 | hpos2
      · subst h0
        have : l = [] := List.length_eq_zero_iff.1 hll
        subst this
        exact .slNil fun h => (nomatch h)
      obtain ⟨b, off, spot⟩ := a
      have hspot : spot = none := by
        obtain ⟨_, vs, _, h2, _⟩ := hp 0 hpos2
        simpa [Addr.add] using World.cell?_spot (h2 0 hpos)
      subst hspot
      have hbW : b < W.heap.size := hlt (.cell b off) (by
        simp only [List.mem_append]
        exact .inl (MemPlace.mem_row.2 ⟨0, by have : 0 < (elems.length + rest.length) * m := Nat.mul_pos (by omega) hpos; omega, by simp⟩))
      have key : Den (old W) W (.sl false m len fun k => c (l.getD k default)) (.slice (some ⟨b, off, none⟩) len cap) := by
        refine .slAt (fun k j => (W.cell? ⟨b, off + (k * m + j), none⟩).getD undef) hpos2 hl (fun h => (nomatch h)) hbW (fun k _ => hc _) (fun k j hk hj => ?_) fun k j s hk hs => ?_
        · obtain ⟨_, vs, h1, h2, _⟩ := hp k hk
          have := h2 j hj
          simp only [add_none] at this
          rw [show off + (k * m + j) = off + k * m + j by omega, this]; rfl
        · obtain ⟨_, vs, h1, h2, h3⟩ := hp k hk
          have hj : j < m := by have := (List.getElem?_eq_some_iff.1 hs).1; rw [hc] at this; exact this
          have := h2 j hj
          simp only [add_none] at this
          rw [show off + (k * m + j) = off + k * m + j by omega, this]
          exact h3.2 j s hs
      show Den (old W) W (.sl false m l.length fun k => c (l.getD k default)) _
      rw [hll]; exact key
def totF : List (TypeId × Nat) → Nat
  | [] => 0
  | (_, m) :: r => m + totF r
def FR {H : Type} (enc : TypeId × Value → H) (P : Program) (W : World) (n : Nat) (cs : List Value) : Nat → List (TypeId × Nat) → Prop
  | _, [] => True
  | o, (t, m) :: r => (∃ y, DataW.trod enc P W 0 (fun _ => true) true n t ((cs.drop o).take m) = some y ∧ ∀ x ∈ y.2, x.block < W.heap.size) ∧ FR enc P W n cs (o + m) r
def RDF (P : Program) (fs : List (TypeId × Nat)) {α : Type} (c : α → List SV) (Wf : α → Prop) : Prop :=
  ∀ (H : Type) (enc : TypeId × Value → H) (W : World) (n : Nat) (cs : List Value) (o : Nat), o + totF fs ≤ cs.length → FR enc P W n cs o fs → ∃ x, Wf x ∧ DenC (old W) W (c x) ((cs.drop o).take (totF fs))
theorem RDF.nil : RDF P [] (fun _ : Unit => []) (fun _ => True) := fun _ _ _ _ _ _ _ _ => ⟨(), trivial, by simp [totF, DenC]⟩
theorem RDF.cons {α β : Type} {c : α → List SV} {d : β → List SV} {W1 : α → Prop} {W2 : β → Prop} {m : Nat} {r : List (TypeId × Nat)} (h1 : RD P t c W1) (h2 : RDF P r d W2) : RDF P ((t, m) :: r) (fun x : α × β => c x.1 ++ d x.2) (fun x => W1 x.1 ∧ W2 x.2) := by
  intro H enc W n cs o hl ⟨⟨y, hy, hp⟩, hr⟩
  simp only [totF] at hl ⊢
  obtain ⟨x, hx, hdx⟩ := h1 H enc W n _ y hy hp
  obtain ⟨z, hz, hdz⟩ := h2 H enc W n cs (o + m) (by omega) hr
  refine ⟨(x, z), ⟨hx, hz⟩, ?_⟩
  have : (cs.drop o).take (m + totF r) = (cs.drop o).take m ++ (cs.drop (o + m)).take (totF r) := by rw [List.take_add, List.drop_drop]
  rw [this]
  exact hdx.app hdz
def contig (P : Program) : Nat → List Field → List (TypeId × Nat) → Bool
  | _, [], [] => true
  | o, f :: F, (t, m) :: r => f.type == t && f.offset == o && P.cellsOf t == m && contig P (o + m) F r
  | _, _, _ => false
theorem contig_FR {H : Type} {enc : TypeId × Value → H} {W : World} {n : Nat} {cs : List Value} : ∀ (F : List Field) (fs : List (TypeId × Nat)) (o : Nat) (xs : List (DataW H × List MemPlace)), contig P o F fs = true → xs.length = F.length →
    (∀ (i : Nat) (f : Field), F[i]? = some f → DataW.trod enc P W 0 (fun _ => true) true n f.type ((cs.drop f.offset).take (P.cellsOf f.type)) = xs[i]?) → (∀ y ∈ xs, ∀ x ∈ y.2, x.block < W.heap.size) → FR enc P W n cs o fs
  | [], [], _, _, _, _, _, _ => trivial
  | [], _ :: _, _, _, h, _, _, _ => by simp [contig] at h
  | _ :: _, [], _, _, h, _, _, _ => by simp [contig] at h
  | f :: F, (t, m) :: r, o, [], _, hl, _, _ => by simp at hl
  | f :: F, (t, m) :: r, o, y :: xs, h, hl, hx, hp => by
    simp only [contig, Bool.and_eq_true, beq_iff_eq] at h
    obtain ⟨⟨⟨rfl, rfl⟩, rfl⟩, h4⟩ := h
    exact ⟨⟨y, hx 0 f rfl, hp y (List.mem_cons_self ..)⟩, contig_FR F r _ xs h4 (by simpa using hl) (fun i f hf => hx (i + 1) f hf) fun z hz => hp z (List.mem_cons_of_mem _ hz)⟩
theorem rep_FR {H : Type} {enc : TypeId × Value → H} {W : World} {n m : Nat} {cs : List Value} : ∀ (k o : Nat) (xs : List (DataW H × List MemPlace)), xs.length = k → (∀ i, i < k → DataW.trod enc P W 0 (fun _ => true) true n e ((cs.drop (o + i * m)).take m) = xs[i]?) →
    (∀ y ∈ xs, ∀ x ∈ y.2, x.block < W.heap.size) → FR enc P W n cs o (List.replicate k (e, m))
  | 0, _, _, _, _, _ => trivial
  | k + 1, o, [], hl, _, _ => by simp at hl
  | k + 1, o, y :: xs, hl, hx, hp => by
    refine ⟨⟨y, by simpa using hx 0 (by omega), hp y (List.mem_cons_self ..)⟩, rep_FR k (o + m) xs (by simpa using hl) (fun i hi => ?_) fun z hz => hp z (List.mem_cons_of_mem _ hz)⟩
    have := hx (i + 1) (by omega)
    rw [Nat.add_mul, Nat.one_mul] at this
    rw [show o + m + i * m = o + (i * m + m) by omega]
    simpa using this
def structOK (P : Program) (t : TypeId) (fs : List (TypeId × Nat)) : Bool := match P.underlying t with
  | some (.struct F) => contig P 0 F.toList fs && P.cellsOf t == totF fs
  | some (.array n e) => fs == List.replicate n (e, P.cellsOf e) && P.cellsOf t == totF fs
  | _ => false
theorem RD.struct {fs : List (TypeId × Nat)} {α : Type} {c : α → List SV} {Wf : α → Prop} (h : structOK P t fs = true) (hf : RDF P fs c Wf) : RD P t c Wf := by
  intro H enc W fuel cs y hy hlt
  unfold structOK at h
  split at h
  · rename_i F hu
    simp only [Bool.and_eq_true, beq_iff_eq] at h
    obtain ⟨xs, n, rfl, rfl, hl, hxl, hx⟩ := DataW.trod_struct hu hy
    obtain ⟨x, h1, h2⟩ := hf H enc W n cs 0 (by omega) (contig_FR F.toList fs 0 xs h.1 (by simpa using hxl) (fun i f hi => hx i f (by simpa using hi)) fun z hz x hx => hlt x (by simp only [List.mem_flatMap]; exact ⟨z, hz, hx⟩))
    refine ⟨x, h1, ?_⟩
    have : (cs.drop 0).take (totF fs) = cs := by rw [List.drop_zero, List.take_of_length_le (by omega)]
    rwa [this] at h2
  · rename_i n e hu
    simp only [Bool.and_eq_true, beq_iff_eq] at h
    obtain ⟨xs, m, rfl, rfl, hl, hxl, hx⟩ := DataW.trod_array hu hy
    obtain ⟨hfs, htot⟩ := h
    obtain ⟨x, h1, h2⟩ := hf H enc W m cs 0 (by omega) (by
      rw [hfs]
      exact rep_FR n 0 xs hxl (fun i hi => by simpa using hx i hi) fun z hz x hx => hlt x (by simp only [List.mem_flatMap]; exact ⟨z, hz, hx⟩))
    refine ⟨x, h1, ?_⟩
    have : (cs.drop 0).take (totF fs) = cs := by rw [List.drop_zero, List.take_of_length_le (by omega)]
    rwa [this] at h2
  · cases h
theorem RD.map {α β : Type} {c : α → List SV} {d : β → List SV} {W1 : α → Prop} {W2 : β → Prop} (f : α → β) (hc : ∀ x, c x = d (f x)) (hw : ∀ x, W1 x → W2 (f x)) (h : RD P t c W1) : RD P t d W2 := by
  intro H enc W fuel cs y hy hlt
  obtain ⟨x, h1, h2⟩ := h H enc W fuel cs y hy hlt
  exact ⟨f x, hw x h1, hc x ▸ h2⟩
def RDV (P : Program) (t : TypeId) {α : Type} (s : α → SV) (Wf : α → Prop) : Prop :=
  ∀ (H : Type) (enc : TypeId × Value → H) (W : World) (base : Nat) (v : Value) (d : DataW H) (p : List MemPlace), Value.okWide P W .any base t v → DataW.Trod enc P W 0 (fun _ => true) true t v d p → (∀ x ∈ p, x.block < W.heap.size) → ∃ x, Wf x ∧ Den (old W) W (s x) v
def wideT (P : Program) (t : TypeId) : Bool := match P.underlying t with
  | some (.struct _) => true
  | some (.array _ _) => true
  | _ => false
def flatT (P : Program) (t : TypeId) : Bool := match P.underlying t with
  | some .bool => true
  | some (.int _) => true
  | some .string => true
  | some (.slice _) => true
  | _ => false
theorem RDV.agg {α : Type} {c : α → List SV} {Wf : α → Prop} (hw : wideT P t = true) (h : RD P t c Wf) : RDV P t (fun x => .agg (c x)) Wf := by
  intro H enc W base v d p hok ⟨fuel, hd⟩ hlt
  have : ∃ cs, v = .agg cs := by
    unfold wideT at hw
    unfold Value.okWide at hok
    split at hw <;> rename_i hu <;> first | (rw [hu] at hok; obtain ⟨cs, h, _⟩ := hok; exact ⟨cs, h⟩) | cases hw
  obtain ⟨cs, rfl⟩ := this
  obtain ⟨x, h1, h2, h3⟩ := h H enc W fuel _ _ hd hlt
  simp only [Value.cells] at h2 h3
  exact ⟨x, h1, .agg (by simpa using h2) fun i c hc => by simpa using h3 i c hc⟩
theorem RDV.cell {α : Type} {s : α → SV} {Wf : α → Prop} (hw : flatT P t = true) (h : RD P t (fun x => [s x]) Wf) : RDV P t s Wf := by
  intro H enc W base v d p hok ⟨fuel, hd⟩ hlt
  have : ∀ cs, v ≠ .agg cs := by
    rintro cs rfl
    unfold flatT at hw
    unfold Value.okWide at hok
    split at hw <;> rename_i hu <;> first | (rw [hu] at hok; simp [Cell.okWide, Cell.ok, hu] at hok; done) | cases hw
  obtain ⟨x, h1, h2, h3⟩ := h H enc W fuel _ _ hd hlt
  have hv : v.cells = #[v] := by cases v <;> first | rfl | exact absurd rfl (this _)
  rw [hv] at h3
  exact ⟨x, h1, h3 0 _ rfl⟩
def RA (P : Program) (ts : List TypeId) (K : List SV → Prop) : Prop :=
  ∀ (H : Type) (enc : TypeId × Value → H) (W : World) (base : Nat) (vs : List Value) (ds : List (DataW H)) (p : List MemPlace), (∀ (j : Nat) (t : TypeId) (v : Value), ts[j]? = some t → vs[j]? = some v → Value.okWide P W .any base t v) →
    DataW.TrodAll enc P W 0 (fun _ => true) true ts vs ds p → (∀ x ∈ p, x.block < W.heap.size) → ∃ l, K l ∧ l.length = vs.length ∧ ∀ (i : Nat) (c : SV), l[i]? = some c → Den (old W) W c (vs.getD i undef)
theorem RA.nil : RA P [] (fun l => l = []) := fun _ _ _ _ vs ds p _ h _ => by
  cases vs <;> cases ds <;> simp only [DataW.TrodAll] at h
  exact ⟨[], rfl, rfl, by simp⟩
theorem RA.cons {α : Type} {s : α → SV} {Wf : α → Prop} {ts : List TypeId} {K : List SV → Prop} (h1 : RDV P t s Wf) (h2 : RA P ts K) : RA P (t :: ts) (fun l => ∃ x l', Wf x ∧ K l' ∧ l = s x :: l') := by
  intro H enc W base vs ds p hok h hlt
  cases vs <;> cases ds <;> simp only [DataW.TrodAll] at h
  rename_i v vs d ds
  obtain ⟨p, q, h3, h4, rfl⟩ := h
  obtain ⟨x, hx, hd⟩ := h1 H enc W base v d p (hok 0 t v rfl rfl) h3 fun z hz => hlt z (by simp [hz])
  obtain ⟨l, k1, k2, k3⟩ := h2 H enc W base vs ds q (fun j t v a b => hok (j + 1) t v a b) h4 fun z hz => hlt z (by simp [hz])
  refine ⟨s x :: l, ⟨x, l, hx, k1, rfl⟩, by simp [k2], fun i c hc => ?_⟩
  cases i with
  | zero => simp at hc; subst hc; exact hd
  | succ i => exact k3 i c (by simpa using hc)
end
end Go.Lift
end
