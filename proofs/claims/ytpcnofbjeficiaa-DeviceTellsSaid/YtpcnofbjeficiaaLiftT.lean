/-
  Regions that draw their order.
-/
import Derived.Test.YtpcnofbjeficiaaLiftS
import Derived.OrdersHeld
namespace Go.Lift
set_option linter.unusedVariables false
section
variable {P : Program} {E : Env} {n : Nat}

/-- Only a normal end. -/
def GoodN (n : Nat) (K : Slots → List Own → Prop) (X0 : Nat → Prop) (w0 : World) (B0 : List Own) : Exit → Act → World → Prop :=
  fun e a w => e = .normal ∧ ∃ X t B, K t B ∧ St X w B t n a ∧ Ext X0 w0 B0 X w B
theorem wpAnyH_weak {md : Region.Mode} {ops : Array Oper} {Q : Exit → Act → World → Prop} {S S' : World → Prop} (h : ∀ w, S w → S' w) : ∀ (fuel : Nat) (listed : Array Bool) (a : Act) (w : World), wpAnyH P md ops Q S fuel listed a w → wpAnyH P md ops Q S' fuel listed a w
  | 0, _, _, _, k => k
  | fuel + 1, _, _, _, k => ⟨k.1, fun i hi => wpOp_mono (fun a' w' h' => ⟨h _ h'.1, wpAnyH_weak h fuel _ a' w' h'.2⟩) (k.2 i hi)⟩

theorem owns_mr {ws : List Bool} {B N : List Own} {b : Nat} (hb : owns (rwB ws (mrB ws B N)) b) : owns N b := by
  obtain ⟨i, hi⟩ := hb
  rw [rwB_get] at hi
  split at hi
  · simp [Own.blocks] at hi
  · rename_i hne
    rw [mrB_get, if_neg fun h => hne h.1] at hi
    exact ⟨i, hi⟩
theorem Kept.transW {X X' : Nat → Prop} {w w1 w2 : World} {B B1 B2 : List Own} (h : Ext X w B X' w1 B1) (hb : ∀ b, owns B2 b → owns B1 b) (k : Kept w1 B2 w2) : Kept w B w2 :=
  ⟨k.os.trans h.os, k.tape.trans h.tape, k.output.trans h.output, Nat.le_trans h.size k.size, fun b hl hn => by
    rw [k.block b (Nat.lt_of_lt_of_le hl h.size) fun ho => (h.own b (hb b ho)).elim hn fun h => by omega, h.block b hl hn]⟩
def ED (P : Program) (n : Nat) (ops : Array Oper) (ws : List Bool) (t : Slots) (B : List Own) (K : Slots → List Own → Prop) (fuel : Nat) (listed : Array Bool) : Prop :=
  ∀ X0 w0 B0 X w a, Ext X0 w0 B0 X w B → St X w B t n a → wpAnyH P .any ops (GoodN n K X0 w0 B0) (Kept w (rwB ws B)) fuel listed a w
variable {ws : List Bool} {ops : Array Oper} {t : Slots} {B : List Own} {K : Slots → List Own → Prop} {fuel : Nat} {listed : Array Bool}
theorem ED_done (hr : Region.ready .any ops listed = []) (h : K t B) : ED P n ops ws t B K fuel listed :=
  fun X0 w0 B0 X w a he hs => wpAnyH_done hr ⟨rfl, X, t, B, h, hs, he⟩ fuel
theorem St.put {X : Nat → Prop} {w : World} {a : Act} {d : Option Nat} {s : SV} {v : Value} (hs : St X w B t n a) (hd : Den X w s v) : St X w B (setT n t d s) n (a.put d v) := by
  refine ⟨?_, hs.sat, denT_put hs.den hd⟩
  have := hs.defers; cases d <;> simpa [Act.put] using this
theorem ED_take {i : Nat} {o : Oper} {sv : SV} (hi : ops[i]? = some o) (hs : Region.noSelect ops = true) (hf : Region.free .any ops listed i = true) (hr : (Region.ready .any ops listed).contains i = true)
    (hu : ∀ X w a, St X w B t n a → ∃ v, YieldsIf P ops (Kept w (rwB ws B)) o v a ∧ Den X w sv v) (h : ED P n ops ws (setT n t o.dst sv) B K fuel (listed.setIfInBounds i true)) : ED P n ops ws t B K (fuel + 1) listed := by
  intro X0 w0 B0 X w a he hst
  obtain ⟨v, hy, hd⟩ := hu X w a hst
  exact wpAnyH_take hi hs hf hr (fun c a w h => by cases h.1) hy (Kept.refl w (rwB ws B)) (h X0 w0 B0 X w _ he (hst.put hd))
theorem ED_call {i : Nat} {o : Oper} {f : FuncId} {args : List SV} (hi : ops[i]? = some o) (hr : Region.ready .any ops listed = [i]) (hw : ∀ X w a, St X w B t n a → Region.wanted o (yielded ops a.tmps) = true)
    (hrun : ∀ X w a, St X w B t n a → ∃ vals, (execOp a.eval o).run P w = .ok (.enter f vals) w ∧ DenL X w args vals)
    (h : EC P f args (rwB ws B) fun s B' => ED P n ops ws (setT n t o.dst s) (mrB ws B B') K fuel (listed.setIfInBounds i true)) : ED P n ops ws t B K (fuel + 1) listed := by
  intro X0 w0 B0 X w a he hs
  refine wpAnyH_all hr (by simp) fun j hj => ?_
  simp only [List.mem_singleton] at hj
  subst hj
  unfold wpOp
  simp only [hi]
  rw [if_pos (hw X w a hs)]
  left
  obtain ⟨vals, h1, h2⟩ := hrun X w a hs
  unfold Oper.wp
  rw [h1]
  simp only [Oper.upon]
  refine (h.2 X w vals (hs.sat.rw ws) h2).mono ?_
  rintro e w' ⟨v, s, X', B', rfl, hK, hsat0, hden, hext0⟩
  simp only
  obtain ⟨hsat, hext⟩ := hs.sat.merge hsat0 hext0
  have hst : St X' w' (mrB ws B B') (setT n t o.dst s) n (a.put o.dst v) := by
    refine ⟨?_, hsat, ?_⟩
    · have := hs.defers; cases o.dst <;> simpa [Act.put] using this
    · exact denT_put ⟨hs.den.1, fun i => (hs.den.2 i).ext hs.sat hext⟩ hden
  exact ⟨Kept.ext hext0, wpAnyH_weak (fun w'' hk => Kept.transW hext0 (fun b hb => owns_mr hb) hk) _ _ _ _ (hK X0 w0 B0 X' w' _ (he.trans hext) hst)⟩
theorem ED_mem {i : Nat} {o : Oper} {out : RowH → Out} (hi : ops[i]? = some o) (hr : Region.ready .any ops listed = [i]) (hw : ∀ X w a, St X w B t n a → Region.wanted o (yielded ops a.tmps) = true)
    (hu : ∀ X w a, St X w B t n a → ∃ h, (out h).vc → Done P X w (rwB ws B) (execOp a.eval o) (out h)) (hh : ∀ h, (out h).vc ∧ ED P n ops ws (setT n t o.dst (out h).v) (mrB ws B (out h).B) K fuel (listed.setIfInBounds i true)) : ED P n ops ws t B K (fuel + 1) listed := by
  intro X0 w0 B0 X w a he hs
  refine wpAnyH_all hr (by simp) fun j hj => ?_
  simp only [List.mem_singleton] at hj
  subst hj
  unfold wpOp
  simp only [hi]
  rw [if_pos (hw X w a hs)]
  left
  obtain ⟨hd, hu⟩ := hu X w a hs
  obtain ⟨hvc, h⟩ := hh hd
  obtain ⟨v, w', h1, hsat0, hden, hext0⟩ := hu hvc
  obtain ⟨hsat, hext⟩ := hs.sat.merge hsat0 hext0
  have hst : St X w' (mrB ws B (out hd).B) (setT n t o.dst (out hd).v) n (a.put o.dst v) := by
    refine ⟨?_, hsat, ?_⟩
    · have := hs.defers; cases o.dst <;> simpa [Act.put] using this
    · exact denT_put ⟨hs.den.1, fun i => (hs.den.2 i).ext hs.sat hext⟩ hden
  have key : Kept w (rwB ws B) w' ∧ wpAnyH P .any ops (GoodN n K X0 w0 B0) (Kept w (rwB ws B)) fuel (listed.setIfInBounds _ true) (a.put o.dst v) w' :=
    ⟨Kept.ext hext0, wpAnyH_weak (fun w'' hk => Kept.transW hext0 (fun b hb => owns_mr hb) hk) _ _ _ _ (h X0 w0 B0 X w' _ (he.trans hext) hst)⟩
  unfold Oper.wp
  rcases h1 with h1 | ⟨h1, rfl⟩
  · rw [h1]; simp only [Oper.upon]; exact key
  · rw [h1]; simp only [Oper.upon]; exact key
theorem EV_draw {id : Nat} {Q : Post} (hm : P.follows .mixedOrders = true) (h : ∀ K : Slots → List Own → Prop, (∀ t B, Q .normal t B → K t B) → ED P n ops ws t B K ops.size (Array.replicate ops.size false)) : EV P n (.region id ops true) t B Q := by
  intro X0 w0 B0 X w a he hs
  have hext : Ext X w B X { w with drawn := w.drawn + 1 } B := ⟨rfl, rfl, rfl, Nat.le_refl _, fun _ _ _ => rfl, fun _ h => h, fun _ h => .inl h, fun _ h => .inl h⟩
  have hs' : St X { w with drawn := w.drawn + 1 } B t n a := ⟨hs.defers, ⟨hs.sat.inj, hs.sat.lt, hs.sat.xlt, hs.sat.apart, fun i => Own.ok_mono (hs.sat.ok i) (fun _ h => h) (fun _ _ => rfl) fun _ _ => rfl⟩, hs.den.1, fun i => (hs.den.2 i).ext hs.sat hext⟩
  refine wp_mono (wp_region_held hm (h (fun t B => Q .normal t B) (fun _ _ h => h) X0 w0 B0 X _ a (he.trans hext) hs')) ?_
  rintro e a' w' ⟨rfl, X', t', B', h1, h2, h3⟩
  exact ⟨X', t', B', h1, h2, h3⟩
theorem ED_skip {i : Nat} {o : Oper} {s : SV} (hi : ops[i]? = some o) (hr : Region.ready .any ops listed = [i]) (hw : ∀ X w a, St X w B t n a → Region.wanted o (yielded ops a.tmps) = false)
    (hu : ∀ X w, Den X w s undef) (h : ED P n ops ws (setT n t o.dst s) B K fuel (listed.setIfInBounds i true)) : ED P n ops ws t B K (fuel + 1) listed := by
  intro X0 w0 B0 X w a he hs
  refine wpAnyH_all hr (by simp) fun j hj => ?_
  simp only [List.mem_singleton] at hj
  subst hj
  unfold wpOp
  simp only [hi]
  rw [if_neg (by rw [hw X w a hs]; simp)]
  exact ⟨Kept.refl w _, h X0 w0 B0 X w _ he (hs.put (hu X w))⟩

def isCallOp : Op → Bool
  | .call c => match c.callee with
    | .value _ => true
    | _ => false
  | _ => false
/-- Operations that write or make memory: they must come alone. -/
def isMemOp : Op → Bool
  | .store .. | .alloc _ | .box .. | .buildSlice .. | .makeSlice .. => true
  | .call c => match c.callee with
    | .builtin .append | .builtin .copy => true
    | _ => false
  | .binOp _ _ _ y _ => nilOpd y
  | _ => false
/-- An order in which what neither writes nor calls may be taken first, and each call is alone. -/
def ordOK (ops : Array Oper) : List Nat → Array Bool → Bool
  | [], listed => Region.ready .any ops listed == []
  | i :: r, listed => (match ops[i]? with
    | none => false
    | some o => match isCallOp o.op || isMemOp o.op with
      | true => Region.ready .any ops listed == [i]
      | false => Region.free .any ops listed i && (Region.ready .any ops listed).contains i) && ordOK ops r (listed.setIfInBounds i true)
def runD (P : Program) (E : Env) (n : Nat) (ops : Array Oper) (ws : List Bool) (K : Slots → List Own → Prop) : List Nat → Slots → List Own → Array Bool → Prop
  | [], t, B, _ => K t B
  | i :: r, t, B, listed => match ops[i]? with
    | none => False
    | some o => match o.guard with
      | none => match isCallOp o.op with
        | true => match callOf false t o.op with
          | some (f, args) => EC P f args (rwB ws B) fun s B' => ED P n ops ws (setT n t o.dst s) (mrB ws B B') K r.length (listed.setIfInBounds i true)
          | none => False
        | false => match isMemOp o.op with
          | true => ∀ h, match evOp E false h t (rwB ws B) o.op with
            | ⟨v, B', c⟩ => c ∧ runD P E n ops ws K r (setT n t o.dst v) (mrB ws B B') (listed.setIfInBounds i true)
          | false => match evOp E false (.void none) t (roB ws B) o.op with
            | ⟨v, _, c⟩ => pureOp o.op v ∧ c ∧ runD P E n ops ws K r (setT n t o.dst v) B (listed.setIfInBounds i true)
      | some (j, want) => match guardOf ops.toList t j want with
        | none => False
        | some c => match isCallOp o.op with
          | true => match callOf true t o.op with
            | some (f, args) => (c = true → condsOk t (opnds o.op)) ∧ (c = true → EC P f args (rwB ws B) fun s B' => ED P n ops ws (setT n t o.dst s) (mrB ws B B') K r.length (listed.setIfInBounds i true)) ∧
                (c = false → ED P n ops ws (setT n t o.dst .any) B K r.length (listed.setIfInBounds i true))
            | none => False
          | false => match isMemOp o.op with
            | true => False
            | false => match evOp E true (.void none) t (roB ws B) o.op with
              | ⟨v, _, vc⟩ => quiet o.op = true ∧ (c = true → condsOk t (opnds o.op) ∧ pureOp o.op v ∧ vc) ∧ runD P E n ops ws K r (setT n t o.dst (.opt c v)) B (listed.setIfInBounds i true)

theorem pure_st (hE : EnvOK P E) {X : Nat → Prop} {w : World} {a : Act} {o : Oper} {st : Bool} (hs : St X w B t n a) (hst : st = true → quiet o.op = true ∧ condsOk t (opnds o.op)) (hp : pureOp o.op (evOp E st (.void none) t (roB ws B) o.op).v)
    (hc : (evOp E st (.void none) t (roB ws B) o.op).vc) : Uni P X w (rwB ws B) (execOp a.eval o) (evOp E st (.void none) t (roB ws B) o.op).v := by
  by_cases hpk : ∃ c x y, o.op = .pick c x y
  · obtain ⟨c, x, y, hpk⟩ := hpk
    rw [hpk] at hc hp ⊢
    refine uni_fo hp fun w' hk => ?_
    obtain ⟨r, h1, h2, h3⟩ := pick_sound (P := P) (hk.denW hs.sat (den_ev hs.den c)) (hk.denW hs.sat (den_ev hs.den x)) (hk.denW hs.sat (den_ev hs.den y)) hc
    exact ⟨r, by simpa [execOp, hpk] using h1, h2⟩
  · refine pure_uni hE hs.sat (fun x => den_ev hs.den x) (fun _ => rfl) (fun x hx => ?_) hp hc
    cases st with
    | false => exact den_evS_false hs.den x
    | true =>
      obtain ⟨h1, h2⟩ := hst rfl
      rcases quiet_opnds h1 x hx with ⟨c, a', b, e⟩ | h3
      · exact absurd ⟨c, a', b, e⟩ hpk
      · exact den_evS_true hs.den h2 x h3
theorem ED_run (hE : EnvOK P E) (hns : Region.noSelect ops = true) : ∀ (ord : List Nat) (t : Slots) (B : List Own) (listed : Array Bool), ordOK ops ord listed = true → runD P E n ops ws K ord t B listed → ED P n ops ws t B K ord.length listed
  | [], t, B, listed, ho, h => ED_done (by simpa [ordOK] using ho) h
  | i :: r, t, B, listed, ho, h => by
    simp only [ordOK, Bool.and_eq_true] at ho
    obtain ⟨ho, ho2⟩ := ho
    simp only [runD] at h
    cases hi : ops[i]? with
    | none => simp [hi] at h
    | some o =>
      simp only [hi] at h ho
      cases hg : o.guard with
      | none =>
        have hw : ∀ X w a, St X w B t n a → Region.wanted o (yielded ops a.tmps) = true := fun X w a _ => by simp [Region.wanted, hg]
        simp only [hg] at h
        cases hco : isCallOp o.op with
        | true =>
          simp only [hco, Bool.true_or] at h ho
          cases hcall : callOf false t o.op with
          | none => simp [hcall] at h
          | some fa =>
            obtain ⟨f, args⟩ := fa
            simp only [hcall] at h
            exact ED_call hi (by simpa using ho) hw (fun X w a hs => call_run hcall (fun x _ => den_evS_false hs.den x) h.1) h
        | false =>
          simp only [hco, Bool.false_or] at h ho
          cases hmo : isMemOp o.op with
          | true =>
            simp only [hmo] at h ho
            exact ED_mem hi (by simpa using ho) hw (out := fun h => evOp E false h t (rwB ws B) o.op) (fun X w a hs => evOp_sound' hE (hs.sat.rw ws) hs.den (o := o) (st := false) (by simp)) fun hd => ⟨(h hd).1, ED_run hE hns r _ _ _ ho2 (h hd).2⟩
          | false =>
          simp only [hmo, Bool.and_eq_true] at h ho
          obtain ⟨h1, h2, h3⟩ := h
          refine ED_take hi hns ho.1 ho.2 (fun X w a hs => ?_) (ED_run hE hns r _ _ _ ho2 h3)
          obtain ⟨v, hd, hu⟩ := pure_st hE hs (st := false) (by simp) h1 h2
          exact ⟨v, .inl ⟨hw X w a hs, hu⟩, hd⟩
      | some jw =>
        obtain ⟨j, want⟩ := jw
        simp only [hg] at h
        cases hgd : guardOf ops.toList t j want with
        | none => simp [hgd] at h
        | some c =>
          simp only [hgd] at h
          have hwc : ∀ X w a, St X w B t n a → Region.wanted o (yielded ops a.tmps) = c := fun X w a hs => by simpa using guardOf_spec hgd hs.den o hg
          cases hco : isCallOp o.op with
          | true =>
            simp only [hco, Bool.true_or] at h ho
            cases hcall : callOf true t o.op with
            | none => simp [hcall] at h
            | some fa =>
              obtain ⟨f, args⟩ := fa
              simp only [hcall] at h
              obtain ⟨h1, h2, h3⟩ := h
              cases c with
              | true => exact ED_call hi (by simpa using ho) hwc (fun X w a hs => call_run hcall (fun x hx => den_evS_true hs.den (h1 rfl) x hx) (h2 rfl).1) (h2 rfl)
              | false => exact ED_skip hi (by simpa using ho) hwc (fun _ _ => .any _) (h3 rfl)
          | false =>
            simp only [hco, Bool.false_or] at h ho
            cases hmo : isMemOp o.op with
            | true => simp [hmo] at h
            | false =>
            simp only [hmo, Bool.and_eq_true] at h ho
            obtain ⟨hq, h1, h3⟩ := h
            refine ED_take hi hns ho.1 ho.2 (fun X w a hs => ?_) (ED_run hE hns r _ _ _ ho2 h3)
            cases c with
            | true =>
              obtain ⟨k1, k2, k3⟩ := h1 rfl
              obtain ⟨v, hd, hu⟩ := pure_st hE hs (st := true) (fun _ => ⟨hq, k1⟩) k2 k3
              exact ⟨v, .inl ⟨hwc X w a hs, hu⟩, .opt (fun _ => hd) fun e => by cases e⟩
            | false => exact ⟨undef, .inr ⟨hwc X w a hs, rfl⟩, .opt (fun e => by cases e) fun _ => rfl⟩
theorem EV_drawn (hE : EnvOK P E) {id : Nat} {Q : Post} (ws : List Bool) (ord : List Nat) (hm : P.follows .mixedOrders = true) (hns : Region.noSelect ops = true) (hl : ord.length = ops.size) (ho : ordOK ops ord (Array.replicate ops.size false) = true)
    (h : ∀ K : Slots → List Own → Prop, (∀ t B, Q .normal t B → K t B) → runD P E n ops ws K ord t B (Array.replicate ops.size false)) : EV P n (.region id ops true) t B Q :=
  EV_draw hm fun K hK => by
    have := ED_run hE hns ord t B _ ho (h K hK)
    rw [hl] at this
    exact this
end
end Go.Lift
