/-
  Judgements on code and calls.
-/
import Derived.Test.YtfmldmafigpblaaDoorLiftL
namespace Go.Lift

abbrev Slots := List (Nat × SV)
abbrev Post := Exit → Slots → List Own → Prop

structure St (X : Nat → Prop) (w : World) (B : List Own) (t : Slots) (n : Nat) (a : Act) : Prop where
  defers : a.defers = []
  sat : Sat X w B
  den : DenT X w t n a.tmps

def Good (n : Nat) (Q : Post) (X0 : Nat → Prop) (w0 : World) (B0 : List Own) : Exit → Act → World → Prop :=
  fun e a w => ∃ X t B, Q e t B ∧ St X w B t n a ∧ Ext X0 w0 B0 X w B

/-- Code, from a symbolic state. -/
def EV (P : Program) (n : Nat) (c : Code) (t : Slots) (B : List Own) (Q : Post) : Prop :=
  ∀ X0 w0 B0 X w a, Ext X0 w0 B0 X w B → St X w B t n a → c.wp P (Good n Q X0 w0 B0) a w
/-- The rest of a region. -/
def EO (P : Program) (n : Nat) (all l : List Oper) (t : Slots) (B : List Own) (K : Slots → List Own → Prop) : Prop :=
  ∀ (Q : Post), (∀ t B, K t B → Q .normal t B) → ∀ X0 w0 B0 X w a, Ext X0 w0 B0 X w B → St X w B t n a → wpList P all.toArray (Good n Q X0 w0 B0) l a w
def DenL (X : Nat → Prop) (w : World) (args : List SV) (vs : Array Value) : Prop := vs.size = args.length ∧ ∀ (i : Nat) (c : SV), args[i]? = some c → Den X w c (vs.getD i undef)
def callable (P : Program) (f : FuncId) : Bool := match P.funcs[f]? with
  | some fn => !(fn.name == "runtime.NumGoroutine") && fn.body.isSome
  | none => false
/-- A call. -/
def EC (P : Program) (f : FuncId) (args : List SV) (B : List Own) (Q : SV → List Own → Prop) : Prop :=
  callable P f = true ∧ ∀ X w vs, Sat X w B → DenL X w args vs → Calls P f vs w (fun e w' => ∃ v r X' B', e = .returned v ∧ Q r B' ∧ Sat X' w' B' ∧ Den X' w' r v ∧ Ext X w B X' w' B')

theorem EC.mono {P f args B Q Q'} (h : EC P f args B Q) (hq : ∀ r B', Q r B' → Q' r B') : EC P f args B Q' :=
  ⟨h.1, fun X w vs hs hd => (h.2 X w vs hs hd).mono fun _ _ ⟨v, r, X', B', he, hr, r1⟩ => ⟨v, r, X', B', he, hq r B' hr, r1⟩⟩
theorem Good.mono {n Q Q' X0 w0 B0 e a w} (h : Good n Q X0 w0 B0 e a w) (hq : ∀ t B, Q e t B → Q' e t B) : Good n Q' X0 w0 B0 e a w :=
  let ⟨X, t, B, h1, h2⟩ := h; ⟨X, t, B, hq t B h1, h2⟩
theorem EV.mono {P n c t B} {Q Q' : Post} (h : EV P n c t B Q) (hq : ∀ e t B, Q e t B → Q' e t B) : EV P n c t B Q' :=
  fun X0 w0 B0 X w a he hs => wp_mono (h X0 w0 B0 X w a he hs) fun e _ _ hg => hg.mono (hq e)

section
variable {P : Program} {n : Nat} {t : Slots} {B : List Own} {Q : Post}

theorem EV_skip (h : Q .normal t B) : EV P n .skip t B Q := fun _ _ _ X _ _ he hs => wp_skip ⟨X, t, B, h, hs, he⟩
theorem EV_ret (h : Q .ret t B) : EV P n .ret t B Q := fun _ _ _ X _ _ he hs => wp_ret ⟨X, t, B, h, hs, he⟩
theorem EV_exit {id : Nat} (h : Q (.exit id) t B) : EV P n (.exit id) t B Q := fun _ _ _ X _ _ he hs => wp_exit ⟨X, t, B, h, hs, he⟩
theorem EV_label {l : Nat} (h : Q .normal t B) : EV P n (.label l) t B Q := fun _ _ _ X _ _ he hs => wp_label ⟨X, t, B, h, hs, he⟩
def thenP (K : Slots → List Own → Prop) (Q : Post) : Post
  | .normal, t, B => K t B
  | e, t, B => Q e t B
theorem EV_seq {x y : Code} (h : ∀ K : Slots → List Own → Prop, (∀ t B, EV P n y t B Q → K t B) → EV P n x t B (thenP K Q)) : EV P n (.seq x y) t B Q := by
  intro X0 w0 B0 X w a he hs
  refine wp_seq (wp_mono (h _ (fun _ _ h => h) X0 w0 B0 X w a he hs) fun e a' w' hg => ?_)
  obtain ⟨X', t', B', h1, h2, h3⟩ := hg
  cases e with
  | normal => exact h1 X0 w0 B0 X' w' a' h3 h2
  | _ => exact ⟨X', t', B', h1, h2, h3⟩
def blockP (id : Nat) (Q : Post) : Post
  | .exit id', t, B => if id' = id then Q .normal t B else Q (.exit id') t B
  | e, t, B => Q e t B
theorem EV_block {id : Nat} {c : Code} (h : EV P n c t B (blockP id Q)) : EV P n (.block id c) t B Q := by
  intro X0 w0 B0 X w a he hs
  refine wp_block (wp_mono (h X0 w0 B0 X w a he hs) fun e a' w' hg => ?_)
  obtain ⟨X', t', B', h1, h2, h3⟩ := hg
  cases e with
  | exit id' =>
    simp only [blockP] at h1
    simp only [Exit.inBlock]
    by_cases hid : id' = id
    · simp only [hid, if_true] at h1 ⊢; exact ⟨X', t', B', h1, h2, h3⟩
    · simp only [hid, if_false] at h1 ⊢; exact ⟨X', t', B', h1, h2, h3⟩
  | _ => exact ⟨X', t', B', h1, h2, h3⟩
theorem EV_cond {c : Operand} {x y : Code} {p : Bool} (hc : ev t c = .bool p) (h1 : p = true → EV P n x t B Q) (h2 : p = false → EV P n y t B Q) : EV P n (.cond c x y) t B Q := by
  intro X0 w0 B0 X w a he hs
  have hd := den_ev hs.sat.xg hs.den c
  rw [hc] at hd
  have ha : a.eval c = .bool p := by
    generalize a.eval c = v at hd
    cases hd; rfl
  exact wp_cond_split ha (fun hp => h1 hp X0 w0 B0 X w a he hs) (fun hp => h2 hp X0 w0 B0 X w a he hs)

/-- A weaker description of the same state: fewer slots, fewer owned rows. -/
def wkS (t : Slots) : Slots → Prop
  | [] => True
  | (i, v) :: r => lkp t i = v ∧ wkS t r
theorem wkS_spec {t t' : Slots} (h : wkS t t') (i : Nat) : lkp t' i = .any ∨ lkp t i = lkp t' i := by
  induction t' with
  | nil => exact .inl rfl
  | cons p r ih =>
    obtain ⟨j, v⟩ := p
    simp only [wkS] at h
    simp only [lkp]
    by_cases e : i = j
    · subst e; simp only [if_true]; exact .inr h.1
    · simp only [e, if_false]; exact ih h.2
theorem getD'_take {m i : Nat} : getD' (B.take m) i = if i < m then getD' B i else .gone := by
  unfold getD'
  simp only [List.getD_eq_getElem?_getD, List.getElem?_take]
  split <;> simp
theorem Sat.take {X w} (hs : Sat X w B) (m : Nat) : Sat X w (B.take m) := by
  have hb : ∀ i b, b ∈ (getD' (B.take m) i).blocks → b ∈ (getD' B i).blocks := fun i b h => by
    rw [getD'_take] at h
    split at h
    · exact h
    · simp [Own.blocks] at h
  refine ⟨fun i j b hi hj => hs.inj i j b (hb i b hi) (hb j b hj), fun i b hi => hs.lt i b (hb i b hi), hs.xg, fun b hx ⟨i, hi⟩ => hs.apart b hx ⟨i, hb i b hi⟩, fun i => ?_⟩
  rw [getD'_take]
  split
  · exact hs.ok i
  · trivial
theorem Ext.take {X w} (m : Nat) : Ext X w B X w (B.take m) := by
  refine ⟨rfl, rfl, rfl, Nat.le_refl _, fun _ _ _ => rfl, fun _ h => h, fun _ h => .inl h, fun b ⟨i, hi⟩ => .inl ⟨i, ?_⟩⟩
  rw [getD'_take] at hi
  split at hi
  · exact hi
  · simp [Own.blocks] at hi
theorem St.weak {X w a} {t' : Slots} (hs : St X w B t n a) (h : wkS t t') (m : Nat) : St X w (B.take m) t' n a :=
  ⟨hs.defers, hs.sat.take m, hs.den.1, fun i => by
    rcases wkS_spec h i with h1 | h1
    · rw [h1]; exact .any _
    · rw [← h1]; exact hs.den.2 i⟩
theorem EV_weak {c : Code} {t' : Slots} (m : Nat) (h : wkS t t') (hv : EV P n c t' (B.take m) Q) : EV P n c t B Q :=
  fun X0 w0 B0 X w a he hs => hv X0 w0 B0 X w a (he.trans (Ext.take m)) (hs.weak h m)

theorem EV_loop {σ : Type} (S : σ → Slots) (R : σ → List Own) (Inv : σ → Prop) (μ : σ → Nat) (s0 : σ) {c : Code} (h0 : Inv s0) (hw : wkS t (S s0)) (hb : B.take (R s0).length = R s0)
    (round : ∀ s, Inv s → EV P n c (S s) (R s) (thenP (fun t' B' => ∃ s', Inv s' ∧ μ s' < μ s ∧ wkS t' (S s') ∧ B'.take (R s').length = R s') Q)) : EV P n (.loop c) t B Q := by
  intro X0 w0 B0 X w a he hs
  have start : ∃ s X, Inv s ∧ St X w (R s) (S s) n a ∧ Ext X0 w0 B0 X w (R s) := by
    refine ⟨s0, X, h0, ?_, ?_⟩
    · rw [← hb]; exact hs.weak hw _
    · rw [← hb]; exact he.trans (Ext.take _)
  -- induction on the measure
  intro b k cs
  have key : ∀ m (s : σ) X a w, μ s = m → Inv s → St X w (R s) (S s) n a → Ext X0 w0 B0 X w (R s) →
      ∃ e a' w', Good n Q X0 w0 B0 e a' w' ∧ Arrives P (lone (b.at a (.code c :: .inLoop c :: k)) cs w) b k cs e a' w' := by
    intro m
    induction m using Nat.strongRecOn with
    | _ m ih =>
      intro s X a w hm hI hst hex
      obtain ⟨e, a₁, w₁, hq, harr⟩ := round s hI X0 w0 B0 X w a hex hst b (.inLoop c :: k) cs
      obtain ⟨X1, t1, B1, hQ, hst1, hex1⟩ := hq
      cases e with
      | normal =>
        obtain ⟨s', hI', hlt, hwk, hbk⟩ := hQ
        obtain ⟨e₂, a₂, w₂, hq₂, harr₂⟩ := ih (μ s') (hm ▸ hlt) s' X1 a₁ w₁ rfl hI' (by rw [← hbk]; exact hst1.weak hwk _) (by rw [← hbk]; exact hex1.trans (Ext.take _))
        exact ⟨e₂, a₂, w₂, hq₂, .of_steps (Steps.trans harr (.one step_inLoop)) harr₂⟩
      | exit id => exact ⟨_, a₁, w₁, ⟨X1, t1, B1, hQ, hst1, hex1⟩, .pass (x := .inLoop c) rfl (fun _ _ => .inl (by simp)) harr⟩
      | goto l => exact ⟨_, a₁, w₁, ⟨X1, t1, B1, hQ, hst1, hex1⟩, .pass (x := .inLoop c) rfl (fun _ _ => .inl (by simp)) harr⟩
      | ret => exact ⟨_, a₁, w₁, ⟨X1, t1, B1, hQ, hst1, hex1⟩, .pass (x := .inLoop c) rfl (fun _ _ => .inl (by simp)) harr⟩
      | panic ch => exact ⟨_, a₁, w₁, ⟨X1, t1, B1, hQ, hst1, hex1⟩, .pass (x := .inLoop c) rfl (fun _ _ => .inl (by simp)) harr⟩
      | outgrown => exact ⟨_, a₁, w₁, ⟨X1, t1, B1, hQ, hst1, hex1⟩, .pass (x := .inLoop c) rfl (fun _ _ => .inl (by simp)) harr⟩
  obtain ⟨s, X', hI, hst, hex⟩ := start
  obtain ⟨e, a', w', hq, harr⟩ := key _ s X' a w rfl hI hst hex
  exact ⟨e, a', w', hq, .of_steps (.one step_loop) harr⟩

/-! ### Regions -/

def setT (n : Nat) (t : Slots) (d : Option Nat) (v : SV) : Slots := match d with
  | some d => if d < n then (d, v) :: t else t
  | none => t
theorem denT_put {X w a} {d : Option Nat} {s : SV} {v : Value} (h : DenT X w t n (Act.tmps a)) (hd : Den X w s v) : DenT X w (setT n t d s) n (a.put d v).tmps := by
  cases d with
  | none => exact h
  | some d =>
    obtain ⟨h1, h2⟩ := h
    simp only [setT, Act.put]
    by_cases hlt : d < n
    · rw [if_pos hlt]
      refine ⟨by simpa using h1, fun i => ?_⟩
      simp only [lkp]
      by_cases e : i = d
      · subst e
        simp only [if_true]
        simpa [Array.getD_eq_getD_getElem?, h1, hlt] using hd
      · simp only [e, if_false]
        have := h2 i
        have hne : d ≠ i := fun h => e h.symm
        simpa [Array.getD_eq_getD_getElem?, Array.getElem?_setIfInBounds_ne hne] using this
    · rw [if_neg hlt]
      refine ⟨by simpa using h1, fun i => ?_⟩
      have := h2 i
      have e : a.tmps.setIfInBounds d v = a.tmps := by
        apply Array.ext
        · simp
        · intro j hj1 hj2
          rw [Array.getElem_setIfInBounds_ne]
          omega
      rw [e]; exact this

inductive Res where
  | done (t : Slots) (B : List Own)
  | chk (c : Prop) (r : Res)
  | call (f : FuncId) (args : List SV) (d : Option Nat) (rest : List Oper) (t : Slots) (B : List Own)
  | callG (c : Bool) (f : FuncId) (args : List SV) (d : Option Nat) (rest : List Oper) (t : Slots) (B : List Own)
  | split (c : Bool) (o : Oper) (rest : List Oper) (t : Slots) (B : List Own)

def callOf (st : Bool) (t : Slots) (o : Op) : Option (FuncId × List SV) := match o with
  | .call c => match c.callee with
    | .value f => match evS st t f with
      | .fn g caps => some (g, evL st t c.args.toList ++ caps)
      | .bm g first => some (g, first ++ evL st t c.args.toList)
      | _ => none
    | _ => none
  | _ => none
def condsOk (t : Slots) : List Operand → Prop
  | [] => True
  | .tmp i :: r => (lkp t i).cond = true ∧ condsOk t r
  | _ :: r => condsOk t r
def opnds : Op → List Operand
  | .move x | .assign x => [x]
  | .load _ x | .nilCheck x | .unOp _ _ x | .convert _ _ x | .fieldAddr _ x _ | .field _ x _ | .extract x _ => [x]
  | .build _ ps => ps.toList.map (·.2)
  | .binOp _ _ a v _ | .indexAddr _ a v | .index _ a v => [a, v]
  | .makeFunc _ f c => f.toList ++ c.toList
  | .slice _ x l h m => [x] ++ l.toList ++ h.toList ++ m.toList
  | .lookup _ m k _ => [m, k]
  | .call c => match c.callee with
    | .value f => f :: c.args.toList
    | _ => c.args.toList
  | _ => []
def quiet : Op → Bool
  | .move _ | .assign _ | .pick .. | .load .. | .nilCheck _ | .unOp .. | .convert .. | .fieldAddr .. | .field .. | .extract .. | .build .. | .binOp .. | .indexAddr .. | .index .. | .makeFunc .. | .slice .. | .lookup .. => true
  | .call c => match c.callee with
    | .builtin .len | .builtin .cap | .builtin .max | .builtin .min => true
    | _ => false
  | _ => false
def guardOf (all : List Oper) (t : Slots) (j : Nat) (want : Bool) : Option Bool := match all[j]? with
  | some o => match o.dst with
    | some d => match lkp t d with
      | .bool b => some (b == want)
      | .opt c (.bool b) => some (c && (b == want))
      | _ => none
    | none => none
  | none => none

def run (E : Env) (n : Nat) (all : List Oper) (fr : Nat → RowH) : Nat → List Oper → Slots → List Own → Res
  | _, [], t, B => .done t B
  | k, o :: r, t, B => match o.guard with
    | none => match callOf false t o.op with
      | some (f, args) => .call f args o.dst r t B
      | none => match evOp E false (fr k) t B o.op with
        | ⟨v, B', c⟩ => .chk c (run E n all fr (k + 1) r (setT n t o.dst v) B')
    | some (j, want) => match guardOf all t j want with
      | some c => match callOf true t o.op with
        | some (f, args) => .chk (c = true → condsOk t (opnds o.op)) (.callG c f args o.dst r t B)
        | none => match quiet o.op with
          | true => match evOp E true (fr k) t B o.op with
            | ⟨v, B', vc⟩ => .chk (c = true → condsOk t (opnds o.op) ∧ vc ∧ B' = B) (run E n all fr (k + 1) r (setT n t o.dst (.opt c v)) B)
          | false => .split c o r t B
      | none => .chk False (.done t B)

def unguard (o : Oper) : Oper := { o with guard := none }
def holds (P : Program) (n : Nat) (all : List Oper) (K : Slots → List Own → Prop) : Res → Prop
  | .done t B => K t B
  | .chk c r => c ∧ holds P n all K r
  | .call f args d rest t B => EC P f args B fun r B' => EO P n all rest (setT n t d r) B' K
  | .callG c f args d rest t B => (c = true → EC P f args B fun r B' => EO P n all rest (setT n t d r) B' K) ∧ (c = false → EO P n all rest (setT n t d .any) B K)
  | .split c o rest t B => (c = true → EO P n all (unguard o :: rest) t B K) ∧ (c = false → EO P n all rest (setT n t o.dst .any) B K)
end
end Go.Lift
