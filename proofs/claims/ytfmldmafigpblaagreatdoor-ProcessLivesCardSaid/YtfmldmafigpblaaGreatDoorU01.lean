/- Part 1: LiftM, LiftN, LiftO, LiftP, LiftS, LiftT, LiftU, LiftV, LiftX. -/
import Derived.OrdersHeld
import Derived.Test.YtfmldmafigpblaaGreatDoorU00
section
namespace Go.Lift

abbrev Slots := List (Nat × SV)
abbrev Post := Exit → Slots → List Own → Prop

structure St (X : Nat → Prop) (w : World) (B : List Own) (t : Slots) (n : Nat) (a : Act) : Prop where
  defers : a.defers = []
  sat : Sat X w B
  den : DenT X w t n a.tmps

def Good (n : Nat) (Q : Post) (X0 : Nat → Prop) (w0 : World) (B0 : List Own) : Exit → Act → World → Prop :=
  fun e a w => ∃ X t B, Q e t B ∧ St X w B t n a ∧ Ext X0 w0 B0 X w B

def EV (P : Program) (n : Nat) (c : Code) (t : Slots) (B : List Own) (Q : Post) : Prop :=
  ∀ X0 w0 B0 X w a, Ext X0 w0 B0 X w B → St X w B t n a → c.wp P (Good n Q X0 w0 B0) a w
def EO (P : Program) (n : Nat) (all l : List Oper) (t : Slots) (B : List Own) (K : Slots → List Own → Prop) : Prop :=
  ∀ (Q : Post), (∀ t B, K t B → Q .normal t B) → ∀ X0 w0 B0 X w a, Ext X0 w0 B0 X w B → St X w B t n a → wpList P all.toArray (Good n Q X0 w0 B0) l a w
def DenL (X : Nat → Prop) (w : World) (args : List SV) (vs : Array Value) : Prop := vs.size = args.length ∧ ∀ (i : Nat) (c : SV), args[i]? = some c → Den X w c (vs.getD i undef)
def callable (P : Program) (f : FuncId) : Bool := match P.funcs[f]? with
  | some fn => !(fn.name == "runtime.NumGoroutine") && fn.body.isSome
  | none => false
def EC (P : Program) (f : FuncId) (args : List SV) (B : List Own) (Q : SV → List Own → Prop) : Prop :=
  callable P f = true ∧ ∀ X w vs, Sat X w B → DenL X w args vs → Calls P f vs w (fun e w' => ∃ v r X' B', e = .returned v ∧ Q r B' ∧ Sat X' w' B' ∧ Den X' w' r v ∧ Ext X w B X' w' B')

theorem EC.mono {P f args B Q Q'} (h : EC P f args B Q) (hq : ∀ r B', Q r B' → Q' r B') : EC P f args B Q' :=
  ⟨h.1, fun X w vs hs hd => (h.2 X w vs hs hd).mono fun _ _ ⟨v, r, X', B', he, hr, r1⟩ => ⟨v, r, X', B', he, hq r B' hr, r1⟩⟩
theorem Good.mono {n Q Q' X0 w0 B0 e a w} (h : Good n Q X0 w0 B0 e a w) (hq : ∀ t B, Q e t B → Q' e t B) : Good n Q' X0 w0 B0 e a w :=
  let ⟨X, t, B, h1, h2⟩ := h; ⟨X, t, B, hq t B h1, h2⟩
theorem EV.mono {P n c t B} {Q Q' : Post} (h : EV P n c t B Q) (hq : ∀ e t B, Q e t B → Q' e t B) : EV P n c t B Q' :=
  fun X0 w0 B0 X w a he hs => wp_mono (h X0 w0 B0 X w a he hs) fun e _ _ hg => hg.mono (hq e)

section
variable {P : Program} {n : Nat} {t : Slots} {B : List Own} {Q : Post}

theorem EV_skip (h : Q .normal t B) : EV P n .skip t B Q := fun _ _ _ X _ _ he hs => wp_skip ⟨X, t, B, h, hs, he⟩
theorem EV_ret (h : Q .ret t B) : EV P n .ret t B Q := fun _ _ _ X _ _ he hs => wp_ret ⟨X, t, B, h, hs, he⟩
theorem EV_exit {id : Nat} (h : Q (.exit id) t B) : EV P n (.exit id) t B Q := fun _ _ _ X _ _ he hs => wp_exit ⟨X, t, B, h, hs, he⟩
theorem EV_label {l : Nat} (h : Q .normal t B) : EV P n (.label l) t B Q := fun _ _ _ X _ _ he hs => wp_label ⟨X, t, B, h, hs, he⟩
def thenP (K : Slots → List Own → Prop) (Q : Post) : Post
  | .normal, t, B => K t B
  | e, t, B => Q e t B
theorem EV_seq {x y : Code} (h : ∀ K : Slots → List Own → Prop, (∀ t B, EV P n y t B Q → K t B) → EV P n x t B (thenP K Q)) : EV P n (.seq x y) t B Q := by
  intro X0 w0 B0 X w a he hs
  refine wp_seq (wp_mono (h _ (fun _ _ h => h) X0 w0 B0 X w a he hs) fun e a' w' hg => ?_)
  obtain ⟨X', t', B', h1, h2, h3⟩ := hg
  cases e with
  | normal => exact h1 X0 w0 B0 X' w' a' h3 h2
  | _ => exact ⟨X', t', B', h1, h2, h3⟩
def blockP (id : Nat) (Q : Post) : Post
  | .exit id', t, B => if id' = id then Q .normal t B else Q (.exit id') t B
  | e, t, B => Q e t B
theorem EV_block {id : Nat} {c : Code} (h : EV P n c t B (blockP id Q)) : EV P n (.block id c) t B Q := by
  intro X0 w0 B0 X w a he hs
  refine wp_block (wp_mono (h X0 w0 B0 X w a he hs) fun e a' w' hg => ?_)
  obtain ⟨X', t', B', h1, h2, h3⟩ := hg
  cases e with
  | exit id' =>
    simp only [blockP] at h1
    simp only [Exit.inBlock]
    by_cases hid : id' = id
    · simp only [hid, if_true] at h1 ⊢; exact ⟨X', t', B', h1, h2, h3⟩
    · simp only [hid, if_false] at h1 ⊢; exact ⟨X', t', B', h1, h2, h3⟩
  | _ => exact ⟨X', t', B', h1, h2, h3⟩
theorem EV_cond {c : Operand} {x y : Code} {p : Bool} (hc : ev t c = .bool p) (h1 : p = true → EV P n x t B Q) (h2 : p = false → EV P n y t B Q) : EV P n (.cond c x y) t B Q := by
  intro X0 w0 B0 X w a he hs
  have hd := den_ev hs.sat.xg hs.den c
  rw [hc] at hd
  have ha : a.eval c = .bool p := by
    generalize a.eval c = v at hd
    cases hd; rfl
  exact wp_cond_split ha (fun hp => h1 hp X0 w0 B0 X w a he hs) (fun hp => h2 hp X0 w0 B0 X w a he hs)

def wkS (t : Slots) : Slots → Prop
  | [] => True
  | (i, v) :: r => lkp t i = v ∧ wkS t r
theorem wkS_spec {t t' : Slots} (h : wkS t t') (i : Nat) : lkp t' i = .any ∨ lkp t i = lkp t' i := by
  induction t' with
  | nil => exact .inl rfl
  | cons p r ih =>
    obtain ⟨j, v⟩ := p
    simp only [wkS] at h
    simp only [lkp]
    by_cases e : i = j
    · subst e; simp only [if_true]; exact .inr h.1
    · simp only [e, if_false]; exact ih h.2
theorem getD'_take {m i : Nat} : getD' (B.take m) i = if i < m then getD' B i else .gone := by
  unfold getD'
  simp only [List.getD_eq_getElem?_getD, List.getElem?_take]
  split <;> simp
theorem Sat.take {X w} (hs : Sat X w B) (m : Nat) : Sat X w (B.take m) := by
  have hb : ∀ i b, b ∈ (getD' (B.take m) i).blocks → b ∈ (getD' B i).blocks := fun i b h => by
    rw [getD'_take] at h
    split at h
    · exact h
    · simp [Own.blocks] at h
  refine ⟨fun i j b hi hj => hs.inj i j b (hb i b hi) (hb j b hj), fun i b hi => hs.lt i b (hb i b hi), hs.xg, fun b hx ⟨i, hi⟩ => hs.apart b hx ⟨i, hb i b hi⟩, fun i => ?_⟩
  rw [getD'_take]
  split
  · exact hs.ok i
  · trivial
theorem Ext.take {X w} (m : Nat) : Ext X w B X w (B.take m) := by
  refine ⟨rfl, rfl, rfl, Nat.le_refl _, fun _ _ _ => rfl, fun _ h => h, fun _ h => .inl h, fun b ⟨i, hi⟩ => .inl ⟨i, ?_⟩⟩
  rw [getD'_take] at hi
  split at hi
  · exact hi
  · simp [Own.blocks] at hi
theorem St.weak {X w a} {t' : Slots} (hs : St X w B t n a) (h : wkS t t') (m : Nat) : St X w (B.take m) t' n a :=
  ⟨hs.defers, hs.sat.take m, hs.den.1, fun i => by
    rcases wkS_spec h i with h1 | h1
    · rw [h1]; exact .any _
    · rw [← h1]; exact hs.den.2 i⟩
theorem EV_weak {c : Code} {t' : Slots} (m : Nat) (h : wkS t t') (hv : EV P n c t' (B.take m) Q) : EV P n c t B Q :=
  fun X0 w0 B0 X w a he hs => hv X0 w0 B0 X w a (he.trans (Ext.take m)) (hs.weak h m)

theorem EV_loop {σ : Type} (S : σ → Slots) (R : σ → List Own) (Inv : σ → Prop) (μ : σ → Nat) (s0 : σ) {c : Code} (h0 : Inv s0) (hw : wkS t (S s0)) (hb : B.take (R s0).length = R s0)
    (round : ∀ s, Inv s → EV P n c (S s) (R s) (thenP (fun t' B' => ∃ s', Inv s' ∧ μ s' < μ s ∧ wkS t' (S s') ∧ B'.take (R s').length = R s') Q)) : EV P n (.loop c) t B Q := by
  intro X0 w0 B0 X w a he hs
  have start : ∃ s X, Inv s ∧ St X w (R s) (S s) n a ∧ Ext X0 w0 B0 X w (R s) := by
    refine ⟨s0, X, h0, ?_, ?_⟩
    · rw [← hb]; exact hs.weak hw _
    · rw [← hb]; exact he.trans (Ext.take _)
  intro b k cs
  have key : ∀ m (s : σ) X a w, μ s = m → Inv s → St X w (R s) (S s) n a → Ext X0 w0 B0 X w (R s) →
      ∃ e a' w', Good n Q X0 w0 B0 e a' w' ∧ Arrives P (lone (b.at a (.code c :: .inLoop c :: k)) cs w) b k cs e a' w' := by
    intro m
    induction m using Nat.strongRecOn with
    | _ m ih =>
      intro s X a w hm hI hst hex
      obtain ⟨e, a₁, w₁, hq, harr⟩ := round s hI X0 w0 B0 X w a hex hst b (.inLoop c :: k) cs
      obtain ⟨X1, t1, B1, hQ, hst1, hex1⟩ := hq
      cases e with
      | normal =>
        obtain ⟨s', hI', hlt, hwk, hbk⟩ := hQ
        obtain ⟨e₂, a₂, w₂, hq₂, harr₂⟩ := ih (μ s') (hm ▸ hlt) s' X1 a₁ w₁ rfl hI' (by rw [← hbk]; exact hst1.weak hwk _) (by rw [← hbk]; exact hex1.trans (Ext.take _))
        exact ⟨e₂, a₂, w₂, hq₂, .of_steps (Steps.trans harr (.one step_inLoop)) harr₂⟩
      | exit id => exact ⟨_, a₁, w₁, ⟨X1, t1, B1, hQ, hst1, hex1⟩, .pass (x := .inLoop c) rfl (fun _ _ => .inl (by simp)) harr⟩
      | goto l => exact ⟨_, a₁, w₁, ⟨X1, t1, B1, hQ, hst1, hex1⟩, .pass (x := .inLoop c) rfl (fun _ _ => .inl (by simp)) harr⟩
      | ret => exact ⟨_, a₁, w₁, ⟨X1, t1, B1, hQ, hst1, hex1⟩, .pass (x := .inLoop c) rfl (fun _ _ => .inl (by simp)) harr⟩
      | panic ch => exact ⟨_, a₁, w₁, ⟨X1, t1, B1, hQ, hst1, hex1⟩, .pass (x := .inLoop c) rfl (fun _ _ => .inl (by simp)) harr⟩
      | outgrown => exact ⟨_, a₁, w₁, ⟨X1, t1, B1, hQ, hst1, hex1⟩, .pass (x := .inLoop c) rfl (fun _ _ => .inl (by simp)) harr⟩
  obtain ⟨s, X', hI, hst, hex⟩ := start
  obtain ⟨e, a', w', hq, harr⟩ := key _ s X' a w rfl hI hst hex
  exact ⟨e, a', w', hq, .of_steps (.one step_loop) harr⟩


def setT (n : Nat) (t : Slots) (d : Option Nat) (v : SV) : Slots := match d with
  | some d => if d < n then (d, v) :: t else t
  | none => t
theorem denT_put {X w a} {d : Option Nat} {s : SV} {v : Value} (h : DenT X w t n (Act.tmps a)) (hd : Den X w s v) : DenT X w (setT n t d s) n (a.put d v).tmps := by
  cases d with
  | none => exact h
  | some d =>
    obtain ⟨h1, h2⟩ := h
    simp only [setT, Act.put]
    by_cases hlt : d < n
    · rw [if_pos hlt]
      refine ⟨by simpa using h1, fun i => ?_⟩
      simp only [lkp]
      by_cases e : i = d
      · subst e
        simp only [if_true]
        simpa [Array.getD_eq_getD_getElem?, h1, hlt] using hd
      · simp only [e, if_false]
        have := h2 i
        have hne : d ≠ i := fun h => e h.symm
        simpa [Array.getD_eq_getD_getElem?, Array.getElem?_setIfInBounds_ne hne] using this
    · rw [if_neg hlt]
      refine ⟨by simpa using h1, fun i => ?_⟩
      have := h2 i
      have e : a.tmps.setIfInBounds d v = a.tmps := by
        apply Array.ext
        · simp
        · intro j hj1 hj2
          rw [Array.getElem_setIfInBounds_ne]
          omega
      rw [e]; exact this

inductive Res where
  | done (t : Slots) (B : List Own)
  | chk (c : Prop) (r : Res)
  | call (f : FuncId) (args : List SV) (d : Option Nat) (rest : List Oper) (t : Slots) (B : List Own)
  | callG (c : Bool) (f : FuncId) (args : List SV) (d : Option Nat) (rest : List Oper) (t : Slots) (B : List Own)
  | split (c : Bool) (o : Oper) (rest : List Oper) (t : Slots) (B : List Own)

def callOf (st : Bool) (t : Slots) (o : Op) : Option (FuncId × List SV) := match o with
  | .call c => match c.callee with
    | .value f => match evS st t f with
      | .fn g caps => some (g, evL st t c.args.toList ++ caps)
      | .bm g first => some (g, first ++ evL st t c.args.toList)
      | _ => none
    | _ => none
  | _ => none
def condsOk (t : Slots) : List Operand → Prop
  | [] => True
  | .tmp i :: r => (lkp t i).cond = true ∧ condsOk t r
  | _ :: r => condsOk t r
def opnds : Op → List Operand
  | .move x | .assign x => [x]
  | .load _ x | .nilCheck x | .unOp _ _ x | .convert _ _ x | .fieldAddr _ x _ | .field _ x _ | .extract x _ => [x]
  | .build _ ps => ps.toList.map (·.2)
  | .binOp _ _ a v _ | .indexAddr _ a v | .index _ a v => [a, v]
  | .makeFunc _ f c => f.toList ++ c.toList
  | .slice _ x l h m => [x] ++ l.toList ++ h.toList ++ m.toList
  | .lookup _ m k _ => [m, k]
  | .call c => match c.callee with
    | .value f => f :: c.args.toList
    | _ => c.args.toList
  | _ => []
def quiet : Op → Bool
  | .move _ | .assign _ | .pick .. | .load .. | .nilCheck _ | .unOp .. | .convert .. | .fieldAddr .. | .field .. | .extract .. | .build .. | .binOp .. | .indexAddr .. | .index .. | .makeFunc .. | .slice .. | .lookup .. => true
  | .call c => match c.callee with
    | .builtin .len | .builtin .cap | .builtin .max | .builtin .min => true
    | _ => false
  | _ => false
def guardOf (all : List Oper) (t : Slots) (j : Nat) (want : Bool) : Option Bool := match all[j]? with
  | some o => match o.dst with
    | some d => match lkp t d with
      | .bool b => some (b == want)
      | .opt c (.bool b) => some (c && (b == want))
      | _ => none
    | none => none
  | none => none

def run (E : Env) (n : Nat) (all : List Oper) (fr : Nat → RowH) : Nat → List Oper → Slots → List Own → Res
  | _, [], t, B => .done t B
  | k, o :: r, t, B => match o.guard with
    | none => match callOf false t o.op with
      | some (f, args) => .call f args o.dst r t B
      | none => match evOp E false (fr k) t B o.op with
        | ⟨v, B', c⟩ => .chk c (run E n all fr (k + 1) r (setT n t o.dst v) B')
    | some (j, want) => match guardOf all t j want with
      | some c => match callOf true t o.op with
        | some (f, args) => .chk (c = true → condsOk t (opnds o.op)) (.callG c f args o.dst r t B)
        | none => match quiet o.op with
          | true => match evOp E true (fr k) t B o.op with
            | ⟨v, B', vc⟩ => .chk (c = true → condsOk t (opnds o.op) ∧ vc ∧ B' = B) (run E n all fr (k + 1) r (setT n t o.dst (.opt c v)) B)
          | false => .split c o r t B
      | none => .chk False (.done t B)

def unguard (o : Oper) : Oper := { o with guard := none }
def holds (P : Program) (n : Nat) (all : List Oper) (K : Slots → List Own → Prop) : Res → Prop
  | .done t B => K t B
  | .chk c r => c ∧ holds P n all K r
  | .call f args d rest t B => EC P f args B fun r B' => EO P n all rest (setT n t d r) B' K
  | .callG c f args d rest t B => (c = true → EC P f args B fun r B' => EO P n all rest (setT n t d r) B' K) ∧ (c = false → EO P n all rest (setT n t d .any) B K)
  | .split c o rest t B => (c = true → EO P n all (unguard o :: rest) t B K) ∧ (c = false → EO P n all rest (setT n t o.dst .any) B K)
end
end Go.Lift
end
section
namespace Go.Lift
section
variable {P : Program} {E : Env} {n : Nat} {all : List Oper}

theorem run_congr {fr fr' : Nat → RowH} : ∀ (l : List Oper) (k : Nat) (t : Slots) (B : List Own), (∀ i, k ≤ i → fr i = fr' i) → run E n all fr k l t B = run E n all fr' k l t B
  | [], _, _, _, _ => rfl
  | o :: r, k, t, B, h => by
    have hk := h k (Nat.le_refl _)
    have ih := fun t B => run_congr r (k + 1) t B fun i hi => h i (by omega)
    simp only [run]
    rw [hk]
    split
    · split
      · rfl
      · simp only [ih]
    · split
      · split
        · rfl
        · split
          · simp only [ih]
          · rfl
      · rfl

theorem guardOf_spec {X : Nat → Prop} {w : World} {t : Slots} {tmps : Array Value} {j : Nat} {want c : Bool} (h : guardOf all t j want = some c) (hd : DenT X w t n tmps) (o : Oper) (hg : o.guard = some (j, want)) :
    Region.wanted o (yielded all.toArray tmps) = c := by
  simp only [Region.wanted, hg]
  unfold guardOf at h
  cases ho : all[j]? with
  | none => simp [ho] at h
  | some oj =>
    simp only [ho] at h
    cases hdst : oj.dst with
    | none => simp [hdst] at h
    | some d =>
      simp only [hdst] at h
      have hy : yielded all.toArray tmps j = match tmps[d]? with | some (.bool b) => some b | _ => none := by
        simp only [yielded, List.getElem?_toArray, ho, Option.bind_some, hdst]
        rfl
      have hden := hd.2 d
      rw [hy]
      have hget : tmps.getD d undef = (tmps[d]?).getD undef := by simp
      split at h
      · rename_i b hl
        simp only [Option.some.injEq] at h
        subst h
        rw [hl] at hden
        cases hv : tmps[d]? with
        | none => rw [hget, hv] at hden; simp [undef] at hden; cases hden
        | some v => rw [hget, hv] at hden; simp at hden; cases hden; cases b <;> cases want <;> rfl
      · rename_i c b hl
        simp only [Option.some.injEq] at h
        subst h
        rw [hl] at hden
        cases hden with
        | opt h1 h2 =>
          cases c
          · have := h2 rfl
            cases hv : tmps[d]? with
            | none => simp
            | some v => rw [hget, hv] at this; simp at this; subst this; simp [undef]
          · have := h1 rfl
            cases hv : tmps[d]? with
            | none => rw [hget, hv] at this; simp [undef] at this; cases this
            | some v => rw [hget, hv] at this; simp at this; cases this; cases b <;> cases want <;> rfl
      · cases h

theorem den_evS_false {X : Nat → Prop} {w : World} {t : Slots} {a : Act} (hx : XG X w) (hd : DenT X w t n a.tmps) (x : Operand) : Den X w (evS false t x) (a.eval x) := den_ev hx hd x
theorem den_strip {X : Nat → Prop} {w : World} {s : SV} {v : Value} (h : Den X w s v) (hc : s.cond = true) : Den X w s.strip v := by
  by_cases ho : ∃ c s', s = .opt c s'
  · obtain ⟨c, s', rfl⟩ := ho
    cases h with
    | opt h1 _ => exact h1 hc
  · have : s.strip = s := by cases s <;> first | rfl | exact absurd ⟨_, _, rfl⟩ ho
    rw [this]; exact h
theorem condsOk_mem {t : Slots} : ∀ {l : List Operand}, condsOk t l → ∀ i, Operand.tmp i ∈ l → (lkp t i).cond = true
  | [], _, i, h => by simp at h
  | .tmp j :: l, h, i, hm => by
    simp only [condsOk] at h
    rcases List.mem_cons.1 hm with e | e
    · cases e; exact h.1
    · exact condsOk_mem h.2 i e
  | .const _ :: l, h, i, hm => by
    rcases List.mem_cons.1 hm with e | e
    · cases e
    · exact condsOk_mem (l := l) h i e
  | .global _ :: l, h, i, hm => by
    rcases List.mem_cons.1 hm with e | e
    · cases e
    · exact condsOk_mem (l := l) h i e
  | .func _ :: l, h, i, hm => by
    rcases List.mem_cons.1 hm with e | e
    · cases e
    · exact condsOk_mem (l := l) h i e
theorem ofCell_cond (v : Value) : (SV.ofCell v).cond = true := by unfold SV.ofCell; split <;> rfl
theorem den_evS_true {X : Nat → Prop} {w : World} {t : Slots} {a : Act} (hg : XG X w) (hd : DenT X w t n a.tmps) {l : List Operand} (hc : condsOk t l) (x : Operand) (hx : x ∈ l) : Den X w (evS true t x) (a.eval x) := by
  refine den_strip (den_ev hg hd x) ?_
  cases x with
  | tmp i => exact condsOk_mem hc i hx
  | const v =>
    simp only [ev, SV.ofVal]
    split
    · rfl
    · exact ofCell_cond _
  | func f => rfl
  | global g => show (match GV g with | [] => SV.any | cs => .xp cs).cond = true; cases GV g <;> rfl

theorem call_run {X : Nat → Prop} {w : World} {st : Bool} {t : Slots} {a : Act} {o : Oper} {f : FuncId} {args : List SV} (h : callOf st t o.op = some (f, args)) (hd : ∀ x ∈ opnds o.op, Den X w (evS st t x) (a.eval x))
    (hc : callable P f = true) : ∃ vals, (execOp a.eval o).run P w = .ok (.enter f vals) w ∧ DenL X w args vals := by
  obtain ⟨dst, op, type, pos, after, guard⟩ := o
  simp only at h hd
  unfold callOf at h
  cases op <;> simp only at h <;> try (cases h; done)
  case call c =>
    obtain ⟨callee, as, tys⟩ := c
    cases callee <;> simp only at h <;> try (cases h; done)
    case value fo =>
      have hlist : ∀ (l : List Operand), (∀ x ∈ l, Den X w (evS st t x) (a.eval x)) → ∀ (i : Nat) (c : SV), (evL st t l)[i]? = some c → Den X w c ((l.map a.eval).getD i undef) := by
        intro l
        induction l with
        | nil => intro _ i c h; simp [evL] at h
        | cons x l ih =>
          intro hl i c h
          cases i with
          | zero => simp [evL] at h; subst h; simpa using hl x (List.mem_cons_self ..)
          | succ i => simpa using ih (fun y hy => hl y (List.mem_cons_of_mem _ hy)) i c (by simpa [evL] using h)
      have hlen : ∀ (l : List Operand), (evL st t l).length = l.length := by intro l; induction l with | nil => rfl | cons x l ih => simp [evL, ih]
      have hfo := hd fo (by simp [opnds])
      have has := hlist as.toList fun x hx => hd x (by simp [opnds]; exact .inr (by simpa using hx))
      split at h
      · rename_i g caps hg
        simp only [Option.some.injEq, Prod.mk.injEq] at h
        obtain ⟨rfl, rfl⟩ := h
        rw [hg] at hfo
        generalize hv : a.eval fo = v at hfo
        cases hfo with
        | fn hsz hcaps =>
          rename_i vs
          refine ⟨as.map a.eval ++ vs, ?_, ?_, ?_⟩
          · simp only [execOp, resolve, Sem.run_bind, hv, Deferred.ofValue, Sem.run_pure, Result.andThen_ok, invoke, callFunc, run_program]
            unfold callable at hc
            cases hf : P.funcs[g]? with
            | none => simp [hf] at hc
            | some fn =>
              simp only [hf, Bool.and_eq_true, Bool.not_eq_true', beq_eq_false_iff_ne, ne_eq] at hc
              obtain ⟨h1, h2⟩ := hc
              have h2' : fn.body.isNone = false := by cases hb : fn.body <;> simp [hb] at h2 ⊢
              simp [h1, h2']
          · simp [hlen, hsz]
          · intro i c hic
            rw [List.getElem?_append] at hic
            split at hic
            · rename_i hi
              have := has i c hic
              rw [hlen] at hi
              simp only [Array.getD_eq_getD_getElem?, List.getD_eq_getElem?_getD, List.getElem?_map] at this ⊢
              rw [Array.getElem?_append_left (by simpa using hi)]
              simpa using this
            · rename_i hi
              have := hcaps _ c hic
              rw [hlen] at hi this
              simp only [Array.getD_eq_getD_getElem?] at this ⊢
              rw [Array.getElem?_append_right (by simpa using hi)]
              simpa using this
      · rename_i g caps hg
        simp only [Option.some.injEq, Prod.mk.injEq] at h
        obtain ⟨rfl, rfl⟩ := h
        rw [hg] at hfo
        generalize hv : a.eval fo = v at hfo
        cases hfo with
        | bm hsz hcaps =>
          rename_i vs
          refine ⟨vs ++ as.map a.eval, ?_, ?_, ?_⟩
          · simp only [execOp, resolve, Sem.run_bind, hv, Deferred.ofValue, Sem.run_pure, Result.andThen_ok, invoke, callFunc, run_program]
            unfold callable at hc
            cases hf : P.funcs[g]? with
            | none => simp [hf] at hc
            | some fn =>
              simp only [hf, Bool.and_eq_true, Bool.not_eq_true', beq_eq_false_iff_ne, ne_eq] at hc
              obtain ⟨h1, h2⟩ := hc
              have h2' : fn.body.isNone = false := by cases hb : fn.body <;> simp [hb] at h2 ⊢
              simp [h1, h2']
          · simp [hlen, hsz]
          · intro i c hic
            rw [List.getElem?_append] at hic
            split at hic
            · rename_i hi
              have := hcaps i c hic
              rw [← hsz] at hi
              simp only [Array.getD_eq_getD_getElem?] at this ⊢
              rw [Array.getElem?_append_left (by simpa using hi)]
              simpa using this
            · rename_i hi
              have := has _ c hic
              rw [← hsz] at hi this
              simp only [Array.getD_eq_getD_getElem?, List.getD_eq_getElem?_getD, List.getElem?_map] at this ⊢
              rw [Array.getElem?_append_right (by simpa using hi)]
              simpa using this
      · cases h

theorem quiet_opnds {op : Op} (h : quiet op = true) : ∀ x ∈ op.operands.toList, (∃ c a b, op = .pick c a b) ∨ x ∈ opnds op := by
  cases op <;> simp only [quiet, Bool.false_eq_true] at h
  case pick c a b => exact fun x _ => .inl ⟨c, a, b, rfl⟩
  case call c =>
    intro x hx
    refine .inr ?_
    obtain ⟨callee, as, tys⟩ := c
    cases callee <;> simp only [Bool.false_eq_true] at h
    case builtin b =>
      simpa [Op.operands, Call.operands, opnds] using hx
  case slice => intro x hx; exact .inr (by simpa [Op.operands, opnds] using hx)
  case makeFunc => intro x hx; exact .inr (by simpa [Op.operands, opnds] using hx)
  case build => intro x hx; exact .inr (by simpa [Op.operands, opnds] using hx)
  all_goals (intro x hx; exact .inr (by simpa [Op.operands, opnds] using hx))

theorem evOp_sound' {X : Nat → Prop} {w : World} {B : List Own} (hE : EnvOK P E) {st : Bool} {t : Slots} {a : Act} {o : Oper} (hs : Sat X w B) (hd : DenT X w t n a.tmps) (hst : st = true → quiet o.op = true ∧ condsOk t (opnds o.op)) :
    ∃ h, (evOp E st h t B o.op).vc → Done P X w B (execOp a.eval o) (evOp E st h t B o.op) := by
  by_cases hp : ∃ c x y, o.op = .pick c x y
  · obtain ⟨c, x, y, hp⟩ := hp
    refine ⟨.void none, fun hc => ?_⟩
    rw [hp] at hc ⊢
    obtain ⟨r, h1, h2, h3⟩ := pick_sound (P := P) (den_ev hs.xg hd c) (den_ev hs.xg hd x) (den_ev hs.xg hd y) hc
    exact done_same hs (by simpa [execOp, hp] using h1) h2 h3
  · refine evOp_sound hE hs (fun x => den_ev hs.xg hd x) (fun _ => rfl) fun x hx => ?_
    cases st with
    | false => exact den_evS_false hs.xg hd x
    | true =>
      obtain ⟨h1, h2⟩ := hst rfl
      rcases quiet_opnds h1 x hx with ⟨c, a', b, e⟩ | h3
      · exact absurd ⟨c, a', b, e⟩ hp
      · exact den_evS_true hs.xg hd h2 x h3

theorem EO_nil {t : Slots} {B : List Own} {K : Slots → List Own → Prop} (h : K t B) : EO P n all [] t B K :=
  fun _ hQ _ _ _ X _ _ he hs => wpList_nil ⟨X, t, B, hQ t B h, hs, he⟩

theorem EO_op {o : Oper} {r : List Oper} {t : Slots} {B : List Own} {K : Slots → List Own → Prop} (hw : ∀ X w a, St X w B t n a → Region.wanted o (yielded all.toArray a.tmps) = true)
    (h : ∀ X w a, St X w B t n a → ∃ out : Out, Done P X w B (execOp a.eval o) out ∧ EO P n all r (setT n t o.dst out.v) out.B K) : EO P n all (o :: r) t B K := by
  intro Q hQ X0 w0 B0 X w a he hs
  unfold wpList
  rw [if_pos (hw X w a hs)]
  left
  obtain ⟨out, ⟨v, w', hrun, hsat, hden, hext⟩, hr⟩ := h X w a hs
  have hst : St X w' out.B (setT n t o.dst out.v) n (a.put o.dst v) := by
    refine ⟨?_, hsat, ?_⟩
    · have := hs.defers; cases o.dst <;> simpa [Act.put] using this
    · exact denT_put ⟨hs.den.1, fun i => (hs.den.2 i).ext hs.sat hext⟩ hden
  have := hr Q hQ X0 w0 B0 X w' _ (he.trans hext) hst
  unfold Oper.wp
  rcases hrun with hrun | ⟨hrun, rfl⟩
  · rw [hrun]; exact this
  · rw [hrun]; exact this

theorem EO_call {o : Oper} {r : List Oper} {t : Slots} {B : List Own} {K : Slots → List Own → Prop} {f : FuncId} {args : List SV} (hw : ∀ X w a, St X w B t n a → Region.wanted o (yielded all.toArray a.tmps) = true)
    (hrun : ∀ X w a, St X w B t n a → ∃ vals, (execOp a.eval o).run P w = .ok (.enter f vals) w ∧ DenL X w args vals)
    (h : EC P f args B fun s B' => EO P n all r (setT n t o.dst s) B' K) : EO P n all (o :: r) t B K := by
  intro Q hQ X0 w0 B0 X w a he hs
  unfold wpList
  rw [if_pos (hw X w a hs)]
  left
  obtain ⟨vals, h1, h2⟩ := hrun X w a hs
  unfold Oper.wp
  rw [h1]
  simp only [Oper.upon]
  refine (h.2 X w vals hs.sat h2).mono ?_
  rintro e w' ⟨v, s, X', B', rfl, hK, hsat, hden, hext⟩
  simp only
  have hst : St X' w' B' (setT n t o.dst s) n (a.put o.dst v) := by
    refine ⟨?_, hsat, ?_⟩
    · have := hs.defers; cases o.dst <;> simpa [Act.put] using this
    · exact denT_put ⟨hs.den.1, fun i => (hs.den.2 i).ext hs.sat hext⟩ hden
  exact hK Q hQ X0 w0 B0 X' w' _ (he.trans hext) hst

theorem EO_skip {o : Oper} {r : List Oper} {t : Slots} {B : List Own} {K : Slots → List Own → Prop} {s : SV} (hw : ∀ X w a, St X w B t n a → Region.wanted o (yielded all.toArray a.tmps) = false)
    (hu : ∀ X w, Den X w s undef) (h : EO P n all r (setT n t o.dst s) B K) : EO P n all (o :: r) t B K := by
  intro Q hQ X0 w0 B0 X w a he hs
  unfold wpList
  rw [if_neg (by rw [hw X w a hs]; simp)]
  refine h Q hQ X0 w0 B0 X w _ he ⟨?_, hs.sat, denT_put hs.den (hu X w)⟩
  have := hs.defers; cases o.dst <;> simpa [Act.put] using this

theorem EO_run (hE : EnvOK P E) {K : Slots → List Own → Prop} : ∀ (l : List Oper) (k : Nat) (t : Slots) (B : List Own), (∀ fr, holds P n all K (run E n all fr k l t B)) → EO P n all l t B K
  | [], k, t, B, h => EO_nil (h fun _ => .void none)
  | o :: r, k, t, B, h => by
    simp only [run] at h
    cases hg : o.guard with
    | none =>
      have hw : ∀ X w a, St X w B t n a → Region.wanted o (yielded all.toArray a.tmps) = true := fun X w a _ => by simp [Region.wanted, hg]
      simp only [hg] at h
      cases hcall : callOf false t o.op with
      | some fa =>
        obtain ⟨f, args⟩ := fa
        simp only [hcall, holds] at h
        have hec := h fun _ => .void none
        exact EO_call hw (fun X w a hs => call_run hcall (fun x _ => den_evS_false hs.sat.xg hs.den x) hec.1) hec
      | none =>
        simp only [hcall] at h
        refine EO_op hw fun X w a hs => ?_
        obtain ⟨h0, hh⟩ := evOp_sound' hE hs.sat hs.den (o := o) (st := false) (by simp)
        have hk : ∀ fr : Nat → RowH, fr k = h0 → (evOp E false h0 t B o.op).vc ∧ holds P n all K (run E n all fr (k + 1) r (setT n t o.dst (evOp E false h0 t B o.op).v) (evOp E false h0 t B o.op).B) := by
          intro fr hfr
          have := h fr
          rw [hfr] at this
          exact this
        refine ⟨_, hh (hk (fun _ => h0) rfl).1, EO_run hE r (k + 1) _ _ fun fr => ?_⟩
        have := (hk (fun i => if i = k then h0 else fr i) (by simp)).2
        rwa [run_congr (fr' := fr) r (k + 1) _ _ fun i hi => if_neg (by omega)] at this
    | some jw =>
      obtain ⟨j, want⟩ := jw
      simp only [hg] at h
      cases hgd : guardOf all t j want with
      | none => simp only [hgd, holds] at h; exact (h fun _ => .void none).1.elim
      | some c =>
        simp only [hgd] at h
        have hwc : ∀ X w a, St X w B t n a → Region.wanted o (yielded all.toArray a.tmps) = c := fun X w a hs => guardOf_spec hgd hs.den o hg
        cases hcall : callOf true t o.op with
        | some fa =>
          obtain ⟨f, args⟩ := fa
          simp only [hcall, holds] at h
          obtain ⟨h1, h2, h3⟩ := h fun _ => .void none
          cases c with
          | true =>
            have hec := h2 rfl
            exact EO_call hwc (fun X w a hs => call_run hcall (fun x hx => den_evS_true hs.sat.xg hs.den (h1 rfl) x hx) hec.1) hec
          | false => exact EO_skip hwc (fun _ _ => .any _) (h3 rfl)
        | none =>
          simp only [hcall] at h
          cases hq : quiet o.op with
          | false =>
            simp only [hq, holds] at h
            obtain ⟨h1, h2⟩ := h fun _ => .void none
            cases c with
            | true =>
              have h1' := h1 rfl
              intro Q hQ X0 w0 B0 X w a he hs
              have := h1' Q hQ X0 w0 B0 X w a he hs
              unfold wpList at this ⊢
              rw [if_pos (by simp [Region.wanted, unguard])] at this
              rw [if_pos (hwc X w a hs)]
              exact this
            | false => exact EO_skip hwc (fun _ _ => .any _) (h2 rfl)
          | true =>
            simp only [hq] at h
            cases c with
            | false =>
              refine EO_skip hwc (fun _ _ => .opt (fun e => by cases e) fun _ => rfl) (EO_run hE r (k + 1) _ _ fun fr => ?_) (s := .opt false (evOp E true (.void none) t B o.op).v)
              have := (h (fun i => if i = k then .void none else fr i)).2
              simp only [if_true] at this
              rwa [run_congr (fr' := fr) r (k + 1) _ _ fun i hi => if_neg (by omega)] at this
            | true =>
              refine EO_op hwc fun X w a hs => ?_
              have h00 := h fun _ => .void none
              have hcond : condsOk t (opnds o.op) := (h00.1 rfl).1
              obtain ⟨h0, hh⟩ := evOp_sound' hE hs.sat hs.den (o := o) (st := true) (fun _ => ⟨hq, hcond⟩)
              have hk : ∀ fr : Nat → RowH, fr k = h0 → ((evOp E true h0 t B o.op).vc ∧ (evOp E true h0 t B o.op).B = B) ∧ holds P n all K (run E n all fr (k + 1) r (setT n t o.dst (.opt true (evOp E true h0 t B o.op).v)) B) := by
                intro fr hfr
                have := h fr
                rw [hfr] at this
                exact ⟨(this.1 rfl).2, this.2⟩
              obtain ⟨⟨hv, hB⟩, _⟩ := hk (fun _ => h0) rfl
              obtain ⟨v, w', r1, r2, r3, r4⟩ := hh hv
              rw [hB] at r2 r4
              refine ⟨⟨.opt true (evOp E true h0 t B o.op).v, B, True⟩, ⟨v, w', r1, r2, .opt (fun _ => r3) (fun e => by cases e), r4⟩, EO_run hE r (k + 1) _ _ fun fr => ?_⟩
              have := (hk (fun i => if i = k then h0 else fr i) (by simp)).2
              rwa [run_congr (fr' := fr) r (k + 1) _ _ fun i hi => if_neg (by omega)] at this
end
end Go.Lift
end
section
namespace Go.Lift
section
variable {P : Program} {E : Env} {n : Nat}

def bindA : Nat → List SV → Slots
  | _, [] => []
  | i, a :: r => (i, a) :: bindA (i + 1) r
theorem lkp_bindA : ∀ (args : List SV) (i j : Nat), lkp (bindA i args) j = if i ≤ j then args.getD (j - i) .any else .any
  | [], i, j => by simp [bindA, lkp]
  | a :: r, i, j => by
    simp only [bindA, lkp, lkp_bindA r (i + 1) j]
    by_cases e : j = i
    · subst e; simp
    · simp only [e, if_false]
      by_cases h : i + 1 ≤ j
      · rw [if_pos h, if_pos (by omega)]
        have : j - i = (j - (i + 1)) + 1 := by omega
        rw [this]; simp
      · rw [if_neg h, if_neg (by omega)]

def evRes1 (E : Env) (t : Slots) (B : List Own) : ResultVar → SV × Prop
  | .tmp i => (lkp t i, True)
  | .cell a T => match evLoadT (E.ty T) B (lkp t a) with
    | ⟨v, _, c⟩ => (v, c)
def evRes (E : Env) (t : Slots) (B : List Own) : List ResultVar → List SV × Prop
  | [] => ([], True)
  | r :: rs => match evRes1 E t B r, evRes E t B rs with
    | (v, c), (vs, d) => (v :: vs, c ∧ d)
def evR (E : Env) (t : Slots) (B : List Own) (rs : List ResultVar) : SV × Prop := match evRes E t B rs with
  | ([v], c) => (v, c)
  | (vs, c) => (.tup vs, c)
def retP (E : Env) (rs : List ResultVar) (Q : SV → List Own → Prop) : Post
  | .normal, t, B => (evR E t B rs).2 ∧ Q (evR E t B rs).1 B
  | .ret, t, B => (evR E t B rs).2 ∧ Q (evR E t B rs).1 B
  | _, _, _ => False

def resFn (tmps : Array Value) : ResultVar → Sem Value
  | .tmp t => pure (tmps.getD t undef)
  | .cell a t => do loadVar t (← asAddr (tmps.getD a undef))
theorem results_eq (fn : Func) (tmps : Array Value) : results fn tmps = (do let vs ← fn.results.mapM (resFn tmps); pure (if h : vs.size = 1 then vs[0] else .tuple vs)) := by
  unfold results
  congr 2

theorem res_sound (hE : EnvOK P E) {X : Nat → Prop} {w : World} {B : List Own} {t : Slots} {tmps : Array Value} (hs : Sat X w B) (hd : DenT X w t n tmps) : ∀ (rs : List ResultVar), (evRes E t B rs).2 →
    ∃ vs : List Value, (rs.mapM (resFn tmps)).run P w = .ok vs w ∧ vs.length = (evRes E t B rs).1.length ∧
      ∀ (i : Nat) (c : SV), (evRes E t B rs).1[i]? = some c → Den X w c (vs.getD i undef)
  | [], _ => ⟨[], by simp, rfl, by simp [evRes]⟩
  | r :: rs, h => by
    simp only [evRes] at h ⊢
    obtain ⟨h1, h2⟩ := h
    obtain ⟨vs, r1, r2, r3⟩ := res_sound hE hs hd rs h2
    have one : ∃ v, (resFn tmps r).run P w = .ok v w ∧ Den X w (evRes1 E t B r).1 v := by
      cases r with
      | tmp i => exact ⟨_, rfl, hd.2 i⟩
      | cell a T =>
        simp only [evRes1] at h1 ⊢
        have hb : E.ty T ≠ .bad := fun e => by simp [evLoadT, e, bad] at h1
        have e1 : evLoadT (E.ty T) B (lkp t a) = evLoad (E.ty T).agg (E.ty T).size B (lkp t a) := by
          cases h : E.ty T <;> first | rfl | exact absurd h hb
        rw [e1] at h1 ⊢
        obtain ⟨u, q1, q2, q3⟩ := load_sound (hE.ty T) hb hs (hd.2 a) h1
        refine ⟨u, ?_, q2⟩
        simp only [Instr.loadAt, Instr.sureAddr, asAddr, resFn] at q1 ⊢
        cases hv : tmps.getD a undef <;> simp only [hv] at q1 ⊢ <;> try (simp at q1; done)
        case pointer p =>
          cases p with
          | none => simp at q1
          | some ad => simpa using q1
    obtain ⟨v, q1, q2⟩ := one
    refine ⟨v :: vs, ?_, by simp [r2], fun i c hc => ?_⟩
    · rw [List.mapM_cons, Sem.run_bind, q1]
      simp only [Result.andThen_ok, Sem.run_bind, r1, Sem.run_pure]
    · cases i with
      | zero => simp at hc; subst hc; simpa using q2
      | succ i => simpa using r3 i c (by simpa using hc)

theorem results_sound (hE : EnvOK P E) {X : Nat → Prop} {w : World} {B : List Own} {t : Slots} {tmps : Array Value} (fn : Func) (hs : Sat X w B) (hd : DenT X w t n tmps) (h : (evR E t B fn.results.toList).2) :
    ∃ v, (results fn tmps).run P w = .ok v w ∧ Den X w (evR E t B fn.results.toList).1 v := by
  have h' : (evRes E t B fn.results.toList).2 := by
    unfold evR at h
    split at h <;> (rename_i e; rw [e]; exact h)
  obtain ⟨vs, r1, r2, r3⟩ := res_sound hE hs hd fn.results.toList h'
  have hm : (fn.results.mapM (resFn tmps)).run P w = .ok vs.toArray w := by
    rw [Array.mapM_eq_mapM_toList]
    simp only [Sem.run_map, r1, Result.andThen_ok]
  refine ⟨if h : vs.toArray.size = 1 then vs.toArray[0] else .tuple vs.toArray, ?_, ?_⟩
  · rw [results_eq, Sem.run_bind, hm]
    rfl
  · unfold evR
    split
    · rename_i v c e
      rw [e] at r2 r3
      simp at r2
      have hsz : vs.toArray.size = 1 := by simpa using r2
      rw [dif_pos hsz]
      have := r3 0 v rfl
      simpa [List.getD, r2] using this
    · rename_i us c hne e
      rw [e] at r2 r3
      simp only at r2 r3
      have hsz : ¬ vs.toArray.size = 1 := by
        intro h1
        have h2 : us.length = 1 := by rw [← r2]; simpa using h1
        match us, h2 with
        | [u], _ => exact hne u rfl
      rw [dif_neg hsz]
      exact .tup (by simpa using r2) (by simpa using r3)

theorem EC.enter (hE : EnvOK P E) {f : FuncId} {fn : Func} {c : Code} {args : List SV} {B : List Own} {Q : SV → List Own → Prop} (hc : callable P f = true) (hf : P.funcs[f]? = some fn) (hb : fn.body = some c) (hn : args.length ≤ fn.ntmps)
    (h : EV P fn.ntmps c (bindA 0 args) B (retP E fn.results.toList Q)) : EC P f args B Q := by
  refine ⟨hc, fun X w vs hs hd => ?_⟩
  refine calls_of_wp hf hb ?_
  have hden : DenT X w (bindA 0 args) fn.ntmps (vs ++ Array.replicate (fn.ntmps - vs.size) undef) := by
    refine ⟨by simp; have := hd.1; omega, fun i => ?_⟩
    rw [lkp_bindA]
    simp only [Nat.zero_le, if_true, Nat.sub_zero]
    rcases Nat.lt_or_ge i args.length with hi | hi
    · have := hd.2 i _ (get?_of_lt .any hi)
      simp only [Array.getD_eq_getD_getElem?] at this ⊢
      rw [Array.getElem?_append_left (by have := hd.1; omega)]
      exact this
    · have : args.getD i .any = .any := by simp [List.getD, List.getElem?_eq_none hi]
      rw [this]; exact .any _
  refine wp_mono (h X w B X w _ (Ext.refl _ _ _) ⟨rfl, hs, hden⟩) fun e a w' hg => ?_
  obtain ⟨X', t', B', hQ, hst, hext⟩ := hg
  have fin : (evR E t' B' fn.results.toList).2 ∧ Q (evR E t' B' fn.results.toList).1 B' → a.defers = [] ∧ ∃ v, (results fn a.tmps).run P w' = .ok v w' ∧ ∃ v' r X' B', Ending.returned v = .returned v' ∧ Q r B' ∧ Sat X' w' B' ∧ Den X' w' r v' ∧ Ext X w B X' w' B' := by
    rintro ⟨h1, h2⟩
    obtain ⟨v, r1, r2⟩ := results_sound hE fn hst.sat hst.den h1
    exact ⟨hst.defers, v, r1, v, _, X', B', rfl, h2, hst.sat, r2, hext⟩
  cases e <;> simp only [retP] at hQ
  case normal => exact fin hQ
  case ret => exact fin hQ

def SLe (s s' : SV) : Prop := ∀ X w v, Den X w s v → Den X w s' v
theorem SLe.refl (s : SV) : SLe s s := fun _ _ _ h => h
theorem SLe.any (s : SV) : SLe s .any := fun _ _ v _ => .any v
theorem SLe.sl {full full' : Bool} {esz esz' n : Nat} {f g : Nat → List SV} (hf : full' = true → full = true) (he : n = 0 ∨ esz = esz') (h : ∀ k, k < n → f k = g k) : SLe (.sl full esz n f) (.sl full' esz' n g) := by
  intro X w v hd
  cases hd with
  | slNil hc => exact .slNil fun h => hc (hf h)
  | slAt g' hn hcap hfull hX hl hw hden =>
    have he' : esz = esz' := by omega
    subst he'
    exact .slAt g' hn hcap (fun h => hfull (hf h)) hX (fun k hk => by rw [← h k hk]; exact hl k hk) hw (fun k j c hk hc => hden k j c hk (by rw [h k hk]; exact hc))
inductive LLe : List SV → List SV → Prop
  | nil : LLe [] []
  | cons {s s' : SV} {l l' : List SV} (h : SLe s s') (hr : LLe l l') : LLe (s :: l) (s' :: l')
theorem LLe.refl : ∀ (l : List SV), LLe l l
  | [] => .nil
  | s :: r => .cons (SLe.refl s) (LLe.refl r)
theorem LLe.spec {l l' : List SV} (h : LLe l l') : l.length = l'.length ∧ ∀ (i : Nat) (c : SV), l'[i]? = some c → ∃ d, l[i]? = some d ∧ SLe d c := by
  induction h with
  | nil => exact ⟨rfl, by simp⟩
  | cons h _ ih =>
    refine ⟨by simp [ih.1], fun i c hc => ?_⟩
    cases i with
    | zero => simp at hc; subst hc; exact ⟨_, rfl, h⟩
    | succ i => simpa using ih.2 i c (by simpa using hc)
theorem SLe.agg {l l' : List SV} (h : LLe l l') : SLe (.agg l) (.agg l') := by
  intro X w v hd
  cases hd with
  | agg hs hh =>
    refine .agg (by rw [hs, h.spec.1]) fun i c hc => ?_
    obtain ⟨d, hd, hle⟩ := h.spec.2 i c hc
    exact hle _ _ _ (hh i d hd)
theorem SLe.tup {l l' : List SV} (h : LLe l l') : SLe (.tup l) (.tup l') := by
  intro X w v hd
  cases hd with
  | tup hs hh =>
    refine .tup (by rw [hs, h.spec.1]) fun i c hc => ?_
    obtain ⟨d, hd, hle⟩ := h.spec.2 i c hc
    exact hle _ _ _ (hh i d hd)
theorem EC.ret {f args B} {Q : SV → List Own → Prop} (h : EC P f args B fun r B' => ∃ r', SLe r r' ∧ Q r' B') : EC P f args B Q :=
  ⟨h.1, fun X w vs hs hd => (h.2 X w vs hs hd).mono fun _ _ ⟨v, _, X', B', he, ⟨r', hle, hr⟩, h1, h2, h3⟩ => ⟨v, r', X', B', he, hr, h1, hle _ _ _ h2, h3⟩⟩
theorem EC.args {f args args' B} {Q : SV → List Own → Prop} (hle : LLe args args') (h : EC P f args' B Q) : EC P f args B Q :=
  ⟨h.1, fun X w vs hs hd => h.2 X w vs hs ⟨by rw [hd.1, hle.spec.1], fun i c hc => by
    obtain ⟨d, h1, h2⟩ := hle.spec.2 i c hc
    exact h2 _ _ _ (hd.2 i d h1)⟩⟩

def frzC (sel : Nat → Bool) (B : List Own) : SV → SV
  | .row i h esz lo n => match sel i with
    | true => match getD' B i with
      | .row _ _ _ xs => .sl false esz n fun k => xs.getD (lo + k) []
      | .gone => .any
    | false => .row i h esz lo n
  | .rptr i h esz k off => match sel i with
    | true => match getD' B i with
      | .row _ _ _ xs => .xp ((xs.getD k []).drop off)
      | .gone => .any
    | false => .rptr i h esz k off
  | .om i h k1 k2 => match sel i with
    | true => match getD' B i with
      | .row _ _ _ xs => .xm k1 k2 (entsOf xs)
      | .gone => .any
    | false => .om i h k1 k2
  | s => s
def frzKC (sel : Nat → Bool) (B : List Own) : SV → Prop
  | .row i h esz lo n => match sel i with
    | true => match getD' B i with
      | .row h' _ e' xs => h' = h ∧ e' = esz ∧ lo + n ≤ xs.length
      | .gone => True
    | false => True
  | .rptr i h esz k _ => match sel i with
    | true => match getD' B i with
      | .row h' _ e' xs => h' = h ∧ e' = esz ∧ k < xs.length
      | .gone => True
    | false => True
  | .om i h k1 k2 => match sel i with
    | true => match getD' B i with
      | .row h' _ _ xs => h' = h ∧ xs = (entsOf xs).map (mC k1 k2)
      | .gone => True
    | false => True
  | _ => True
def frzL (sel : Nat → Bool) (B : List Own) : List SV → List SV
  | [] => []
  | s :: r => frzC sel B s :: frzL sel B r
def frzKL (sel : Nat → Bool) (B : List Own) : List SV → Prop
  | [] => True
  | s :: r => frzKC sel B s ∧ frzKL sel B r
def frzA (sel : Nat → Bool) (B : List Own) : SV → SV
  | .agg cs => .agg (frzL sel B cs)
  | s => frzC sel B s
def frzKA (sel : Nat → Bool) (B : List Own) : SV → Prop
  | .agg cs => frzKL sel B cs
  | s => frzKC sel B s
def frzLA (sel : Nat → Bool) (B : List Own) : List SV → List SV
  | [] => []
  | s :: r => frzA sel B s :: frzLA sel B r
def frzKLA (sel : Nat → Bool) (B : List Own) : List SV → Prop
  | [] => True
  | s :: r => frzKA sel B s ∧ frzKLA sel B r
def frzT (sel : Nat → Bool) (B : List Own) : SV → SV
  | .tup cs => .tup (frzLA sel B cs)
  | s => frzA sel B s
def frzKT (sel : Nat → Bool) (B : List Own) : SV → Prop
  | .tup cs => frzKLA sel B cs
  | s => frzKA sel B s

variable {X : Nat → Prop} {w : World} {B : List Own} {sel : Nat → Bool}
def withSel (X : Nat → Prop) (B : List Own) (sel : Nat → Bool) (b : Nat) : Prop := X b ∨ ∃ i, sel i = true ∧ b ∈ (getD' B i).blocks

theorem Den.wsel {s v} (h : Den X w s v) : Den (withSel X B sel) w s v := h.mono (fun _ h => .inl h) fun _ _ => rfl

theorem frzC_sound (hs : Sat X w B) {s : SV} {v : Value} (hd : Den X w s v) (hk : frzKC sel B s) : Den (withSel X B sel) w (frzC sel B s) v := by
  have pt : ∀ (i b cap esz k off : Nat), frzKC sel B (.rptr i (.at b cap) esz k off) → Den (withSel X B sel) w (frzC sel B (.rptr i (.at b cap) esz k off)) (.pointer (some ⟨b, k * esz + off, none⟩)) := by
    intro i b cap esz k off hk
    simp only [frzC, frzKC] at hk ⊢
    cases hsel : sel i with
    | false => exact .rptr ..
    | true =>
      simp only [hsel] at hk
      cases hg : getD' B i with
      | gone => exact .any _
      | row h' E' e' xs =>
        simp only [hg] at hk ⊢
        obtain ⟨rfl, rfl, hlt⟩ := hk
        obtain ⟨vs, a1, a2, a3, a4, a5⟩ := hs.row hg
        have hx := get?_of_lt (α := List SV) [] hlt
        have hl := a4 k _ hx
        refine .xp (fun j => vs.getD (k * e' + (off + j)) undef) (.inr ⟨i, hsel, by rw [hg]; simp [Own.blocks]⟩) (fun j hj => ?_) (fun j c hc => ?_)
        · simp only [List.length_drop] at hj
          rw [Nat.add_assoc]
          exact cell_of_heap a1 (by have := idx_lt (m := cap) (esz := e') (show k < cap by omega) (show off + j < e' by omega); omega)
        · rw [List.getElem?_drop] at hc
          exact (a5 k _ _ _ hx hc).wsel
  have rw1 : ∀ (i b cap esz lo n c : Nat) (a : Option Addr), frzKC sel B (.row i (.at b cap) esz lo n) → (0 < n → a = some ⟨b, lo * esz, none⟩) → n ≤ c → Den X w (.row i (.at b cap) esz lo n) (.slice a n c) →
      Den (withSel X B sel) w (frzC sel B (.row i (.at b cap) esz lo n)) (.slice a n c) := by
    intro i b cap esz lo n c a hk ha hnc hden
    simp only [frzC, frzKC] at hk ⊢
    cases hsel : sel i with
    | false => exact hden.wsel
    | true =>
      simp only [hsel] at hk
      cases hg : getD' B i with
      | gone => exact .any _
      | row h' E' e' xs =>
        simp only [hg] at hk ⊢
        obtain ⟨rfl, rfl, hlt⟩ := hk
        obtain ⟨vs, a1, a2, a3, a4, a5⟩ := hs.row hg
        by_cases hn : n = 0
        · subst hn; exact .slNil (by simp)
        · rw [ha (by omega)]
          refine .slAt (fun k j => vs.getD ((lo + k) * e' + j) undef) (by omega) hnc (by simp) (.inr ⟨i, hsel, by rw [hg]; simp [Own.blocks]⟩) (fun k hk => a4 _ _ (get?_of_lt (α := List SV) [] (by omega))) (fun k j hk hj => ?_) (fun k j c hk hc => ?_)
          · have e : lo * e' + (k * e' + j) = (lo + k) * e' + j := by rw [Nat.add_mul]; omega
            rw [e]
            exact cell_of_heap a1 (by have := idx_lt (m := cap) (esz := e') (show lo + k < cap by omega) hj; omega)
          · exact (a5 _ _ _ _ (get?_of_lt (α := List SV) [] (show lo + k < xs.length by omega)) hc).wsel
  have hd0 := hd
  cases hd
  case rptr i b cap esz k off => exact pt _ _ _ _ _ _ hk
  case rowAt i b cap esz n hn => exact rw1 _ _ _ _ _ _ _ _ hk (fun _ => by simp) hn hd0
  case rowLo i b cap esz lo n c hn hc => exact rw1 _ _ _ _ _ _ _ _ hk (fun _ => rfl) hc hd0
  case rowLo0 i b cap esz lo c a => exact rw1 _ _ _ _ _ _ _ _ hk (fun h => by omega) (Nat.zero_le _) hd0
  case rowVoid i a esz lo =>
    simp only [frzC, frzKC] at hk ⊢
    cases hsel : sel i with
    | false => exact .rowVoid ..
    | true =>
      simp only [hsel] at hk
      cases hg : getD' B i with
      | gone => exact .any _
      | row h' E' e' xs => exact .slNil (by simp)
  case om i b k1 k2 =>
    simp only [frzC, frzKC] at hk ⊢
    cases hsel : sel i with
    | false => exact .om ..
    | true =>
      simp only [hsel] at hk
      cases hg : getD' B i with
      | gone => exact .any _
      | row h' E' e' xs =>
        simp only [hg] at hk ⊢
        obtain ⟨rfl, hxs⟩ := hk
        obtain ⟨arr, clock, hb, he⟩ := hs.mrow hg
        rw [hxs] at he
        exact .xm (.inr ⟨i, hsel, by rw [hg]; simp [Own.blocks]⟩) hb he
  all_goals exact hd0.wsel
theorem frzL_sound (hs : Sat X w B) : ∀ {l : List SV} (_ : frzKL sel B l), (frzL sel B l).length = l.length ∧ ∀ (vs : Array Value), (∀ (i : Nat) (c : SV), l[i]? = some c → Den X w c (vs.getD i undef)) → ∀ (i : Nat) (c : SV), (frzL sel B l)[i]? = some c → Den (withSel X B sel) w c (vs.getD i undef)
  | [], _ => ⟨rfl, by simp [frzL]⟩
  | s :: r, hk => by
    obtain ⟨h1, h2⟩ := frzL_sound hs (l := r) hk.2
    refine ⟨by simp [frzL, h1], fun vs hv i c hc => ?_⟩
    cases i with
    | zero => simp [frzL] at hc; subst hc; exact frzC_sound hs (hv 0 s rfl) hk.1
    | succ i =>
      have := h2 (vs.extract 1 vs.size) (fun i c hc => by
        have := hv (i + 1) c (by simpa using hc)
        simp only [Array.getD_eq_getD_getElem?, Array.getElem?_extract] at this ⊢
        rcases Nat.lt_or_ge (i + 1) vs.size with hlt | hge
        · rw [if_pos (by omega), Nat.add_comm 1 i]; exact this
        · rw [if_neg (by omega)]; rw [Array.getElem?_eq_none hge] at this; exact this) i c (by simpa [frzL] using hc)
      simp only [Array.getD_eq_getD_getElem?, Array.getElem?_extract] at this ⊢
      rcases Nat.lt_or_ge (i + 1) vs.size with hlt | hge
      · rw [if_pos (by omega), Nat.add_comm 1 i] at this; exact this
      · rw [if_neg (by omega)] at this; rw [Array.getElem?_eq_none hge]; exact this
theorem frzA_sound (hs : Sat X w B) {s : SV} {v : Value} (hd : Den X w s v) (hk : frzKA sel B s) : Den (withSel X B sel) w (frzA sel B s) v := by
  by_cases ha : ∃ cs, s = .agg cs
  · obtain ⟨cs, rfl⟩ := ha
    cases hd with
    | agg hsz h =>
      obtain ⟨h1, h2⟩ := frzL_sound hs (l := cs) hk
      exact .agg (by rw [h1]; exact hsz) (h2 _ h)
  · have e1 : frzA sel B s = frzC sel B s := by cases s <;> first | rfl | exact absurd ⟨_, rfl⟩ ha
    have e2 : frzKA sel B s = frzKC sel B s := by cases s <;> first | rfl | exact absurd ⟨_, rfl⟩ ha
    rw [e1]; rw [e2] at hk; exact frzC_sound hs hd hk
theorem frzLA_sound (hs : Sat X w B) : ∀ {l : List SV} (_ : frzKLA sel B l), (frzLA sel B l).length = l.length ∧ ∀ (vs : Nat → Value), (∀ (i : Nat) (c : SV), l[i]? = some c → Den X w c (vs i)) → ∀ (i : Nat) (c : SV), (frzLA sel B l)[i]? = some c → Den (withSel X B sel) w c (vs i)
  | [], _ => ⟨rfl, by simp [frzLA]⟩
  | s :: r, hk => by
    obtain ⟨h1, h2⟩ := frzLA_sound hs (l := r) hk.2
    refine ⟨by simp [frzLA, h1], fun vs hv i c hc => ?_⟩
    cases i with
    | zero => simp [frzLA] at hc; subst hc; exact frzA_sound hs (hv 0 s rfl) hk.1
    | succ i => exact h2 (fun i => vs (i + 1)) (fun i c hc => hv (i + 1) c (by simpa using hc)) i c (by simpa [frzLA] using hc)
theorem frzT_sound (hs : Sat X w B) {s : SV} {v : Value} (hd : Den X w s v) (hk : frzKT sel B s) : Den (withSel X B sel) w (frzT sel B s) v := by
  by_cases ha : ∃ cs, s = .tup cs
  · obtain ⟨cs, rfl⟩ := ha
    cases hd with
    | tup hsz h =>
      obtain ⟨h1, h2⟩ := frzLA_sound hs (l := cs) hk
      exact .tup (by rw [h1]; exact hsz) (h2 (fun i => Array.getD _ i undef) h)
  · have e1 : frzT sel B s = frzA sel B s := by cases s <;> first | rfl | exact absurd ⟨_, rfl⟩ ha
    have e2 : frzKT sel B s = frzKA sel B s := by cases s <;> first | rfl | exact absurd ⟨_, rfl⟩ ha
    rw [e1]; rw [e2] at hk; exact frzA_sound hs hd hk

theorem Sat.drop_sel (hs : Sat X w B) {B' : List Own} (hb : ∀ i, getD' B' i = if sel i then .gone else getD' B i) : Sat (withSel X B sel) w B' := by
  have sub : ∀ i b, b ∈ (getD' B' i).blocks → sel i = false ∧ b ∈ (getD' B i).blocks := fun i b h => by
    rw [hb] at h
    cases hsel : sel i
    · simpa [hsel] using h
    · simp [hsel, Own.blocks] at h
  refine ⟨fun i j b hi hj => hs.inj i j b (sub i b hi).2 (sub j b hj).2, fun i b hi => hs.lt i b (sub i b hi).2, hs.xg.mono (fun _ h => .inl h) (fun _ _ => rfl) ?_, ?_, fun i => ?_⟩
  · rintro b (h | ⟨i, _, h⟩)
    · exact hs.xlt b h
    · exact hs.lt i b h
  · rintro b (h | ⟨i, hi, h⟩) ⟨j, hj⟩
    · exact hs.apart b h ⟨j, (sub j b hj).2⟩
    · obtain ⟨h1, h2⟩ := sub j b hj
      have := hs.inj i j b h h2
      subst this
      rw [hi] at h1; cases h1
  · rw [hb]
    cases sel i
    · exact Own.ok_mono (hs.ok i) (fun _ h => .inl h) (fun _ _ => rfl) fun _ _ => rfl
    · trivial
theorem Ext.drop_sel {B' : List Own} (hb : ∀ i, getD' B' i = if sel i then .gone else getD' B i) : Ext X w B (withSel X B sel) w B' := by
  refine ⟨rfl, rfl, rfl, Nat.le_refl _, fun _ _ _ => rfl, fun _ h => .inl h, ?_, ?_⟩
  · rintro b (h | ⟨i, _, h⟩)
    · exact .inl h
    · exact .inr (.inl ⟨i, h⟩)
  · rintro b ⟨i, hi⟩
    rw [hb] at hi
    cases hsel : sel i
    · exact .inl ⟨i, by simpa [hsel] using hi⟩
    · simp [hsel, Own.blocks] at hi

def fromM (m : Nat) (i : Nat) : Bool := decide (m ≤ i)
theorem EC.close {f args B0} (m : Nat) {Q : SV → List Own → Prop} (h : EC P f args B0 fun r B' => frzKT (fromM m) B' r ∧ Q (frzT (fromM m) B' r) (B'.take m)) : EC P f args B0 Q := by
  refine ⟨h.1, fun X w vs hs hd => (h.2 X w vs hs hd).mono ?_⟩
  rintro e w' ⟨v, r, X', B', he, ⟨hk, hq⟩, h1, h2, h3⟩
  have hb : ∀ i, getD' (B'.take m) i = if fromM m i then .gone else getD' B' i := fun i => by
    rw [getD'_take]
    by_cases hi : i < m
    · have : fromM m i = false := by simp [fromM]; omega
      simp [hi, this]
    · have : fromM m i = true := by simp [fromM]; omega
      simp [hi, this]
  exact ⟨v, _, _, _, he, hq, h1.drop_sel hb, frzT_sound h1 h2 hk, h3.trans (Ext.drop_sel hb)⟩

theorem EC.frame {f args} {Q : SV → Prop} (h : EC P f args [] fun r B' => B' = [] ∧ Q r) (B : List Own) : EC P f args B fun r B' => B' = B ∧ Q r := by
  refine ⟨h.1, fun X w vs hs hd => ?_⟩
  have hs0 : Sat X w [] := ⟨fun i j b hi => by simp [getD', Own.blocks] at hi, fun i b hi => by simp [getD', Own.blocks] at hi, hs.xg, fun b _ ⟨i, hi⟩ => by simp [getD', Own.blocks] at hi, fun i => by simp [getD', Own.ok]⟩
  refine (h.2 X w vs hs0 hd).mono ?_
  rintro e w' ⟨v, r, X', B', he, ⟨rfl, hq⟩, h1, h2, h3⟩
  have hno : ∀ b, ¬ owns [] b := fun b ⟨i, hi⟩ => by simp [getD', Own.blocks] at hi
  have hblk : ∀ b, b < w.heap.size → w'.heap[b]? = w.heap[b]? := fun b hb => h3.block b hb (hno b)
  refine ⟨v, r, X', B, he, ⟨rfl, hq⟩, ⟨hs.inj, fun i b hi => Nat.lt_of_lt_of_le (hs.lt i b hi) h3.size, h1.xg, fun b hb ⟨i, hi⟩ => ?_, fun i => Own.ok_mono (hs.ok i) h3.xin (fun b hb => hblk b (hs.xlt b hb)) fun b hb => hblk b (hs.lt i b hb)⟩, h2, ?_⟩
  · rcases h3.xout b hb with h | h | h
    · exact hs.apart b h ⟨i, hi⟩
    · exact hno b h
    · have := hs.lt i b hi; omega
  · refine ⟨h3.os, h3.tape, h3.output, h3.size, fun b hb _ => hblk b hb, h3.xin, fun b hb => ?_, fun b hb => .inl hb⟩
    rcases h3.xout b hb with h | h | h
    · exact .inl h
    · exact absurd h (hno b)
    · exact .inr (.inr h)
end
end Go.Lift
end
section
namespace Go.Lift

def envOf (tyL : List TyI) (zrL : List (List SV)) (lvL : List (List Nat)) : Env := ⟨fun T => tyL.getD T .bad, fun T => zrL.getD T [], fun T => lvL.getD T [], false⟩
def envB (P : Program) (tyL : List TyI) (zrL : List (List SV)) (lvL : List (List Nat)) : Bool :=
  (List.range tyL.length).all (fun T => tyB P T (tyL.getD T .bad)) && (List.range zrL.length).all (fun T => (zrL.getD T []).isEmpty || zeroB P T (zrL.getD T [])) && (List.range lvL.length).all (fun T => lvB P T (lvL.getD T []))
theorem envOf_ok {P : Program} {tyL : List TyI} {zrL : List (List SV)} {lvL : List (List Nat)} (h : envB P tyL zrL lvL = true) : EnvOK P (envOf tyL zrL lvL) := by
  simp only [envB, Bool.and_eq_true, List.all_eq_true, List.mem_range, Bool.or_eq_true, List.isEmpty_iff] at h
  obtain ⟨⟨h1, h2⟩, h3⟩ := h
  refine ⟨fun T => ?_, fun T hT => ?_, fun T => ?_⟩
  · rcases Nat.lt_or_ge T tyL.length with h' | h'
    · exact h1 T h'
    · have : (envOf tyL zrL lvL).ty T = .bad := by simp [envOf, List.getD, List.getElem?_eq_none h']
      rw [this]; rfl
  · rcases Nat.lt_or_ge T zrL.length with h' | h'
    · rcases h2 T h' with h4 | h4
      · have : (envOf tyL zrL lvL).zr T = [] := h4
        rw [this] at hT; simp at hT
      · exact h4
    · have : (envOf tyL zrL lvL).zr T = [] := by simp [envOf, List.getD, List.getElem?_eq_none h']
      rw [this] at hT; simp at hT
  · rcases Nat.lt_or_ge T lvL.length with h' | h'
    · exact h3 T h'
    · have : (envOf tyL zrL lvL).lv T = [] := by simp [envOf, List.getD, List.getElem?_eq_none h']
      rw [this]; rfl

def slL {α : Type} (esz : Nat) (cells : α → List SV) (d : α) (l : List α) : SV := .sl false esz l.length fun k => cells (l.getD k d)
theorem min1 : min 1 64 = 1 := rfl
theorem min7 : min 7 64 = 7 := rfl
theorem min63 : min 63 64 = 63 := rfl
theorem zero_lt (n : Nat) : 0 < n + 1 := Nat.succ_pos n
theorem rangeD {α β : Type} (f : α → β) (d : α) (l : List α) : (List.range l.length).map (fun k => f (l.getD k d)) = l.map f := by
  apply List.ext_getElem
  · simp
  · intro i h1 h2
    simp at h1
    simp [List.getD, h1]
def intC (k : IntKind) (x : Int) : List SV := [.int k x]
theorem i64_in' {x : Int} (h : -9223372036854775808 ≤ x ∧ x ≤ 9223372036854775807) : IntKind.i64.wrap x = x := IntWalk.i64_in _ h
theorem rangeI (k : IntKind) (l : List Int) : (List.range l.length).map (fun j => [SV.int k (l.getD j 0)]) = l.map (intC k) := rangeD (intC k) 0 l
theorem take_map_len {α β : Type} (f : α → β) (l : List α) : (l.map f).take l.length = l.map f := by
  rw [List.take_of_length_le (by simp)]
theorem take_map_app {α β : Type} (f : α → β) (l m : List α) : ((l ++ m).map f).take (l.length + m.length) = (l ++ m).map f := by
  rw [List.take_of_length_le (by simp)]
theorem take_map_app3 {α β : Type} (f : α → β) (l m o : List α) : ((l ++ m ++ o).map f).take (l.length + m.length + o.length) = (l ++ m ++ o).map f := by
  rw [List.take_of_length_le (by simp; omega)]
theorem EC.fin {P : Program} {f : Nat} {args : List SV} {R : SV} (h : EC P f args [] fun r B' => frzKT (fromM 0) B' r ∧ SLe (frzT (fromM 0) B' r) R) : EC P f args [] fun r B => B = [] ∧ r = R := by
  have h2 : EC P f args [] fun r B => B = [] ∧ SLe r R := EC.close 0 (h.mono fun r B hq => ⟨hq.1, List.take_zero .., hq.2⟩)
  exact EC.ret (h2.mono fun r B hq => ⟨R, hq.2, hq.1, rfl⟩)
theorem fin_row {α : Type} {esz E : Nat} {h : RowH} {n : Nat} {xs : List (List SV)} {Bs : List Own} {cells : α → List SV} {d : α} {l : List α} (hx : xs = l.map cells) (hn : n = l.length) :
    frzKT (fromM 0) (.row h E esz xs :: Bs) (.row 0 h esz 0 n) ∧ SLe (frzT (fromM 0) (.row h E esz xs :: Bs) (.row 0 h esz 0 n)) (slL esz cells d l) := by
  subst hx hn
  refine ⟨⟨rfl, rfl, by simp⟩, SLe.sl (fun h => h) (.inr rfl) fun k hk => ?_⟩
  simp [List.getD, hk]
theorem EV_meet {σ : Type} (S : σ → Slots) (R : σ → List Own) (Inv : σ → Prop) {P : Program} {n : Nat} {c : Code} {t : Slots} {B : List Own} {K : Slots → List Own → Prop} {Q : Post}
    (hrest : ∀ s t B, Inv s → wkS t (S s) → B.take (R s).length = R s → K t B)
    (h : EV P n c t B (thenP (fun t B => ∃ s, Inv s ∧ wkS t (S s) ∧ B.take (R s).length = R s) Q)) : EV P n c t B (thenP K Q) :=
  h.mono fun e t' B' hq => by
    cases e with
    | normal => obtain ⟨s, h1, h2, h3⟩ := hq; exact hrest s t' B' h1 h2 h3
    | _ => exact hq
theorem u64_not : (if IntKind.u64.signed = true then -1 else IntKind.u64.max) = 18446744073709551615 := by decide
theorem i64_not : (if IntKind.i64.signed = true then -1 else IntKind.i64.max) = -1 := by decide
def scopeP (Q : Post) : Post
  | .goto _, _, _ => False
  | e, t, B => Q e t B
theorem EV_scope {P : Program} {n : Nat} {c : Code} {t : Slots} {B : List Own} {Q : Post} (h : EV P n c t B (scopeP Q)) : EV P n (.scope c) t B Q := by
  intro X0 w0 B0 X w a he hs
  refine wp_scope_straight (wp_mono (h X0 w0 B0 X w a he hs) fun e a' w' hg => ?_)
  obtain ⟨X', t', B', h1, h2, h3⟩ := hg
  cases e with
  | goto l => exact h1.elim
  | _ => exact ⟨X', t', B', h1, h2, h3⟩
theorem toNat_add2 (p n : Nat) : ((p : Int) + (n : Int)).toNat = p + n := by omega
theorem EC.use {P : Program} {f : Nat} {args : List SV} {B : List Own} {R : SV} {Q : SV → List Own → Prop} (h : EC P f args [] fun r B' => B' = [] ∧ r = R) (hk : Q R B) : EC P f args B Q :=
  (EC.frame h B).mono (by rintro r B' ⟨rfl, rfl⟩; exact hk)
theorem Den.reindex {X : Nat → Prop} {w : World} {i j : Nat} {h : RowH} {e lo n : Nat} {v : Value} (hd : Den X w (.row i h e lo n) v) : Den X w (.row j h e lo n) v := by
  cases hd with
  | rowVoid => exact .rowVoid ..
  | rowAt _ _ _ _ _ h => exact .rowAt _ _ _ _ _ h
  | rowLo _ _ _ _ _ _ _ hn h => exact .rowLo _ _ _ _ _ _ _ hn h
  | rowLo0 => exact .rowLo0 ..
theorem SLe.of_eq {s s' : SV} (h : s = s') : SLe s s' := h ▸ SLe.refl s
theorem isBytes (x : List Int) : (∀ y, y ∈ List.map (intC .u8) x → isByte y = true) = True :=
  eq_true fun y hy => by obtain ⟨z, _, rfl⟩ := List.mem_map.1 hy; rfl
theorem EV_frz {P : Program} {n : Nat} {c : Code} {t t' : Slots} {B : List Own} {Q : Post} (m : Nat) (ht : ∀ i, lkp t' i = .any ∨ (frzKT (fromM m) B (lkp t i) ∧ SLe (frzT (fromM m) B (lkp t i)) (lkp t' i))) (h : EV P n c t' (B.take m) Q) : EV P n c t B Q := by
  have hb : ∀ i, getD' (B.take m) i = if fromM m i then .gone else getD' B i := fun i => by
    rw [getD'_take]
    by_cases hi : i < m
    · have : fromM m i = false := by simp [fromM]; omega
      simp [hi, this]
    · have : fromM m i = true := by simp [fromM]; omega
      simp [hi, this]
  intro X0 w0 B0 X w a he hs
  refine h X0 w0 B0 (withSel X B (fromM m)) w a (he.trans (Ext.drop_sel hb)) ⟨hs.defers, hs.sat.drop_sel hb, hs.den.1, fun i => ?_⟩
  rcases ht i with h1 | ⟨h1, h2⟩
  · rw [h1]; exact .any _
  · exact h2 _ _ _ (frzT_sound hs.sat (hs.den.2 i) h1)
def wkF (m : Nat) (B : List Own) (t : Slots) : Slots → Prop
  | [] => True
  | (i, v) :: r => (frzKT (fromM m) B (lkp t i) ∧ SLe (frzT (fromM m) B (lkp t i)) v) ∧ wkF m B t r
theorem wkF_spec {m : Nat} {B : List Own} {t : Slots} : ∀ {t' : Slots}, wkF m B t t' → ∀ i, lkp t' i = .any ∨ (frzKT (fromM m) B (lkp t i) ∧ SLe (frzT (fromM m) B (lkp t i)) (lkp t' i))
  | [], _, i => .inl rfl
  | (j, v) :: r, h, i => by
    by_cases hj : j = i
    · subst hj
      right
      have : lkp ((j, v) :: r) j = v := by simp [lkp]
      rw [this]; exact h.1
    · have : lkp ((j, v) :: r) i = lkp r i := by simp [lkp, Ne.symm hj]
      rw [this]; exact wkF_spec h.2 i
theorem EV_freeze {P : Program} {n : Nat} {c : Code} {t : Slots} {B : List Own} {Q : Post} (m : Nat) (t' : Slots) (ht : wkF m B t t') (h : EV P n c t' (B.take m) Q) : EV P n c t B Q := EV_frz m (wkF_spec ht) h
inductive LFz (m : Nat) (B : List Own) : List SV → List SV → Prop where
  | nil : LFz m B [] []
  | cons {s s' : SV} {l l' : List SV} (hk : frzKT (fromM m) B s) (h : SLe (frzT (fromM m) B s) s') (hr : LFz m B l l') : LFz m B (s :: l) (s' :: l')
theorem LFz.spec {m : Nat} {B : List Own} {l l' : List SV} (h : LFz m B l l') : l.length = l'.length ∧ ∀ (i : Nat) (c : SV), l'[i]? = some c → ∃ d, l[i]? = some d ∧ frzKT (fromM m) B d ∧ SLe (frzT (fromM m) B d) c := by
  induction h with
  | nil => exact ⟨rfl, fun i c h => by simp at h⟩
  | cons hk h _ ih =>
    refine ⟨by simp [ih.1], fun i c hc => ?_⟩
    cases i with
    | zero => simp at hc; subst hc; exact ⟨_, rfl, hk, h⟩
    | succ i => simpa using ih.2 i c (by simpa using hc)
theorem EC.give {P : Program} {f : Nat} {args args' : List SV} {B : List Own} {Q : SV → List Own → Prop} (m : Nat) (ha : LFz m B args args') (h : EC P f args' (B.take m) Q) : EC P f args B Q := by
  have hb : ∀ i, getD' (B.take m) i = if fromM m i then .gone else getD' B i := fun i => by
    rw [getD'_take]
    by_cases hi : i < m
    · have : fromM m i = false := by simp [fromM]; omega
      simp [hi, this]
    · have : fromM m i = true := by simp [fromM]; omega
      simp [hi, this]
  refine ⟨h.1, fun X w vs hs hd => ?_⟩
  have hsp := ha.spec
  refine (h.2 (withSel X B (fromM m)) w vs (hs.drop_sel hb) ⟨by rw [hd.1, hsp.1], fun i c hc => ?_⟩).mono ?_
  · obtain ⟨d, h1, h2, h3⟩ := hsp.2 i c hc
    exact h3 _ _ _ (frzT_sound hs (hd.2 i d h1) h2)
  · rintro e w' ⟨v, r, X', B', he, hq, h1, h2, h3⟩
    exact ⟨v, r, X', B', he, hq, h1, h2, (Ext.drop_sel hb).trans h3⟩
end Go.Lift
end
section
namespace Go.Lift

def foC : SV → Bool
  | .int .. => true
  | .bool _ => true
  | .str _ => true
  | _ => false
def fo : SV → Bool
  | .agg cs => cs.all foC
  | s => foC s
theorem foC_eq {X X' : Nat → Prop} {w w' : World} {s : SV} {u v : Value} (h : foC s = true) (hu : Den X w s u) (hv : Den X' w' s v) : u = v := by
  cases hu <;> simp only [foC, Bool.false_eq_true] at h <;> cases hv <;> rfl
theorem fo_eq {X X' : Nat → Prop} {w w' : World} {s : SV} {u v : Value} (h : fo s = true) (hu : Den X w s u) (hv : Den X' w' s v) : u = v := by
  by_cases ha : ∃ cs, s = .agg cs
  · obtain ⟨cs, rfl⟩ := ha
    simp only [fo, List.all_eq_true] at h
    cases hu with
    | agg h1 h2 => cases hv with
      | agg h3 h4 =>
        congr 1
        apply Array.ext (by omega)
        intro i a b
        have hi : i < cs.length := by omega
        have hc : cs[i]? = some cs[i] := List.getElem?_eq_getElem hi
        have := foC_eq (h _ (List.getElem_mem hi)) (h2 i _ hc) (h4 i _ hc)
        simpa [a, b] using this
  · have : foC s = true := by cases s <;> first | exact h | exact absurd ⟨_, rfl⟩ ha
    exact foC_eq this hu hv

structure Kept (w : World) (B : List Own) (w' : World) : Prop where
  os : w'.os = w.os
  tape : w'.tape = w.tape
  output : w'.output = w.output
  size : w.heap.size ≤ w'.heap.size
  block : ∀ b, b < w.heap.size → ¬ owns B b → w'.heap[b]? = w.heap[b]?
theorem Kept.refl (w : World) (B : List Own) : Kept w B w := ⟨rfl, rfl, rfl, Nat.le_refl _, fun _ _ _ => rfl⟩
def roB : List Bool → List Own → List Own
  | [], _ => []
  | _ :: _, [] => []
  | false :: r, o :: B => o :: roB r B
  | true :: r, _ :: B => .gone :: roB r B
def rwB : List Bool → List Own → List Own
  | [], B => B
  | _ :: _, [] => []
  | false :: r, _ :: B => .gone :: rwB r B
  | true :: r, o :: B => o :: rwB r B
def mrB : List Bool → List Own → List Own → List Own
  | [], _, N => N
  | _ :: _, _, [] => []
  | _ :: _, [], n :: N => n :: N
  | false :: r, o :: B, _ :: N => o :: mrB r B N
  | true :: r, _ :: B, n :: N => n :: mrB r B N
def ronly (ws : List Bool) (i : Nat) : Bool := ws[i]? == some false
theorem roB_get : ∀ (ws : List Bool) (B : List Own) (i : Nat), getD' (roB ws B) i = if ronly ws i = true then getD' B i else .gone
  | [], B, i => by simp [roB, ronly, getD']
  | _ :: _, [], i => by simp [roB, getD']
  | false :: r, o :: B, i => by
    cases i with
    | zero => simp [roB, ronly, getD']
    | succ i => exact roB_get r B i
  | true :: r, o :: B, i => by
    cases i with
    | zero => simp [roB, ronly, getD']
    | succ i => exact roB_get r B i
theorem rwB_get : ∀ (ws : List Bool) (B : List Own) (i : Nat), getD' (rwB ws B) i = if ronly ws i = true then .gone else getD' B i
  | [], B, i => by simp [rwB, ronly]
  | _ :: _, [], i => by simp [rwB, getD']
  | false :: r, o :: B, i => by
    cases i with
    | zero => simp [rwB, ronly, getD']
    | succ i => exact rwB_get r B i
  | true :: r, o :: B, i => by
    cases i with
    | zero => simp [rwB, ronly, getD']
    | succ i => exact rwB_get r B i
theorem mrB_get : ∀ (ws : List Bool) (B N : List Own) (i : Nat), getD' (mrB ws B N) i = if ronly ws i = true ∧ i < B.length ∧ i < N.length then getD' B i else getD' N i
  | [], B, N, i => by simp [mrB, ronly]
  | _ :: _, B, [], i => by simp [mrB]
  | _ :: _, [], _ :: _, i => by simp [mrB]
  | false :: r, o :: B, n :: N, i => by
    cases i with
    | zero => simp [mrB, ronly, getD']
    | succ i =>
      have e1 : ∀ b, (ronly (b :: r) (i + 1) = true ∧ i + 1 < (o :: B).length ∧ i + 1 < (n :: N).length) ↔ (ronly r i = true ∧ i < B.length ∧ i < N.length) := fun b => by simp [ronly]
      simp only [e1]
      exact mrB_get r B N i
  | true :: r, o :: B, n :: N, i => by
    cases i with
    | zero => simp [mrB, ronly, getD']
    | succ i =>
      have e1 : ∀ b, (ronly (b :: r) (i + 1) = true ∧ i + 1 < (o :: B).length ∧ i + 1 < (n :: N).length) ↔ (ronly r i = true ∧ i < B.length ∧ i < N.length) := fun b => by simp [ronly]
      simp only [e1]
      exact mrB_get r B N i
theorem owns_rw {ws : List Bool} {B : List Own} {b : Nat} (h : owns (rwB ws B) b) : owns B b := by
  obtain ⟨i, hi⟩ := h
  rw [rwB_get] at hi
  split at hi
  · simp [Own.blocks] at hi
  · exact ⟨i, hi⟩
theorem Sat.sub {X : Nat → Prop} {w : World} {B B' : List Own} (hs : Sat X w B) (h : ∀ i, getD' B' i = getD' B i ∨ getD' B' i = .gone) : Sat X w B' := by
  have hb : ∀ i b, b ∈ (getD' B' i).blocks → b ∈ (getD' B i).blocks := fun i b hb => by
    rcases h i with e | e
    · rwa [e] at hb
    · rw [e] at hb; simp [Own.blocks] at hb
  refine ⟨fun i j b h1 h2 => hs.inj i j b (hb i b h1) (hb j b h2), fun i b h1 => hs.lt i b (hb i b h1), hs.xg, fun b hx ⟨i, hi⟩ => hs.apart b hx ⟨i, hb i b hi⟩, fun i => ?_⟩
  rcases h i with e | e
  · rw [e]; exact hs.ok i
  · rw [e]; trivial
theorem Sat.rw {X : Nat → Prop} {w : World} {B : List Own} (hs : Sat X w B) (ws : List Bool) : Sat X w (rwB ws B) := hs.sub fun i => by
  rw [rwB_get]; split
  · exact .inr rfl
  · exact .inl rfl
theorem Sat.merge {X X' : Nat → Prop} {w w' : World} {B N : List Own} {ws : List Bool} (hs : Sat X w B) (hn : Sat X' w' N) (he : Ext X w (rwB ws B) X' w' N) : Sat X' w' (mrB ws B N) ∧ Ext X w B X' w' (mrB ws B N) := by
  have old : ∀ i b, ronly ws i = true → b ∈ (getD' B i).blocks → ¬ owns (rwB ws B) b := by
    rintro i b hi hb ⟨j, hj⟩
    rw [rwB_get] at hj
    split at hj
    · simp [Own.blocks] at hj
    · rename_i hne
      have := hs.inj i j b hb hj
      subst this
      exact hne hi
  have oldN : ∀ i b, ronly ws i = true → b ∈ (getD' B i).blocks → ¬ owns N b := fun i b hi hb ho => by
    rcases he.own b ho with h | h
    · exact old i b hi hb h
    · have := hs.lt i b hb; omega
  have cases : ∀ i, (ronly ws i = true ∧ getD' (mrB ws B N) i = getD' B i) ∨ getD' (mrB ws B N) i = getD' N i := fun i => by
    rw [mrB_get]; split
    · rename_i h; exact .inl ⟨h.1, rfl⟩
    · exact .inr rfl
  refine ⟨⟨fun i j b h1 h2 => ?_, fun i b h1 => ?_, hn.xg, fun b hx ⟨i, hi⟩ => ?_, fun i => ?_⟩, ⟨he.os, he.tape, he.output, he.size, fun b hb hno => he.block b hb fun h => hno (owns_rw h), he.xin, fun b hb => (he.xout b hb).imp_right fun h => h.imp_left owns_rw, fun b hb => ?_⟩⟩
  · rcases cases i with ⟨ri, ei⟩ | ei <;> rcases cases j with ⟨rj, ej⟩ | ej <;> rw [ei] at h1 <;> rw [ej] at h2
    · exact hs.inj i j b h1 h2
    · exact absurd ⟨j, h2⟩ (oldN i b ri h1)
    · exact absurd ⟨i, h1⟩ (oldN j b rj h2)
    · exact hn.inj i j b h1 h2
  · rcases cases i with ⟨_, ei⟩ | ei <;> rw [ei] at h1
    · exact Nat.lt_of_lt_of_le (hs.lt i b h1) he.size
    · exact hn.lt i b h1
  · rcases cases i with ⟨ri, ei⟩ | ei <;> rw [ei] at hi
    · rcases he.xout b hx with h | h | h
      · exact hs.apart b h ⟨i, hi⟩
      · exact old i b ri hi h
      · have := hs.lt i b hi; omega
    · exact hn.apart b hx ⟨i, hi⟩
  · rcases cases i with ⟨ri, ei⟩ | ei <;> rw [ei]
    · exact Own.ok_mono (hs.ok i) he.xin (fun b hb => he.block b (hs.xlt b hb) fun h => hs.apart b hb (owns_rw h)) fun b hb => he.block b (hs.lt i b hb) (old i b ri hb)
    · exact hn.ok i
  · obtain ⟨i, hi⟩ := hb
    rcases cases i with ⟨_, ei⟩ | ei <;> rw [ei] at hi
    · exact .inl ⟨i, hi⟩
    · exact (he.own b ⟨i, hi⟩).imp_left owns_rw
section
variable {P : Program} {E : Env} {X : Nat → Prop} {w : World} {B : List Own}
theorem Kept.den {w' : World} (hk : Kept w B w') (hs : Sat X w B) {s : SV} {v : Value} (h : Den X w s v) : Den X w' s v :=
  h.mono (fun _ h => h) fun b hb => hk.block b (hs.xlt b hb) (hs.apart b hb)
theorem Kept.sat {w' : World} (hk : Kept w B w') (hs : Sat X w B) : Sat X w' [] :=
  ⟨fun i j b hi => by simp [getD', Own.blocks] at hi, fun i b hi => by simp [getD', Own.blocks] at hi, hs.xg.mono (fun _ h => h) (fun b hb => hk.block b (hs.xlt b hb) (hs.apart b hb)) fun b hb => Nat.lt_of_lt_of_le (hs.xlt b hb) hk.size, fun b _ ⟨i, hi⟩ => by simp [getD', Own.blocks] at hi, fun i => by simp [getD', Own.ok]⟩
theorem Kept.ext {X' : Nat → Prop} {w' : World} {B' : List Own} (h : Ext X w B X' w' B') : Kept w B w' := ⟨h.os, h.tape, h.output, h.size, h.block⟩
theorem Kept.trans {X' : Nat → Prop} {w1 w2 : World} {B1 : List Own} (h : Ext X w B X' w1 B1) (k : Kept w1 B1 w2) : Kept w B w2 :=
  ⟨k.os.trans h.os, k.tape.trans h.tape, k.output.trans h.output, Nat.le_trans h.size k.size, fun b hb hn => by
    rw [k.block b (Nat.lt_of_lt_of_le hb h.size) fun ho => (h.own b ho).elim hn fun h => by omega, h.block b hb hn]⟩

theorem Kept.ro {ws : List Bool} {w' : World} (hk : Kept w (rwB ws B) w') (hs : Sat X w B) : Sat X w' (roB ws B) ∧ (∀ b, X b ∨ owns (roB ws B) b → w'.heap[b]? = w.heap[b]?) := by
  have hb : ∀ b, X b ∨ owns (roB ws B) b → w'.heap[b]? = w.heap[b]? := by
    rintro b (h | ⟨i, hi⟩)
    · exact hk.block b (hs.xlt b h) fun ho => hs.apart b h (owns_rw ho)
    · rw [roB_get] at hi
      split at hi
      · rename_i hr
        refine hk.block b (hs.lt i b hi) ?_
        rintro ⟨j, hj⟩
        rw [rwB_get] at hj
        split at hj
        · simp [Own.blocks] at hj
        · rename_i hne
          have := hs.inj i j b hi hj
          subst this
          exact hne hr
      · simp [Own.blocks] at hi
  have h0 : Sat X w (roB ws B) := hs.sub fun i => by
    rw [roB_get]; split
    · exact .inl rfl
    · exact .inr rfl
  refine ⟨⟨h0.inj, fun i b h => Nat.lt_of_lt_of_le (h0.lt i b h) hk.size, hs.xg.mono (fun _ h => h) (fun x hx => hb x (.inl hx)) fun b h => Nat.lt_of_lt_of_le (hs.xlt b h) hk.size, h0.apart, fun i => ?_⟩, hb⟩
  exact Own.ok_mono (h0.ok i) (fun _ h => h) (fun b h => hb b (.inl h)) fun b h => hb b (.inr ⟨i, h⟩)
theorem Kept.denW {ws : List Bool} {w' : World} (hk : Kept w (rwB ws B) w') (hs : Sat X w B) {s : SV} {v : Value} (h : Den X w s v) : Den X w' s v :=
  h.mono (fun _ h => h) fun b hb => (hk.ro hs).2 b (.inl hb)
def Uni (P : Program) (X : Nat → Prop) (w : World) (B : List Own) (s : Sem Next) (sv : SV) : Prop :=
  ∃ v, Den X w sv v ∧ ∀ w', Kept w B w' → s.run P w' = .ok (.value v) w'
theorem uni_fo {s : Sem Next} {sv : SV} (hf : fo sv = true) (h : ∀ w', Kept w B w' → ∃ u, s.run P w' = .ok (.value u) w' ∧ Den X w' sv u) : Uni P X w B s sv := by
  obtain ⟨v, _, h2⟩ := h w (Kept.refl w B)
  refine ⟨v, h2, fun w' hk => ?_⟩
  obtain ⟨u, h3, h4⟩ := h w' hk
  rw [fo_eq hf h2 h4]; exact h3

def pureOp (o : Op) (sv : SV) : Prop := match o with
  | .move _ => True
  | .assign _ => True
  | .pick .. => fo sv = true
  | .load .. => True
  | .build .. => True
  | .nilCheck _ => True
  | .binOp _ _ _ y _ => fo sv = true ∧ nilOpd y = false
  | .unOp .. => fo sv = true
  | .convert .. => fo sv = true
  | .slice .. => True
  | .fieldAddr .. => True
  | .field .. => True
  | .indexAddr .. => True
  | .index .. => True
  | .extract .. => True
  | .lookup .. => True
  | .call c => match c.callee with
    | .builtin .len => fo sv = true
    | _ => False
  | _ => False

theorem pure_uni (hE : EnvOK P E) {st : Bool} {t : List (Nat × SV)} {ρ : Operand → Value} {o : Oper} {ws : List Bool} (hs : Sat X w B) (h0 : ∀ x, Den X w (ev t x) (ρ x)) (hk : ∀ v, ρ (.const v) = v) (hd : ∀ x ∈ o.op.operands.toList, Den X w (evS st t x) (ρ x))
    (hp : pureOp o.op (evOp E st (.void none) t (roB ws B) o.op).v) (hc : (evOp E st (.void none) t (roB ws B) o.op).vc) : Uni P X w (rwB ws B) (execOp ρ o) (evOp E st (.void none) t (roB ws B) o.op).v := by
  obtain ⟨dst, op, type, pos, after, guard⟩ := o
  simp only at hd hp hc ⊢
  cases op <;> try (simp only [pureOp] at hp; done)
  case move x => exact ⟨_, hd x (by simp [Op.operands]), fun w' _ => rfl⟩
  case assign x => exact ⟨_, hd x (by simp [Op.operands]), fun w' _ => rfl⟩
  case pick c a b =>
    refine uni_fo hp fun w' hk => ?_
    obtain ⟨r, h1, h2, h3⟩ := pick_sound (P := P) (hk.denW hs (h0 c)) (hk.denW hs (h0 a)) (hk.denW hs (h0 b)) hc
    exact ⟨_, by simpa [execOp] using h1, h2⟩
  case load T x =>
    have hb : E.ty T ≠ .bad := fun e => by simp [evOp, evLoadT, e, bad] at hc
    have e1 : evLoadT (E.ty T) (roB ws B) (evS st t x) = evLoad (E.ty T).agg (E.ty T).size (roB ws B) (evS st t x) := by
      cases h : E.ty T <;> first | rfl | exact absurd h hb
    simp only [evOp, e1] at hc hp ⊢
    obtain ⟨u, r1, r2, r3⟩ := load_uni (hE.ty T) hb ((Kept.refl w (rwB ws B)).ro hs).1 (hd x (by simp [Op.operands])) hc
    exact ⟨u, r2, fun w' hk => by simpa [execOp] using run_v (r1 w' (hk.ro hs).2)⟩
  case build T ps =>
    simp only [evOp] at hc ⊢
    obtain ⟨hz, hc⟩ := hc
    have hpl : ∀ (l : List (Nat × Operand)), (evP st t l).length = l.length := by
      intro l
      induction l with
      | nil => rfl
      | cons x l ih => obtain ⟨i, x⟩ := x; simp [evP, ih]
    have hpd : ∀ (l : List (Nat × Operand)), (∀ x ∈ l.map (·.2), Den X w (evS st t x) (ρ x)) → ∀ (i : Nat) (p : Nat × SV) (q : Nat × Value), (evP st t l)[i]? = some p → (l.map fun (i, x) => (i, ρ x))[i]? = some q → p.1 = q.1 ∧ Den X w p.2 q.2 := by
      intro l
      induction l with
      | nil => intro _ i p q h; simp [evP] at h
      | cons x l ih =>
        obtain ⟨j, x⟩ := x
        intro hl i p q hp hq
        cases i with
        | zero => simp [evP] at hp hq; subst hp hq; exact ⟨rfl, hl x (by simp)⟩
        | succ i => exact ih (fun y hy => hl y (by simp at hy ⊢; exact .inr hy)) i p q (by simpa [evP] using hp) (by simpa using hq)
    obtain ⟨u, r1, r2, r3⟩ := build_sound (hE.ty T) (hE.zr T hz) (vs := ps.map fun (i, x) => (i, ρ x)) (by simp [hpl]) (fun i p q hp hq => hpd ps.toList (fun x hx => hd x (by simpa [Op.operands] using hx)) i p q hp (by simpa using hq)) hc
    exact ⟨u, r2, fun w' _ => by simpa [execOp] using run_v (r1 w')⟩
  case nilCheck x =>
    have hx := hd x (by simp [Op.operands])
    simp only [evOp] at hc ⊢
    refine ⟨_, hx, fun w' _ => ?_⟩
    simp only [execOp]
    generalize ρ x = v at hx
    generalize evS st t x = s at hx hc
    cases hx <;> simp only [isPtr, Bool.false_eq_true] at hc
    all_goals rfl
  case binOp op T x y T2 =>
    obtain ⟨hp, hy0⟩ := hp
    by_cases hsl : ∃ e a b, E.ty T = .slice e a b
    · obtain ⟨e, a, b, hti⟩ := hsl
      simp only [evOp, hti, evCmp, evNil, hy0, bad] at hc
    by_cases hsp : E.ty T = .ptr
    · have hT : ∃ e, P.underlying T = some (.pointer e) := by have := hE.ty T; rw [hsp] at this; exact tyB_ptr this
      obtain ⟨e, hT⟩ := hT
      refine uni_fo hp fun w' hk' => ?_
      simp only [evOp, hsp, evCmp, evNilP] at hc ⊢
      split at hc
      · rename_i bv hy hb
        obtain ⟨hr, a', hv⟩ := nilP_sound (w := w') hT (hk'.denW hs (hd x (by simp [Op.operands]))) hb
        have hyv : ρ y = .pointer none := by
          unfold nilPOpd at hy
          split at hy
          · exact hk _
          · cases hy
        have hg : (eqGuard op T x y (ρ x) (ρ y)).run P w' = .ok () w' := eqGuard_plain (by rw [hv]; exact ⟨by simp, by simp⟩)
        cases op <;> simp only [evEqB, bad] at hc
        case eql =>
          have h1 : (do eqGuard .eql T x y (ρ x) (ρ y); binOp .eql T (ρ x) (ρ y) : Sem Value).run P w' = .ok (.bool (bv)) w' := by rw [hyv] at hg ⊢; rw [hv] at hg hr ⊢; simp only [Sem.run_bind, hg, Result.andThen_ok, binOp, hr, Sem.run_pure]
          exact ⟨_, by simpa [execOp] using run_v h1, .bool _⟩
        case neq =>
          have h1 : (do eqGuard .neq T x y (ρ x) (ρ y); binOp .neq T (ρ x) (ρ y) : Sem Value).run P w' = .ok (.bool (!bv)) w' := by rw [hyv] at hg ⊢; rw [hv] at hg hr ⊢; simp only [Sem.run_bind, hg, Result.andThen_ok, binOp, hr, Sem.run_pure]
          exact ⟨_, by simpa [execOp] using run_v h1, .bool _⟩
      · exact hc.elim
    have evCmp_bin : ∀ h, evCmp (E.ty T) (E.lv T) op h (roB ws B) (evS st t x) (evS st t y) y = evBin (E.ty T) (E.lv T) op (roB ws B) (evS st t x) (evS st t y) := by
      intro h
      cases hti : E.ty T <;> first | rfl | exact absurd hti hsp | exact absurd ⟨_, _, _, hti⟩ hsl
    simp only [evOp, evCmp_bin] at hp hc ⊢
    refine uni_fo hp fun w' hk => ?_
    obtain ⟨u, r1, r2, r3⟩ := bin_sound (x := x) (y := y) (hE.ty T) (hE.lv T) (hk.denW hs (hd x (by simp [Op.operands]))) (hk.denW hs (hd y (by simp [Op.operands]))) hc
    exact ⟨u, by simpa [execOp] using run_v r1, r2⟩
  case unOp op T x =>
    refine uni_fo hp fun w' hk => ?_
    obtain ⟨u, r1, r2, r3⟩ := un_sound (P := P) (hk.denW hs (hd x (by simp [Op.operands]))) hc
    exact ⟨u, by simpa [execOp] using run_v r1, r2⟩
  case convert s d x =>
    have hb : E.ty s ≠ .bad := fun e => by simp [evOp, e, bad] at hc
    have e1 : (evOp E st (.void none) t (roB ws B) (.convert s d x)) = evConvert (E.ty s) (elemTy E (E.ty s)) (E.ty d) (roB ws B) (evS st t x) := by
      simp only [evOp]
    rw [e1] at hc ⊢
    rw [e1] at hp
    refine uni_fo hp fun w' hk => ?_
    obtain ⟨u, r1, r2, r3⟩ := convert_sound (hE.ty s) (fun e esz eb he => by rw [he]; exact hE.ty e) (hE.ty d) (hk.ro hs).1 (hk.denW hs (hd x (by simp [Op.operands]))) hc hb
    exact ⟨u, by simpa [execOp] using run_v r1, r2⟩
  case fieldAddr T x f =>
    obtain ⟨u, r1, r2, r3⟩ := fieldAddr_sound (hE.ty T) (hd x (by simp [Op.operands])) hc
    exact ⟨u, r2, fun w' _ => by simpa [execOp] using run_v (r1 w')⟩
  case field T x f =>
    obtain ⟨u, r1, r2, r3⟩ := field_sound (hE.ty T) (hd x (by simp [Op.operands])) hc
    exact ⟨u, r2, fun w' _ => by simpa [execOp] using run_v (r1 w')⟩
  case indexAddr T x i =>
    obtain ⟨u, r1, r2, r3⟩ := indexAddr_sound (hE.ty T) (hd x (by simp [Op.operands])) (hd i (by simp [Op.operands])) hc
    exact ⟨u, r2, fun w' _ => by simpa [execOp] using run_v (r1 w')⟩
  case index T x i =>
    obtain ⟨u, r1, r2, r3⟩ := index_sound (hE.ty T) (hd x (by simp [Op.operands])) (hd i (by simp [Op.operands])) hc
    exact ⟨u, r2, fun w' _ => by simpa [execOp] using run_v (r1 w')⟩
  case slice T x lo hi mx =>
    have hopt : ∀ (o : Option Operand), (∀ y, o = some y → Den X w (evS st t y) (ρ y)) → (∀ z, evO st t o = some z → ∃ y, o.map ρ = some y ∧ Den X w z y) ∧ (evO st t o = none → o.map ρ = none) := by
      intro o ho
      cases o with
      | none => exact ⟨fun z h => by simp [evO] at h, fun _ => rfl⟩
      | some y => exact ⟨fun z h => by simp [evO] at h; subst h; exact ⟨_, rfl, ho y rfl⟩, fun h => by simp [evO] at h⟩
    obtain ⟨a1, a2⟩ := hopt lo fun y hy => hd y (by subst hy; simp [Op.operands])
    obtain ⟨b1, b2⟩ := hopt hi fun y hy => hd y (by subst hy; simp [Op.operands])
    obtain ⟨c1, c2⟩ := hopt mx fun y hy => hd y (by subst hy; simp [Op.operands])
    obtain ⟨u, r1, r2, r3⟩ := slice_sound (hE.ty T) ((Kept.refl w (rwB ws B)).ro hs).1 (hd x (by simp [Op.operands])) a1 a2 b1 b2 c1 c2 hc
    exact ⟨u, r2, fun w' _ => by simpa [execOp] using run_v (r1 w')⟩
  case lookup T m k ok =>
    simp only [evOp] at hc ⊢
    obtain ⟨u, r1, r2, r3⟩ := lookup_sound (P := P) (hE.ty T) ((Kept.refl w (rwB ws B)).ro hs).1 (hd m (by simp [Op.operands])) (hd k (by simp [Op.operands])) hc
    exact ⟨u, r2, fun w' hk => by simpa [execOp] using run_v (r1 w' (hk.ro hs).2)⟩
  case extract x i =>
    have hx := hd x (by simp [Op.operands])
    simp only [evOp] at hc ⊢
    generalize evS st t x = s at hx hc ⊢
    generalize hv : ρ x = v at hx
    cases hx <;> try (simp only [evExtract, bad] at hc; done)
    case tup cs vs hsz h =>
      simp only [evExtract] at hc ⊢
      refine ⟨vs.getD i undef, h i _ (get?_of_lt _ hc), fun w' _ => ?_⟩
      simp only [execOp, hv, Instr.extract]
      rw [agetD_of_lt (show i < vs.size by omega)]
      simp
  case call c =>
    obtain ⟨callee, args, tys⟩ := c
    cases callee <;> try (simp only [pureOp] at hp; done)
    case builtin b =>
    cases b <;> try (simp only [pureOp] at hp; done)
    case len =>
    have hargs : ∀ x ∈ args.toList, Den X w (evS st t x) (ρ x) := fun x hx => hd x (by simp [Op.operands, Call.operands]; simpa using hx)
    obtain ⟨args⟩ := args
    obtain ⟨tys⟩ := tys
    have hex : evOp E st (.void none) t (roB ws B) (.call ⟨.builtin .len, args.toArray, tys.toArray⟩) = evBuiltin E st (.void none) t (roB ws B) .len args tys := rfl
    have hrun : ∀ (s : Sem Value) (v : Value) (w' : World) (hb : ∀ cs, builtin .len tys.toArray type cs (args.toArray.map ρ) = (do pure (.value (← s)) : Sem Next)),
        s.run P w' = .ok v w' → (execOp ρ ⟨dst, .call ⟨.builtin .len, args.toArray, tys.toArray⟩, type, pos, after, guard⟩).run P w' = .ok (.value v) w' := by
      intro s v w' hb hr
      simp only [execOp, resolve, Sem.run_bind, Sem.run_pure, Result.andThen_ok, invoke]
      rw [hb]; exact run_v hr
    rw [hex] at hc ⊢
    match args, tys, hargs, hrun with
    | [x], [T], hargs, hrun =>
      have hx := hargs x (by simp)
      simp only [evBuiltin] at hc ⊢
      clear hex hp hd
      generalize evS st t x = sx at *
      generalize hvx : ρ x = vx at hx
      have ht := hE.ty T
      cases hti : E.ty T <;> simp only [hti] at hc ht ⊢ <;> try (simp only [evLen, bad] at hc; done)
      case string =>
        have hu := tyB_string ht
        cases hx <;> try (simp only [evLen, bad] at hc; done)
        refine ⟨_, .int .., fun w' _ => hrun _ _ _ (fun _ => rfl) ?_⟩
        have hsz : ∀ l : List UInt8, (ByteArray.mk l.toArray).size = l.length := fun l => by simp [ByteArray.size]
        simp only [List.map_toArray, List.map_cons, List.map_nil, hvx, Builtin.len_, List.getElem?_toArray, List.getElem?_cons_zero, Sem.run_bind, run_underlying hu, Result.andThen_ok, Sem.run_pure, goInt, hsz]
      case slice e esz eb =>
        obtain ⟨hu, _⟩ := tyB_slice ht
        cases hx <;> try (simp only [evLen, bad] at hc; done)
        all_goals
          refine ⟨_, .int .., fun w' _ => hrun _ _ _ (fun _ => rfl) ?_⟩
          simp [Builtin.len_, hvx, run_underlying hu, goInt]
      case array n a e =>
        obtain ⟨e', hu, _⟩ := tyB_array ht
        refine ⟨_, .int .., fun w' _ => hrun _ _ _ (fun _ => rfl) ?_⟩
        simp [Builtin.len_, run_underlying hu, goInt]
    | [], _, _, _ => simp [evBuiltin, bad] at hc
    | _ :: _ :: _, _, _, _ => simp [evBuiltin, bad] at hc
    | [_], [], _, _ => simp [evBuiltin, bad] at hc
    | [_], _ :: _ :: _, _, _ => simp [evBuiltin, bad] at hc
end
end Go.Lift
end
section
namespace Go.Lift
set_option linter.unusedVariables false
section
variable {P : Program} {E : Env} {n : Nat}

def GoodN (n : Nat) (K : Slots → List Own → Prop) (X0 : Nat → Prop) (w0 : World) (B0 : List Own) : Exit → Act → World → Prop :=
  fun e a w => e = .normal ∧ ∃ X t B, K t B ∧ St X w B t n a ∧ Ext X0 w0 B0 X w B
def hasL (late : List Nat) (listed : Array Bool) : Bool := late.any fun b => listed.getD b false
def wpAnyS (P : Program) (ops : Array Oper) (Q : Exit → Act → World → Prop) (late : List Nat) (S : World → Prop) : Nat → Array Bool → Act → World → Prop
  | 0, listed, a, w => Region.ready .any ops listed = [] ∧ Q .normal a w
  | fuel + 1, listed, a, w => (Region.ready .any ops listed = [] → Q .normal a w) ∧
    ∀ i ∈ Region.ready .any ops listed, wpOp P ops Q i (fun a' w' => (hasL late (listed.setIfInBounds i true) = true ∨ S w') ∧ wpAnyS P ops Q late S fuel (listed.setIfInBounds i true) a' w') a w
theorem wpAny_ofS {ops : Array Oper} {Q : Exit → Act → World → Prop} {late : List Nat} {S : World → Prop} : ∀ (fuel : Nat) (listed : Array Bool) (a : Act) (w : World), wpAnyS P ops Q late S fuel listed a w → wpAny P .any ops Q fuel listed a w
  | 0, _, _, _, h => h
  | fuel + 1, _, _, _, h => ⟨h.1, fun i hi => wpOp_mono (fun _ _ k => wpAny_ofS fuel _ _ _ k.2) (h.2 i hi)⟩
theorem wpAnyS_weak {ops : Array Oper} {Q : Exit → Act → World → Prop} {late : List Nat} {S S' : World → Prop} (h : ∀ w, S w → S' w) : ∀ (fuel : Nat) (listed : Array Bool) (a : Act) (w : World), wpAnyS P ops Q late S fuel listed a w → wpAnyS P ops Q late S' fuel listed a w
  | 0, _, _, _, k => k
  | fuel + 1, _, _, _, k => ⟨k.1, fun i hi => wpOp_mono (fun a' w' h' => ⟨h'.1.imp id (h _), wpAnyS_weak h fuel _ a' w' h'.2⟩) (k.2 i hi)⟩
theorem wpAnyS_late {ops : Array Oper} {Q : Exit → Act → World → Prop} {late : List Nat} {S S' : World → Prop} : ∀ (fuel : Nat) (listed : Array Bool) (a : Act) (w : World), hasL late listed = true → wpAnyS P ops Q late S fuel listed a w → wpAnyS P ops Q late S' fuel listed a w
  | 0, _, _, _, _, k => k
  | fuel + 1, listed, _, _, hl, k => by
    refine ⟨k.1, fun i hi => wpOp_mono (fun a' w' h' => ?_) (k.2 i hi)⟩
    have h1 : hasL late (listed.setIfInBounds i true) = true := by
      simp only [hasL, List.any_eq_true] at hl ⊢
      obtain ⟨b, hb, h⟩ := hl
      exact ⟨b, hb, getD_set_true h⟩
    exact ⟨.inl h1, wpAnyS_late fuel _ a' w' h1 h'.2⟩
theorem hasL_set {late : List Nat} {listed : Array Bool} {i : Nat} (hi : ∀ b ∈ late, b ≠ i) : hasL late (listed.setIfInBounds i true) = hasL late listed := by
  apply Bool.eq_iff_iff.2
  simp only [hasL, List.any_eq_true]
  constructor
  · rintro ⟨b, hb, h⟩
    exact ⟨b, hb, by rw [getD_set_ne false (Ne.symm (hi b hb))] at h; exact h⟩
  · rintro ⟨b, hb, h⟩
    exact ⟨b, hb, getD_set_true h⟩
theorem wpAnyS_first {ops : Array Oper} {Q : Exit → Act → World → Prop} {late : List Nat} {S : World → Prop} {i : Nat} {oi : Oper} {v : Value} (hi : ops[i]? = some oi) (hsel : ∀ (j : Nat) (o : Oper) cs b, ops[j]? = some o → o.op ≠ .select cs b)
    (hQ : ∀ c a w, Q (.panic c) (a.put oi.dst v) w → Q (.panic c) a w) (hne : ∀ b ∈ late, b ≠ i) (hwait : ∀ b ∈ late, ∀ o, ops[b]? = some o → ∃ e ∈ o.after, Region.binds .any e = true ∧ e.on = i) :
    ∀ (fuel : Nat) (listed : Array Bool) (a : Act) (w : World),
      (∀ j oj, ops[j]? = some oj → j ≠ i → listed.getD j true = false → (∀ e ∈ oj.after, Region.binds .any e = true → e.on ≠ i) → oi.apart ops oj = true) →
      i ∈ Region.ready .any ops listed → YieldsIf P ops S oi v a → S w → hasL late listed = false →
      wpAnyS P ops Q late S fuel (listed.setIfInBounds i true) (a.put oi.dst v) w → wpAnyS P ops Q late S (fuel + 1) listed a w := by
  intro fuel
  induction fuel with
  | zero =>
    intro listed a w _ hr hy hS hL H
    refine ⟨fun h => (by rw [h] at hr; cases hr), fun j hj => ?_⟩
    by_cases hji : j = i
    · subst hji; exact hy.wpOp hi hS ⟨.inr hS, H⟩
    · have h1 := ready_mono hj hji
      rw [H.1] at h1
      cases h1
  | succ fuel ih =>
    intro listed a w hfree hr hy hS hL H
    refine ⟨fun h => (by rw [h] at hr; cases hr), fun j hj => ?_⟩
    by_cases hji : j = i
    · subst hji; exact hy.wpOp hi hS ⟨.inr hS, H⟩
    obtain ⟨hun, oj, hoj, hall⟩ := mem_ready.1 hj
    have hni := (mem_ready.1 hr).1
    have hfi : listed.getD i false = false := by
      rcases Nat.lt_or_ge i listed.size with h' | h'
      · simp [h'] at hni ⊢; exact hni
      · simp [Array.getElem?_eq_none h']
    have hno : ∀ e ∈ oj.after, Region.binds .any e = true → e.on ≠ i := fun e he hb heq => by
      have := hall e he hb
      rw [heq, hfi] at this
      cases this
    have hjl : ∀ b ∈ late, b ≠ j := fun b hb heq => by
      subst heq
      obtain ⟨e, he, hb1, hb2⟩ := hwait b hb oj hoj
      exact hno e he hb1 hb2
    have k1 := wpOp_putIf hoj (hfree j oj hoj hji hun hno) (fun cs b => hsel i oi cs b hi) (fun cs b => hsel j oj cs b hoj) hQ hy (H.2 j (ready_mono hj hji))
    have hL' : hasL late (listed.setIfInBounds j true) = false := by rw [hasL_set hjl]; exact hL
    refine wpOp_mono (fun a' w' k => ?_) k1
    obtain ⟨ky, ks, kw⟩ := k
    have hS' : S w' := by
      rcases ks with ks | ks
      · rw [hasL_set hjl, hasL_set hne, hL] at ks; cases ks
      · exact ks
    refine ⟨.inr hS', ih _ a' w' (fun k ok hk hki hkun hkno => hfree k ok hk hki ?_ hkno) (ready_mono hr (Ne.symm hji)) ky hS' hL' ?_⟩
    · by_cases hjk : j = k
      · subst hjk; exact hun
      · rw [getD_set_ne true hjk] at hkun; exact hkun
    · rw [Array.setIfInBounds_comm _ _ hji]; exact kw
theorem wpAnyS_all {ops : Array Oper} {Q : Exit → Act → World → Prop} {late : List Nat} {S : World → Prop} {rs : List Nat} {fuel : Nat} {listed : Array Bool} {a : Act} {w : World} (hr : Region.ready .any ops listed = rs) (hne : rs ≠ [])
    (h : ∀ i ∈ rs, wpOp P ops Q i (fun a' w' => (hasL late (listed.setIfInBounds i true) = true ∨ S w') ∧ wpAnyS P ops Q late S fuel (listed.setIfInBounds i true) a' w') a w) : wpAnyS P ops Q late S (fuel + 1) listed a w :=
  ⟨fun h0 => absurd (hr ▸ h0) hne, hr ▸ h⟩
theorem wpAnyS_done {ops : Array Oper} {Q : Exit → Act → World → Prop} {late : List Nat} {S : World → Prop} {listed : Array Bool} {a : Act} {w : World} (hr : Region.ready .any ops listed = []) (h : Q .normal a w) : ∀ fuel, wpAnyS P ops Q late S fuel listed a w
  | 0 => ⟨hr, h⟩
  | _ + 1 => ⟨fun _ => h, by rw [hr]; simp⟩

theorem owns_mr {ws : List Bool} {B N : List Own} {b : Nat} (hb : owns (rwB ws (mrB ws B N)) b) : owns N b := by
  obtain ⟨i, hi⟩ := hb
  rw [rwB_get] at hi
  split at hi
  · simp [Own.blocks] at hi
  · rename_i hne
    rw [mrB_get, if_neg fun h => hne h.1] at hi
    exact ⟨i, hi⟩
theorem Kept.transW {X X' : Nat → Prop} {w w1 w2 : World} {B B1 B2 : List Own} (h : Ext X w B X' w1 B1) (hb : ∀ b, owns B2 b → owns B1 b) (k : Kept w1 B2 w2) : Kept w B w2 :=
  ⟨k.os.trans h.os, k.tape.trans h.tape, k.output.trans h.output, Nat.le_trans h.size k.size, fun b hl hn => by
    rw [k.block b (Nat.lt_of_lt_of_le hl h.size) fun ho => (h.own b (hb b ho)).elim hn fun h => by omega, h.block b hl hn]⟩
def ED (P : Program) (n : Nat) (ops : Array Oper) (late : List Nat) (ws : List Bool) (t : Slots) (B : List Own) (K : Slots → List Own → Prop) (fuel : Nat) (listed : Array Bool) : Prop :=
  ∀ X0 w0 B0 X w a, Ext X0 w0 B0 X w B → St X w B t n a → wpAnyS P ops (GoodN n K X0 w0 B0) late (Kept w (rwB ws B)) fuel listed a w
variable {late : List Nat} {ws : List Bool} {ops : Array Oper} {t : Slots} {B : List Own} {K : Slots → List Own → Prop} {fuel : Nat} {listed : Array Bool}
theorem ED_done (hr : Region.ready .any ops listed = []) (h : K t B) : ED P n ops late ws t B K fuel listed :=
  fun X0 w0 B0 X w a he hs => wpAnyS_done hr ⟨rfl, X, t, B, h, hs, he⟩ fuel
theorem St.put {X : Nat → Prop} {w : World} {a : Act} {d : Option Nat} {s : SV} {v : Value} (hs : St X w B t n a) (hd : Den X w s v) : St X w B (setT n t d s) n (a.put d v) := by
  refine ⟨?_, hs.sat, denT_put hs.den hd⟩
  have := hs.defers; cases d <;> simpa [Act.put] using this
theorem ED_take {i : Nat} {o : Oper} {sv : SV} (hi : ops[i]? = some o) (hs : Region.noSelect ops = true) (hf : Region.free .any ops listed i = true) (hr : (Region.ready .any ops listed).contains i = true)
    (hL : hasL late listed = false) (hne : ∀ b ∈ late, b ≠ i) (hwait : ∀ b ∈ late, ∀ o, ops[b]? = some o → ∃ e ∈ o.after, Region.binds .any e = true ∧ e.on = i)
    (hu : ∀ X w a, St X w B t n a → ∃ v, YieldsIf P ops (Kept w (rwB ws B)) o v a ∧ Den X w sv v) (h : ED P n ops late ws (setT n t o.dst sv) B K fuel (listed.setIfInBounds i true)) : ED P n ops late ws t B K (fuel + 1) listed := by
  intro X0 w0 B0 X w a he hst
  obtain ⟨v, hy, hd⟩ := hu X w a hst
  exact wpAnyS_first hi (Region.noSelect_spec hs) (fun c a w h => by cases h.1) hne hwait fuel listed a w (Region.free_spec hi hf) (by simpa using hr) hy (Kept.refl w (rwB ws B)) hL (h X0 w0 B0 X w _ he (hst.put hd))
theorem ED_call {i : Nat} {o : Oper} {f : FuncId} {args : List SV} (hi : ops[i]? = some o) (hr : Region.ready .any ops listed = [i]) (hw : ∀ X w a, St X w B t n a → Region.wanted o (yielded ops a.tmps) = true)
    (hrun : ∀ X w a, St X w B t n a → ∃ vals, (execOp a.eval o).run P w = .ok (.enter f vals) w ∧ DenL X w args vals)
    (h : EC P f args (rwB ws B) fun s B' => ED P n ops late ws (setT n t o.dst s) (mrB ws B B') K fuel (listed.setIfInBounds i true)) : ED P n ops late ws t B K (fuel + 1) listed := by
  intro X0 w0 B0 X w a he hs
  refine wpAnyS_all hr (by simp) fun j hj => ?_
  simp only [List.mem_singleton] at hj
  subst hj
  unfold wpOp
  simp only [hi]
  rw [if_pos (hw X w a hs)]
  left
  obtain ⟨vals, h1, h2⟩ := hrun X w a hs
  unfold Oper.wp
  rw [h1]
  simp only [Oper.upon]
  refine (h.2 X w vals (hs.sat.rw ws) h2).mono ?_
  rintro e w' ⟨v, s, X', B', rfl, hK, hsat0, hden, hext0⟩
  simp only
  obtain ⟨hsat, hext⟩ := hs.sat.merge hsat0 hext0
  have hst : St X' w' (mrB ws B B') (setT n t o.dst s) n (a.put o.dst v) := by
    refine ⟨?_, hsat, ?_⟩
    · have := hs.defers; cases o.dst <;> simpa [Act.put] using this
    · exact denT_put ⟨hs.den.1, fun i => (hs.den.2 i).ext hs.sat hext⟩ hden
  exact ⟨.inr (Kept.ext hext0), wpAnyS_weak (fun w'' hk => Kept.transW hext0 (fun b hb => owns_mr hb) hk) _ _ _ _ (hK X0 w0 B0 X' w' _ (he.trans hext) hst)⟩
theorem ED_mem {i : Nat} {o : Oper} {out : RowH → Out} (hi : ops[i]? = some o) (hr : Region.ready .any ops listed = [i]) (hw : ∀ X w a, St X w B t n a → Region.wanted o (yielded ops a.tmps) = true)
    (hu : ∀ X w a, St X w B t n a → ∃ h, (out h).vc → Done P X w (rwB ws B) (execOp a.eval o) (out h)) (hh : ∀ h, (out h).vc ∧ ED P n ops late ws (setT n t o.dst (out h).v) (mrB ws B (out h).B) K fuel (listed.setIfInBounds i true)) : ED P n ops late ws t B K (fuel + 1) listed := by
  intro X0 w0 B0 X w a he hs
  refine wpAnyS_all hr (by simp) fun j hj => ?_
  simp only [List.mem_singleton] at hj
  subst hj
  unfold wpOp
  simp only [hi]
  rw [if_pos (hw X w a hs)]
  left
  obtain ⟨hd, hu⟩ := hu X w a hs
  obtain ⟨hvc, h⟩ := hh hd
  obtain ⟨v, w', h1, hsat0, hden, hext0⟩ := hu hvc
  obtain ⟨hsat, hext⟩ := hs.sat.merge hsat0 hext0
  have hst : St X w' (mrB ws B (out hd).B) (setT n t o.dst (out hd).v) n (a.put o.dst v) := by
    refine ⟨?_, hsat, ?_⟩
    · have := hs.defers; cases o.dst <;> simpa [Act.put] using this
    · exact denT_put ⟨hs.den.1, fun i => (hs.den.2 i).ext hs.sat hext⟩ hden
  have key : (hasL late (listed.setIfInBounds j true) = true ∨ Kept w (rwB ws B) w') ∧ wpAnyS P ops (GoodN n K X0 w0 B0) late (Kept w (rwB ws B)) fuel (listed.setIfInBounds j true) (a.put o.dst v) w' :=
    ⟨.inr (Kept.ext hext0), wpAnyS_weak (fun w'' hk => Kept.transW hext0 (fun b hb => owns_mr hb) hk) _ _ _ _ (h X0 w0 B0 X w' _ (he.trans hext) hst)⟩
  unfold Oper.wp
  rcases h1 with h1 | ⟨h1, rfl⟩
  · rw [h1]; simp only [Oper.upon]; exact key
  · rw [h1]; simp only [Oper.upon]; exact key
theorem ED_lcall {i : Nat} {o : Oper} {f : FuncId} {args : List SV} (hi : ops[i]? = some o) (hr : Region.ready .any ops listed = [i]) (hl : hasL late (listed.setIfInBounds i true) = true) (hw : ∀ X w a, St X w B t n a → Region.wanted o (yielded ops a.tmps) = true)
    (hrun : ∀ X w a, St X w B t n a → ∃ vals, (execOp a.eval o).run P w = .ok (.enter f vals) w ∧ DenL X w args vals)
    (h : EC P f args B fun s B' => ED P n ops late ws (setT n t o.dst s) B' K fuel (listed.setIfInBounds i true)) : ED P n ops late ws t B K (fuel + 1) listed := by
  intro X0 w0 B0 X w a he hs
  refine wpAnyS_all hr (by simp) fun j hj => ?_
  simp only [List.mem_singleton] at hj
  subst hj
  unfold wpOp
  simp only [hi]
  rw [if_pos (hw X w a hs)]
  left
  obtain ⟨vals, h1, h2⟩ := hrun X w a hs
  unfold Oper.wp
  rw [h1]
  simp only [Oper.upon]
  refine (h.2 X w vals hs.sat h2).mono ?_
  rintro e w' ⟨v, s, X', B', rfl, hK, hsat, hden, hext⟩
  simp only
  have hst : St X' w' B' (setT n t o.dst s) n (a.put o.dst v) := by
    refine ⟨?_, hsat, ?_⟩
    · have := hs.defers; cases o.dst <;> simpa [Act.put] using this
    · exact denT_put ⟨hs.den.1, fun i => (hs.den.2 i).ext hs.sat hext⟩ hden
  exact ⟨.inl hl, wpAnyS_late _ _ _ _ hl (hK X0 w0 B0 X' w' _ (he.trans hext) hst)⟩
theorem ED_lmem {i : Nat} {o : Oper} {out : RowH → Out} (hi : ops[i]? = some o) (hr : Region.ready .any ops listed = [i]) (hl : hasL late (listed.setIfInBounds i true) = true) (hw : ∀ X w a, St X w B t n a → Region.wanted o (yielded ops a.tmps) = true)
    (hu : ∀ X w a, St X w B t n a → ∃ h, (out h).vc → Done P X w B (execOp a.eval o) (out h)) (hh : ∀ h, (out h).vc ∧ ED P n ops late ws (setT n t o.dst (out h).v) (out h).B K fuel (listed.setIfInBounds i true)) : ED P n ops late ws t B K (fuel + 1) listed := by
  intro X0 w0 B0 X w a he hs
  refine wpAnyS_all hr (by simp) fun j hj => ?_
  simp only [List.mem_singleton] at hj
  subst hj
  unfold wpOp
  simp only [hi]
  rw [if_pos (hw X w a hs)]
  left
  obtain ⟨hd, hu⟩ := hu X w a hs
  obtain ⟨hvc, h⟩ := hh hd
  obtain ⟨v, w', h1, hsat, hden, hext⟩ := hu hvc
  have hst : St X w' (out hd).B (setT n t o.dst (out hd).v) n (a.put o.dst v) := by
    refine ⟨?_, hsat, ?_⟩
    · have := hs.defers; cases o.dst <;> simpa [Act.put] using this
    · exact denT_put ⟨hs.den.1, fun i => (hs.den.2 i).ext hs.sat hext⟩ hden
  have key := wpAnyS_late (P := P) (S' := Kept w (rwB ws B)) _ _ _ _ hl (h X0 w0 B0 X w' _ (he.trans hext) hst)
  unfold Oper.wp
  rcases h1 with h1 | ⟨h1, rfl⟩
  · rw [h1]; simp only [Oper.upon]; exact ⟨.inl hl, key⟩
  · rw [h1]; simp only [Oper.upon]; exact ⟨.inl hl, key⟩
theorem EV_draw {id : Nat} {Q : Post} (hm : P.follows .mixedOrders = true) (h : ∀ K : Slots → List Own → Prop, (∀ t B, Q .normal t B → K t B) → ED P n ops late ws t B K ops.size (Array.replicate ops.size false)) : EV P n (.region id ops true) t B Q := by
  intro X0 w0 B0 X w a he hs
  have hext : Ext X w B X { w with drawn := w.drawn + 1 } B := ⟨rfl, rfl, rfl, Nat.le_refl _, fun _ _ _ => rfl, fun _ h => h, fun _ h => .inl h, fun _ h => .inl h⟩
  have hs' : St X { w with drawn := w.drawn + 1 } B t n a := ⟨hs.defers, ⟨hs.sat.inj, hs.sat.lt, hs.sat.xg.mono (fun _ h => h) (fun _ _ => rfl) hs.sat.xlt, hs.sat.apart, fun i => Own.ok_mono (hs.sat.ok i) (fun _ h => h) (fun _ _ => rfl) fun _ _ => rfl⟩, hs.den.1, fun i => (hs.den.2 i).ext hs.sat hext⟩
  refine wp_mono (wp_region_any hm (wpAny_ofS _ _ _ _ (h (fun t B => Q .normal t B) (fun _ _ h => h) X0 w0 B0 X _ a (he.trans hext) hs'))) ?_
  rintro e a' w' ⟨rfl, X', t', B', h1, h2, h3⟩
  exact ⟨X', t', B', h1, h2, h3⟩
theorem ED_skip {i : Nat} {o : Oper} {s : SV} (hi : ops[i]? = some o) (hr : Region.ready .any ops listed = [i]) (hw : ∀ X w a, St X w B t n a → Region.wanted o (yielded ops a.tmps) = false)
    (hu : ∀ X w, Den X w s undef) (h : ED P n ops late ws (setT n t o.dst s) B K fuel (listed.setIfInBounds i true)) : ED P n ops late ws t B K (fuel + 1) listed := by
  intro X0 w0 B0 X w a he hs
  refine wpAnyS_all hr (by simp) fun j hj => ?_
  simp only [List.mem_singleton] at hj
  subst hj
  unfold wpOp
  simp only [hi]
  rw [if_neg (by rw [hw X w a hs]; simp)]
  exact ⟨.inr (Kept.refl w _), h X0 w0 B0 X w _ he (hs.put (hu X w))⟩

def isCallOp : Op → Bool
  | .call c => match c.callee with
    | .value _ => true
    | _ => false
  | _ => false
def isMemOp : Op → Bool
  | .store .. | .alloc _ | .box .. | .buildSlice .. | .makeSlice .. | .makeMap .. | .insert .. | .mapUpdate .. => true
  | .call c => match c.callee with
    | .builtin .append | .builtin .copy | .builtin .clear => true
    | _ => false
  | .binOp _ _ _ y _ => nilOpd y
  | _ => false
def inL : List Nat → Nat → Bool
  | [], _ => false
  | a :: r, i => if i = a then true else inL r i
theorem inL_contains : ∀ (l : List Nat) (i : Nat), inL l i = l.contains i
  | [], _ => rfl
  | a :: r, i => by
    simp only [inL, List.contains_cons, inL_contains r i]
    by_cases h : i = a <;> simp [h]
def ordOK (ops : Array Oper) (late : List Nat) : List Nat → Array Bool → Bool
  | [], listed => Region.ready .any ops listed == []
  | i :: r, listed => (match ops[i]? with
    | none => false
    | some o => match isCallOp o.op || isMemOp o.op || late.contains i || hasL late listed with
      | true => Region.ready .any ops listed == [i]
      | false => Region.free .any ops listed i && (Region.ready .any ops listed).contains i && late.all fun b => match ops[b]? with
        | some ob => ob.after.any fun e => Region.binds .any e && e.on == i
        | none => true) && ordOK ops late r (listed.setIfInBounds i true)
def runD (P : Program) (E : Env) (n : Nat) (ops : Array Oper) (late : List Nat) (ws : List Bool) (K : Slots → List Own → Prop) : Bool → List Nat → Slots → List Own → Array Bool → Prop
  | _, [], t, B, _ => K t B
  | b, i :: r, t, B, listed => match ops[i]? with
    | none => False
    | some o => match o.guard with
      | none => match b || inL late i with
        | true => match isCallOp o.op with
          | true => match callOf false t o.op with
            | some (f, args) => EC P f args B fun s B' => ED P n ops late ws (setT n t o.dst s) B' K r.length (listed.setIfInBounds i true)
            | none => False
          | false => ∀ h, match evOp E false h t B o.op with
            | ⟨v, B', c⟩ => c ∧ runD P E n ops late ws K (b || inL late i) r (setT n t o.dst v) B' (listed.setIfInBounds i true)
        | false => match isCallOp o.op with
          | true => match callOf false t o.op with
            | some (f, args) => EC P f args (rwB ws B) fun s B' => ED P n ops late ws (setT n t o.dst s) (mrB ws B B') K r.length (listed.setIfInBounds i true)
            | none => False
          | false => match isMemOp o.op with
            | true => ∀ h, match evOp E false h t (rwB ws B) o.op with
              | ⟨v, B', c⟩ => c ∧ runD P E n ops late ws K (b || inL late i) r (setT n t o.dst v) (mrB ws B B') (listed.setIfInBounds i true)
            | false => match evOp E false (.void none) t (roB ws B) o.op with
              | ⟨v, _, c⟩ => pureOp o.op v ∧ c ∧ runD P E n ops late ws K (b || inL late i) r (setT n t o.dst v) B (listed.setIfInBounds i true)
      | some (j, want) => match b || inL late i with
        | true => False
        | false => match guardOf ops.toList t j want with
          | none => False
          | some c => match isCallOp o.op with
            | true => match callOf true t o.op with
              | some (f, args) => (c = true → condsOk t (opnds o.op)) ∧ (c = true → EC P f args (rwB ws B) fun s B' => ED P n ops late ws (setT n t o.dst s) (mrB ws B B') K r.length (listed.setIfInBounds i true)) ∧
                  (c = false → ED P n ops late ws (setT n t o.dst .any) B K r.length (listed.setIfInBounds i true))
              | none => False
            | false => match isMemOp o.op with
              | true => False
              | false => match evOp E true (.void none) t (roB ws B) o.op with
                | ⟨v, _, vc⟩ => quiet o.op = true ∧ (c = true → condsOk t (opnds o.op) ∧ pureOp o.op v ∧ vc) ∧ runD P E n ops late ws K (b || inL late i) r (setT n t o.dst (.opt c v)) B (listed.setIfInBounds i true)

theorem pure_st (hE : EnvOK P E) {X : Nat → Prop} {w : World} {a : Act} {o : Oper} {st : Bool} (hs : St X w B t n a) (hst : st = true → quiet o.op = true ∧ condsOk t (opnds o.op)) (hp : pureOp o.op (evOp E st (.void none) t (roB ws B) o.op).v)
    (hc : (evOp E st (.void none) t (roB ws B) o.op).vc) : Uni P X w (rwB ws B) (execOp a.eval o) (evOp E st (.void none) t (roB ws B) o.op).v := by
  by_cases hpk : ∃ c x y, o.op = .pick c x y
  · obtain ⟨c, x, y, hpk⟩ := hpk
    rw [hpk] at hc hp ⊢
    refine uni_fo hp fun w' hk => ?_
    obtain ⟨r, h1, h2, h3⟩ := pick_sound (P := P) (hk.denW hs.sat (den_ev hs.sat.xg hs.den c)) (hk.denW hs.sat (den_ev hs.sat.xg hs.den x)) (hk.denW hs.sat (den_ev hs.sat.xg hs.den y)) hc
    exact ⟨r, by simpa [execOp, hpk] using h1, h2⟩
  · refine pure_uni hE hs.sat (fun x => den_ev hs.sat.xg hs.den x) (fun _ => rfl) (fun x hx => ?_) hp hc
    cases st with
    | false => exact den_evS_false hs.sat.xg hs.den x
    | true =>
      obtain ⟨h1, h2⟩ := hst rfl
      rcases quiet_opnds h1 x hx with ⟨c, a', b, e⟩ | h3
      · exact absurd ⟨c, a', b, e⟩ hpk
      · exact den_evS_true hs.sat.xg hs.den h2 x h3
theorem wait_of {ops : Array Oper} {late : List Nat} {i : Nat} (h : (late.all fun b => match ops[b]? with | some ob => ob.after.any fun e => Region.binds .any e && e.on == i | none => true) = true) :
    ∀ b ∈ late, ∀ o, ops[b]? = some o → ∃ e ∈ o.after, Region.binds .any e = true ∧ e.on = i := by
  intro b hb o ho
  have := List.all_eq_true.1 h b hb
  simp only [ho, Array.any_eq_true', Bool.and_eq_true, beq_iff_eq] at this
  exact this
theorem late_ne {late : List Nat} {i : Nat} (h : late.contains i = false) : ∀ b ∈ late, b ≠ i := fun b hb e => by subst e; rw [List.contains_iff_mem.2 hb] at h; cases h
theorem hasL_now {late : List Nat} {listed : Array Bool} {i : Nat} (h : hasL late (listed.setIfInBounds i true) = false) : (late.contains i || hasL late listed) = false ∨ listed.size ≤ i := by
  by_cases hi : i < listed.size
  · left
    have h1 : hasL late listed = false := Bool.eq_false_iff.2 fun h2 => by
      simp only [hasL, List.any_eq_true] at h2
      obtain ⟨b, hb, hh⟩ := h2
      have : hasL late (listed.setIfInBounds i true) = true := by
        simp only [hasL, List.any_eq_true]; exact ⟨b, hb, getD_set_true hh⟩
      rw [h] at this; cases this
    rw [h1, Bool.or_false]
    refine Bool.eq_false_iff.2 fun h2 => ?_
    have : hasL late (listed.setIfInBounds i true) = true := by
      simp only [hasL, List.any_eq_true]
      refine ⟨i, List.contains_iff_mem.1 h2, ?_⟩
      simp [hi]
    rw [h] at this; cases this
  · exact .inr (by omega)
theorem ready_lt {listed : Array Bool} {i : Nat} (h : i ∈ Region.ready .any ops listed) : i < listed.size := by
  have := (mem_ready.1 h).1
  rcases Nat.lt_or_ge i listed.size with h' | h'
  · exact h'
  · simp [Array.getElem?_eq_none h'] at this
theorem ED_run (hE : EnvOK P E) (hns : Region.noSelect ops = true) : ∀ (b : Bool) (ord : List Nat) (t : Slots) (B : List Own) (listed : Array Bool), b = hasL late listed → ordOK ops late ord listed = true → runD P E n ops late ws K b ord t B listed → ED P n ops late ws t B K ord.length listed
  | _, [], t, B, listed, _, ho, h => ED_done (by simpa [ordOK] using ho) h
  | b, i :: r, t, B, listed, hb, ho, h => by
    simp only [ordOK, Bool.and_eq_true] at ho
    obtain ⟨ho, ho2⟩ := ho
    simp only [runD] at h
    cases hi : ops[i]? with
    | none => simp [hi] at h
    | some o =>
      simp only [hi] at h ho
      have hlt : i < listed.size := by
        refine ready_lt (ops := ops) ?_
        split at ho
        · rw [beq_iff_eq.1 ho]; simp
        · simp only [Bool.and_eq_true] at ho
          exact List.contains_iff_mem.1 ho.1.2
      have hset : hasL late (listed.setIfInBounds i true) = (b || inL late i) := by
        rw [hb, inL_contains]
        apply Bool.eq_iff_iff.2
        simp only [hasL, List.any_eq_true, Bool.or_eq_true, List.contains_iff_mem]
        constructor
        · rintro ⟨c, hc, h1⟩
          by_cases e : c = i
          · exact .inr (e ▸ hc)
          · exact .inl ⟨c, hc, by rw [getD_set_ne false (Ne.symm e)] at h1; exact h1⟩
        · rintro (⟨c, hc, h1⟩ | h1)
          · exact ⟨c, hc, getD_set_true h1⟩
          · exact ⟨i, h1, by simp [hlt]⟩
      rw [← hset] at h
      cases hl : hasL late (listed.setIfInBounds i true) with
      | true =>
        cases hg : o.guard with
        | some jw => obtain ⟨j, want⟩ := jw; simp [hg, hl] at h
        | none =>
          have hw : ∀ X w a, St X w B t n a → Region.wanted o (yielded ops a.tmps) = true := fun X w a _ => by simp [Region.wanted, hg]
          have halone : Region.ready .any ops listed = [i] := by
            have hor : (late.contains i || hasL late listed) = true := by
              cases hc : late.contains i with
              | true => rfl
              | false => rw [hasL_set (late_ne hc)] at hl; simpa using hl
            have : (isCallOp o.op || isMemOp o.op || late.contains i || hasL late listed) = true := by rw [Bool.or_assoc, hor, Bool.or_true]
            simp only [this] at ho
            simpa using ho
          simp only [hg, hl] at h
          cases hco : isCallOp o.op with
          | true =>
            simp only [hco] at h
            cases hcall : callOf false t o.op with
            | none => simp [hcall] at h
            | some fa =>
              obtain ⟨f, args⟩ := fa
              simp only [hcall] at h
              exact ED_lcall hi halone hl hw (fun X w a hs => call_run hcall (fun x _ => den_evS_false hs.sat.xg hs.den x) h.1) h
          | false =>
            simp only [hco] at h
            exact ED_lmem hi halone hl hw (out := fun h => evOp E false h t B o.op) (fun X w a hs => evOp_sound' hE hs.sat hs.den (o := o) (st := false) (by simp)) fun hd => ⟨(h hd).1, ED_run hE hns _ r _ _ _ hl.symm ho2 (h hd).2⟩
      | false =>
      cases hg : o.guard with
      | none =>
        have hw : ∀ X w a, St X w B t n a → Region.wanted o (yielded ops a.tmps) = true := fun X w a _ => by simp [Region.wanted, hg]
        simp only [hg, hl] at h
        cases hco : isCallOp o.op with
        | true =>
          simp only [hco, Bool.true_or] at h ho
          cases hcall : callOf false t o.op with
          | none => simp [hcall] at h
          | some fa =>
            obtain ⟨f, args⟩ := fa
            simp only [hcall] at h
            exact ED_call hi (by simpa using ho) hw (fun X w a hs => call_run hcall (fun x _ => den_evS_false hs.sat.xg hs.den x) h.1) h
        | false =>
          simp only [hco, Bool.false_or] at h ho
          cases hmo : isMemOp o.op with
          | true =>
            simp only [hmo, Bool.true_or] at h ho
            exact ED_mem hi (by simpa using ho) hw (out := fun h => evOp E false h t (rwB ws B) o.op) (fun X w a hs => evOp_sound' hE (hs.sat.rw ws) hs.den (o := o) (st := false) (by simp)) fun hd => ⟨(h hd).1, ED_run hE hns _ r _ _ _ hl.symm ho2 (h hd).2⟩
          | false =>
          simp only [hmo, Bool.false_or] at h ho
          obtain ⟨h1, h2, h3⟩ := h
          cases hlc : (late.contains i || hasL late listed) with
          | true =>
            simp only [hlc] at ho
            have hr1 : Region.ready .any ops listed = [i] := by simpa using ho
            rcases hasL_now hl with h4 | h4
            · rw [hlc] at h4; cases h4
            · have := ready_lt (ops := ops) (listed := listed) (i := i) (by rw [hr1]; simp); omega
          | false =>
          simp only [hlc, Bool.and_eq_true] at ho
          simp only [Bool.or_eq_false_iff] at hlc
          refine ED_take hi hns ho.1.1 ho.1.2 hlc.2 (late_ne hlc.1) (wait_of ho.2) (fun X w a hs => ?_) (ED_run hE hns _ r _ _ _ hl.symm ho2 h3)
          obtain ⟨v, hd, hu⟩ := pure_st hE hs (st := false) (by simp) h1 h2
          exact ⟨v, .inl ⟨hw X w a hs, hu⟩, hd⟩
      | some jw =>
        obtain ⟨j, want⟩ := jw
        simp only [hg, hl] at h
        cases hgd : guardOf ops.toList t j want with
        | none => simp [hgd] at h
        | some c =>
          simp only [hgd] at h
          have hwc : ∀ X w a, St X w B t n a → Region.wanted o (yielded ops a.tmps) = c := fun X w a hs => by simpa using guardOf_spec hgd hs.den o hg
          cases hco : isCallOp o.op with
          | true =>
            simp only [hco, Bool.true_or] at h ho
            cases hcall : callOf true t o.op with
            | none => simp [hcall] at h
            | some fa =>
              obtain ⟨f, args⟩ := fa
              simp only [hcall] at h
              obtain ⟨h1, h2, h3⟩ := h
              cases c with
              | true => exact ED_call hi (by simpa using ho) hwc (fun X w a hs => call_run hcall (fun x hx => den_evS_true hs.sat.xg hs.den (h1 rfl) x hx) (h2 rfl).1) (h2 rfl)
              | false => exact ED_skip hi (by simpa using ho) hwc (fun _ _ => .any _) (h3 rfl)
          | false =>
            simp only [hco, Bool.false_or] at h ho
            cases hmo : isMemOp o.op with
            | true => simp [hmo] at h
            | false =>
            simp only [hmo, Bool.false_or] at h ho
            obtain ⟨hq, h1, h3⟩ := h
            cases hlc : (late.contains i || hasL late listed) with
            | true =>
              simp only [hlc] at ho
              have hr1 : Region.ready .any ops listed = [i] := by simpa using ho
              rcases hasL_now hl with h4 | h4
              · rw [hlc] at h4; cases h4
              · have := ready_lt (ops := ops) (listed := listed) (i := i) (by rw [hr1]; simp); omega
            | false =>
            simp only [hlc, Bool.and_eq_true] at ho
            simp only [Bool.or_eq_false_iff] at hlc
            refine ED_take hi hns ho.1.1 ho.1.2 hlc.2 (late_ne hlc.1) (wait_of ho.2) (fun X w a hs => ?_) (ED_run hE hns _ r _ _ _ hl.symm ho2 h3)
            cases c with
            | true =>
              obtain ⟨k1, k2, k3⟩ := h1 rfl
              obtain ⟨v, hd, hu⟩ := pure_st hE hs (st := true) (fun _ => ⟨hq, k1⟩) k2 k3
              exact ⟨v, .inl ⟨hwc X w a hs, hu⟩, .opt (fun _ => hd) fun e => by cases e⟩
            | false => exact ⟨undef, .inr ⟨hwc X w a hs, rfl⟩, .opt (fun e => by cases e) fun _ => rfl⟩
theorem EV_drawn (hE : EnvOK P E) {id : Nat} {Q : Post} (late : List Nat) (ws : List Bool) (ord : List Nat) (hm : P.follows .mixedOrders = true) (hns : Region.noSelect ops = true) (hl : ord.length = ops.size) (ho : ordOK ops late ord (Array.replicate ops.size false) = true)
    (h : ∀ K : Slots → List Own → Prop, (∀ t B, Q .normal t B → K t B) → runD P E n ops late ws K false ord t B (Array.replicate ops.size false)) : EV P n (.region id ops true) t B Q :=
  EV_draw hm fun K hK => by
    have := ED_run hE hns false ord t B _ (by simp [hasL, Array.getD]) ho (h K hK)
    rw [hl] at this
    exact this
end
end Go.Lift
end
section
namespace Go.Lift
def boolC (b : Bool) : List SV := [.bool b]
def strC (s : List UInt8) : List SV := [.str s]
def elt {α : Type} (c : α → List SV) (d : α) (l : List α) (k : Nat) : List SV := c (l.getD k d)
section
variable {α : Type} {c : α → List SV} {d : α} {l : List α}
theorem slL_elt {e : Nat} : slL e c d l = .sl false e l.length (elt c d l) := rfl
theorem elt_at (k : Nat) : elt c d l k = c (l.getD k d) := rfl
theorem range_elt : (List.range l.length).map (elt c d l) = l.map c := rangeD c d l
theorem getD_past {k : Nat} (h : l.length ≤ k) : l.getD k d = d := by simp [List.getD, List.getElem?_eq_none h]
theorem sub_elt {fl : Bool} {e lo hi : Nat} (h : hi ≤ l.length) : SV.sl fl e (hi - lo) (sub (elt c d l) l.length lo (hi - lo)) = .sl fl e ((l.take hi).drop lo).length (elt c d ((l.take hi).drop lo)) := by
  have e1 : ((l.take hi).drop lo).length = hi - lo := by simp; omega
  rw [e1]
  congr 1
  funext k
  simp only [sub, elt]
  split
  · rename_i hk
    congr 1
    simp only [List.getD, List.getElem?_drop, List.getElem?_take]
    rw [if_pos (by omega)]
  · rename_i hk
    rw [getD_past (Nat.le_refl _), getD_past (by rw [e1]; omega)]
theorem sub_elt0 {fl : Bool} {e hi : Nat} (h : hi ≤ l.length) : SV.sl fl e hi (sub (elt c d l) l.length 0 hi) = .sl fl e (l.take hi).length (elt c d (l.take hi)) := by
  have := sub_elt (c := c) (d := d) (fl := fl) (e := e) (lo := 0) h
  simpa using this
theorem sub_eltD {fl : Bool} {e lo : Nat} : SV.sl fl e (l.length - lo) (sub (elt c d l) l.length lo (l.length - lo)) = .sl fl e (l.drop lo).length (elt c d (l.drop lo)) := by
  have e1 : (l.drop lo).length = l.length - lo := by simp
  rw [e1]
  congr 1
  funext k
  simp only [sub, elt]
  split
  · rename_i hk
    congr 1
    simp only [List.getD, List.getElem?_drop]
  · rename_i hk
    rw [getD_past (Nat.le_refl _), getD_past (by rw [e1]; omega)]
theorem sub_elt_all {fl : Bool} {e : Nat} : SV.sl fl e l.length (sub (elt c d l) l.length 0 l.length) = .sl fl e l.length (elt c d l) := by
  have := sub_elt0 (c := c) (d := d) (fl := fl) (e := e) (Nat.le_refl l.length)
  simpa using this
theorem map_set2 (k : Nat) (y : α) : (l.map c).set k (c y) = (l.set k y).map c := by simp
theorem entsOf_mC (k1 k2 : IntKind) (M : List (Int × Int)) : entsOf (M.map (mC k1 k2)) = M := by
  simp only [entsOf, List.map_map]
  induction M with
  | nil => rfl
  | cons a r ih => rw [List.map_cons, ih]; rfl
theorem solids_map (h : ∀ x, solids (c x) = true) : (∀ y, y ∈ l.map c → solids y = true) = True :=
  eq_true fun y hy => by obtain ⟨z, _, rfl⟩ := List.mem_map.1 hy; exact h z
theorem solids_elt (h : ∀ x, solids (c x) = true) (n : Nat) : (∀ k, k < n → solids (elt c d l k) = true) = True := eq_true fun _ _ => h _
end
theorem getD_map2 {α : Type} [Inhabited α] {c : α → List SV} {l : List α} {k : Nat} (h : k < l.length) : (l.map c).getD k [] = c (l.getD k default) := by
  simp [List.getD, h]
theorem map_snocI (k : IntKind) (l : List Int) (x : Int) : l.map (intC k) ++ [[.int k x]] = (l ++ [x]).map (intC k) := by simp [intC]
theorem map_setI (k : IntKind) (l : List Int) (i : Nat) (x : Int) : (l.map (intC k)).set i [.int k x] = (l.set i x).map (intC k) := by simp [intC]
theorem map_snocS (l : List (List UInt8)) (x : List UInt8) : l.map strC ++ [[.str x]] = (l ++ [x]).map strC := by simp [strC]
theorem intC_len (k : IntKind) (x : Int) : (intC k x).length = 1 := rfl
theorem intC_g (k : IntKind) (x : Int) (d : SV) : (intC k x).getD 0 d = .int k x := rfl
theorem intC_p (k : IntKind) (x y : Int) : putL (intC k x) 0 [.int k y] = intC k y := rfl
theorem intC_sol (k : IntKind) (x : Int) : solids (intC k x) = true := rfl
theorem strC_len (x : List UInt8) : (strC x).length = 1 := rfl
theorem strC_g (x : List UInt8) (d : SV) : (strC x).getD 0 d = .str x := rfl
theorem strC_sol (x : List UInt8) : solids (strC x) = true := rfl
theorem boolC_len (x : Bool) : (boolC x).length = 1 := rfl
theorem boolC_g (x : Bool) (d : SV) : (boolC x).getD 0 d = .bool x := rfl
theorem boolC_sol (x : Bool) : solids (boolC x) = true := rfl
theorem bif_and (a b : Bool) : (bif a then b else false) = (a && b) := by cases a <;> rfl
theorem bif_or (a b : Bool) : (bif a then true else b) = (a || b) := by cases a <;> rfl
theorem beq_f (b : Bool) : (b == false) = !b := by cases b <;> rfl
theorem beq_t (b : Bool) : (b == true) = b := by cases b <;> rfl
theorem drop_getD {α : Type} (l : List α) (o j : Nat) (d : α) : (l.drop o).getD j d = l.getD (o + j) d := by simp [List.getD, List.getElem?_drop]
theorem putL_get1 (cs : List SV) (o i : Nat) (v d : SV) : (putL cs o [v]).getD i d = if i = o ∧ o < cs.length then v else cs.getD i d := by
  simp only [putL, List.getD_eq_getElem?_getD, List.getElem?_set]
  by_cases h : o = i
  · subst h
    by_cases h2 : o < cs.length
    · simp [h2]
    · simp [h2]
  · rw [if_neg h, if_neg (by omega)]
theorem putL_getE (ys cs : List SV) (o i : Nat) : (putL cs o ys)[i]? = if o ≤ i ∧ i < o + ys.length ∧ i < cs.length then ys[i - o]? else cs[i]? := by
  induction ys generalizing cs o with
  | nil => simp [putL]; intro h1 h2; omega
  | cons y r ih =>
    simp only [putL, ih, List.length_set, List.length_cons, List.getElem?_set]
    by_cases h : o = i
    · subst h
      rw [if_neg (by omega)]
      by_cases h2 : o < cs.length
      · simp [h2]
      · simp only [h2, if_true, if_false, and_false]
        rw [List.getElem?_eq_none (by omega)]
    · rw [if_neg h]
      by_cases h3 : o + 1 ≤ i ∧ i < o + 1 + r.length ∧ i < cs.length
      · rw [if_pos h3, if_pos (by omega)]
        have : i - o = (i - (o + 1)) + 1 := by omega
        rw [this, List.getElem?_cons_succ]
      · rw [if_neg h3, if_neg (by omega)]
theorem putL_app {cs ys r : List SV} {o : Nat} (h : o + ys.length ≤ cs.length) (e : cs.take o ++ (ys ++ cs.drop (o + ys.length)) = r) : putL cs o ys = r := by
  rw [← e]
  apply List.ext_getElem?
  intro i
  rw [putL_getE]
  by_cases h1 : i < o
  · rw [if_neg (by omega), List.getElem?_append_left (by simp; omega)]
    simp [h1]
  · by_cases h2 : i < o + ys.length
    · rw [if_pos (by omega), List.getElem?_append_right (by simp; omega), List.getElem?_append_left (by simp; omega)]
      congr 1; simp; omega
    · rw [if_neg (by omega), List.getElem?_append_right (by simp; omega), List.getElem?_append_right (by simp; omega)]
      simp only [List.length_take, List.getElem?_drop]
      congr 1; omega
theorem putL_one (a b : SV) : putL [a] 0 [b] = [b] := rfl
theorem putL_same (cs : List SV) (o : Nat) (a b : SV) : putL (putL cs o [a]) o [b] = putL cs o [b] := by simp [putL]
theorem solids_getE : ∀ {l : List SV}, solids l = true ↔ ∀ (i : Nat) (s : SV), l[i]? = some s → s.solid = true
  | [] => by simp [solids]
  | a :: l => by
    simp only [solids, Bool.and_eq_true, solids_getE (l := l)]
    constructor
    · rintro ⟨h1, h2⟩ i s h
      cases i with
      | zero => simp at h; subst h; exact h1
      | succ i => exact h2 i s (by simpa using h)
    · intro h
      exact ⟨h 0 a rfl, fun i s hs => h (i + 1) s (by simpa using hs)⟩
theorem putL_sol (cs ys : List SV) (o : Nat) (h : solids cs = true) (h2 : solids ys = true) : solids (putL cs o ys) = true := by
  rw [solids_getE] at h h2 ⊢
  intro i s hs
  rw [putL_getE] at hs
  split at hs
  · exact h2 _ _ hs
  · exact h _ _ hs
theorem LLe.getE {l l' : List SV} (h : LLe l l') : l.length = l'.length ∧ ∀ (i : Nat) (a b : SV), l[i]? = some a → l'[i]? = some b → SLe a b := by
  induction h with
  | nil => exact ⟨rfl, by simp⟩
  | cons h _ ih =>
    refine ⟨by simp [ih.1], fun i a b ha hb => ?_⟩
    cases i with
    | zero => simp at ha hb; subst ha hb; exact h
    | succ i => exact ih.2 i a b (by simpa using ha) (by simpa using hb)
theorem LLe.ofE : ∀ {l l' : List SV}, l.length = l'.length → (∀ (i : Nat) (a b : SV), l[i]? = some a → l'[i]? = some b → SLe a b) → LLe l l'
  | [], [], _, _ => .nil
  | [], _ :: _, h, _ => by simp at h
  | _ :: _, [], h, _ => by simp at h
  | a :: l, b :: l', h, hh => .cons (hh 0 a b rfl rfl) (LLe.ofE (by simpa using h) fun i a b ha hb => hh (i + 1) a b (by simpa using ha) (by simpa using hb))
theorem LLe.puts {cs ds vs ws r : List SV} (h : LLe cs ds) (j : Nat) (hv : LLe vs ws) (e : putL ds j ws = r) : LLe (putL cs j vs) r := by
  subst e
  obtain ⟨h1, h2⟩ := h.getE
  obtain ⟨h3, h4⟩ := hv.getE
  refine .ofE (by simp [putL_length, h1]) fun i a b ha hb => ?_
  rw [putL_getE] at ha hb
  by_cases hc : j ≤ i ∧ i < j + vs.length ∧ i < cs.length
  · rw [if_pos hc] at ha
    rw [if_pos (by omega)] at hb
    exact h4 _ _ _ ha hb
  · rw [if_neg hc] at ha
    rw [if_neg (by omega)] at hb
    exact h2 _ _ _ ha hb
theorem LLe.put {cs ds r : List SV} {s s' : SV} (h : LLe cs ds) (j : Nat) (hs : SLe s s') (e : putL ds j [s'] = r) : LLe (putL cs j [s]) r := h.puts j (.cons hs .nil) e
theorem LLe.of_eq {a b : List SV} (h : a = b) : LLe a b := h ▸ LLe.refl _
theorem sle_nilL {α : Type} {e e' : Nat} {fl : Bool} {cells : α → List SV} {d : α} {f : Nat → List SV} : SLe (.sl fl e' 0 f) (slL e cells d []) := by
  intro X w v h
  cases h with
  | slNil hf => exact .slNil (by simp)
  | slAt g hn => exact absurd hn (Nat.lt_irrefl 0)
theorem frzL_put (sel : Nat → Bool) (B : List Own) (cs ys : List SV) (o : Nat) : frzL sel B (putL cs o ys) = putL (frzL sel B cs) o (frzL sel B ys) := by
  have hl : ∀ l : List SV, (frzL sel B l).length = l.length := by intro l; induction l with | nil => rfl | cons a l ih => simp [frzL, ih]
  have hg : ∀ (l : List SV) (i : Nat), (frzL sel B l)[i]? = (l[i]?).map (frzC sel B) := by
    intro l
    induction l with
    | nil => simp [frzL]
    | cons a l ih => intro i; cases i <;> simp [frzL, ih]
  apply List.ext_getElem?
  intro i
  simp only [hg, putL_getE, hl]
  split <;> rfl
theorem frzKL_put (sel : Nat → Bool) (B : List Own) (cs ys : List SV) (o : Nat) (h : frzKL sel B cs) (h2 : frzKL sel B ys) : frzKL sel B (putL cs o ys) := by
  have hg : ∀ (l : List SV), frzKL sel B l ↔ ∀ (i : Nat) (s : SV), l[i]? = some s → frzKC sel B s := by
    intro l
    induction l with
    | nil => simp [frzKL]
    | cons a l ih =>
      simp only [frzKL, ih]
      constructor
      · rintro ⟨h1, h2⟩ i s h
        cases i with
        | zero => simp at h; subst h; exact h1
        | succ i => exact h2 i s (by simpa using h)
      · intro h
        exact ⟨h 0 a rfl, fun i s hs => h (i + 1) s (by simpa using hs)⟩
  rw [hg] at h h2 ⊢
  intro i s hs
  rw [putL_getE] at hs
  split at hs
  · exact h2 _ _ hs
  · exact h _ _ hs
theorem SLe.rptr {i j : Nat} {h : RowH} {e k o : Nat} : SLe (.rptr i h e k o) (.rptr j h e k o) := fun _ _ _ hd => by cases hd; exact .rptr ..
theorem SLe.row {i j : Nat} {h : RowH} {e lo n : Nat} : SLe (.row i h e lo n) (.row j h e lo n) := fun _ _ _ hd => hd.reindex
theorem getD'_one {o : Own} {i : Nat} : getD' [o] i = if i = 0 then o else .gone := by cases i <;> simp [getD']
theorem EC.at {P : Program} {f : Nat} {args args' : List SV} {B : List Own} {i : Nat} {h : RowH} {E e : Nat} {xs : List (List SV)} {Q : SV → List Own → Prop} (hc : EC P f args [.row h E e xs] Q)
    (hi : getD' B i = .row h E e xs) (ha : LLe args' args) (hq : ∀ r N, Q r N → ∃ o, N = [o]) : EC P f args' B (fun r B' => ∃ o, Q r [o] ∧ B' = B.set i o) := by
  refine ⟨hc.1, fun X w vs hs hd => ?_⟩
  have hil : i < B.length := getD'_lt hi
  have hs1 : Sat X w [.row h E e xs] := by
    refine ⟨fun a b c h1 h2 => ?_, fun a b h1 => ?_, hs.xg, fun b hx ⟨a, h1⟩ => ?_, fun a => ?_⟩
    · rw [getD'_one] at h1 h2
      split at h1 <;> split at h2 <;> simp_all [Own.blocks]
    · rw [getD'_one] at h1
      split at h1
      · exact hs.lt i b (by rw [hi]; exact h1)
      · simp [Own.blocks] at h1
    · rw [getD'_one] at h1
      split at h1
      · exact hs.apart b hx ⟨i, by rw [hi]; exact h1⟩
      · simp [Own.blocks] at h1
    · rw [getD'_one]
      split
      · rw [← hi]; exact hs.ok i
      · trivial
  obtain ⟨l1, l2⟩ := ha.spec
  refine (hc.2 X w vs hs1 ⟨by rw [hd.1, l1], fun j c hj => ?_⟩).mono ?_
  · obtain ⟨d, hd1, hd2⟩ := l2 j c hj
    exact hd2 _ _ _ (hd.2 j d hd1)
  rintro ex w' ⟨v, r, X', N, rfl, hQ, hsat, hden, hext⟩
  obtain ⟨o, rfl⟩ := hq r N hQ
  have own1 : ∀ b, owns [Own.row h E e xs] b → b ∈ (getD' B i).blocks := by
    rintro b ⟨a, h1⟩
    rw [getD'_one] at h1
    split at h1
    · rw [hi]; exact h1
    · simp [Own.blocks] at h1
  have oldN : ∀ a b, a ≠ i → b ∈ (getD' B a).blocks → ¬ owns [Own.row h E e xs] b := fun a b hne hb ho => hne (hs.inj a i b hb (own1 b ho))
  have newo : ∀ b, b ∈ o.blocks → owns [Own.row h E e xs] b ∨ w.heap.size ≤ b := fun b hb => hext.own b ⟨0, by simpa [getD'] using hb⟩
  refine ⟨v, r, X', B.set i o, rfl, ⟨o, hQ, rfl⟩, ⟨fun a b c h1 h2 => ?_, fun a b h1 => ?_, hsat.xg, fun b hx ⟨a, h1⟩ => ?_, fun a => ?_⟩, hden, ⟨hext.os, hext.tape, hext.output, hext.size, fun b hb hno => hext.block b hb fun ho => hno ⟨i, own1 b ho⟩, hext.xin, fun b hb => (hext.xout b hb).imp_right fun h => h.imp_left fun ho => ⟨i, own1 b ho⟩, fun b hb => ?_⟩⟩
  · rw [getD'_set hil] at h1 h2
    split at h1 <;> split at h2
    · omega
    · rcases newo c h1 with h | h
      · exact absurd h (oldN b c (by assumption) h2)
      · have := hs.lt b c h2; omega
    · rcases newo c h2 with h | h
      · exact absurd h (oldN a c (by assumption) h1)
      · have := hs.lt a c h1; omega
    · exact hs.inj a b c h1 h2
  · rw [getD'_set hil] at h1
    split at h1
    · exact hsat.lt 0 b (by simpa [getD'] using h1)
    · exact Nat.lt_of_lt_of_le (hs.lt a b h1) hext.size
  · rw [getD'_set hil] at h1
    split at h1
    · exact hsat.apart b hx ⟨0, by simpa [getD'] using h1⟩
    · rcases hext.xout b hx with h | h | h
      · exact hs.apart b h ⟨a, h1⟩
      · exact oldN a b (by assumption) h1 h
      · have := hs.lt a b h1; omega
  · rw [getD'_set hil]
    split
    · simpa [getD'] using hsat.ok 0
    · rename_i hne
      exact Own.ok_mono (hs.ok a) hext.xin (fun b hb => hext.block b (hs.xlt b hb) fun ho => hs.apart b hb ⟨i, own1 b ho⟩) fun b hb => hext.block b (hs.lt a b hb) (oldN a b hne hb)
  · obtain ⟨a, h1⟩ := hb
    rw [getD'_set hil] at h1
    split at h1
    · rcases newo b h1 with h | h
      · exact .inl ⟨i, own1 b h⟩
      · exact .inr h
    · exact .inl ⟨a, h1⟩
theorem EC.useAt {P : Program} {f : Nat} {args args' : List SV} {B : List Own} (i : Nat) {h : RowH} {E e : Nat} {xs xs' : List (List SV)} {R : SV} {Q : SV → List Own → Prop}
    (hc : EC P f args [.row h E e xs] fun r N => r = R ∧ N = [.row h E e xs']) (hi : getD' B i = .row h E e xs) (ha : LLe args' args) (hk : Q R (B.set i (.row h E e xs'))) : EC P f args' B Q :=
  (EC.at hc hi ha fun _ _ hq => ⟨_, hq.2⟩).mono (by rintro r B' ⟨o, ⟨rfl, ho⟩, rfl⟩; cases ho; exact hk)
theorem EC.uses {P : Program} {f : Nat} {args args' : List SV} {B : List Own} {R : SV} {Q : SV → List Own → Prop} (h : EC P f args' [] fun r B' => B' = [] ∧ r = R) (ha : LLe args args') (hk : Q R B) : EC P f args B Q :=
  EC.args ha (EC.use h hk)
end Go.Lift
end
section
namespace Go.Lift
section
variable {P : Program} {n : Nat} {t : Slots} {B : List Own} {Q : Post}
def keepS (t : Slots) : List Nat → Slots
  | [] => []
  | k :: r => (k, lkp t k) :: keepS t r
theorem wkS_app {t : Slots} : ∀ {a b : Slots}, wkS t a → wkS t b → wkS t (a ++ b)
  | [], _, _, h => h
  | (_, _) :: _, _, ha, h => ⟨ha.1, wkS_app ha.2 h⟩
theorem wkS_keep {t : Slots} : ∀ (l : List Nat), wkS t (keepS t l)
  | [] => trivial
  | _ :: r => ⟨rfl, wkS_keep r⟩
theorem EV_loopL {σ : Type} (live : List Nat) (V : σ → Slots) (Inv : σ → Prop) (μ : σ → Nat) (s0 : σ) {c : Code} (h0 : Inv s0) (hw : wkS t (V s0))
    (round : ∀ s, Inv s → EV P n c (V s ++ keepS t live) B (thenP (fun t' B' => ∃ s', Inv s' ∧ μ s' < μ s ∧ wkS t' (V s' ++ keepS t live) ∧ B'.take B.length = B) Q)) : EV P n (.loop c) t B Q := by
  refine EV_loop (fun s => V s ++ keepS t live) (fun _ => B) Inv μ s0 h0 (wkS_app hw (wkS_keep _)) (by simp) round
theorem EV_matr (d E e : Nat) {f : Nat → List SV} {c : Code} (hd : lkp t d = .sl true 0 0 f) (h : ∀ h, EV P n c ((d, .row B.length h e 0 0) :: t) (B ++ [.row h E e []]) Q) : EV P n c t B Q := by
  intro X0 w0 B0 X w a he hs
  have h1 := hs.den.2 d
  rw [hd] at h1
  obtain ⟨ad, hv⟩ : ∃ ad, a.tmps.getD d undef = .slice ad 0 0 := by
    generalize a.tmps.getD d undef = v at h1
    cases h1 with
    | slNil hf => rw [hf rfl]; exact ⟨_, rfl⟩
    | slAt g hn => exact absurd hn (Nat.lt_irrefl 0)
  have hp : Sat X w (B ++ [.row (.void ad) E e []]) := hs.sat.push (Nat.le_refl _) (fun _ _ => rfl) (fun c hc => by simp [Own.blocks] at hc) rfl
  have hx : Ext X w B X w (B ++ [.row (.void ad) E e []]) := Ext.push rfl rfl rfl (Nat.le_refl _) (fun _ _ => rfl) fun c hc => by simp [Own.blocks] at hc
  refine h (.void ad) X0 w0 B0 X w a (he.trans hx) ⟨hs.defers, hp, hs.den.1, fun i => ?_⟩
  simp only [lkp]
  split
  · rename_i hi; subst hi; rw [hv]; exact .rowVoid ..
  · exact hs.den.2 i
theorem EC.finE {f : Nat} {args : List SV} {B0 : List Own} {σ : Type} {C : σ → Prop} {R : σ → SV} {X : σ → List (List SV)} {hh : RowH} {E e : Nat}
    (h : EC P f args B0 fun r B' => frzKT (fromM 1) B' r ∧ ∃ x, C x ∧ SLe (frzT (fromM 1) B' r) (R x) ∧ B'.take 1 = [.row hh E e (X x)]) : EC P f args B0 fun r N => ∃ x, C x ∧ r = R x ∧ N = [.row hh E e (X x)] := by
  have := EC.close 1 (Q := fun r N => ∃ x, C x ∧ SLe r (R x) ∧ N = [.row hh E e (X x)]) h
  refine EC.ret (this.mono ?_)
  rintro r N ⟨x, h1, h2, h3⟩
  exact ⟨R x, h2, x, h1, rfl, h3⟩
theorem EC.useAtE {f : Nat} {args args' : List SV} (i : Nat) {h : RowH} {E e : Nat} {xs : List (List SV)} {σ : Type} {C : σ → Prop} {R : σ → SV} {X : σ → List (List SV)} {Q : SV → List Own → Prop}
    (hc : EC P f args [.row h E e xs] fun r N => ∃ x, C x ∧ r = R x ∧ N = [.row h E e (X x)]) (hi : getD' B i = .row h E e xs) (ha : LLe args' args) (hk : ∀ x, C x → Q (R x) (B.set i (.row h E e (X x)))) : EC P f args' B Q :=
  (EC.at hc hi ha fun _ _ ⟨_, hq⟩ => ⟨_, hq.2.2⟩).mono (by rintro r B' ⟨o, ⟨x, h1, rfl, ho⟩, rfl⟩; cases ho; exact hk x h1)
theorem EC.finP {f : Nat} {args : List SV} {σ : Type} {C : σ → Prop} {R : σ → SV} (h : EC P f args [] fun r B' => frzKT (fromM 0) B' r ∧ ∃ x, C x ∧ SLe (frzT (fromM 0) B' r) (R x)) : EC P f args [] fun r N => N = [] ∧ ∃ x, C x ∧ r = R x := by
  have := EC.close 0 (Q := fun r N => N = [] ∧ ∃ x, C x ∧ SLe r (R x)) (h.mono fun r B' ⟨h1, h2⟩ => ⟨h1, by simp, h2⟩)
  refine EC.ret (this.mono ?_)
  rintro r N ⟨rfl, x, h1, h2⟩
  exact ⟨R x, h2, rfl, x, h1, rfl⟩
theorem EC.useP {f : Nat} {args : List SV} {σ : Type} {C : σ → Prop} {R : σ → SV} {Q : SV → List Own → Prop} (hc : EC P f args [] fun r N => N = [] ∧ ∃ x, C x ∧ r = R x) (hk : ∀ x, C x → Q (R x) B) : EC P f args B Q :=
  (EC.frame (Q := fun r => ∃ x, C x ∧ r = R x) hc B).mono (by rintro r B' ⟨rfl, x, h1, rfl⟩; exact hk x h1)
theorem EC.useM {f : Nat} {args : List SV} {E e : Nat} {xs : List (List SV)} {R : RowH → Nat → SV} {Q : SV → List Own → Prop}
    (hc : EC P f args [] fun r N => ∃ h, r = R h 0 ∧ N = [.row h E e xs]) (hR : ∀ h i j, SLe (R h i) (R h j)) (hk : ∀ h, Q (R h B.length) (B ++ [.row h E e xs])) : EC P f args B Q := by
  refine ⟨hc.1, fun X w vs hs hd => ?_⟩
  have h0 : Sat X w [] := hs.sub fun i => .inr (by simp [getD'])
  refine (hc.2 X w vs h0 hd).mono ?_
  rintro ex w' ⟨v, r, X', N, rfl, ⟨h, rfl, rfl⟩, hsat, hden, hext⟩
  have hx : ∀ b, ¬ owns ([] : List Own) b := fun b ⟨i, hi⟩ => by simp [getD', Own.blocks] at hi
  have nb : ∀ b, b ∈ (Own.row h E e xs).blocks → w.heap.size ≤ b := fun b hb => (hext.own b ⟨0, by simpa [getD'] using hb⟩).elim (fun ho => absurd ho (hx b)) id
  refine ⟨v, _, X', _, rfl, hk h, ⟨fun a b c h1 h2 => ?_, fun a b h1 => ?_, hsat.xg, fun b hb ⟨a, h1⟩ => ?_, fun a => ?_⟩, hR _ _ _ _ _ _ hden, ⟨hext.os, hext.tape, hext.output, hext.size, fun b hb _ => hext.block b hb (hx b), hext.xin, fun b hb => (hext.xout b hb).imp_right fun h => .inr (h.elim (fun ho => absurd ho (hx b)) id), fun b hb => ?_⟩⟩
  · rw [getD'_push] at h1 h2
    split at h1 <;> split at h2
    · omega
    · have := nb c h1; have := hs.lt b c h2; omega
    · have := nb c h2; have := hs.lt a c h1; omega
    · exact hs.inj a b c h1 h2
  · rw [getD'_push] at h1
    split at h1
    · exact hsat.lt 0 b (by simpa [getD'] using h1)
    · exact Nat.lt_of_lt_of_le (hs.lt a b h1) hext.size
  · rw [getD'_push] at h1
    split at h1
    · exact hsat.apart b hb ⟨0, by simpa [getD'] using h1⟩
    · rcases hext.xout b hb with h | h | h
      · exact hs.apart b h ⟨a, h1⟩
      · exact hx b h
      · have := hs.lt a b h1; omega
  · rw [getD'_push]
    split
    · simpa [getD'] using hsat.ok 0
    · exact Own.ok_mono (hs.ok a) hext.xin (fun b hb => hext.block b (hs.xlt b hb) (hx b)) fun b hb => hext.block b (hs.lt a b hb) (hx b)
  · obtain ⟨a, h1⟩ := hb
    rw [getD'_push] at h1
    split at h1
    · exact .inr (nb b h1)
    · exact .inl ⟨a, h1⟩
end
def setX (o : Own) (xs : List (List SV)) : Own := match o with
  | .row h E e _ => .row h E e xs
  | .gone => .gone
def updX : List Own → Nat → List (List SV) → List Own
  | [], _, _ => []
  | o :: B, 0, xs => setX o xs :: B
  | o :: B, i + 1, xs => o :: updX B i xs
def updH : List Own → Nat → RowH → List (List SV) → List Own
  | [], _, _, _ => []
  | o :: B, 0, h, xs => (match o with | .row _ E e _ => .row h E e xs | .gone => .gone) :: B
  | o :: B, i + 1, h, xs => o :: updH B i h xs
theorem EV_loopB {P : Program} {n : Nat} {t : Slots} {B : List Own} {Q : Post} {σ : Type} (live : List Nat) (V : σ → Slots) (R : List Own → σ → List Own) (Inv : σ → Prop) (μ : σ → Nat) (s0 : σ) {c : Code} (h0 : Inv s0) (hw : wkS t (V s0)) (hb : R B s0 = B)
    (round : ∀ s, Inv s → EV P n c (V s ++ keepS t live) (R B s) (thenP (fun t' B' => ∃ s', Inv s' ∧ μ s' < μ s ∧ wkS t' (V s' ++ keepS t live) ∧ B'.take (R B s').length = R B s') Q)) : EV P n (.loop c) t B Q :=
  EV_loop (fun s => V s ++ keepS t live) (fun s => R B s) Inv μ s0 h0 (wkS_app hw (wkS_keep _)) (by rw [hb]; simp) round
end Go.Lift
end
section
namespace Go.Lift
attribute [push_cast] entsOf_mC inL Bool.false_or Bool.or_false updX updH setX run holds evOp evS evL evP evO ev lkp setT callOf guardOf quiet opnds condsOk SV.cond SV.strip SV.ofVal SV.ofCell SV.ofCells SV.cells SV.solid SV.len SV.isStr solids isPtr getD' TyI.agg TyI.size evLoadT evLoad evStoreT evStore evNew evLen evCap evMax evMin evExtract elemTy evBuiltin evFieldAddr evField evIndexAddr evIndex evSliceB evSlice srcOf srcSolid srcTy evAppend evAppendL tailK rowHas evCopy evClear mkey mval aget aput evMakeMap evInsert lkO evLookup mC fillL fillC evBuildSlice evMakeSlice buildL evBuild evConvert evInt evCmp evNil nilOpd nilOf evNilP nilPOpd nilPOf evEqB evBin evUn boolOf armOf evPick Own.blocks unguard if_true if_false List.length_cons List.length_nil List.append_eq List.cons_append List.nil_append List.append_nil List.getElem?_cons_zero List.getElem?_cons_succ List.getElem?_nil List.set_cons_zero List.set_cons_succ List.drop_succ_cons List.drop_zero List.drop_nil drop_getD List.length_drop List.drop_drop List.take_succ_cons List.take_zero List.take_nil List.getD_cons_zero List.getD_cons_succ List.getD_nil Bool.false_eq_true Bool.true_eq_false Bool.and_true Bool.true_and Bool.or_true Bool.true_or Bool.not_true Bool.not_false true_and and_true Nat.add_zero Nat.zero_add List.replicate_succ List.replicate_zero List.range_zero List.map_nil Nat.lt_add_one zero_lt IntKind.bits min1 min7 min63 rangeI runD pureOp fo foC isCallOp isMemOp roB rwB mrB keepS List.getElem?_toArray List.size_toArray List.all_cons List.all_nil isBytes and_self beq_self_eq_true cond_true cond_false toNat_add2 u64_not i64_not List.mem_singleton forall_eq take_map_len take_map_app take_map_app3 List.length_append Nat.mul_one List.length_map true_or or_true imp_self forall_const Bool.and_self not_true not_false_iff eq_self Nat.zero_le Nat.lt_irrefl Nat.le_refl ne_eq not_false_eq_true implies_true false_implies true_implies Int.toNat_zero Nat.sub_zero List.map_cons Int.toNat_natCast Int.toNat_one Int.cast_ofNat_Int bif_and bif_or beq_f beq_t slL_elt elt_at range_elt sub_eltD sub_elt_all map_snocI map_setI map_snocS intC_len intC_g intC_p intC_sol strC_len strC_g strC_sol boolC_len boolC_g boolC_sol putL_get1 putL_same putL_one putL_length solids_map solids_elt Bool.not_eq_true' decide_eq_true_eq Bool.not_not Bool.false_and Bool.and_false Bool.false_or Bool.or_false decide_true decide_false false_and and_false
end Go.Lift
end
