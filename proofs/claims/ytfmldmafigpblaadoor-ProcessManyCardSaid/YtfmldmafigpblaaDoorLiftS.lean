/-
  Operations that yield the same value in every world that keeps the memory that nobody here owns.
-/
import Derived.Test.YtfmldmafigpblaaDoorLiftP
namespace Go.Lift

/-- First order: what such a value is, is fixed by its symbolic value. -/
def foC : SV → Bool
  | .int .. => true
  | .bool _ => true
  | .str _ => true
  | _ => false
def fo : SV → Bool
  | .agg cs => cs.all foC
  | s => foC s
theorem foC_eq {X X' : Nat → Prop} {w w' : World} {s : SV} {u v : Value} (h : foC s = true) (hu : Den X w s u) (hv : Den X' w' s v) : u = v := by
  cases hu <;> simp only [foC, Bool.false_eq_true] at h <;> cases hv <;> rfl
theorem fo_eq {X X' : Nat → Prop} {w w' : World} {s : SV} {u v : Value} (h : fo s = true) (hu : Den X w s u) (hv : Den X' w' s v) : u = v := by
  by_cases ha : ∃ cs, s = .agg cs
  · obtain ⟨cs, rfl⟩ := ha
    simp only [fo, List.all_eq_true] at h
    cases hu with
    | agg h1 h2 => cases hv with
      | agg h3 h4 =>
        congr 1
        apply Array.ext (by omega)
        intro i a b
        have hi : i < cs.length := by omega
        have hc : cs[i]? = some cs[i] := List.getElem?_eq_getElem hi
        have := foC_eq (h _ (List.getElem_mem hi)) (h2 i _ hc) (h4 i _ hc)
        simpa [a, b] using this
  · have : foC s = true := by cases s <;> first | exact h | exact absurd ⟨_, rfl⟩ ha
    exact foC_eq this hu hv

/-- A world in which the memory that nobody here owns is as it was. -/
structure Kept (w : World) (B : List Own) (w' : World) : Prop where
  os : w'.os = w.os
  tape : w'.tape = w.tape
  output : w'.output = w.output
  size : w.heap.size ≤ w'.heap.size
  block : ∀ b, b < w.heap.size → ¬ owns B b → w'.heap[b]? = w.heap[b]?
theorem Kept.refl (w : World) (B : List Own) : Kept w B w := ⟨rfl, rfl, rfl, Nat.le_refl _, fun _ _ _ => rfl⟩
/-! Masks: rows that a region only reads ('false'), and rows that it may change (all others). -/
def roB : List Bool → List Own → List Own
  | [], _ => []
  | _ :: _, [] => []
  | false :: r, o :: B => o :: roB r B
  | true :: r, _ :: B => .gone :: roB r B
def rwB : List Bool → List Own → List Own
  | [], B => B
  | _ :: _, [] => []
  | false :: r, _ :: B => .gone :: rwB r B
  | true :: r, o :: B => o :: rwB r B
def mrB : List Bool → List Own → List Own → List Own
  | [], _, N => N
  | _ :: _, _, [] => []
  | _ :: _, [], n :: N => n :: N
  | false :: r, o :: B, _ :: N => o :: mrB r B N
  | true :: r, _ :: B, n :: N => n :: mrB r B N
def ronly (ws : List Bool) (i : Nat) : Bool := ws[i]? == some false
theorem getD'_cons {o : Own} {B : List Own} {i : Nat} : getD' (o :: B) i = match i with | 0 => o | i + 1 => getD' B i := by cases i <;> rfl
theorem getD'_nil {i : Nat} : getD' [] i = .gone := rfl
theorem roB_get : ∀ (ws : List Bool) (B : List Own) (i : Nat), getD' (roB ws B) i = if ronly ws i = true then getD' B i else .gone
  | [], B, i => by simp [roB, ronly, getD']
  | _ :: _, [], i => by simp [roB, getD']
  | false :: r, o :: B, i => by
    cases i with
    | zero => simp [roB, ronly, getD']
    | succ i => exact roB_get r B i
  | true :: r, o :: B, i => by
    cases i with
    | zero => simp [roB, ronly, getD']
    | succ i => exact roB_get r B i
theorem rwB_get : ∀ (ws : List Bool) (B : List Own) (i : Nat), getD' (rwB ws B) i = if ronly ws i = true then .gone else getD' B i
  | [], B, i => by simp [rwB, ronly]
  | _ :: _, [], i => by simp [rwB, getD']
  | false :: r, o :: B, i => by
    cases i with
    | zero => simp [rwB, ronly, getD']
    | succ i => exact rwB_get r B i
  | true :: r, o :: B, i => by
    cases i with
    | zero => simp [rwB, ronly, getD']
    | succ i => exact rwB_get r B i
theorem mrB_get : ∀ (ws : List Bool) (B N : List Own) (i : Nat), getD' (mrB ws B N) i = if ronly ws i = true ∧ i < B.length ∧ i < N.length then getD' B i else getD' N i
  | [], B, N, i => by simp [mrB, ronly]
  | _ :: _, B, [], i => by simp [mrB]
  | _ :: _, [], _ :: _, i => by simp [mrB]
  | false :: r, o :: B, n :: N, i => by
    cases i with
    | zero => simp [mrB, ronly, getD']
    | succ i =>
      have e1 : ∀ b, (ronly (b :: r) (i + 1) = true ∧ i + 1 < (o :: B).length ∧ i + 1 < (n :: N).length) ↔ (ronly r i = true ∧ i < B.length ∧ i < N.length) := fun b => by simp [ronly]
      simp only [e1]
      exact mrB_get r B N i
  | true :: r, o :: B, n :: N, i => by
    cases i with
    | zero => simp [mrB, ronly, getD']
    | succ i =>
      have e1 : ∀ b, (ronly (b :: r) (i + 1) = true ∧ i + 1 < (o :: B).length ∧ i + 1 < (n :: N).length) ↔ (ronly r i = true ∧ i < B.length ∧ i < N.length) := fun b => by simp [ronly]
      simp only [e1]
      exact mrB_get r B N i
theorem owns_rw {ws : List Bool} {B : List Own} {b : Nat} (h : owns (rwB ws B) b) : owns B b := by
  obtain ⟨i, hi⟩ := h
  rw [rwB_get] at hi
  split at hi
  · simp [Own.blocks] at hi
  · exact ⟨i, hi⟩
theorem Sat.sub {X : Nat → Prop} {w : World} {B B' : List Own} (hs : Sat X w B) (h : ∀ i, getD' B' i = getD' B i ∨ getD' B' i = .gone) : Sat X w B' := by
  have hb : ∀ i b, b ∈ (getD' B' i).blocks → b ∈ (getD' B i).blocks := fun i b hb => by
    rcases h i with e | e
    · rwa [e] at hb
    · rw [e] at hb; simp [Own.blocks] at hb
  refine ⟨fun i j b h1 h2 => hs.inj i j b (hb i b h1) (hb j b h2), fun i b h1 => hs.lt i b (hb i b h1), hs.xg, fun b hx ⟨i, hi⟩ => hs.apart b hx ⟨i, hb i b hi⟩, fun i => ?_⟩
  rcases h i with e | e
  · rw [e]; exact hs.ok i
  · rw [e]; trivial
theorem Sat.rw {X : Nat → Prop} {w : World} {B : List Own} (hs : Sat X w B) (ws : List Bool) : Sat X w (rwB ws B) := hs.sub fun i => by
  rw [rwB_get]; split
  · exact .inr rfl
  · exact .inl rfl
/-- What a region reads alone stays literally, so it is there again behind what it may change. -/
theorem Sat.merge {X X' : Nat → Prop} {w w' : World} {B N : List Own} {ws : List Bool} (hs : Sat X w B) (hn : Sat X' w' N) (he : Ext X w (rwB ws B) X' w' N) : Sat X' w' (mrB ws B N) ∧ Ext X w B X' w' (mrB ws B N) := by
  have old : ∀ i b, ronly ws i = true → b ∈ (getD' B i).blocks → ¬ owns (rwB ws B) b := by
    rintro i b hi hb ⟨j, hj⟩
    rw [rwB_get] at hj
    split at hj
    · simp [Own.blocks] at hj
    · rename_i hne
      have := hs.inj i j b hb hj
      subst this
      exact hne hi
  have oldN : ∀ i b, ronly ws i = true → b ∈ (getD' B i).blocks → ¬ owns N b := fun i b hi hb ho => by
    rcases he.own b ho with h | h
    · exact old i b hi hb h
    · have := hs.lt i b hb; omega
  have cases : ∀ i, (ronly ws i = true ∧ getD' (mrB ws B N) i = getD' B i) ∨ getD' (mrB ws B N) i = getD' N i := fun i => by
    rw [mrB_get]; split
    · rename_i h; exact .inl ⟨h.1, rfl⟩
    · exact .inr rfl
  refine ⟨⟨fun i j b h1 h2 => ?_, fun i b h1 => ?_, hn.xg, fun b hx ⟨i, hi⟩ => ?_, fun i => ?_⟩, ⟨he.os, he.tape, he.output, he.size, fun b hb hno => he.block b hb fun h => hno (owns_rw h), he.xin, fun b hb => (he.xout b hb).imp_right fun h => h.imp_left owns_rw, fun b hb => ?_⟩⟩
  · rcases cases i with ⟨ri, ei⟩ | ei <;> rcases cases j with ⟨rj, ej⟩ | ej <;> rw [ei] at h1 <;> rw [ej] at h2
    · exact hs.inj i j b h1 h2
    · exact absurd ⟨j, h2⟩ (oldN i b ri h1)
    · exact absurd ⟨i, h1⟩ (oldN j b rj h2)
    · exact hn.inj i j b h1 h2
  · rcases cases i with ⟨_, ei⟩ | ei <;> rw [ei] at h1
    · exact Nat.lt_of_lt_of_le (hs.lt i b h1) he.size
    · exact hn.lt i b h1
  · rcases cases i with ⟨ri, ei⟩ | ei <;> rw [ei] at hi
    · rcases he.xout b hx with h | h | h
      · exact hs.apart b h ⟨i, hi⟩
      · exact old i b ri hi h
      · have := hs.lt i b hi; omega
    · exact hn.apart b hx ⟨i, hi⟩
  · rcases cases i with ⟨ri, ei⟩ | ei <;> rw [ei]
    · exact Own.ok_mono (hs.ok i) he.xin (fun b hb => he.block b (hs.xlt b hb) fun h => hs.apart b hb (owns_rw h)) fun b hb => he.block b (hs.lt i b hb) (old i b ri hb)
    · exact hn.ok i
  · obtain ⟨i, hi⟩ := hb
    rcases cases i with ⟨_, ei⟩ | ei <;> rw [ei] at hi
    · exact .inl ⟨i, hi⟩
    · exact (he.own b ⟨i, hi⟩).imp_left owns_rw
section
variable {P : Program} {E : Env} {X : Nat → Prop} {w : World} {B : List Own}
theorem Kept.den {w' : World} (hk : Kept w B w') (hs : Sat X w B) {s : SV} {v : Value} (h : Den X w s v) : Den X w' s v :=
  h.mono (fun _ h => h) fun b hb => hk.block b (hs.xlt b hb) (hs.apart b hb)
theorem Kept.sat {w' : World} (hk : Kept w B w') (hs : Sat X w B) : Sat X w' [] :=
  ⟨fun i j b hi => by simp [getD', Own.blocks] at hi, fun i b hi => by simp [getD', Own.blocks] at hi, hs.xg.mono (fun _ h => h) (fun b hb => hk.block b (hs.xlt b hb) (hs.apart b hb)) fun b hb => Nat.lt_of_lt_of_le (hs.xlt b hb) hk.size, fun b _ ⟨i, hi⟩ => by simp [getD', Own.blocks] at hi, fun i => by simp [getD', Own.ok]⟩
theorem Kept.ext {X' : Nat → Prop} {w' : World} {B' : List Own} (h : Ext X w B X' w' B') : Kept w B w' := ⟨h.os, h.tape, h.output, h.size, h.block⟩
theorem Kept.trans {X' : Nat → Prop} {w1 w2 : World} {B1 : List Own} (h : Ext X w B X' w1 B1) (k : Kept w1 B1 w2) : Kept w B w2 :=
  ⟨k.os.trans h.os, k.tape.trans h.tape, k.output.trans h.output, Nat.le_trans h.size k.size, fun b hb hn => by
    rw [k.block b (Nat.lt_of_lt_of_le hb h.size) fun ho => (h.own b ho).elim hn fun h => by omega, h.block b hb hn]⟩

theorem Kept.ro {ws : List Bool} {w' : World} (hk : Kept w (rwB ws B) w') (hs : Sat X w B) : Sat X w' (roB ws B) ∧ (∀ b, X b ∨ owns (roB ws B) b → w'.heap[b]? = w.heap[b]?) := by
  have hb : ∀ b, X b ∨ owns (roB ws B) b → w'.heap[b]? = w.heap[b]? := by
    rintro b (h | ⟨i, hi⟩)
    · exact hk.block b (hs.xlt b h) fun ho => hs.apart b h (owns_rw ho)
    · rw [roB_get] at hi
      split at hi
      · rename_i hr
        refine hk.block b (hs.lt i b hi) ?_
        rintro ⟨j, hj⟩
        rw [rwB_get] at hj
        split at hj
        · simp [Own.blocks] at hj
        · rename_i hne
          have := hs.inj i j b hi hj
          subst this
          exact hne hr
      · simp [Own.blocks] at hi
  have h0 : Sat X w (roB ws B) := hs.sub fun i => by
    rw [roB_get]; split
    · exact .inl rfl
    · exact .inr rfl
  refine ⟨⟨h0.inj, fun i b h => Nat.lt_of_lt_of_le (h0.lt i b h) hk.size, hs.xg.mono (fun _ h => h) (fun x hx => hb x (.inl hx)) fun b h => Nat.lt_of_lt_of_le (hs.xlt b h) hk.size, h0.apart, fun i => ?_⟩, hb⟩
  exact Own.ok_mono (h0.ok i) (fun _ h => h) (fun b h => hb b (.inl h)) fun b h => hb b (.inr ⟨i, h⟩)
theorem Kept.denW {ws : List Bool} {w' : World} (hk : Kept w (rwB ws B) w') (hs : Sat X w B) {s : SV} {v : Value} (h : Den X w s v) : Den X w' s v :=
  h.mono (fun _ h => h) fun b hb => (hk.ro hs).2 b (.inl hb)
/-- The same value in all worlds that are kept. -/
def Uni (P : Program) (X : Nat → Prop) (w : World) (B : List Own) (s : Sem Next) (sv : SV) : Prop :=
  ∃ v, Den X w sv v ∧ ∀ w', Kept w B w' → s.run P w' = .ok (.value v) w'
theorem uni_fo {s : Sem Next} {sv : SV} (hf : fo sv = true) (h : ∀ w', Kept w B w' → ∃ u, s.run P w' = .ok (.value u) w' ∧ Den X w' sv u) : Uni P X w B s sv := by
  obtain ⟨v, _, h2⟩ := h w (Kept.refl w B)
  refine ⟨v, h2, fun w' hk => ?_⟩
  obtain ⟨u, h3, h4⟩ := h w' hk
  rw [fo_eq hf h2 h4]; exact h3

/-- Operations that neither write nor make memory, and what they must yield. -/
def pureOp (o : Op) (sv : SV) : Prop := match o with
  | .move _ => True
  | .assign _ => True
  | .pick .. => fo sv = true
  | .load .. => True
  | .build .. => True
  | .nilCheck _ => True
  | .binOp _ _ _ y _ => fo sv = true ∧ nilOpd y = false
  | .unOp .. => fo sv = true
  | .convert .. => fo sv = true
  | .slice .. => True
  | .fieldAddr .. => True
  | .field .. => True
  | .indexAddr .. => True
  | .index .. => True
  | .extract .. => True
  | .lookup .. => True
  | .call c => match c.callee with
    | .builtin .len => fo sv = true
    | _ => False
  | _ => False

theorem pure_uni (hE : EnvOK P E) {st : Bool} {t : List (Nat × SV)} {ρ : Operand → Value} {o : Oper} {ws : List Bool} (hs : Sat X w B) (h0 : ∀ x, Den X w (ev t x) (ρ x)) (hk : ∀ v, ρ (.const v) = v) (hd : ∀ x ∈ o.op.operands.toList, Den X w (evS st t x) (ρ x))
    (hp : pureOp o.op (evOp E st (.void none) t (roB ws B) o.op).v) (hc : (evOp E st (.void none) t (roB ws B) o.op).vc) : Uni P X w (rwB ws B) (execOp ρ o) (evOp E st (.void none) t (roB ws B) o.op).v := by
  obtain ⟨dst, op, type, pos, after, guard⟩ := o
  simp only at hd hp hc ⊢
  cases op <;> try (simp only [pureOp] at hp; done)
  case move x => exact ⟨_, hd x (by simp [Op.operands]), fun w' _ => rfl⟩
  case assign x => exact ⟨_, hd x (by simp [Op.operands]), fun w' _ => rfl⟩
  case pick c a b =>
    refine uni_fo hp fun w' hk => ?_
    obtain ⟨r, h1, h2, h3⟩ := pick_sound (P := P) (hk.denW hs (h0 c)) (hk.denW hs (h0 a)) (hk.denW hs (h0 b)) hc
    exact ⟨_, by simpa [execOp] using h1, h2⟩
  case load T x =>
    have hb : E.ty T ≠ .bad := fun e => by simp [evOp, evLoadT, e, bad] at hc
    have e1 : evLoadT (E.ty T) (roB ws B) (evS st t x) = evLoad (E.ty T).agg (E.ty T).size (roB ws B) (evS st t x) := by
      cases h : E.ty T <;> first | rfl | exact absurd h hb
    simp only [evOp, e1] at hc hp ⊢
    obtain ⟨u, r1, r2, r3⟩ := load_uni (hE.ty T) hb ((Kept.refl w (rwB ws B)).ro hs).1 (hd x (by simp [Op.operands])) hc
    exact ⟨u, r2, fun w' hk => by simpa [execOp] using run_v (r1 w' (hk.ro hs).2)⟩
  case build T ps =>
    simp only [evOp] at hc ⊢
    obtain ⟨hz, hc⟩ := hc
    have hpl : ∀ (l : List (Nat × Operand)), (evP st t l).length = l.length := by
      intro l
      induction l with
      | nil => rfl
      | cons x l ih => obtain ⟨i, x⟩ := x; simp [evP, ih]
    have hpd : ∀ (l : List (Nat × Operand)), (∀ x ∈ l.map (·.2), Den X w (evS st t x) (ρ x)) → ∀ (i : Nat) (p : Nat × SV) (q : Nat × Value), (evP st t l)[i]? = some p → (l.map fun (i, x) => (i, ρ x))[i]? = some q → p.1 = q.1 ∧ Den X w p.2 q.2 := by
      intro l
      induction l with
      | nil => intro _ i p q h; simp [evP] at h
      | cons x l ih =>
        obtain ⟨j, x⟩ := x
        intro hl i p q hp hq
        cases i with
        | zero => simp [evP] at hp hq; subst hp hq; exact ⟨rfl, hl x (by simp)⟩
        | succ i => exact ih (fun y hy => hl y (by simp at hy ⊢; exact .inr hy)) i p q (by simpa [evP] using hp) (by simpa using hq)
    obtain ⟨u, r1, r2, r3⟩ := build_sound (hE.ty T) (hE.zr T hz) (vs := ps.map fun (i, x) => (i, ρ x)) (by simp [hpl]) (fun i p q hp hq => hpd ps.toList (fun x hx => hd x (by simpa [Op.operands] using hx)) i p q hp (by simpa using hq)) hc
    exact ⟨u, r2, fun w' _ => by simpa [execOp] using run_v (r1 w')⟩
  case nilCheck x =>
    have hx := hd x (by simp [Op.operands])
    simp only [evOp] at hc ⊢
    refine ⟨_, hx, fun w' _ => ?_⟩
    simp only [execOp]
    generalize ρ x = v at hx
    generalize evS st t x = s at hx hc
    cases hx <;> simp only [isPtr, Bool.false_eq_true] at hc
    all_goals rfl
  case binOp op T x y T2 =>
    obtain ⟨hp, hy0⟩ := hp
    by_cases hsl : ∃ e a b, E.ty T = .slice e a b
    · obtain ⟨e, a, b, hti⟩ := hsl
      simp only [evOp, hti, evCmp, evNil, hy0, bad] at hc
    by_cases hsp : E.ty T = .ptr
    · have hT : ∃ e, P.underlying T = some (.pointer e) := by have := hE.ty T; rw [hsp] at this; exact tyB_ptr this
      obtain ⟨e, hT⟩ := hT
      refine uni_fo hp fun w' hk' => ?_
      simp only [evOp, hsp, evCmp, evNilP] at hc ⊢
      split at hc
      · rename_i bv hy hb
        obtain ⟨hr, a', hv⟩ := nilP_sound (w := w') hT (hk'.denW hs (hd x (by simp [Op.operands]))) hb
        have hyv : ρ y = .pointer none := by
          unfold nilPOpd at hy
          split at hy
          · exact hk _
          · cases hy
        have hg : (eqGuard op T x y (ρ x) (ρ y)).run P w' = .ok () w' := eqGuard_plain (by rw [hv]; exact ⟨by simp, by simp⟩)
        cases op <;> simp only [evEqB, bad] at hc
        case eql =>
          have h1 : (do eqGuard .eql T x y (ρ x) (ρ y); binOp .eql T (ρ x) (ρ y) : Sem Value).run P w' = .ok (.bool (bv)) w' := by rw [hyv] at hg ⊢; rw [hv] at hg hr ⊢; simp only [Sem.run_bind, hg, Result.andThen_ok, binOp, hr, Sem.run_pure]
          exact ⟨_, by simpa [execOp] using run_v h1, .bool _⟩
        case neq =>
          have h1 : (do eqGuard .neq T x y (ρ x) (ρ y); binOp .neq T (ρ x) (ρ y) : Sem Value).run P w' = .ok (.bool (!bv)) w' := by rw [hyv] at hg ⊢; rw [hv] at hg hr ⊢; simp only [Sem.run_bind, hg, Result.andThen_ok, binOp, hr, Sem.run_pure]
          exact ⟨_, by simpa [execOp] using run_v h1, .bool _⟩
      · exact hc.elim
    have evCmp_bin : ∀ h, evCmp (E.ty T) (E.lv T) op h (roB ws B) (evS st t x) (evS st t y) y = evBin (E.ty T) (E.lv T) op (roB ws B) (evS st t x) (evS st t y) := by
      intro h
      cases hti : E.ty T <;> first | rfl | exact absurd hti hsp | exact absurd ⟨_, _, _, hti⟩ hsl
    simp only [evOp, evCmp_bin] at hp hc ⊢
    refine uni_fo hp fun w' hk => ?_
    obtain ⟨u, r1, r2, r3⟩ := bin_sound (x := x) (y := y) (hE.ty T) (hE.lv T) (hk.denW hs (hd x (by simp [Op.operands]))) (hk.denW hs (hd y (by simp [Op.operands]))) hc
    exact ⟨u, by simpa [execOp] using run_v r1, r2⟩
  case unOp op T x =>
    refine uni_fo hp fun w' hk => ?_
    obtain ⟨u, r1, r2, r3⟩ := un_sound (P := P) (hk.denW hs (hd x (by simp [Op.operands]))) hc
    exact ⟨u, by simpa [execOp] using run_v r1, r2⟩
  case convert s d x =>
    have hb : E.ty s ≠ .bad := fun e => by simp [evOp, e, bad] at hc
    have e1 : (evOp E st (.void none) t (roB ws B) (.convert s d x)) = evConvert (E.ty s) (elemTy E (E.ty s)) (E.ty d) (roB ws B) (evS st t x) := by
      simp only [evOp]
    rw [e1] at hc ⊢
    rw [e1] at hp
    refine uni_fo hp fun w' hk => ?_
    obtain ⟨u, r1, r2, r3⟩ := convert_sound (hE.ty s) (fun e esz eb he => by rw [he]; exact hE.ty e) (hE.ty d) (hk.ro hs).1 (hk.denW hs (hd x (by simp [Op.operands]))) hc hb
    exact ⟨u, by simpa [execOp] using run_v r1, r2⟩
  case fieldAddr T x f =>
    obtain ⟨u, r1, r2, r3⟩ := fieldAddr_sound (hE.ty T) (hd x (by simp [Op.operands])) hc
    exact ⟨u, r2, fun w' _ => by simpa [execOp] using run_v (r1 w')⟩
  case field T x f =>
    obtain ⟨u, r1, r2, r3⟩ := field_sound (hE.ty T) (hd x (by simp [Op.operands])) hc
    exact ⟨u, r2, fun w' _ => by simpa [execOp] using run_v (r1 w')⟩
  case indexAddr T x i =>
    obtain ⟨u, r1, r2, r3⟩ := indexAddr_sound (hE.ty T) (hd x (by simp [Op.operands])) (hd i (by simp [Op.operands])) hc
    exact ⟨u, r2, fun w' _ => by simpa [execOp] using run_v (r1 w')⟩
  case index T x i =>
    obtain ⟨u, r1, r2, r3⟩ := index_sound (hE.ty T) (hd x (by simp [Op.operands])) (hd i (by simp [Op.operands])) hc
    exact ⟨u, r2, fun w' _ => by simpa [execOp] using run_v (r1 w')⟩
  case slice T x lo hi mx =>
    have hopt : ∀ (o : Option Operand), (∀ y, o = some y → Den X w (evS st t y) (ρ y)) → (∀ z, evO st t o = some z → ∃ y, o.map ρ = some y ∧ Den X w z y) ∧ (evO st t o = none → o.map ρ = none) := by
      intro o ho
      cases o with
      | none => exact ⟨fun z h => by simp [evO] at h, fun _ => rfl⟩
      | some y => exact ⟨fun z h => by simp [evO] at h; subst h; exact ⟨_, rfl, ho y rfl⟩, fun h => by simp [evO] at h⟩
    obtain ⟨a1, a2⟩ := hopt lo fun y hy => hd y (by subst hy; simp [Op.operands])
    obtain ⟨b1, b2⟩ := hopt hi fun y hy => hd y (by subst hy; simp [Op.operands])
    obtain ⟨c1, c2⟩ := hopt mx fun y hy => hd y (by subst hy; simp [Op.operands])
    obtain ⟨u, r1, r2, r3⟩ := slice_sound (hE.ty T) ((Kept.refl w (rwB ws B)).ro hs).1 (hd x (by simp [Op.operands])) a1 a2 b1 b2 c1 c2 hc
    exact ⟨u, r2, fun w' _ => by simpa [execOp] using run_v (r1 w')⟩
  case lookup T m k ok =>
    simp only [evOp] at hc ⊢
    obtain ⟨u, r1, r2, r3⟩ := lookup_sound (P := P) (hE.ty T) ((Kept.refl w (rwB ws B)).ro hs).1 (hd m (by simp [Op.operands])) (hd k (by simp [Op.operands])) hc
    exact ⟨u, r2, fun w' hk => by simpa [execOp] using run_v (r1 w' (hk.ro hs).2)⟩
  case extract x i =>
    have hx := hd x (by simp [Op.operands])
    simp only [evOp] at hc ⊢
    generalize evS st t x = s at hx hc ⊢
    generalize hv : ρ x = v at hx
    cases hx <;> try (simp only [evExtract, bad] at hc; done)
    case tup cs vs hsz h =>
      simp only [evExtract] at hc ⊢
      refine ⟨vs.getD i undef, h i _ (get?_of_lt _ hc), fun w' _ => ?_⟩
      simp only [execOp, hv, Instr.extract]
      rw [agetD_of_lt (show i < vs.size by omega)]
      simp
  case call c =>
    obtain ⟨callee, args, tys⟩ := c
    cases callee <;> try (simp only [pureOp] at hp; done)
    case builtin b =>
    cases b <;> try (simp only [pureOp] at hp; done)
    case len =>
    have hargs : ∀ x ∈ args.toList, Den X w (evS st t x) (ρ x) := fun x hx => hd x (by simp [Op.operands, Call.operands]; simpa using hx)
    obtain ⟨args⟩ := args
    obtain ⟨tys⟩ := tys
    have hex : evOp E st (.void none) t (roB ws B) (.call ⟨.builtin .len, args.toArray, tys.toArray⟩) = evBuiltin E st (.void none) t (roB ws B) .len args tys := rfl
    have hrun : ∀ (s : Sem Value) (v : Value) (w' : World) (hb : ∀ cs, builtin .len tys.toArray type cs (args.toArray.map ρ) = (do pure (.value (← s)) : Sem Next)),
        s.run P w' = .ok v w' → (execOp ρ ⟨dst, .call ⟨.builtin .len, args.toArray, tys.toArray⟩, type, pos, after, guard⟩).run P w' = .ok (.value v) w' := by
      intro s v w' hb hr
      simp only [execOp, resolve, Sem.run_bind, Sem.run_pure, Result.andThen_ok, invoke]
      rw [hb]; exact run_v hr
    rw [hex] at hc ⊢
    match args, tys, hargs, hrun with
    | [x], [T], hargs, hrun =>
      have hx := hargs x (by simp)
      simp only [evBuiltin] at hc ⊢
      clear hex hp hd
      generalize evS st t x = sx at *
      generalize hvx : ρ x = vx at hx
      have ht := hE.ty T
      cases hti : E.ty T <;> simp only [hti] at hc ht ⊢ <;> try (simp only [evLen, bad] at hc; done)
      case string =>
        have hu := tyB_string ht
        cases hx <;> try (simp only [evLen, bad] at hc; done)
        refine ⟨_, .int .., fun w' _ => hrun _ _ _ (fun _ => rfl) ?_⟩
        have hsz : ∀ l : List UInt8, (ByteArray.mk l.toArray).size = l.length := fun l => by simp [ByteArray.size]
        simp only [List.map_toArray, List.map_cons, List.map_nil, hvx, Builtin.len_, List.getElem?_toArray, List.getElem?_cons_zero, Sem.run_bind, run_underlying hu, Result.andThen_ok, Sem.run_pure, goInt, hsz]
      case slice e esz eb =>
        obtain ⟨hu, _⟩ := tyB_slice ht
        cases hx <;> try (simp only [evLen, bad] at hc; done)
        all_goals
          refine ⟨_, .int .., fun w' _ => hrun _ _ _ (fun _ => rfl) ?_⟩
          simp [Builtin.len_, hvx, run_underlying hu, goInt]
      case array n a e =>
        obtain ⟨e', hu, _⟩ := tyB_array ht
        refine ⟨_, .int .., fun w' _ => hrun _ _ _ (fun _ => rfl) ?_⟩
        simp [Builtin.len_, run_underlying hu, goInt]
    | [], _, _, _ => simp [evBuiltin, bad] at hc
    | _ :: _ :: _, _, _, _ => simp [evBuiltin, bad] at hc
    | [_], [], _, _ => simp [evBuiltin, bad] at hc
    | [_], _ :: _ :: _, _, _ => simp [evBuiltin, bad] at hc
end
end Go.Lift
