/-
  Operations that yield the same value in every world that keeps the memory that nobody here owns.
-/
import Derived.Test.YtellbdohhnafnaaLiftP
namespace Go.Lift

/-- First order: what such a value is, is fixed by its symbolic value. -/
def foC : SV → Bool
  | .int .. => true
  | .bool _ => true
  | .str _ => true
  | _ => false
def fo : SV → Bool
  | .agg cs => cs.all foC
  | s => foC s
theorem foC_eq {X X' : Nat → Prop} {w w' : World} {s : SV} {u v : Value} (h : foC s = true) (hu : Den X w s u) (hv : Den X' w' s v) : u = v := by
  cases hu <;> simp only [foC, Bool.false_eq_true] at h <;> cases hv <;> rfl
theorem fo_eq {X X' : Nat → Prop} {w w' : World} {s : SV} {u v : Value} (h : fo s = true) (hu : Den X w s u) (hv : Den X' w' s v) : u = v := by
  by_cases ha : ∃ cs, s = .agg cs
  · obtain ⟨cs, rfl⟩ := ha
    simp only [fo, List.all_eq_true] at h
    cases hu with
    | agg h1 h2 => cases hv with
      | agg h3 h4 =>
        congr 1
        apply Array.ext (by omega)
        intro i a b
        have hi : i < cs.length := by omega
        have hc : cs[i]? = some cs[i] := List.getElem?_eq_getElem hi
        have := foC_eq (h _ (List.getElem_mem hi)) (h2 i _ hc) (h4 i _ hc)
        simpa [a, b] using this
  · have : foC s = true := by cases s <;> first | exact h | exact absurd ⟨_, rfl⟩ ha
    exact foC_eq this hu hv

/-- A world in which the memory that nobody here owns is as it was. -/
structure Kept (w : World) (B : List Own) (w' : World) : Prop where
  os : w'.os = w.os
  tape : w'.tape = w.tape
  output : w'.output = w.output
  size : w.heap.size ≤ w'.heap.size
  block : ∀ b, b < w.heap.size → ¬ owns B b → w'.heap[b]? = w.heap[b]?
theorem Kept.refl (w : World) (B : List Own) : Kept w B w := ⟨rfl, rfl, rfl, Nat.le_refl _, fun _ _ _ => rfl⟩
section
variable {P : Program} {E : Env} {X : Nat → Prop} {w : World} {B : List Own}
theorem Kept.den {w' : World} (hk : Kept w B w') (hs : Sat X w B) {s : SV} {v : Value} (h : Den X w s v) : Den X w' s v :=
  h.mono (fun _ h => h) fun b hb => hk.block b (hs.xlt b hb) (hs.apart b hb)
theorem Kept.sat {w' : World} (hk : Kept w B w') (hs : Sat X w B) : Sat X w' [] :=
  ⟨fun i j b hi => by simp [getD', Own.blocks] at hi, fun i b hi => by simp [getD', Own.blocks] at hi, fun b hb => Nat.lt_of_lt_of_le (hs.xlt b hb) hk.size, fun b _ ⟨i, hi⟩ => by simp [getD', Own.blocks] at hi, fun i => by simp [getD', Own.ok]⟩
theorem Kept.ext {X' : Nat → Prop} {w' : World} {B' : List Own} (h : Ext X w B X' w' B') : Kept w B w' := ⟨h.os, h.tape, h.output, h.size, h.block⟩
theorem Kept.trans {X' : Nat → Prop} {w1 w2 : World} {B1 : List Own} (h : Ext X w B X' w1 B1) (k : Kept w1 B1 w2) : Kept w B w2 :=
  ⟨k.os.trans h.os, k.tape.trans h.tape, k.output.trans h.output, Nat.le_trans h.size k.size, fun b hb hn => by
    rw [k.block b (Nat.lt_of_lt_of_le hb h.size) fun ho => (h.own b ho).elim hn fun h => by omega, h.block b hb hn]⟩

/-- The same value in all worlds that are kept. -/
def Uni (P : Program) (X : Nat → Prop) (w : World) (B : List Own) (s : Sem Next) (sv : SV) : Prop :=
  ∃ v, Den X w sv v ∧ ∀ w', Kept w B w' → s.run P w' = .ok (.value v) w'
theorem uni_fo {s : Sem Next} {sv : SV} (hf : fo sv = true) (h : ∀ w', Kept w B w' → ∃ u, s.run P w' = .ok (.value u) w' ∧ Den X w' sv u) : Uni P X w B s sv := by
  obtain ⟨v, _, h2⟩ := h w (Kept.refl w B)
  refine ⟨v, h2, fun w' hk => ?_⟩
  obtain ⟨u, h3, h4⟩ := h w' hk
  rw [fo_eq hf h2 h4]; exact h3

/-- Operations that neither write nor make memory, and what they must yield. -/
def pureOp (o : Op) (sv : SV) : Prop := match o with
  | .move _ => True
  | .assign _ => True
  | .pick .. => fo sv = true
  | .load .. => fo sv = true
  | .nilCheck _ => True
  | .binOp .. => fo sv = true
  | .unOp .. => fo sv = true
  | .convert .. => fo sv = true
  | .slice .. => True
  | .fieldAddr .. => True
  | .field .. => True
  | .indexAddr .. => True
  | .index .. => True
  | .extract .. => True
  | .call c => match c.callee with
    | .builtin .len => fo sv = true
    | _ => False
  | _ => False

theorem pure_uni (hE : EnvOK P E) {st : Bool} {t : List (Nat × SV)} {ρ : Operand → Value} {o : Oper} (hs : Sat X w B) (h0 : ∀ x, Den X w (ev t x) (ρ x)) (hd : ∀ x ∈ o.op.operands.toList, Den X w (evS st t x) (ρ x))
    (hp : pureOp o.op (evOp E st (.void none) t [] o.op).v) (hc : (evOp E st (.void none) t [] o.op).vc) : Uni P X w B (execOp ρ o) (evOp E st (.void none) t [] o.op).v := by
  obtain ⟨dst, op, type, pos, after, guard⟩ := o
  simp only at hd hp hc ⊢
  cases op <;> try (simp only [pureOp] at hp; done)
  case move x => exact ⟨_, hd x (by simp [Op.operands]), fun w' _ => rfl⟩
  case assign x => exact ⟨_, hd x (by simp [Op.operands]), fun w' _ => rfl⟩
  case pick c a b =>
    refine uni_fo hp fun w' hk => ?_
    obtain ⟨r, h1, h2, h3⟩ := pick_sound (P := P) (hk.den hs (h0 c)) (hk.den hs (h0 a)) (hk.den hs (h0 b)) hc
    exact ⟨_, by simpa [execOp] using h1, h2⟩
  case load T x =>
    have hb : E.ty T ≠ .bad := fun e => by simp [evOp, evLoadT, e, bad] at hc
    have e1 : evLoadT (E.ty T) [] (evS st t x) = evLoad (E.ty T).agg (E.ty T).size [] (evS st t x) := by
      cases h : E.ty T <;> first | rfl | exact absurd h hb
    simp only [evOp, e1] at hc hp ⊢
    refine uni_fo hp fun w' hk => ?_
    obtain ⟨u, r1, r2, r3⟩ := load_sound (hE.ty T) hb (hk.sat hs) (hk.den hs (hd x (by simp [Op.operands]))) hc
    exact ⟨u, by simpa [execOp] using run_v r1, r2⟩
  case nilCheck x =>
    have hx := hd x (by simp [Op.operands])
    simp only [evOp] at hc ⊢
    refine ⟨_, hx, fun w' _ => ?_⟩
    simp only [execOp]
    generalize ρ x = v at hx
    generalize evS st t x = s at hx hc
    cases hx <;> simp only [isPtr, Bool.false_eq_true] at hc
    all_goals rfl
  case binOp op T x y T2 =>
    refine uni_fo hp fun w' hk => ?_
    obtain ⟨u, r1, r2, r3⟩ := bin_sound (x := x) (y := y) (hE.ty T) (hE.lv T) (hk.den hs (hd x (by simp [Op.operands]))) (hk.den hs (hd y (by simp [Op.operands]))) hc
    exact ⟨u, by simpa [execOp] using run_v r1, r2⟩
  case unOp op T x =>
    refine uni_fo hp fun w' hk => ?_
    obtain ⟨u, r1, r2, r3⟩ := un_sound (P := P) (hk.den hs (hd x (by simp [Op.operands]))) hc
    exact ⟨u, by simpa [execOp] using run_v r1, r2⟩
  case convert s d x =>
    have hb : E.ty s ≠ .bad := fun e => by simp [evOp, e, bad] at hc
    have e1 : (evOp E st (.void none) t [] (.convert s d x)) = evConvert (E.ty s) (elemTy E (E.ty s)) (E.ty d) [] (evS st t x) := by
      simp only [evOp]
    rw [e1] at hc ⊢
    rw [e1] at hp
    refine uni_fo hp fun w' hk => ?_
    obtain ⟨u, r1, r2, r3⟩ := convert_sound (hE.ty s) (fun e esz eb he => by rw [he]; exact hE.ty e) (hE.ty d) (hk.sat hs) (hk.den hs (hd x (by simp [Op.operands]))) hc hb
    exact ⟨u, by simpa [execOp] using run_v r1, r2⟩
  case fieldAddr T x f =>
    obtain ⟨u, r1, r2, r3⟩ := fieldAddr_sound (hE.ty T) (hd x (by simp [Op.operands])) hc
    exact ⟨u, r2, fun w' _ => by simpa [execOp] using run_v (r1 w')⟩
  case field T x f =>
    obtain ⟨u, r1, r2, r3⟩ := field_sound (hE.ty T) (hd x (by simp [Op.operands])) hc
    exact ⟨u, r2, fun w' _ => by simpa [execOp] using run_v (r1 w')⟩
  case indexAddr T x i =>
    obtain ⟨u, r1, r2, r3⟩ := indexAddr_sound (hE.ty T) (hd x (by simp [Op.operands])) (hd i (by simp [Op.operands])) hc
    exact ⟨u, r2, fun w' _ => by simpa [execOp] using run_v (r1 w')⟩
  case index T x i =>
    obtain ⟨u, r1, r2, r3⟩ := index_sound (hE.ty T) (hd x (by simp [Op.operands])) (hd i (by simp [Op.operands])) hc
    exact ⟨u, r2, fun w' _ => by simpa [execOp] using run_v (r1 w')⟩
  case slice T x lo hi mx =>
    have hopt : ∀ (o : Option Operand), (∀ y, o = some y → Den X w (evS st t y) (ρ y)) → (∀ z, evO st t o = some z → ∃ y, o.map ρ = some y ∧ Den X w z y) ∧ (evO st t o = none → o.map ρ = none) := by
      intro o ho
      cases o with
      | none => exact ⟨fun z h => by simp [evO] at h, fun _ => rfl⟩
      | some y => exact ⟨fun z h => by simp [evO] at h; subst h; exact ⟨_, rfl, ho y rfl⟩, fun h => by simp [evO] at h⟩
    obtain ⟨a1, a2⟩ := hopt lo fun y hy => hd y (by subst hy; simp [Op.operands])
    obtain ⟨b1, b2⟩ := hopt hi fun y hy => hd y (by subst hy; simp [Op.operands])
    obtain ⟨c1, c2⟩ := hopt mx fun y hy => hd y (by subst hy; simp [Op.operands])
    obtain ⟨u, r1, r2, r3⟩ := slice_sound (hE.ty T) (hd x (by simp [Op.operands])) a1 a2 b1 b2 c1 c2 hc
    exact ⟨u, r2, fun w' _ => by simpa [execOp] using run_v (r1 w')⟩
  case extract x i =>
    have hx := hd x (by simp [Op.operands])
    simp only [evOp] at hc ⊢
    generalize evS st t x = s at hx hc ⊢
    generalize hv : ρ x = v at hx
    cases hx <;> try (simp only [evExtract, bad] at hc; done)
    case tup cs vs hsz h =>
      simp only [evExtract] at hc ⊢
      refine ⟨vs.getD i undef, h i _ (get?_of_lt _ hc), fun w' _ => ?_⟩
      simp only [execOp, hv, Instr.extract]
      rw [agetD_of_lt (show i < vs.size by omega)]
      simp
  case call c =>
    obtain ⟨callee, args, tys⟩ := c
    cases callee <;> try (simp only [pureOp] at hp; done)
    case builtin b =>
    cases b <;> try (simp only [pureOp] at hp; done)
    case len =>
    have hargs : ∀ x ∈ args.toList, Den X w (evS st t x) (ρ x) := fun x hx => hd x (by simp [Op.operands, Call.operands]; simpa using hx)
    obtain ⟨args⟩ := args
    obtain ⟨tys⟩ := tys
    have hex : evOp E st (.void none) t [] (.call ⟨.builtin .len, args.toArray, tys.toArray⟩) = evBuiltin E st (.void none) t [] .len args tys := rfl
    have hrun : ∀ (s : Sem Value) (v : Value) (w' : World) (hb : ∀ cs, builtin .len tys.toArray type cs (args.toArray.map ρ) = (do pure (.value (← s)) : Sem Next)),
        s.run P w' = .ok v w' → (execOp ρ ⟨dst, .call ⟨.builtin .len, args.toArray, tys.toArray⟩, type, pos, after, guard⟩).run P w' = .ok (.value v) w' := by
      intro s v w' hb hr
      simp only [execOp, resolve, Sem.run_bind, Sem.run_pure, Result.andThen_ok, invoke]
      rw [hb]; exact run_v hr
    rw [hex] at hc ⊢
    match args, tys, hargs, hrun with
    | [x], [T], hargs, hrun =>
      have hx := hargs x (by simp)
      simp only [evBuiltin] at hc ⊢
      clear hex hp hd
      generalize evS st t x = sx at *
      generalize hvx : ρ x = vx at hx
      have ht := hE.ty T
      cases hti : E.ty T <;> simp only [hti] at hc ht ⊢ <;> try (simp only [evLen, bad] at hc; done)
      case string =>
        have hu := tyB_string ht
        cases hx <;> try (simp only [evLen, bad] at hc; done)
        refine ⟨_, .int .., fun w' _ => hrun _ _ _ (fun _ => rfl) ?_⟩
        have hsz : ∀ l : List UInt8, (ByteArray.mk l.toArray).size = l.length := fun l => by simp [ByteArray.size]
        simp only [List.map_toArray, List.map_cons, List.map_nil, hvx, Builtin.len_, List.getElem?_toArray, List.getElem?_cons_zero, Sem.run_bind, run_underlying hu, Result.andThen_ok, Sem.run_pure, goInt, hsz]
      case slice e esz eb =>
        obtain ⟨hu, _⟩ := tyB_slice ht
        cases hx <;> try (simp only [evLen, bad] at hc; done)
        all_goals
          refine ⟨_, .int .., fun w' _ => hrun _ _ _ (fun _ => rfl) ?_⟩
          simp [Builtin.len_, hvx, run_underlying hu, goInt]
      case array n a e =>
        obtain ⟨e', hu, _⟩ := tyB_array ht
        refine ⟨_, .int .., fun w' _ => hrun _ _ _ (fun _ => rfl) ?_⟩
        simp [Builtin.len_, run_underlying hu, goInt]
    | [], _, _, _ => simp [evBuiltin, bad] at hc
    | _ :: _ :: _, _, _, _ => simp [evBuiltin, bad] at hc
    | [_], [], _, _ => simp [evBuiltin, bad] at hc
    | [_], _ :: _ :: _, _, _ => simp [evBuiltin, bad] at hc
end
end Go.Lift
