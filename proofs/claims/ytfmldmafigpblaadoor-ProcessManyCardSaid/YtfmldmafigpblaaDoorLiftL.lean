/-
  One operation.
-/
import Derived.Test.YtfmldmafigpblaaDoorLiftK
namespace Go.Lift

structure Env where
  ty : Nat → TyI
  zr : Nat → List SV
  lv : Nat → List Nat
  kp : Bool
structure EnvOK (P : Program) (E : Env) : Prop where
  ty : ∀ T, tyB P T (E.ty T) = true
  zr : ∀ T, 0 < (E.zr T).length → zeroB P T (E.zr T) = true
  lv : ∀ T, lvB P T (E.lv T) = true

def evS (st : Bool) (t : List (Nat × SV)) (x : Operand) : SV := match st with
  | true => (ev t x).strip
  | false => ev t x
def evL (st : Bool) (t : List (Nat × SV)) : List Operand → List SV
  | [] => []
  | x :: r => evS st t x :: evL st t r
def evP (st : Bool) (t : List (Nat × SV)) : List (Nat × Operand) → List (Nat × SV)
  | [] => []
  | (i, x) :: r => (i, evS st t x) :: evP st t r
def evO (st : Bool) (t : List (Nat × SV)) : Option Operand → Option SV
  | none => none
  | some x => some (evS st t x)

def isPtr : SV → Bool
  | .rptr .. => true
  | .xp _ => true
  | .fn .. => true
  | _ => false
def evLoadT (ti : TyI) (B : List Own) (s : SV) : Out := match ti with
  | .bad => bad
  | ti => evLoad ti.agg ti.size B s
def evStoreT (ti : TyI) (B : List Own) (p s : SV) : Out := match ti with
  | .bad => bad
  | ti => evStore ti.size B p s
def evNew (h : RowH) (T : Nat) (B : List Own) (cs : List SV) (c : Prop) : Out := ⟨.rptr B.length h cs.length 0 0, B ++ [.row h T cs.length [cs]], c⟩
def evLen (ti : TyI) (B : List Own) (s : SV) : Out := match ti with
  | .array n _ _ => ⟨.int .i64 n, B, True⟩
  | .string => match s with
    | .str l => ⟨.int .i64 (l.length : Nat), B, True⟩
    | _ => bad
  | .slice .. => match s with
    | .sl _ _ n _ => ⟨.int .i64 (n : Nat), B, True⟩
    | .row _ _ _ _ n => ⟨.int .i64 (n : Nat), B, True⟩
    | _ => bad
  | _ => bad
def evCap (ti : TyI) (B : List Own) (s : SV) : Out := match ti with
  | .slice .. => match s with
    | .sl true _ n _ => ⟨.int .i64 (n : Nat), B, True⟩
    | _ => bad
  | _ => bad
def evMax (B : List Own) : SV → SV → Out
  | .int k a, .int k' b => ⟨.int k (max2I a b), B, k = k'⟩
  | _, _ => bad
def evMin (B : List Own) : SV → SV → Out
  | .int k a, .int k' b => ⟨.int k (min2I a b), B, k = k'⟩
  | _, _ => bad
def evExtract (B : List Own) (i : Nat) : SV → Out
  | .tup cs => ⟨cs.getD i .any, B, i < cs.length⟩
  | _ => bad
def elemTy (E : Env) : TyI → TyI
  | .slice e _ _ => E.ty e
  | _ => .bad
def evBuiltin (E : Env) (st : Bool) (h : RowH) (t : List (Nat × SV)) (B : List Own) (b : Builtin) (args : List Operand) (tys : List TypeId) : Out :=
  match b with
  | .len => match args, tys with
    | [x], [T] => evLen (E.ty T) B (evS st t x)
    | _, _ => bad
  | .cap => match args, tys with
    | [x], [T] => evCap (E.ty T) B (evS st t x)
    | _, _ => bad
  | .append => match args, tys with
    | [x, y], [T, T2] => evAppend E.kp (E.ty T) (E.ty T2) h B (evS st t x) (evS st t y)
    | _, _ => bad
  | .copy => match args, tys with
    | [x, y], [T, _] => evCopy (E.ty T) B (evS st t x) (evS st t y)
    | _, _ => bad
  | .clear => match args, tys with
    | [x], [T] => evClear (E.ty T) E.zr B (evS st t x)
    | _, _ => bad
  | .max => match args with
    | [x, y] => evMax B (evS st t x) (evS st t y)
    | _ => bad
  | .min => match args with
    | [x, y] => evMin B (evS st t x) (evS st t y)
    | _ => bad
  | _ => bad

def evOp (E : Env) (st : Bool) (h : RowH) (t : List (Nat × SV)) (B : List Own) (o : Op) : Out :=
  match o with
  | .move x => ⟨evS st t x, B, True⟩
  | .assign x => ⟨evS st t x, B, True⟩
  | .pick c a b => evPick B (ev t c) (ev t a) (ev t b)
  | .alloc T => evNew h T B (E.zr T) (0 < (E.zr T).length)
  | .box T x => evNew h T B (evS st t x).cells (solids (evS st t x).cells = true)
  | .build T ps => match evBuild (E.ty T) (E.zr T) B (evP st t ps.toList) with
    | ⟨v, B', c⟩ => ⟨v, B', 0 < (E.zr T).length ∧ c⟩
  | .buildSlice T n ps => evBuildSlice (E.ty T) E.zr h B n (evP st t ps.toList)
  | .load T x => evLoadT (E.ty T) B (evS st t x)
  | .store T a x => evStoreT (E.ty T) B (evS st t a) (evS st t x)
  | .nilCheck x => ⟨evS st t x, B, isPtr (evS st t x) = true⟩
  | .binOp op T x y _ => evCmp (E.ty T) (E.lv T) op h B (evS st t x) (evS st t y) y
  | .unOp op _ x => evUn op B (evS st t x)
  | .convert s d x => match E.ty s with
    | .bad => bad
    | ti => evConvert ti (elemTy E ti) (E.ty d) B (evS st t x)
  | .makeFunc (.func f) first caps => match first.toList with
    | [] => ⟨.fn f (evL st t caps.toList), B, True⟩
    | x :: r => ⟨.bm f (evL st t (x :: r)), B, caps.toList = []⟩
  | .makeSlice T l c => evMakeSlice (E.ty T) E.zr h B (evS st t l) (evS st t c)
  | .slice T x lo hi mx => evSlice E.kp (E.ty T) B (evS st t x) (evO st t lo) (evO st t hi) (evO st t mx)
  | .fieldAddr T x f => evFieldAddr (E.ty T) B f (evS st t x)
  | .field T x f => evField (E.ty T) B f (evS st t x)
  | .indexAddr T x i => evIndexAddr (E.ty T) B (evS st t x) (evS st t i)
  | .index T x i => evIndex (E.ty T) B (evS st t x) (evS st t i)
  | .extract x i => evExtract B i (evS st t x)
  | .makeMap T none => evMakeMap (E.ty T) h T B
  | .insert T m k x => evInsert (E.ty T) B (evS st t m) (evS st t k) (evS st t x)
  | .mapUpdate T m k x => evInsert (E.ty T) B (evS st t m) (evS st t k) (evS st t x)
  | .lookup T m k ok => evLookup (E.ty T) B (evS st t m) (evS st t k) ok
  | .call c => match c.callee with
    | .builtin b => evBuiltin E st h t B b c.args.toList c.argTypes.toList
    | _ => bad
  | _ => bad

section
variable {P : Program} {E : Env} {X : Nat → Prop} {w : World} {B : List Own}

def Done (P : Program) (X : Nat → Prop) (w : World) (B : List Own) (s : Sem Next) (out : Out) : Prop :=
  ∃ v w', (s.run P w = .ok (.value v) w' ∨ (s.run P w = .ok .skip w' ∧ v = undef)) ∧ Sat X w' out.B ∧ Den X w' out.v v ∧ Ext X w B X w' out.B

theorem done_same (hs : Sat X w B) {s : Sem Next} {out : Out} {v : Value} (hr : s.run P w = .ok (.value v) w) (hd : Den X w out.v v) (hB : out.B = B) : Done P X w B s out :=
  ⟨v, w, .inl hr, hB ▸ hs, hd, hB ▸ Ext.refl _ _ _⟩

theorem run_v {s : Sem Value} {v : Value} {w' : World} (h : s.run P w = .ok v w') : (do pure (.value (← s)) : Sem Next).run P w = .ok (.value v) w' := by
  simp [h]

theorem evBuild_B {ti : TyI} {z : List SV} {ps : List (Nat × SV)} : (evBuild ti z B ps).B = B := by simp [evBuild]

theorem evOp_sound (hE : EnvOK P E) {st : Bool} {t : List (Nat × SV)} {ρ : Operand → Value} {o : Oper} (hs : Sat X w B) (h0 : ∀ x, Den X w (ev t x) (ρ x)) (hk : ∀ v, ρ (.const v) = v) (hd : ∀ x ∈ o.op.operands.toList, Den X w (evS st t x) (ρ x)) :
    ∃ h, (evOp E st h t B o.op).vc → Done P X w B (execOp ρ o) (evOp E st h t B o.op) := by
  obtain ⟨dst, op, type, pos, after, guard⟩ := o
  have hlist : ∀ (l : List Operand), (∀ x ∈ l, Den X w (evS st t x) (ρ x)) → ∀ (i : Nat) (c : SV), (evL st t l)[i]? = some c → Den X w c ((l.map ρ).getD i undef) := by
    intro l
    induction l with
    | nil => intro _ i c h; simp [evL] at h
    | cons x l ih =>
      intro hl i c h
      cases i with
      | zero => simp [evL] at h; subst h; simpa using hl x (List.mem_cons_self ..)
      | succ i => simpa using ih (fun y hy => hl y (List.mem_cons_of_mem _ hy)) i c (by simpa [evL] using h)
  have hlen : ∀ (l : List Operand), (evL st t l).length = l.length := by intro l; induction l with | nil => rfl | cons x l ih => simp [evL, ih]
  have hpl : ∀ (l : List (Nat × Operand)), (evP st t l).length = l.length := by
    intro l
    induction l with
    | nil => rfl
    | cons x l ih => obtain ⟨i, x⟩ := x; simp [evP, ih]
  have hpd : ∀ (l : List (Nat × Operand)), (∀ x ∈ l.map (·.2), Den X w (evS st t x) (ρ x)) → ∀ (i : Nat) (p : Nat × SV) (q : Nat × Value), (evP st t l)[i]? = some p → (l.map fun (i, x) => (i, ρ x))[i]? = some q → p.1 = q.1 ∧ Den X w p.2 q.2 := by
    intro l
    induction l with
    | nil => intro _ i p q h; simp [evP] at h
    | cons x l ih =>
      obtain ⟨j, x⟩ := x
      intro hl i p q hp hq
      cases i with
      | zero => simp [evP] at hp hq; subst hp hq; exact ⟨rfl, hl x (by simp)⟩
      | succ i => exact ih (fun y hy => hl y (by simp at hy ⊢; exact .inr hy)) i p q (by simpa [evP] using hp) (by simpa using hq)
  have void : (∀ h, ¬ (evOp E st h t B op).vc) → ∃ h, (evOp E st h t B op).vc → Done P X w B (execOp ρ ⟨dst, op, type, pos, after, guard⟩) (evOp E st h t B op) := fun h => ⟨.void none, fun hc => absurd hc (h _)⟩
  simp only at hd ⊢
  cases op <;> try (refine void fun h hc => ?_; simp only [evOp, bad] at hc; done)
  case move x => exact ⟨.void none, fun _ => done_same hs rfl (hd x (by simp [Op.operands])) rfl⟩
  case assign x => exact ⟨.void none, fun _ => done_same hs rfl (hd x (by simp [Op.operands])) rfl⟩
  case pick c a b =>
    refine ⟨.void none, fun hc => ?_⟩
    obtain ⟨r, h1, h2, h3⟩ := pick_sound (P := P) (h0 c) (h0 a) (h0 b) hc
    exact done_same hs (by simpa [execOp] using h1) h2 h3
  case alloc T =>
    by_cases hl : 0 < (E.zr T).length
    · obtain ⟨h', u, w', r1, r2, r3, r4⟩ := alloc_sound hs (hE.zr T hl)
      exact ⟨h', fun _ => ⟨u, w', .inl (by simpa [execOp] using run_v r1), r2, r3, r4⟩⟩
    · exact void fun h hc => hl (by simpa [evOp, evNew] using hc)
  case box T x =>
    have hx := hd x (by simp [Op.operands])
    by_cases hl : solids (evS st t x).cells = true
    · obtain ⟨h', u, w', r1, r2, r3, r4⟩ := box_sound (P := P) (T := T) hs hx hl
      exact ⟨h', fun _ => ⟨u, w', .inl (by simpa [execOp] using run_v r1), r2, r3, r4⟩⟩
    · exact void fun h hc => hl (by simpa [evOp, evNew] using hc)
  case build T ps =>
    refine ⟨.void none, fun hc => ?_⟩
    simp only [evOp] at hc ⊢
    obtain ⟨hz, hc⟩ := hc
    obtain ⟨u, r1, r2, r3⟩ := build_sound (hE.ty T) (hE.zr T hz) (vs := ps.map fun (i, x) => (i, ρ x)) (by simp [hpl]) (fun i p q hp hq => hpd ps.toList (fun x hx => hd x (by simpa [Op.operands] using hx)) i p q hp (by simpa using hq)) hc
    exact done_same hs (by simpa [execOp] using run_v (r1 w)) r2 r3
  case buildSlice T n ps =>
    by_cases hti : ∃ e esz eb, E.ty T = .slice e esz eb
    case neg => exact void fun h hc => by simp only [evOp] at hc; cases ht : E.ty T <;> simp [ht, evBuildSlice, bad] at hc hti
    obtain ⟨e, esz, eb, hti⟩ := hti
    by_cases hz : 0 < (E.zr e).length
    · obtain ⟨h', hh⟩ := buildSlice_sound (zr := E.zr) (hE.ty T) (fun e' esz' eb' he => by rw [hti] at he; cases he; exact hE.zr _ hz) hs (len := n) (ps := evP st t ps.toList) (vs := ps.map fun (i, x) => (i, ρ x)) (by simp [hpl])
        (fun i p q hp hq => hpd ps.toList (fun x hx => hd x (by simpa [Op.operands] using hx)) i p q hp (by simpa using hq))
      refine ⟨h', fun hc => ?_⟩
      obtain ⟨u, w', r1, r2, r3, r4⟩ := hh hc
      exact ⟨u, w', .inl (by simpa [execOp] using run_v r1), r2, r3, r4⟩
    · exact void fun h hc => by simp only [evOp, hti, evBuildSlice] at hc; omega
  case load T x =>
    refine ⟨.void none, fun hc => ?_⟩
    have hb : E.ty T ≠ .bad := fun e => by simp [evOp, evLoadT, e, bad] at hc
    have e1 : evLoadT (E.ty T) B (evS st t x) = evLoad (E.ty T).agg (E.ty T).size B (evS st t x) := by
      cases h : E.ty T <;> first | rfl | exact absurd h hb
    simp only [evOp, e1] at hc ⊢
    obtain ⟨u, r1, r2, r3⟩ := load_sound (hE.ty T) hb hs (hd x (by simp [Op.operands])) hc
    exact done_same hs (by simpa [execOp] using run_v r1) r2 r3
  case store T a x =>
    refine ⟨.void none, fun hc => ?_⟩
    have hb : E.ty T ≠ .bad := fun e => by simp [evOp, evStoreT, e, bad] at hc
    have e1 : evStoreT (E.ty T) B (evS st t a) (evS st t x) = evStore (E.ty T).size B (evS st t a) (evS st t x) := by
      cases h : E.ty T <;> first | rfl | exact absurd h hb
    simp only [evOp, e1] at hc ⊢
    obtain ⟨w', r1, r2, r3⟩ := store_sound (hE.ty T) hb hs (hd a (by simp [Op.operands])) (hd x (by simp [Op.operands])) hc
    refine ⟨undef, w', .inr ⟨by simp [execOp, r1], rfl⟩, r2, ?_, r3⟩
    have : (evStore (E.ty T).size B (evS st t a) (evS st t x)).v = .any := by
      unfold evStore; split
      · split <;> rfl
      · rfl
    rw [this]; exact .any _
  case nilCheck x =>
    refine ⟨.void none, fun hc => ?_⟩
    have hx := hd x (by simp [Op.operands])
    simp only [evOp] at hc ⊢
    refine done_same hs (v := ρ x) ?_ hx rfl
    simp only [execOp]
    generalize ρ x = v at hx
    generalize evS st t x = s at hx hc
    cases hx <;> simp only [isPtr, Bool.false_eq_true] at hc
    all_goals rfl
  case binOp op T x y T2 =>
    by_cases hsl : ∃ e a b, E.ty T = .slice e a b
    · obtain ⟨e, a, b, hti⟩ := hsl
      have hT : P.underlying T = some (.slice e) := by have := hE.ty T; rw [hti] at this; exact (tyB_slice this).1
      obtain ⟨h, hh⟩ := nil_sound hT (hd x (by simp [Op.operands]))
      refine ⟨h, fun hc => ?_⟩
      simp only [evOp, hti, evCmp, evNil] at hc ⊢
      split at hc
      · rename_i bv hy hb
        obtain ⟨hr, a', n', c', hv⟩ := hh _ hb
        have hyv : ρ y = .slice none 0 0 := by
          unfold nilOpd at hy
          split at hy
          · exact hk _
          · cases hy
        have hg : (eqGuard op T x y (ρ x) (ρ y)).run P w = .ok () w := eqGuard_plain (by rw [hv]; exact ⟨by simp, by simp⟩)
        cases op <;> simp only [evEqB, bad] at hc
        case eql =>
          have h1 : (do eqGuard .eql T x y (ρ x) (ρ y); binOp .eql T (ρ x) (ρ y) : Sem Value).run P w = .ok (.bool (bv)) w := by rw [hyv] at hg ⊢; rw [hv] at hg hr ⊢; simp only [Sem.run_bind, hg, Result.andThen_ok, binOp, hr, Sem.run_pure]
          exact done_same hs (by simpa [execOp] using run_v h1) (.bool _) rfl
        case neq =>
          have h1 : (do eqGuard .neq T x y (ρ x) (ρ y); binOp .neq T (ρ x) (ρ y) : Sem Value).run P w = .ok (.bool (!bv)) w := by rw [hyv] at hg ⊢; rw [hv] at hg hr ⊢; simp only [Sem.run_bind, hg, Result.andThen_ok, binOp, hr, Sem.run_pure]
          exact done_same hs (by simpa [execOp] using run_v h1) (.bool _) rfl
      · exact hc.elim
    by_cases hsp : E.ty T = .ptr
    · have hT : ∃ e, P.underlying T = some (.pointer e) := by have := hE.ty T; rw [hsp] at this; exact tyB_ptr this
      obtain ⟨e, hT⟩ := hT
      refine ⟨.void none, fun hc => ?_⟩
      simp only [evOp, hsp, evCmp, evNilP] at hc ⊢
      split at hc
      · rename_i bv hy hb
        obtain ⟨hr, a', hv⟩ := nilP_sound hT (hd x (by simp [Op.operands])) hb
        have hyv : ρ y = .pointer none := by
          unfold nilPOpd at hy
          split at hy
          · exact hk _
          · cases hy
        have hg : (eqGuard op T x y (ρ x) (ρ y)).run P w = .ok () w := eqGuard_plain (by rw [hv]; exact ⟨by simp, by simp⟩)
        cases op <;> simp only [evEqB, bad] at hc
        case eql =>
          have h1 : (do eqGuard .eql T x y (ρ x) (ρ y); binOp .eql T (ρ x) (ρ y) : Sem Value).run P w = .ok (.bool (bv)) w := by rw [hyv] at hg ⊢; rw [hv] at hg hr ⊢; simp only [Sem.run_bind, hg, Result.andThen_ok, binOp, hr, Sem.run_pure]
          exact done_same hs (by simpa [execOp] using run_v h1) (.bool _) rfl
        case neq =>
          have h1 : (do eqGuard .neq T x y (ρ x) (ρ y); binOp .neq T (ρ x) (ρ y) : Sem Value).run P w = .ok (.bool (!bv)) w := by rw [hyv] at hg ⊢; rw [hv] at hg hr ⊢; simp only [Sem.run_bind, hg, Result.andThen_ok, binOp, hr, Sem.run_pure]
          exact done_same hs (by simpa [execOp] using run_v h1) (.bool _) rfl
      · exact hc.elim
    have evCmp_bin : ∀ h, evCmp (E.ty T) (E.lv T) op h B (evS st t x) (evS st t y) y = evBin (E.ty T) (E.lv T) op B (evS st t x) (evS st t y) := by
      intro h
      cases hti : E.ty T <;> first | rfl | exact absurd hti hsp | exact absurd ⟨_, _, _, hti⟩ hsl
    refine ⟨.void none, fun hc => ?_⟩
    obtain ⟨u, r1, r2, r3⟩ := bin_sound (x := x) (y := y) (hE.ty T) (hE.lv T) (hd x (by simp [Op.operands])) (hd y (by simp [Op.operands])) (by simpa only [evOp, evCmp_bin] using hc)
    exact done_same hs (by simpa [execOp] using run_v r1) (by simpa only [evOp, evCmp_bin] using r2) (by simpa only [evOp, evCmp_bin] using r3)
  case makeMap T r =>
    cases r with
    | some r => exact void fun h hc => by simp [evOp, bad] at hc
    | none =>
      by_cases hm : (evMakeMap (E.ty T) (.void none) T B).vc
      · obtain ⟨h', u, w', r1, r2, r3, r4⟩ := makeMap_sound (P := P) hs hm
        exact ⟨h', fun _ => ⟨u, w', .inl (by simpa [execOp] using run_v r1), r2, r3, r4⟩⟩
      · refine void fun h hc => hm ?_
        simp only [evOp] at hc
        cases hti : E.ty T <;> simp only [hti, evMakeMap, bad] at hc ⊢
  case insert T m k x =>
    refine ⟨.void none, fun hc => ?_⟩
    simp only [evOp] at hc ⊢
    obtain ⟨w', r1, r2, r3, r4⟩ := insert_sound (hE.ty T) hs (hd m (by simp [Op.operands])) (hd k (by simp [Op.operands])) (hd x (by simp [Op.operands])) hc
    exact ⟨undef, w', .inr ⟨by simp [execOp, r1], rfl⟩, r2, by rw [r4]; exact .any _, r3⟩
  case mapUpdate T m k x =>
    refine ⟨.void none, fun hc => ?_⟩
    simp only [evOp] at hc ⊢
    obtain ⟨w', r1, r2, r3, r4⟩ := insert_sound (hE.ty T) hs (hd m (by simp [Op.operands])) (hd k (by simp [Op.operands])) (hd x (by simp [Op.operands])) hc
    exact ⟨undef, w', .inr ⟨by simp [execOp, r1], rfl⟩, r2, by rw [r4]; exact .any _, r3⟩
  case lookup T m k ok =>
    refine ⟨.void none, fun hc => ?_⟩
    simp only [evOp] at hc ⊢
    obtain ⟨u, r1, r2, r3⟩ := lookup_sound (P := P) (hE.ty T) hs (hd m (by simp [Op.operands])) (hd k (by simp [Op.operands])) hc
    exact done_same hs (by simpa [execOp] using run_v (r1 w fun _ _ => rfl)) r2 r3
  case unOp op T x =>
    refine ⟨.void none, fun hc => ?_⟩
    obtain ⟨u, r1, r2, r3⟩ := un_sound (P := P) (hd x (by simp [Op.operands])) hc
    exact done_same hs (by simpa [execOp] using run_v r1) r2 r3
  case convert s d x =>
    refine ⟨.void none, fun hc => ?_⟩
    have hb : E.ty s ≠ .bad := fun e => by simp [evOp, e, bad] at hc
    have e1 : (evOp E st (.void none) t B (.convert s d x)) = evConvert (E.ty s) (elemTy E (E.ty s)) (E.ty d) B (evS st t x) := by
      simp only [evOp]
    rw [e1] at hc ⊢
    obtain ⟨u, r1, r2, r3⟩ := convert_sound (hE.ty s) (fun e esz eb he => by rw [he]; exact hE.ty e) (hE.ty d) hs (hd x (by simp [Op.operands])) hc hb
    exact done_same hs (by simpa [execOp] using run_v r1) r2 r3
  case makeFunc fn first caps =>
    cases fn <;> try (refine void fun h hc => ?_; simp only [evOp, bad] at hc; done)
    case func f =>
      refine ⟨.void none, fun hc => ?_⟩
      cases hf : first.toList with
      | nil =>
        simp only [evOp, hf] at hc ⊢
        have hf : first = #[] := by simpa using hf
        subst hf
        refine done_same hs (v := .func (.func f) #[] (caps.map ρ)) (by simp [execOp, Instr.makeFunc]) (.fn (by simp [hlen]) fun i c h => ?_) rfl
        have := hlist caps.toList (fun x hx => hd x (by simpa [Op.operands] using hx)) i c h
        simpa using this
      | cons x r =>
        simp only [evOp, hf] at hc ⊢
        have hc0 : caps = #[] := by simpa using hc
        subst hc0
        refine done_same hs (v := .func (.func f) (first.map ρ) #[]) (by simp [execOp, Instr.makeFunc]) (.bm (by rw [← hf]; simp [hlen]) fun i c h => ?_) rfl
        rw [← hf] at h
        have := hlist first.toList (fun x hx => hd x (by simpa [Op.operands] using hx)) i c h
        simpa using this
  case makeSlice T l c =>
    by_cases hti : ∃ e esz eb, E.ty T = .slice e esz eb
    case neg => exact void fun h hc => by simp only [evOp] at hc; cases ht : E.ty T <;> simp [ht, evMakeSlice, bad] at hc hti
    obtain ⟨e, esz, eb, hti⟩ := hti
    by_cases hz : 0 < (E.zr e).length
    · obtain ⟨h', hh⟩ := makeSlice_sound (zr := E.zr) (hE.ty T) (fun e' esz' eb' he => by rw [hti] at he; cases he; exact hE.zr _ hz) hs (hd l (by simp [Op.operands])) (hd c (by simp [Op.operands]))
      refine ⟨h', fun hc => ?_⟩
      obtain ⟨u, w', r1, r2, r3, r4⟩ := hh hc
      exact ⟨u, w', .inl (by simpa [execOp] using run_v r1), r2, r3, r4⟩
    · refine void fun h hc => ?_
      simp only [evOp, hti, evMakeSlice] at hc
      split at hc
      · omega
      · exact hc
  case slice T x lo hi mx =>
    refine ⟨.void none, fun hc => ?_⟩
    have hopt : ∀ (o : Option Operand), (∀ x ∈ o.toArray.toList, Den X w (evS st t x) (ρ x)) → (∀ s, evO st t o = some s → ∃ y, o.map ρ = some y ∧ Den X w s y) ∧ (evO st t o = none → o.map ρ = none) := by
      intro o ho
      cases o with
      | none => exact ⟨by simp [evO], by simp⟩
      | some x => exact ⟨fun s hs => by simp [evO] at hs; subst hs; exact ⟨_, rfl, ho x (by simp)⟩, by simp [evO]⟩
    have hall : ∀ x' ∈ (Op.slice T x lo hi mx).operands.toList, Den X w (evS st t x') (ρ x') := hd
    obtain ⟨a1, a2⟩ := hopt lo fun y hy => hall y (by simp [Op.operands] at hy ⊢; exact .inr (.inl hy))
    obtain ⟨b1, b2⟩ := hopt hi fun y hy => hall y (by simp [Op.operands] at hy ⊢; exact .inr (.inr (.inl hy)))
    obtain ⟨c1, c2⟩ := hopt mx fun y hy => hall y (by simp [Op.operands] at hy ⊢; exact .inr (.inr (.inr hy)))
    obtain ⟨u, r1, r2, r3⟩ := slice_sound (hE.ty T) hs (hall x (by simp [Op.operands])) a1 a2 b1 b2 c1 c2 hc
    exact done_same hs (by simpa [execOp] using run_v (r1 w)) r2 r3
  case fieldAddr T x f =>
    refine ⟨.void none, fun hc => ?_⟩
    obtain ⟨u, r1, r2, r3⟩ := fieldAddr_sound (hE.ty T) (hd x (by simp [Op.operands])) hc
    exact done_same hs (by simpa [execOp] using run_v (r1 w)) r2 r3
  case field T x f =>
    refine ⟨.void none, fun hc => ?_⟩
    obtain ⟨u, r1, r2, r3⟩ := field_sound (hE.ty T) (hd x (by simp [Op.operands])) hc
    exact done_same hs (by simpa [execOp] using run_v (r1 w)) r2 r3
  case indexAddr T x i =>
    refine ⟨.void none, fun hc => ?_⟩
    obtain ⟨u, r1, r2, r3⟩ := indexAddr_sound (hE.ty T) (hd x (by simp [Op.operands])) (hd i (by simp [Op.operands])) hc
    exact done_same hs (by simpa [execOp] using run_v (r1 w)) r2 r3
  case index T x i =>
    refine ⟨.void none, fun hc => ?_⟩
    obtain ⟨u, r1, r2, r3⟩ := index_sound (hE.ty T) (hd x (by simp [Op.operands])) (hd i (by simp [Op.operands])) hc
    exact done_same hs (by simpa [execOp] using run_v (r1 w)) r2 r3
  case extract x i =>
    refine ⟨.void none, fun hc => ?_⟩
    have hx := hd x (by simp [Op.operands])
    simp only [evOp] at hc ⊢
    generalize evS st t x = s at hx hc ⊢
    generalize hv : ρ x = v at hx
    cases hx <;> try (simp only [evExtract, bad] at hc; done)
    case tup cs vs hsz h =>
      simp only [evExtract] at hc ⊢
      refine done_same hs (v := vs.getD i undef) ?_ (h i _ (get?_of_lt _ hc)) rfl
      simp only [execOp, hv, Instr.extract]
      rw [agetD_of_lt (show i < vs.size by omega)]
      simp
  case call c =>
    obtain ⟨callee, args, tys⟩ := c
    cases callee <;> try (refine void fun h hc => ?_; simp only [evOp, bad] at hc; done)
    case builtin b =>
    have hargs : ∀ x ∈ args.toList, Den X w (evS st t x) (ρ x) := fun x hx => hd x (by simp [Op.operands, Call.operands]; simpa using hx)
    obtain ⟨args⟩ := args
    obtain ⟨tys⟩ := tys
    have hex : ∀ (h : RowH), evOp E st h t B (.call ⟨.builtin b, args.toArray, tys.toArray⟩) = evBuiltin E st h t B b args tys := fun h => rfl
    have hrun : ∀ (s : Sem Value) (v : Value) (w' : World) (b : Builtin) (hb : ∀ cs, builtin b tys.toArray type cs (args.toArray.map ρ) = (do pure (.value (← s)) : Sem Next)),
        s.run P w = .ok v w' → (execOp ρ ⟨dst, .call ⟨.builtin b, args.toArray, tys.toArray⟩, type, pos, after, guard⟩).run P w = .ok (.value v) w' := by
      intro s v w' b hb hr
      simp only [execOp, resolve, Sem.run_bind, Sem.run_pure, Result.andThen_ok, invoke]
      rw [hb]; exact run_v hr
    simp only [hex]
    cases b <;> try (refine ⟨.void none, fun hc => ?_⟩; simp only [evBuiltin, bad] at hc; done)
    case append =>
      match args, tys, hargs, hrun with
      | [x, y], [T, T2], hargs, hrun =>
        obtain ⟨h', hh⟩ := append_sound (ty := type) (hE.ty T) (hE.ty T2) hs (hargs x (by simp)) (hargs y (by simp))
        refine ⟨h', fun hc => ?_⟩
        obtain ⟨u, w', r1, r2, r3, r4⟩ := hh hc
        exact ⟨u, w', .inl (hrun _ _ _ .append (fun _ => rfl) (by simpa using r1)), r2, r3, r4⟩
      | [], _, _, _ => exact ⟨.void none, fun hc => by simp [evBuiltin, bad] at hc⟩
      | [_], _, _, _ => exact ⟨.void none, fun hc => by simp [evBuiltin, bad] at hc⟩
      | _ :: _ :: _ :: _, _, _, _ => exact ⟨.void none, fun hc => by simp [evBuiltin, bad] at hc⟩
      | [_, _], [], _, _ => exact ⟨.void none, fun hc => by simp [evBuiltin, bad] at hc⟩
      | [_, _], [_], _, _ => exact ⟨.void none, fun hc => by simp [evBuiltin, bad] at hc⟩
      | [_, _], _ :: _ :: _ :: _, _, _ => exact ⟨.void none, fun hc => by simp [evBuiltin, bad] at hc⟩
    case copy =>
      match args, tys, hargs, hrun with
      | [x, y], [T, T2], hargs, hrun =>
        refine ⟨.void none, fun hc => ?_⟩
        obtain ⟨u, w', r1, r2, r3, r4⟩ := copy_sound (T2 := T2) (ty := type) (hE.ty T) hs (hargs x (by simp)) (hargs y (by simp)) hc
        exact ⟨u, w', .inl (hrun _ _ _ .copy (fun _ => rfl) (by simpa using r1)), r2, r3, r4⟩
      | [], _, _, _ => exact ⟨.void none, fun hc => by simp [evBuiltin, bad] at hc⟩
      | [_], _, _, _ => exact ⟨.void none, fun hc => by simp [evBuiltin, bad] at hc⟩
      | _ :: _ :: _ :: _, _, _, _ => exact ⟨.void none, fun hc => by simp [evBuiltin, bad] at hc⟩
      | [_, _], [], _, _ => exact ⟨.void none, fun hc => by simp [evBuiltin, bad] at hc⟩
      | [_, _], [_], _, _ => exact ⟨.void none, fun hc => by simp [evBuiltin, bad] at hc⟩
      | [_, _], _ :: _ :: _ :: _, _, _ => exact ⟨.void none, fun hc => by simp [evBuiltin, bad] at hc⟩
    case clear =>
      match args, tys, hargs, hrun with
      | [x], [T], hargs, hrun =>
        refine ⟨.void none, fun hc => ?_⟩
        obtain ⟨u, w', r1, r2, r3, r4⟩ := clear_sound (ty := type) (hE.ty T) hE.zr hs (hargs x (by simp)) hc
        exact ⟨u, w', .inl (hrun _ _ _ .clear (fun _ => rfl) (by simpa using r1)), r2, r3, r4⟩
      | [], _, _, _ => exact ⟨.void none, fun hc => by simp [evBuiltin, bad] at hc⟩
      | [_], [], _, _ => exact ⟨.void none, fun hc => by simp [evBuiltin, bad] at hc⟩
      | [_], _ :: _ :: _, _, _ => exact ⟨.void none, fun hc => by simp [evBuiltin, bad] at hc⟩
      | _ :: _ :: _, _, _, _ => exact ⟨.void none, fun hc => by simp [evBuiltin, bad] at hc⟩
    case max =>
      match args, hargs, hrun with
      | [x, y], hargs, hrun =>
        refine ⟨.void none, fun hc => ?_⟩
        have hx := hargs x (by simp)
        have hy := hargs y (by simp)
        simp only [evBuiltin] at hc ⊢
        generalize evS st t x = sx at *
        generalize evS st t y = sy at *
        generalize hvx : ρ x = vx at hx
        generalize hvy : ρ y = vy at hy
        cases hx <;> try (simp only [evMax, bad] at hc; done)
        cases hy <;> try (simp only [evMax, bad] at hc; done)
        simp only [evMax] at hc ⊢
        subst hc
        refine done_same hs (hrun _ _ _ .max (fun _ => rfl) ?_) (.int ..) rfl
        simp [Builtin.max_, hvx, hvy, Builtin.max2, max2I]
      | [], _, _ => exact ⟨.void none, fun hc => by simp [evBuiltin, bad] at hc⟩
      | [_], _, _ => exact ⟨.void none, fun hc => by simp [evBuiltin, bad] at hc⟩
      | _ :: _ :: _ :: _, _, _ => exact ⟨.void none, fun hc => by simp [evBuiltin, bad] at hc⟩
    case min =>
      match args, hargs, hrun with
      | [x, y], hargs, hrun =>
        refine ⟨.void none, fun hc => ?_⟩
        have hx := hargs x (by simp)
        have hy := hargs y (by simp)
        simp only [evBuiltin] at hc ⊢
        generalize evS st t x = sx at *
        generalize evS st t y = sy at *
        generalize hvx : ρ x = vx at hx
        generalize hvy : ρ y = vy at hy
        cases hx <;> try (simp only [evMin, bad] at hc; done)
        cases hy <;> try (simp only [evMin, bad] at hc; done)
        simp only [evMin] at hc ⊢
        subst hc
        refine done_same hs (hrun _ _ _ .min (fun _ => rfl) ?_) (.int ..) rfl
        simp [Builtin.min_, hvx, hvy, Builtin.min2, min2I]
      | [], _, _ => exact ⟨.void none, fun hc => by simp [evBuiltin, bad] at hc⟩
      | [_], _, _ => exact ⟨.void none, fun hc => by simp [evBuiltin, bad] at hc⟩
      | _ :: _ :: _ :: _, _, _ => exact ⟨.void none, fun hc => by simp [evBuiltin, bad] at hc⟩
    case len =>
      match args, tys, hargs, hrun with
      | [x], [T], hargs, hrun =>
        refine ⟨.void none, fun hc => ?_⟩
        have hx := hargs x (by simp)
        simp only [evBuiltin] at hc ⊢
        generalize evS st t x = sx at *
        generalize hvx : ρ x = vx at hx
        have ht := hE.ty T
        cases hti : E.ty T <;> simp only [hti] at hc ht ⊢ <;> try (simp only [evLen, bad] at hc; done)
        case string =>
          have hu := tyB_string ht
          cases hx <;> try (simp only [evLen, bad] at hc; done)
          refine done_same hs (hrun _ _ _ .len (fun _ => rfl) ?_) (.int ..) rfl
          have hsz : ∀ l : List UInt8, (ByteArray.mk l.toArray).size = l.length := fun l => by simp [ByteArray.size]
          simp only [List.map_toArray, List.map_cons, List.map_nil, hvx, Builtin.len_, List.getElem?_toArray, List.getElem?_cons_zero, Sem.run_bind, run_underlying hu, Result.andThen_ok, Sem.run_pure, goInt, hsz]
        case slice e esz eb =>
          obtain ⟨hu, _⟩ := tyB_slice ht
          cases hx <;> try (simp only [evLen, bad] at hc; done)
          all_goals
            refine done_same hs (hrun _ _ _ .len (fun _ => rfl) ?_) (.int ..) rfl
            simp [Builtin.len_, hvx, run_underlying hu, goInt]
        case array n a e =>
          obtain ⟨e', hu, _⟩ := tyB_array ht
          refine done_same hs (hrun _ _ _ .len (fun _ => rfl) ?_) (.int ..) rfl
          simp [Builtin.len_, run_underlying hu, goInt]
      | [], _, _, _ => exact ⟨.void none, fun hc => by simp [evBuiltin, bad] at hc⟩
      | _ :: _ :: _, _, _, _ => exact ⟨.void none, fun hc => by simp [evBuiltin, bad] at hc⟩
      | [_], [], _, _ => exact ⟨.void none, fun hc => by simp [evBuiltin, bad] at hc⟩
      | [_], _ :: _ :: _, _, _ => exact ⟨.void none, fun hc => by simp [evBuiltin, bad] at hc⟩
    case cap =>
      match args, tys, hargs, hrun with
      | [x], [T], hargs, hrun =>
        refine ⟨.void none, fun hc => ?_⟩
        have hx := hargs x (by simp)
        simp only [evBuiltin] at hc ⊢
        generalize evS st t x = sx at *
        generalize hvx : ρ x = vx at hx
        have ht := hE.ty T
        cases hti : E.ty T <;> simp only [hti] at hc ht ⊢ <;> try (simp only [evCap, bad] at hc; done)
        case slice e esz eb =>
          obtain ⟨hu, _⟩ := tyB_slice ht
          cases hx <;> try (simp only [evCap, bad] at hc; done)
          case slNil full _ _ _ cap hf =>
            cases full
            · simp only [evCap, bad] at hc
            · have := hf rfl
              subst this
              refine done_same hs (hrun _ _ _ .cap (fun _ => rfl) ?_) (.int ..) rfl
              simp [Builtin.cap_, hvx, run_underlying hu, goInt]
          case slAt full _ n _ _ _ cap _ _ _ hf _ _ _ _ =>
            cases full
            · simp only [evCap, bad] at hc
            · have := hf rfl
              subst this
              refine done_same hs (hrun _ _ _ .cap (fun _ => rfl) ?_) (.int ..) rfl
              simp [Builtin.cap_, hvx, run_underlying hu, goInt]
      | [], _, _, _ => exact ⟨.void none, fun hc => by simp [evBuiltin, bad] at hc⟩
      | _ :: _ :: _, _, _, _ => exact ⟨.void none, fun hc => by simp [evBuiltin, bad] at hc⟩
      | [_], [], _, _ => exact ⟨.void none, fun hc => by simp [evBuiltin, bad] at hc⟩
      | [_], _ :: _ :: _, _, _ => exact ⟨.void none, fun hc => by simp [evBuiltin, bad] at hc⟩
end
end Go.Lift
