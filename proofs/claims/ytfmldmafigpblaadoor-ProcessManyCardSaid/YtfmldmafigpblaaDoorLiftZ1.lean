/-
  The walk over code as one function: what must hold of a function's code, as a proposition that simp unfolds.
-/
import Derived.Test.YtfmldmafigpblaaDoorLiftZ
namespace Go.Lift
set_option linter.unusedVariables false
/-- What comes behind a piece of code. -/
structure Kn where
  f : Exit → Slots → List Own → Prop
/-- The rest of a region, and what comes behind. -/
def EOK (P : Program) (n : Nat) (all l : List Oper) (t : Slots) (B : List Own) (k : Kn) : Prop := EO P n all l t B (k.f .normal)
def holdsK (P : Program) (n : Nat) (all : List Oper) (k : Kn) : Res → Prop
  | .done t B => k.f .normal t B
  | .chk c r => c ∧ holdsK P n all k r
  | .call f args d rest t B => EC P f args B fun r B' => EOK P n all rest (setT n t d r) B' k
  | .callG c f args d rest t B => (c = true → EC P f args B fun r B' => EOK P n all rest (setT n t d r) B' k) ∧ (c = false → EOK P n all rest (setT n t d .any) B k)
  | .split c o rest t B => (c = true → EOK P n all (unguard o :: rest) t B k) ∧ (c = false → EOK P n all rest (setT n t o.dst .any) B k)
theorem holdsK_eq {P : Program} {n : Nat} {all : List Oper} {k : Kn} : ∀ (r : Res), holdsK P n all k r = holds P n all (k.f .normal) r
  | .done _ _ => rfl
  | .chk c r => by simp only [holdsK, holds, holdsK_eq r]
  | .call .. => rfl
  | .callG .. => rfl
  | .split .. => rfl
def wk (P : Program) (E : Env) (n : Nat) : Code → Kn → Slots → List Own → Prop
  | .skip, k, t, B => k.f .normal t B
  | .ret, k, t, B => k.f .ret t B
  | .exit id, k, t, B => k.f (.exit id) t B
  | .label _, k, t, B => k.f .normal t B
  | .seq x y, k, t, B => wk P E n x ⟨thenP (fun t B => wk P E n y k t B) k.f⟩ t B
  | .block id c, k, t, B => wk P E n c ⟨blockP id k.f⟩ t B
  | .scope c, k, t, B => wk P E n c ⟨scopeP k.f⟩ t B
  | .cond c x y, k, t, B => match ev t c with
    | .bool p => (p = true → wk P E n x k t B) ∧ (p = false → wk P E n y k t B)
    | _ => False
  | .region _ ops false, k, t, B => ∀ fr, holdsK P n ops.toList k (run E n ops.toList fr 0 ops.toList t B)
  | .region id ops true, k, t, B => EV P n (.region id ops true) t B k.f
  | .loop c, k, t, B => EV P n (.loop c) t B k.f
  | _, _, _, _ => False
def thK (P : Program) (E : Env) (n : Nat) (y : Code) (k : Kn) : Kn := ⟨thenP (fun t B => wk P E n y k t B) k.f⟩
def blK (id : Nat) (k : Kn) : Kn := ⟨blockP id k.f⟩
def scK (k : Kn) : Kn := ⟨scopeP k.f⟩
def lpK (N : Slots → List Own → Prop) (k : Kn) : Kn := ⟨thenP N k.f⟩
def baK (Q : Post) : Kn := ⟨Q⟩
section
variable {P : Program} {E : Env} {n : Nat} {k : Kn} {t : Slots} {B : List Own} {Q : Post}
theorem wk_skip : wk P E n .skip k t B = k.f .normal t B := rfl
theorem wk_ret : wk P E n .ret k t B = k.f .ret t B := rfl
theorem wk_exit {id : Nat} : wk P E n (.exit id) k t B = k.f (.exit id) t B := rfl
theorem wk_label {id : Nat} : wk P E n (.label id) k t B = k.f .normal t B := rfl
theorem wk_seq {x y : Code} : wk P E n (.seq x y) k t B = wk P E n x (thK P E n y k) t B := rfl
theorem wk_block {id : Nat} {c : Code} : wk P E n (.block id c) k t B = wk P E n c (blK id k) t B := rfl
theorem wk_scope {c : Code} : wk P E n (.scope c) k t B = wk P E n c (scK k) t B := rfl
theorem wk_cond {c : Operand} {x y : Code} : wk P E n (.cond c x y) k t B = match ev t c with
    | .bool p => (p = true → wk P E n x k t B) ∧ (p = false → wk P E n y k t B)
    | _ => False := rfl
theorem wk_region {id : Nat} {ops : Array Oper} : wk P E n (.region id ops false) k t B = ∀ fr, holdsK P n ops.toList k (run E n ops.toList fr 0 ops.toList t B) := rfl
theorem wk_drawn {id : Nat} {ops : Array Oper} : wk P E n (.region id ops true) k t B = EV P n (.region id ops true) t B k.f := rfl
theorem wk_loop {c : Code} : wk P E n (.loop c) k t B = EV P n (.loop c) t B k.f := rfl
theorem thK_n {y : Code} : (thK P E n y k).f .normal t B = wk P E n y k t B := rfl
theorem thK_e {y : Code} {i : Nat} : (thK P E n y k).f (.exit i) t B = k.f (.exit i) t B := rfl
theorem thK_r {y : Code} : (thK P E n y k).f .ret t B = k.f .ret t B := rfl
theorem blK_n {i : Nat} : (blK i k).f .normal t B = k.f .normal t B := rfl
theorem blK_e {i j : Nat} : (blK i k).f (.exit j) t B = if j = i then k.f .normal t B else k.f (.exit j) t B := rfl
theorem blK_r {i : Nat} : (blK i k).f .ret t B = k.f .ret t B := rfl
theorem scK_n : (scK k).f .normal t B = k.f .normal t B := rfl
theorem scK_e {j : Nat} : (scK k).f (.exit j) t B = k.f (.exit j) t B := rfl
theorem scK_r : (scK k).f .ret t B = k.f .ret t B := rfl
theorem lpK_n {N : Slots → List Own → Prop} : (lpK N k).f .normal t B = N t B := rfl
theorem lpK_e {N : Slots → List Own → Prop} {j : Nat} : (lpK N k).f (.exit j) t B = k.f (.exit j) t B := rfl
theorem lpK_r {N : Slots → List Own → Prop} : (lpK N k).f .ret t B = k.f .ret t B := rfl
theorem baK_f {e : Exit} : (baK Q).f e t B = Q e t B := rfl
theorem wk_sound (hE : EnvOK P E) : ∀ (c : Code) (k : Kn) (t : Slots) (B : List Own), wk P E n c k t B → EV P n c t B k.f
  | .skip, _, _, _, h => EV_skip h
  | .ret, _, _, _, h => EV_ret h
  | .exit _, _, _, _, h => EV_exit h
  | .label _, _, _, _, h => EV_label h
  | .seq x y, k, t, B, h => EV_seq fun K hK => (wk_sound hE x _ t B h).mono fun e t' B' hq => by
      cases e <;> try exact hq
      exact hK _ _ (wk_sound hE y k t' B' hq)
  | .block id c, k, t, B, h => EV_block (wk_sound hE c _ t B h)
  | .scope c, k, t, B, h => EV_scope (wk_sound hE c _ t B h)
  | .cond c x y, k, t, B, h => by
      rw [wk_cond] at h
      split at h
      · rename_i p hp
        exact EV_cond hp (fun e => wk_sound hE x k t B (h.1 e)) (fun e => wk_sound hE y k t B (h.2 e))
      · exact h.elim
  | .region id ops false, k, t, B, h => by
      intro X0 w0 B0 X w a he hs
      refine wp_region_list ?_
      have := EO_run hE (K := k.f .normal) ops.toList 0 t B (fun fr => by rw [← holdsK_eq]; exact h fr) k.f (fun _ _ h => h) X0 w0 B0 X w a he hs
      simpa using this
  | .region id ops true, k, t, B, h => h
  | .loop c, k, t, B, h => h
theorem EOK_run (hE : EnvOK P E) {all l : List Oper} {m : Nat} (h : ∀ fr, holdsK P n all k (run E n all fr m l t B)) : EOK P n all l t B k :=
  EO_run hE l m t B fun fr => by rw [← holdsK_eq]; exact h fr
theorem EC.enterK (hE : EnvOK P E) {f : FuncId} {fn : Func} {c : Code} {args : List SV} {B : List Own} {Q : SV → List Own → Prop} (hc : callable P f = true) (hf : P.funcs[f]? = some fn) (hb : fn.body = some c) (hn : args.length ≤ fn.ntmps)
    (h : wk P E fn.ntmps c (baK (retP E fn.results.toList Q)) (bindA 0 args) B) : EC P f args B Q :=
  EC.enter hE hc hf hb hn (wk_sound hE c _ _ B h)
variable {all rest : List Oper} {d : Option Nat} {f : FuncId} {args : List SV}
/-- A call by its contract. -/
theorem EC.useK (hE : EnvOK P E) {T : SV → Slots} {R : SV} (hc : EC P f args [] fun r B' => B' = [] ∧ r = R) (h : ∀ fr, holdsK P n all k (run E n all fr 0 rest (T R) B)) :
    EC P f args B fun r B' => EOK P n all rest (T r) B' k := EC.use hc (EOK_run hE h)
theorem EC.useKP (hE : EnvOK P E) {T : SV → Slots} {σ : Type} {C : σ → Prop} {R : σ → SV} (hc : EC P f args [] fun r N => N = [] ∧ ∃ x, C x ∧ r = R x) (h : ∀ x, C x → ∀ fr, holdsK P n all k (run E n all fr 0 rest (T (R x)) B)) :
    EC P f args B fun r B' => EOK P n all rest (T r) B' k := EC.useP hc fun x hx => EOK_run hE (h x hx)
/-- The next round of a loop. -/
def NX {σ : Type} (V : σ → Slots) (R : σ → List Own) (Inv : σ → Prop) (μ : σ → Nat) (live : Slots) (s : σ) (t' : Slots) (B' : List Own) : Prop :=
  ∃ s', Inv s' ∧ μ s' < μ s ∧ wkS t' (V s' ++ live) ∧ B'.take (R s').length = R s'
theorem NX_mk {σ : Type} {V : σ → Slots} {R : σ → List Own} {Inv : σ → Prop} {μ : σ → Nat} {live : Slots} {s : σ} {t' : Slots} {B' : List Own} (s' : σ) (hI : Inv s')
    (hm : μ s' < μ s := by first | omega | (simp; omega)) (hw : wkS t' (V s' ++ live) := by first | (simp [wkS, lkp, List.take_length]; done) | (repeat (first | exact trivial | refine And.intro (by first | rfl | (simp only [lkp, push_cast, simprocAttr]; done) | (simp [lkp]; done)) ?_)))
    (hb : B'.take (R s').length = R s' := by first | rfl | (simp only [push_cast, List.take_length, List.take_append_of_le_length, simprocAttr]; done) | (simp [updX, updH, setX]; done)) : NX V R Inv μ live s t' B' := ⟨s', hI, hm, hw, hb⟩
/-- A loop: slots that stay, slots and rows that turn. -/
theorem EV_loopK (hE : EnvOK P E) {σ : Type} (live : List Nat) (V : σ → Slots) (R : List Own → σ → List Own) (Inv : σ → Prop) (μ : σ → Nat) (s0 : σ) {c : Code} (h0 : Inv s0)
    (round : ∀ s, Inv s → wk P E n c (lpK (NX V (R B) Inv μ (keepS t live) s) k) (V s ++ keepS t live) (R B s)) (hw : wkS t (V s0) := by first | exact ⟨rfl, trivial⟩ | (simp [wkS, lkp]; done) | (repeat (first | exact trivial | refine And.intro (by first | rfl | (simp only [lkp, push_cast, simprocAttr]; done) | (simp [lkp]; done)) ?_)))
    (hb : R B s0 = B := by first | rfl | (simp [updX, updH, setX]; done)) : EV P n (.loop c) t B k.f :=
  EV_loopB live V R Inv μ s0 h0 hw hb fun s hs => (wk_sound hE c _ _ _ (round s hs)).mono fun e t' B' h => by cases e <;> exact h
/-- A nil slice as a row without elements. -/
theorem EC.matr {f : FuncId} {args : List SV} {Q : SV → List Own → Prop} (E e : Nat) (h : EC P f args [] fun r N => Q r N ∨ ∃ g, r = .sl true 0 0 g ∧ N = [] ∧ ∀ hh, Q (.row 0 hh e 0 0) [.row hh E e []]) : EC P f args [] Q := by
  refine ⟨h.1, fun X w vs hs hd => (h.2 X w vs hs hd).mono ?_⟩
  rintro ex w' ⟨v, r, X', B', he, hq | ⟨g, rfl, rfl, hq⟩, hsat, hden, hext⟩
  · exact ⟨v, r, X', B', he, hq, hsat, hden, hext⟩
  · obtain ⟨a, rfl⟩ : ∃ a, v = .slice a 0 0 := by
      cases hden with
      | slNil hf => rw [hf rfl]; exact ⟨_, rfl⟩
      | slAt g hn => exact absurd hn (Nat.lt_irrefl 0)
    exact ⟨_, .row 0 (.void a) e 0 0, X', [.row (.void a) E e []], he, hq _, hsat.push (Nat.le_refl _) (fun _ _ => rfl) (fun c hc => by simp [Own.blocks] at hc) rfl, .rowVoid .., hext.trans (Ext.push rfl rfl rfl (Nat.le_refl _) (fun _ _ => rfl) fun c hc => by simp [Own.blocks] at hc)⟩
/-- The environment in which slices of owned rows may become longer again. -/
def envK (E : Env) : Env := { E with kp := true }
theorem envK_ok (hE : EnvOK P E) : EnvOK P (envK E) := ⟨hE.ty, hE.zr, hE.lv⟩
theorem envK_ty : (envK E).ty = E.ty := rfl
theorem envK_zr : (envK E).zr = E.zr := rfl
theorem envK_lv : (envK E).lv = E.lv := rfl
theorem envK_kp : (envK E).kp = true := rfl
/-- A side condition, by the usual means. -/
theorem sd {a b : Prop} (hb : b) (ha : a := by first | omega | (simp (maxDischargeDepth := 9) only [push_cast, simprocAttr]; done) | decide | (simp; done) | (simp; omega)) : a ∧ b := ⟨ha, hb⟩
end
attribute [push_cast] envK_ty envK_zr envK_lv envK_kp wk_skip wk_ret wk_exit wk_label wk_seq wk_block wk_scope wk_cond wk_region wk_drawn wk_loop thK_n thK_e thK_r blK_n blK_e blK_r scK_n scK_e scK_r lpK_n lpK_e lpK_r baK_f holdsK retP evR evRes evRes1 bindA GV
end Go.Lift
