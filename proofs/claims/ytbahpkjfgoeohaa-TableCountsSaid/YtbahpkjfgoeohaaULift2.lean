/- The evaluator and its soundness, part 2. -/
import Derived.OrdersHeld
import Derived.ProofKit
import Derived.SizedLaws
import Derived.OpenShut
import Derived.Test.YtbahpkjfgoeohaaULift1
section
namespace Go.Lift
section
variable {P : Program} {E : Env} {n : Nat}

theorem EV_region (hE : EnvOK P E) {id : Nat} {ops : Array Oper} {t : Slots} {B : List Own} {Q : Post}
    (h : ∀ K : Slots → List Own → Prop, (∀ t B, Q .normal t B → K t B) → ∀ fr, holds P n ops.toList K (run E n ops.toList fr 0 ops.toList t B)) : EV P n (.region id ops false) t B Q := by
  intro X0 w0 B0 X w a he hs
  refine wp_region_list ?_
  have := EO_run hE (K := fun t B => Q .normal t B) ops.toList 0 t B (fun fr => h _ (fun _ _ h => h) fr) Q (fun _ _ h => h) X0 w0 B0 X w a he hs
  simpa using this

def bindA : Nat → List SV → Slots
  | _, [] => []
  | i, a :: r => (i, a) :: bindA (i + 1) r
theorem lkp_bindA : ∀ (args : List SV) (i j : Nat), lkp (bindA i args) j = if i ≤ j then args.getD (j - i) .any else .any
  | [], i, j => by simp [bindA, lkp]
  | a :: r, i, j => by
    simp only [bindA, lkp, lkp_bindA r (i + 1) j]
    by_cases e : j = i
    · subst e; simp
    · simp only [e, if_false]
      by_cases h : i + 1 ≤ j
      · rw [if_pos h, if_pos (by omega)]
        have : j - i = (j - (i + 1)) + 1 := by omega
        rw [this]; simp
      · rw [if_neg h, if_neg (by omega)]

def evRes1 (E : Env) (t : Slots) (B : List Own) : ResultVar → SV × Prop
  | .tmp i => (lkp t i, True)
  | .cell a T => match evLoadT (E.ty T) B (lkp t a) with
    | ⟨v, _, c⟩ => (v, c)
def evRes (E : Env) (t : Slots) (B : List Own) : List ResultVar → List SV × Prop
  | [] => ([], True)
  | r :: rs => match evRes1 E t B r, evRes E t B rs with
    | (v, c), (vs, d) => (v :: vs, c ∧ d)
def evR (E : Env) (t : Slots) (B : List Own) (rs : List ResultVar) : SV × Prop := match evRes E t B rs with
  | ([v], c) => (v, c)
  | (vs, c) => (.tup vs, c)
def retP (E : Env) (rs : List ResultVar) (Q : SV → List Own → Prop) : Post
  | .normal, t, B => (evR E t B rs).2 ∧ Q (evR E t B rs).1 B
  | .ret, t, B => (evR E t B rs).2 ∧ Q (evR E t B rs).1 B
  | _, _, _ => False

def resFn (tmps : Array Value) : ResultVar → Sem Value
  | .tmp t => pure (tmps.getD t undef)
  | .cell a t => do loadVar t (← asAddr (tmps.getD a undef))
theorem results_eq (fn : Func) (tmps : Array Value) : results fn tmps = (do let vs ← fn.results.mapM (resFn tmps); pure (if h : vs.size = 1 then vs[0] else .tuple vs)) := by
  unfold results
  congr 2

theorem res_sound (hE : EnvOK P E) {X : Nat → Prop} {w : World} {B : List Own} {t : Slots} {tmps : Array Value} (hs : Sat X w B) (hd : DenT X w t n tmps) : ∀ (rs : List ResultVar), (evRes E t B rs).2 →
    ∃ vs : List Value, (rs.mapM (resFn tmps)).run P w = .ok vs w ∧ vs.length = (evRes E t B rs).1.length ∧
      ∀ (i : Nat) (c : SV), (evRes E t B rs).1[i]? = some c → Den X w c (vs.getD i undef)
  | [], _ => ⟨[], by simp, rfl, by simp [evRes]⟩
  | r :: rs, h => by
    simp only [evRes] at h ⊢
    obtain ⟨h1, h2⟩ := h
    obtain ⟨vs, r1, r2, r3⟩ := res_sound hE hs hd rs h2
    have one : ∃ v, (resFn tmps r).run P w = .ok v w ∧ Den X w (evRes1 E t B r).1 v := by
      cases r with
      | tmp i => exact ⟨_, rfl, hd.2 i⟩
      | cell a T =>
        simp only [evRes1] at h1 ⊢
        have hb : E.ty T ≠ .bad := fun e => by simp [evLoadT, e, bad] at h1
        have e1 : evLoadT (E.ty T) B (lkp t a) = evLoad (E.ty T).agg (E.ty T).size B (lkp t a) := by
          cases h : E.ty T <;> first | rfl | exact absurd h hb
        rw [e1] at h1 ⊢
        obtain ⟨u, q1, q2, q3⟩ := load_sound (hE.ty T) hb hs (hd.2 a) h1
        refine ⟨u, ?_, q2⟩
        simp only [Instr.loadAt, Instr.sureAddr, asAddr, resFn] at q1 ⊢
        cases hv : tmps.getD a undef <;> simp only [hv] at q1 ⊢ <;> try (simp at q1; done)
        case pointer p =>
          cases p with
          | none => simp at q1
          | some ad => simpa using q1
    obtain ⟨v, q1, q2⟩ := one
    refine ⟨v :: vs, ?_, by simp [r2], fun i c hc => ?_⟩
    · rw [List.mapM_cons, Sem.run_bind, q1]
      simp only [Result.andThen_ok, Sem.run_bind, r1, Sem.run_pure]
    · cases i with
      | zero => simp at hc; subst hc; simpa using q2
      | succ i => simpa using r3 i c (by simpa using hc)

theorem results_sound (hE : EnvOK P E) {X : Nat → Prop} {w : World} {B : List Own} {t : Slots} {tmps : Array Value} (fn : Func) (hs : Sat X w B) (hd : DenT X w t n tmps) (h : (evR E t B fn.results.toList).2) :
    ∃ v, (results fn tmps).run P w = .ok v w ∧ Den X w (evR E t B fn.results.toList).1 v := by
  have h' : (evRes E t B fn.results.toList).2 := by
    unfold evR at h
    split at h <;> (rename_i e; rw [e]; exact h)
  obtain ⟨vs, r1, r2, r3⟩ := res_sound hE hs hd fn.results.toList h'
  have hm : (fn.results.mapM (resFn tmps)).run P w = .ok vs.toArray w := by
    rw [Array.mapM_eq_mapM_toList]
    simp only [Sem.run_map, r1, Result.andThen_ok]
  refine ⟨if h : vs.toArray.size = 1 then vs.toArray[0] else .tuple vs.toArray, ?_, ?_⟩
  · rw [results_eq, Sem.run_bind, hm]
    rfl
  · unfold evR
    split
    · rename_i v c e
      rw [e] at r2 r3
      simp at r2
      have hsz : vs.toArray.size = 1 := by simpa using r2
      rw [dif_pos hsz]
      have := r3 0 v rfl
      simpa [List.getD, r2] using this
    · rename_i us c hne e
      rw [e] at r2 r3
      simp only at r2 r3
      have hsz : ¬ vs.toArray.size = 1 := by
        intro h1
        have h2 : us.length = 1 := by rw [← r2]; simpa using h1
        match us, h2 with
        | [u], _ => exact hne u rfl
      rw [dif_neg hsz]
      exact .tup (by simpa using r2) (by simpa using r3)

theorem EC.enter (hE : EnvOK P E) {f : FuncId} {fn : Func} {c : Code} {args : List SV} {B : List Own} {Q : SV → List Own → Prop} (hc : callable P f = true) (hf : P.funcs[f]? = some fn) (hb : fn.body = some c) (hn : args.length ≤ fn.ntmps)
    (h : EV P fn.ntmps c (bindA 0 args) B (retP E fn.results.toList Q)) : EC P f args B Q := by
  refine ⟨hc, fun X w vs hs hd => ?_⟩
  refine calls_of_wp hf hb ?_
  have hden : DenT X w (bindA 0 args) fn.ntmps (vs ++ Array.replicate (fn.ntmps - vs.size) undef) := by
    refine ⟨by simp; have := hd.1; omega, fun i => ?_⟩
    rw [lkp_bindA]
    simp only [Nat.zero_le, if_true, Nat.sub_zero]
    rcases Nat.lt_or_ge i args.length with hi | hi
    · have := hd.2 i _ (get?_of_lt .any hi)
      simp only [Array.getD_eq_getD_getElem?] at this ⊢
      rw [Array.getElem?_append_left (by have := hd.1; omega)]
      exact this
    · have : args.getD i .any = .any := by simp [List.getD, List.getElem?_eq_none hi]
      rw [this]; exact .any _
  refine wp_mono (h X w B X w _ (Ext.refl _ _ _) ⟨rfl, hs, hden⟩) fun e a w' hg => ?_
  obtain ⟨X', t', B', hQ, hst, hext⟩ := hg
  have fin : (evR E t' B' fn.results.toList).2 ∧ Q (evR E t' B' fn.results.toList).1 B' → a.defers = [] ∧ ∃ v, (results fn a.tmps).run P w' = .ok v w' ∧ ∃ v' r X' B', Ending.returned v = .returned v' ∧ Q r B' ∧ Sat X' w' B' ∧ Den X' w' r v' ∧ Ext X w B X' w' B' := by
    rintro ⟨h1, h2⟩
    obtain ⟨v, r1, r2⟩ := results_sound hE fn hst.sat hst.den h1
    exact ⟨hst.defers, v, r1, v, _, X', B', rfl, h2, hst.sat, r2, hext⟩
  cases e <;> simp only [retP] at hQ
  case normal => exact fin hQ
  case ret => exact fin hQ

/-! ### Weaker values -/
def SLe (s s' : SV) : Prop := ∀ X w v, Den X w s v → Den X w s' v
theorem SLe.refl (s : SV) : SLe s s := fun _ _ _ h => h
theorem SLe.any (s : SV) : SLe s .any := fun _ _ v _ => .any v
theorem SLe.sl {full full' : Bool} {esz esz' n : Nat} {f g : Nat → List SV} (hf : full' = true → full = true) (he : n = 0 ∨ esz = esz') (h : ∀ k, k < n → f k = g k) : SLe (.sl full esz n f) (.sl full' esz' n g) := by
  intro X w v hd
  cases hd with
  | slNil hc => exact .slNil fun h => hc (hf h)
  | slAt g' hn hcap hfull hX hl hw hden =>
    have he' : esz = esz' := by omega
    subst he'
    exact .slAt g' hn hcap (fun h => hfull (hf h)) hX (fun k hk => by rw [← h k hk]; exact hl k hk) hw (fun k j c hk hc => hden k j c hk (by rw [h k hk]; exact hc))
inductive LLe : List SV → List SV → Prop
  | nil : LLe [] []
  | cons {s s' : SV} {l l' : List SV} (h : SLe s s') (hr : LLe l l') : LLe (s :: l) (s' :: l')
theorem LLe.refl : ∀ (l : List SV), LLe l l
  | [] => .nil
  | s :: r => .cons (SLe.refl s) (LLe.refl r)
theorem LLe.spec {l l' : List SV} (h : LLe l l') : l.length = l'.length ∧ ∀ (i : Nat) (c : SV), l'[i]? = some c → ∃ d, l[i]? = some d ∧ SLe d c := by
  induction h with
  | nil => exact ⟨rfl, by simp⟩
  | cons h _ ih =>
    refine ⟨by simp [ih.1], fun i c hc => ?_⟩
    cases i with
    | zero => simp at hc; subst hc; exact ⟨_, rfl, h⟩
    | succ i => simpa using ih.2 i c (by simpa using hc)
theorem SLe.agg {l l' : List SV} (h : LLe l l') : SLe (.agg l) (.agg l') := by
  intro X w v hd
  cases hd with
  | agg hs hh =>
    refine .agg (by rw [hs, h.spec.1]) fun i c hc => ?_
    obtain ⟨d, hd, hle⟩ := h.spec.2 i c hc
    exact hle _ _ _ (hh i d hd)
theorem SLe.tup {l l' : List SV} (h : LLe l l') : SLe (.tup l) (.tup l') := by
  intro X w v hd
  cases hd with
  | tup hs hh =>
    refine .tup (by rw [hs, h.spec.1]) fun i c hc => ?_
    obtain ⟨d, hd, hle⟩ := h.spec.2 i c hc
    exact hle _ _ _ (hh i d hd)
theorem EC.ret {f args B} {Q : SV → List Own → Prop} (h : EC P f args B fun r B' => ∃ r', SLe r r' ∧ Q r' B') : EC P f args B Q :=
  ⟨h.1, fun X w vs hs hd => (h.2 X w vs hs hd).mono fun _ _ ⟨v, _, X', B', he, ⟨r', hle, hr⟩, h1, h2, h3⟩ => ⟨v, r', X', B', he, hr, h1, hle _ _ _ h2, h3⟩⟩
theorem EC.args {f args args' B} {Q : SV → List Own → Prop} (hle : LLe args args') (h : EC P f args' B Q) : EC P f args B Q :=
  ⟨h.1, fun X w vs hs hd => h.2 X w vs hs ⟨by rw [hd.1, hle.spec.1], fun i c hc => by
    obtain ⟨d, h1, h2⟩ := hle.spec.2 i c hc
    exact h2 _ _ _ (hd.2 i d h1)⟩⟩

/-! ### Giving memory up -/
def frzC (sel : Nat → Bool) (B : List Own) : SV → SV
  | .row i h esz lo n => match sel i with
    | true => match getD' B i with
      | .row _ _ _ xs => .sl false esz n fun k => xs.getD (lo + k) []
      | .gone => .any
    | false => .row i h esz lo n
  | .rptr i h esz k off => match sel i with
    | true => match getD' B i with
      | .row _ _ _ xs => .xp ((xs.getD k []).drop off)
      | .gone => .any
    | false => .rptr i h esz k off
  | s => s
def frzKC (sel : Nat → Bool) (B : List Own) : SV → Prop
  | .row i h esz lo n => match sel i with
    | true => match getD' B i with
      | .row h' _ e' xs => h' = h ∧ e' = esz ∧ lo + n ≤ xs.length
      | .gone => True
    | false => True
  | .rptr i h esz k _ => match sel i with
    | true => match getD' B i with
      | .row h' _ e' xs => h' = h ∧ e' = esz ∧ k < xs.length
      | .gone => True
    | false => True
  | _ => True
def frzL (sel : Nat → Bool) (B : List Own) : List SV → List SV
  | [] => []
  | s :: r => frzC sel B s :: frzL sel B r
def frzKL (sel : Nat → Bool) (B : List Own) : List SV → Prop
  | [] => True
  | s :: r => frzKC sel B s ∧ frzKL sel B r
def frzA (sel : Nat → Bool) (B : List Own) : SV → SV
  | .agg cs => .agg (frzL sel B cs)
  | s => frzC sel B s
def frzKA (sel : Nat → Bool) (B : List Own) : SV → Prop
  | .agg cs => frzKL sel B cs
  | s => frzKC sel B s
def frzLA (sel : Nat → Bool) (B : List Own) : List SV → List SV
  | [] => []
  | s :: r => frzA sel B s :: frzLA sel B r
def frzKLA (sel : Nat → Bool) (B : List Own) : List SV → Prop
  | [] => True
  | s :: r => frzKA sel B s ∧ frzKLA sel B r
def frzT (sel : Nat → Bool) (B : List Own) : SV → SV
  | .tup cs => .tup (frzLA sel B cs)
  | s => frzA sel B s
def frzKT (sel : Nat → Bool) (B : List Own) : SV → Prop
  | .tup cs => frzKLA sel B cs
  | s => frzKA sel B s

variable {X : Nat → Prop} {w : World} {B : List Own} {sel : Nat → Bool}
def withSel (X : Nat → Prop) (B : List Own) (sel : Nat → Bool) (b : Nat) : Prop := X b ∨ ∃ i, sel i = true ∧ b ∈ (getD' B i).blocks

theorem Den.wsel {s v} (h : Den X w s v) : Den (withSel X B sel) w s v := h.mono (fun _ h => .inl h) fun _ _ => rfl

theorem frzC_sound (hs : Sat X w B) {s : SV} {v : Value} (hd : Den X w s v) (hk : frzKC sel B s) : Den (withSel X B sel) w (frzC sel B s) v := by
  have pt : ∀ (i b cap esz k off : Nat), frzKC sel B (.rptr i (.at b cap) esz k off) → Den (withSel X B sel) w (frzC sel B (.rptr i (.at b cap) esz k off)) (.pointer (some ⟨b, k * esz + off, none⟩)) := by
    intro i b cap esz k off hk
    simp only [frzC, frzKC] at hk ⊢
    cases hsel : sel i with
    | false => exact .rptr ..
    | true =>
      simp only [hsel] at hk
      cases hg : getD' B i with
      | gone => exact .any _
      | row h' E' e' xs =>
        simp only [hg] at hk ⊢
        obtain ⟨rfl, rfl, hlt⟩ := hk
        obtain ⟨vs, a1, a2, a3, a4, a5⟩ := hs.row hg
        have hx := get?_of_lt (α := List SV) [] hlt
        have hl := a4 k _ hx
        refine .xp (fun j => vs.getD (k * e' + (off + j)) undef) (.inr ⟨i, hsel, by rw [hg]; simp [Own.blocks]⟩) (fun j hj => ?_) (fun j c hc => ?_)
        · simp only [List.length_drop] at hj
          rw [Nat.add_assoc]
          exact cell_of_heap a1 (by have := idx_lt (m := cap) (esz := e') (show k < cap by omega) (show off + j < e' by omega); omega)
        · rw [List.getElem?_drop] at hc
          exact (a5 k _ _ _ hx hc).wsel
  have rw1 : ∀ (i b cap esz lo n c : Nat) (a : Option Addr), frzKC sel B (.row i (.at b cap) esz lo n) → (0 < n → a = some ⟨b, lo * esz, none⟩) → n ≤ c → Den X w (.row i (.at b cap) esz lo n) (.slice a n c) →
      Den (withSel X B sel) w (frzC sel B (.row i (.at b cap) esz lo n)) (.slice a n c) := by
    intro i b cap esz lo n c a hk ha hnc hden
    simp only [frzC, frzKC] at hk ⊢
    cases hsel : sel i with
    | false => exact hden.wsel
    | true =>
      simp only [hsel] at hk
      cases hg : getD' B i with
      | gone => exact .any _
      | row h' E' e' xs =>
        simp only [hg] at hk ⊢
        obtain ⟨rfl, rfl, hlt⟩ := hk
        obtain ⟨vs, a1, a2, a3, a4, a5⟩ := hs.row hg
        by_cases hn : n = 0
        · subst hn; exact .slNil (by simp)
        · rw [ha (by omega)]
          refine .slAt (fun k j => vs.getD ((lo + k) * e' + j) undef) (by omega) hnc (by simp) (.inr ⟨i, hsel, by rw [hg]; simp [Own.blocks]⟩) (fun k hk => a4 _ _ (get?_of_lt (α := List SV) [] (by omega))) (fun k j hk hj => ?_) (fun k j c hk hc => ?_)
          · have e : lo * e' + (k * e' + j) = (lo + k) * e' + j := by rw [Nat.add_mul]; omega
            rw [e]
            exact cell_of_heap a1 (by have := idx_lt (m := cap) (esz := e') (show lo + k < cap by omega) hj; omega)
          · exact (a5 _ _ _ _ (get?_of_lt (α := List SV) [] (show lo + k < xs.length by omega)) hc).wsel
  have hd0 := hd
  cases hd
  case rptr i b cap esz k off => exact pt _ _ _ _ _ _ hk
  case rowAt i b cap esz n hn => exact rw1 _ _ _ _ _ _ _ _ hk (fun _ => by simp) hn hd0
  case rowLo i b cap esz lo n c hn hc => exact rw1 _ _ _ _ _ _ _ _ hk (fun _ => rfl) hc hd0
  case rowLo0 i b cap esz lo c a => exact rw1 _ _ _ _ _ _ _ _ hk (fun h => by omega) (Nat.zero_le _) hd0
  case rowVoid i a esz lo =>
    simp only [frzC, frzKC] at hk ⊢
    cases hsel : sel i with
    | false => exact .rowVoid ..
    | true =>
      simp only [hsel] at hk
      cases hg : getD' B i with
      | gone => exact .any _
      | row h' E' e' xs => exact .slNil (by simp)
  all_goals exact hd0.wsel
theorem frzL_sound (hs : Sat X w B) : ∀ {l : List SV} (_ : frzKL sel B l), (frzL sel B l).length = l.length ∧ ∀ (vs : Array Value), (∀ (i : Nat) (c : SV), l[i]? = some c → Den X w c (vs.getD i undef)) → ∀ (i : Nat) (c : SV), (frzL sel B l)[i]? = some c → Den (withSel X B sel) w c (vs.getD i undef)
  | [], _ => ⟨rfl, by simp [frzL]⟩
  | s :: r, hk => by
    obtain ⟨h1, h2⟩ := frzL_sound hs (l := r) hk.2
    refine ⟨by simp [frzL, h1], fun vs hv i c hc => ?_⟩
    cases i with
    | zero => simp [frzL] at hc; subst hc; exact frzC_sound hs (hv 0 s rfl) hk.1
    | succ i =>
      have := h2 (vs.extract 1 vs.size) (fun i c hc => by
        have := hv (i + 1) c (by simpa using hc)
        simp only [Array.getD_eq_getD_getElem?, Array.getElem?_extract] at this ⊢
        rcases Nat.lt_or_ge (i + 1) vs.size with hlt | hge
        · rw [if_pos (by omega), Nat.add_comm 1 i]; exact this
        · rw [if_neg (by omega)]; rw [Array.getElem?_eq_none hge] at this; exact this) i c (by simpa [frzL] using hc)
      simp only [Array.getD_eq_getD_getElem?, Array.getElem?_extract] at this ⊢
      rcases Nat.lt_or_ge (i + 1) vs.size with hlt | hge
      · rw [if_pos (by omega), Nat.add_comm 1 i] at this; exact this
      · rw [if_neg (by omega)] at this; rw [Array.getElem?_eq_none hge]; exact this
theorem frzA_sound (hs : Sat X w B) {s : SV} {v : Value} (hd : Den X w s v) (hk : frzKA sel B s) : Den (withSel X B sel) w (frzA sel B s) v := by
  by_cases ha : ∃ cs, s = .agg cs
  · obtain ⟨cs, rfl⟩ := ha
    cases hd with
    | agg hsz h =>
      obtain ⟨h1, h2⟩ := frzL_sound hs (l := cs) hk
      exact .agg (by rw [h1]; exact hsz) (h2 _ h)
  · have e1 : frzA sel B s = frzC sel B s := by cases s <;> first | rfl | exact absurd ⟨_, rfl⟩ ha
    have e2 : frzKA sel B s = frzKC sel B s := by cases s <;> first | rfl | exact absurd ⟨_, rfl⟩ ha
    rw [e1]; rw [e2] at hk; exact frzC_sound hs hd hk
theorem frzLA_sound (hs : Sat X w B) : ∀ {l : List SV} (_ : frzKLA sel B l), (frzLA sel B l).length = l.length ∧ ∀ (vs : Nat → Value), (∀ (i : Nat) (c : SV), l[i]? = some c → Den X w c (vs i)) → ∀ (i : Nat) (c : SV), (frzLA sel B l)[i]? = some c → Den (withSel X B sel) w c (vs i)
  | [], _ => ⟨rfl, by simp [frzLA]⟩
  | s :: r, hk => by
    obtain ⟨h1, h2⟩ := frzLA_sound hs (l := r) hk.2
    refine ⟨by simp [frzLA, h1], fun vs hv i c hc => ?_⟩
    cases i with
    | zero => simp [frzLA] at hc; subst hc; exact frzA_sound hs (hv 0 s rfl) hk.1
    | succ i => exact h2 (fun i => vs (i + 1)) (fun i c hc => hv (i + 1) c (by simpa using hc)) i c (by simpa [frzLA] using hc)
theorem frzT_sound (hs : Sat X w B) {s : SV} {v : Value} (hd : Den X w s v) (hk : frzKT sel B s) : Den (withSel X B sel) w (frzT sel B s) v := by
  by_cases ha : ∃ cs, s = .tup cs
  · obtain ⟨cs, rfl⟩ := ha
    cases hd with
    | tup hsz h =>
      obtain ⟨h1, h2⟩ := frzLA_sound hs (l := cs) hk
      exact .tup (by rw [h1]; exact hsz) (h2 (fun i => Array.getD _ i undef) h)
  · have e1 : frzT sel B s = frzA sel B s := by cases s <;> first | rfl | exact absurd ⟨_, rfl⟩ ha
    have e2 : frzKT sel B s = frzKA sel B s := by cases s <;> first | rfl | exact absurd ⟨_, rfl⟩ ha
    rw [e1]; rw [e2] at hk; exact frzA_sound hs hd hk

theorem Sat.drop_sel (hs : Sat X w B) {B' : List Own} (hb : ∀ i, getD' B' i = if sel i then .gone else getD' B i) : Sat (withSel X B sel) w B' := by
  have sub : ∀ i b, b ∈ (getD' B' i).blocks → sel i = false ∧ b ∈ (getD' B i).blocks := fun i b h => by
    rw [hb] at h
    cases hsel : sel i
    · simpa [hsel] using h
    · simp [hsel, Own.blocks] at h
  refine ⟨fun i j b hi hj => hs.inj i j b (sub i b hi).2 (sub j b hj).2, fun i b hi => hs.lt i b (sub i b hi).2, ?_, ?_, fun i => ?_⟩
  · rintro b (h | ⟨i, _, h⟩)
    · exact hs.xlt b h
    · exact hs.lt i b h
  · rintro b (h | ⟨i, hi, h⟩) ⟨j, hj⟩
    · exact hs.apart b h ⟨j, (sub j b hj).2⟩
    · obtain ⟨h1, h2⟩ := sub j b hj
      have := hs.inj i j b h h2
      subst this
      rw [hi] at h1; cases h1
  · rw [hb]
    cases sel i
    · exact Own.ok_mono (hs.ok i) (fun _ h => .inl h) (fun _ _ => rfl) fun _ _ => rfl
    · trivial
theorem Ext.drop_sel {B' : List Own} (hb : ∀ i, getD' B' i = if sel i then .gone else getD' B i) : Ext X w B (withSel X B sel) w B' := by
  refine ⟨rfl, rfl, rfl, Nat.le_refl _, fun _ _ _ => rfl, fun _ h => .inl h, ?_, ?_⟩
  · rintro b (h | ⟨i, _, h⟩)
    · exact .inl h
    · exact .inr (.inl ⟨i, h⟩)
  · rintro b ⟨i, hi⟩
    rw [hb] at hi
    cases hsel : sel i
    · exact .inl ⟨i, by simpa [hsel] using hi⟩
    · simp [hsel, Own.blocks] at hi

def fromM (m : Nat) (i : Nat) : Bool := decide (m ≤ i)
theorem EC.close {f args B0} (m : Nat) {Q : SV → List Own → Prop} (h : EC P f args B0 fun r B' => frzKT (fromM m) B' r ∧ Q (frzT (fromM m) B' r) (B'.take m)) : EC P f args B0 Q := by
  refine ⟨h.1, fun X w vs hs hd => (h.2 X w vs hs hd).mono ?_⟩
  rintro e w' ⟨v, r, X', B', he, ⟨hk, hq⟩, h1, h2, h3⟩
  have hb : ∀ i, getD' (B'.take m) i = if fromM m i then .gone else getD' B' i := fun i => by
    rw [getD'_take]
    by_cases hi : i < m
    · have : fromM m i = false := by simp [fromM]; omega
      simp [hi, this]
    · have : fromM m i = true := by simp [fromM]; omega
      simp [hi, this]
  exact ⟨v, _, _, _, he, hq, h1.drop_sel hb, frzT_sound h1 h2 hk, h3.trans (Ext.drop_sel hb)⟩

theorem EC.frame {f args} {Q : SV → Prop} (h : EC P f args [] fun r B' => B' = [] ∧ Q r) (B : List Own) : EC P f args B fun r B' => B' = B ∧ Q r := by
  refine ⟨h.1, fun X w vs hs hd => ?_⟩
  have hs0 : Sat X w [] := ⟨fun i j b hi => by simp [getD', Own.blocks] at hi, fun i b hi => by simp [getD', Own.blocks] at hi, hs.xlt, fun b _ ⟨i, hi⟩ => by simp [getD', Own.blocks] at hi, fun i => by simp [getD', Own.ok]⟩
  refine (h.2 X w vs hs0 hd).mono ?_
  rintro e w' ⟨v, r, X', B', he, ⟨rfl, hq⟩, h1, h2, h3⟩
  have hno : ∀ b, ¬ owns [] b := fun b ⟨i, hi⟩ => by simp [getD', Own.blocks] at hi
  have hblk : ∀ b, b < w.heap.size → w'.heap[b]? = w.heap[b]? := fun b hb => h3.block b hb (hno b)
  refine ⟨v, r, X', B, he, ⟨rfl, hq⟩, ⟨hs.inj, fun i b hi => Nat.lt_of_lt_of_le (hs.lt i b hi) h3.size, h1.xlt, fun b hb ⟨i, hi⟩ => ?_, fun i => Own.ok_mono (hs.ok i) h3.xin (fun b hb => hblk b (hs.xlt b hb)) fun b hb => hblk b (hs.lt i b hb)⟩, h2, ?_⟩
  · rcases h3.xout b hb with h | h | h
    · exact hs.apart b h ⟨i, hi⟩
    · exact hno b h
    · have := hs.lt i b hi; omega
  · refine ⟨h3.os, h3.tape, h3.output, h3.size, fun b hb _ => hblk b hb, h3.xin, fun b hb => ?_, fun b hb => .inl hb⟩
    rcases h3.xout b hb with h | h | h
    · exact .inl h
    · exact absurd h (hno b)
    · exact .inr (.inr h)
end
end Go.Lift
end
section
namespace Go.Lift

def envOf (tyL : List TyI) (zrL : List (List SV)) (lvL : List (List Nat)) : Env := ⟨fun T => tyL.getD T .bad, fun T => zrL.getD T [], fun T => lvL.getD T []⟩
def envB (P : Program) (tyL : List TyI) (zrL : List (List SV)) (lvL : List (List Nat)) : Bool :=
  (List.range tyL.length).all (fun T => tyB P T (tyL.getD T .bad)) && (List.range zrL.length).all (fun T => (zrL.getD T []).isEmpty || zeroB P T (zrL.getD T [])) && (List.range lvL.length).all (fun T => lvB P T (lvL.getD T []))
theorem envOf_ok {P : Program} {tyL : List TyI} {zrL : List (List SV)} {lvL : List (List Nat)} (h : envB P tyL zrL lvL = true) : EnvOK P (envOf tyL zrL lvL) := by
  simp only [envB, Bool.and_eq_true, List.all_eq_true, List.mem_range, Bool.or_eq_true, List.isEmpty_iff] at h
  obtain ⟨⟨h1, h2⟩, h3⟩ := h
  refine ⟨fun T => ?_, fun T hT => ?_, fun T => ?_⟩
  · rcases Nat.lt_or_ge T tyL.length with h' | h'
    · exact h1 T h'
    · have : (envOf tyL zrL lvL).ty T = .bad := by simp [envOf, List.getD, List.getElem?_eq_none h']
      rw [this]; rfl
  · rcases Nat.lt_or_ge T zrL.length with h' | h'
    · rcases h2 T h' with h4 | h4
      · have : (envOf tyL zrL lvL).zr T = [] := h4
        rw [this] at hT; simp at hT
      · exact h4
    · have : (envOf tyL zrL lvL).zr T = [] := by simp [envOf, List.getD, List.getElem?_eq_none h']
      rw [this] at hT; simp at hT
  · rcases Nat.lt_or_ge T lvL.length with h' | h'
    · exact h3 T h'
    · have : (envOf tyL zrL lvL).lv T = [] := by simp [envOf, List.getD, List.getElem?_eq_none h']
      rw [this]; rfl

def slL {α : Type} (esz : Nat) (cells : α → List SV) (d : α) (l : List α) : SV := .sl false esz l.length fun k => cells (l.getD k d)
def bytesS (l : List UInt8) : SV := .sl false 1 l.length fun k => [.int .u8 ((l.getD k 0).toNat : Int)]
def intsS (k : IntKind) (l : List Int) : SV := .sl false 1 l.length fun j => [.int k (l.getD j 0)]
theorem min1 : min 1 64 = 1 := rfl
theorem min7 : min 7 64 = 7 := rfl
theorem min63 : min 63 64 = 63 := rfl
theorem zero_lt (n : Nat) : 0 < n + 1 := Nat.succ_pos n
theorem rangeD {α β : Type} (f : α → β) (d : α) (l : List α) : (List.range l.length).map (fun k => f (l.getD k d)) = l.map f := by
  apply List.ext_getElem
  · simp
  · intro i h1 h2
    simp at h1
    simp [List.getD, h1]
def intC (k : IntKind) (x : Int) : List SV := [.int k x]
theorem i64_in' {x : Int} (h : -9223372036854775808 ≤ x ∧ x ≤ 9223372036854775807) : IntKind.i64.wrap x = x := IntWalk.i64_in _ h
theorem rangeI (k : IntKind) (l : List Int) : (List.range l.length).map (fun j => [SV.int k (l.getD j 0)]) = l.map (intC k) := rangeD (intC k) 0 l
theorem take_map_len {α β : Type} (f : α → β) (l : List α) : (l.map f).take l.length = l.map f := by
  rw [List.take_of_length_le (by simp)]
theorem take_map_app {α β : Type} (f : α → β) (l m : List α) : ((l ++ m).map f).take (l.length + m.length) = (l ++ m).map f := by
  rw [List.take_of_length_le (by simp)]
theorem take_map_app3 {α β : Type} (f : α → β) (l m o : List α) : ((l ++ m ++ o).map f).take (l.length + m.length + o.length) = (l ++ m ++ o).map f := by
  rw [List.take_of_length_le (by simp; omega)]
theorem EC.fin {P : Program} {f : Nat} {args : List SV} {R : SV} (h : EC P f args [] fun r B' => frzKT (fromM 0) B' r ∧ SLe (frzT (fromM 0) B' r) R) : EC P f args [] fun r B => B = [] ∧ r = R := by
  have h2 : EC P f args [] fun r B => B = [] ∧ SLe r R := EC.close 0 (h.mono fun r B hq => ⟨hq.1, List.take_zero .., hq.2⟩)
  exact EC.ret (h2.mono fun r B hq => ⟨R, hq.2, hq.1, rfl⟩)
theorem fin_row {α : Type} {esz E : Nat} {h : RowH} {n : Nat} {xs : List (List SV)} {Bs : List Own} {cells : α → List SV} {d : α} {l : List α} (hx : xs = l.map cells) (hn : n = l.length) :
    frzKT (fromM 0) (.row h E esz xs :: Bs) (.row 0 h esz 0 n) ∧ SLe (frzT (fromM 0) (.row h E esz xs :: Bs) (.row 0 h esz 0 n)) (slL esz cells d l) := by
  subst hx hn
  refine ⟨⟨rfl, rfl, by simp⟩, SLe.sl (fun h => h) (.inr rfl) fun k hk => ?_⟩
  simp [List.getD, hk]
theorem EV_meet {σ : Type} (S : σ → Slots) (R : σ → List Own) (Inv : σ → Prop) {P : Program} {n : Nat} {c : Code} {t : Slots} {B : List Own} {K : Slots → List Own → Prop} {Q : Post}
    (hrest : ∀ s t B, Inv s → wkS t (S s) → B.take (R s).length = R s → K t B)
    (h : EV P n c t B (thenP (fun t B => ∃ s, Inv s ∧ wkS t (S s) ∧ B.take (R s).length = R s) Q)) : EV P n c t B (thenP K Q) :=
  h.mono fun e t' B' hq => by
    cases e with
    | normal => obtain ⟨s, h1, h2, h3⟩ := hq; exact hrest s t' B' h1 h2 h3
    | _ => exact hq
theorem u64_not : (if IntKind.u64.signed = true then -1 else IntKind.u64.max) = 18446744073709551615 := by decide
theorem i64_not : (if IntKind.i64.signed = true then -1 else IntKind.i64.max) = -1 := by decide
def scopeP (Q : Post) : Post
  | .goto _, _, _ => False
  | e, t, B => Q e t B
theorem EV_scope {P : Program} {n : Nat} {c : Code} {t : Slots} {B : List Own} {Q : Post} (h : EV P n c t B (scopeP Q)) : EV P n (.scope c) t B Q := by
  intro X0 w0 B0 X w a he hs
  refine wp_scope_straight (wp_mono (h X0 w0 B0 X w a he hs) fun e a' w' hg => ?_)
  obtain ⟨X', t', B', h1, h2, h3⟩ := hg
  cases e with
  | goto l => exact h1.elim
  | _ => exact ⟨X', t', B', h1, h2, h3⟩
theorem toNat_add2 (p n : Nat) : ((p : Int) + (n : Int)).toNat = p + n := by omega
theorem EC.use {P : Program} {f : Nat} {args : List SV} {B : List Own} {R : SV} {Q : SV → List Own → Prop} (h : EC P f args [] fun r B' => B' = [] ∧ r = R) (hk : Q R B) : EC P f args B Q :=
  (EC.frame h B).mono (by rintro r B' ⟨rfl, rfl⟩; exact hk)
theorem Den.reindex {X : Nat → Prop} {w : World} {i j : Nat} {h : RowH} {e lo n : Nat} {v : Value} (hd : Den X w (.row i h e lo n) v) : Den X w (.row j h e lo n) v := by
  cases hd with
  | rowVoid => exact .rowVoid ..
  | rowAt _ _ _ _ _ h => exact .rowAt _ _ _ _ _ h
  | rowLo _ _ _ _ _ _ _ hn h => exact .rowLo _ _ _ _ _ _ _ hn h
  | rowLo0 => exact .rowLo0 ..
theorem EC.frame1 {P : Program} {f : Nat} {args : List SV} {E e n : Nat} {xs : List (List SV)} (h : EC P f args [] fun r B' => ∃ h, B' = [.row h E e xs] ∧ r = .row 0 h e 0 n) (B : List Own) :
    EC P f args B fun r B' => ∃ h, B' = B ++ [.row h E e xs] ∧ r = .row B.length h e 0 n := by
  refine ⟨h.1, fun X w vs hs hd => ?_⟩
  have hs0 : Sat X w [] := ⟨fun i j b hi => by simp [getD', Own.blocks] at hi, fun i b hi => by simp [getD', Own.blocks] at hi, hs.xlt, fun b _ ⟨i, hi⟩ => by simp [getD', Own.blocks] at hi, fun i => by simp [getD', Own.ok]⟩
  refine (h.2 X w vs hs0 hd).mono ?_
  rintro e' w' ⟨v, r, X', B', he, ⟨rh, rfl, rfl⟩, h1, h2, h3⟩
  have hno : ∀ b, ¬ owns [] b := fun b ⟨i, hi⟩ => by simp [getD', Own.blocks] at hi
  have hblk : ∀ b, b < w.heap.size → w'.heap[b]? = w.heap[b]? := fun b hb => h3.block b hb (hno b)
  have hnew : ∀ b, b ∈ (Own.row rh E e xs).blocks → w.heap.size ≤ b := fun b hb => by
    rcases h3.own b ⟨0, hb⟩ with h | h
    · exact absurd h (hno b)
    · exact h
  refine ⟨v, _, X', B ++ [.row rh E e xs], he, ⟨rh, rfl, rfl⟩, ⟨fun i j b hi hj => ?_, fun i b hi => ?_, h1.xlt, fun b hb ⟨i, hi⟩ => ?_, fun i => ?_⟩, h2.reindex, ?_⟩
  · rw [getD'_push] at hi hj
    by_cases a1 : i = B.length <;> by_cases a2 : j = B.length
    · omega
    · simp only [a1, a2, if_true, if_false] at hi hj
      have := hnew b hi; have := hs.lt j b hj; omega
    · simp only [a1, a2, if_true, if_false] at hi hj
      have := hnew b hj; have := hs.lt i b hi; omega
    · simp only [a1, a2, if_false] at hi hj
      exact hs.inj i j b hi hj
  · rw [getD'_push] at hi
    by_cases a1 : i = B.length
    · simp only [a1, if_true] at hi; exact h1.lt 0 b hi
    · simp only [a1, if_false] at hi; exact Nat.lt_of_lt_of_le (hs.lt i b hi) h3.size
  · rw [getD'_push] at hi
    by_cases a1 : i = B.length
    · simp only [a1, if_true] at hi; exact h1.apart b hb ⟨0, hi⟩
    · simp only [a1, if_false] at hi
      rcases h3.xout b hb with h | h | h
      · exact hs.apart b h ⟨i, hi⟩
      · exact hno b h
      · have := hs.lt i b hi; omega
  · rw [getD'_push]
    by_cases a1 : i = B.length
    · simp only [a1, if_true]; exact h1.ok 0
    · simp only [a1, if_false]
      exact Own.ok_mono (hs.ok i) h3.xin (fun b hb => hblk b (hs.xlt b hb)) fun b hb => hblk b (hs.lt i b hb)
  · refine ⟨h3.os, h3.tape, h3.output, h3.size, fun b hb _ => hblk b hb, h3.xin, fun b hb => ?_, fun b hb => ?_⟩
    · rcases h3.xout b hb with h | h | h
      · exact .inl h
      · exact absurd h (hno b)
      · exact .inr (.inr h)
    · obtain ⟨i, hi⟩ := hb
      rw [getD'_push] at hi
      by_cases a1 : i = B.length
      · simp only [a1, if_true] at hi; exact .inr (hnew b hi)
      · simp only [a1, if_false] at hi; exact .inl ⟨i, hi⟩
theorem EC.use1 {P : Program} {f : Nat} {args : List SV} {B : List Own} {E e n : Nat} {xs : List (List SV)} {Q : SV → List Own → Prop} (h : EC P f args [] fun r B' => ∃ h, B' = [.row h E e xs] ∧ r = .row 0 h e 0 n)
    (hk : ∀ h, Q (.row B.length h e 0 n) (B ++ [.row h E e xs])) : EC P f args B Q :=
  (EC.frame1 h B).mono (by rintro r B' ⟨h, rfl, rfl⟩; exact hk h)
theorem EC.fin1 {P : Program} {f : Nat} {args : List SV} {E e n : Nat} {xs : List (List SV)} (h : EC P f args [] fun r B' => ∃ h Bs, B' = .row h E e xs :: Bs ∧ r = .row 0 h e 0 n) :
    EC P f args [] fun r B' => ∃ h, B' = [.row h E e xs] ∧ r = .row 0 h e 0 n :=
  EC.close 1 (h.mono (by rintro r B' ⟨h, Bs, rfl, rfl⟩; exact ⟨trivial, h, rfl, rfl⟩))
theorem SLe.of_eq {s s' : SV} (h : s = s') : SLe s s' := h ▸ SLe.refl s
theorem isBytes (x : List Int) : (∀ y, y ∈ List.map (intC .u8) x → isByte y = true) = True :=
  eq_true fun y hy => by obtain ⟨z, _, rfl⟩ := List.mem_map.1 hy; rfl
def wkF (m : Nat) (B : List Own) (t : Slots) : Slots → Prop
  | [] => True
  | (i, v) :: r => (frzKT (fromM m) B (lkp t i) ∧ SLe (frzT (fromM m) B (lkp t i)) v) ∧ wkF m B t r
inductive LFz (m : Nat) (B : List Own) : List SV → List SV → Prop where
  | nil : LFz m B [] []
  | cons {s s' : SV} {l l' : List SV} (hk : frzKT (fromM m) B s) (h : SLe (frzT (fromM m) B s) s') (hr : LFz m B l l') : LFz m B (s :: l) (s' :: l')
theorem LFz.spec {m : Nat} {B : List Own} {l l' : List SV} (h : LFz m B l l') : l.length = l'.length ∧ ∀ (i : Nat) (c : SV), l'[i]? = some c → ∃ d, l[i]? = some d ∧ frzKT (fromM m) B d ∧ SLe (frzT (fromM m) B d) c := by
  induction h with
  | nil => exact ⟨rfl, fun i c h => by simp at h⟩
  | cons hk h _ ih =>
    refine ⟨by simp [ih.1], fun i c hc => ?_⟩
    cases i with
    | zero => simp at hc; subst hc; exact ⟨_, rfl, hk, h⟩
    | succ i => simpa using ih.2 i c (by simpa using hc)
theorem EC.give {P : Program} {f : Nat} {args args' : List SV} {B : List Own} {Q : SV → List Own → Prop} (m : Nat) (ha : LFz m B args args') (h : EC P f args' (B.take m) Q) : EC P f args B Q := by
  have hb : ∀ i, getD' (B.take m) i = if fromM m i then .gone else getD' B i := fun i => by
    rw [getD'_take]
    by_cases hi : i < m
    · have : fromM m i = false := by simp [fromM]; omega
      simp [hi, this]
    · have : fromM m i = true := by simp [fromM]; omega
      simp [hi, this]
  refine ⟨h.1, fun X w vs hs hd => ?_⟩
  have hsp := ha.spec
  refine (h.2 (withSel X B (fromM m)) w vs (hs.drop_sel hb) ⟨by rw [hd.1, hsp.1], fun i c hc => ?_⟩).mono ?_
  · obtain ⟨d, h1, h2, h3⟩ := hsp.2 i c hc
    exact h3 _ _ _ (frzT_sound hs (hd.2 i d h1) h2)
  · rintro e w' ⟨v, r, X', B', he, hq, h1, h2, h3⟩
    exact ⟨v, r, X', B', he, hq, h1, h2, (Ext.drop_sel hb).trans h3⟩
end Go.Lift
end
section
namespace Go.Lift

def foC : SV → Bool
  | .int .. => true
  | .bool _ => true
  | .str _ => true
  | _ => false
def fo : SV → Bool
  | .agg cs => cs.all foC
  | s => foC s
theorem foC_eq {X X' : Nat → Prop} {w w' : World} {s : SV} {u v : Value} (h : foC s = true) (hu : Den X w s u) (hv : Den X' w' s v) : u = v := by
  cases hu <;> simp only [foC, Bool.false_eq_true] at h <;> cases hv <;> rfl
theorem fo_eq {X X' : Nat → Prop} {w w' : World} {s : SV} {u v : Value} (h : fo s = true) (hu : Den X w s u) (hv : Den X' w' s v) : u = v := by
  by_cases ha : ∃ cs, s = .agg cs
  · obtain ⟨cs, rfl⟩ := ha
    simp only [fo, List.all_eq_true] at h
    cases hu with
    | agg h1 h2 => cases hv with
      | agg h3 h4 =>
        congr 1
        apply Array.ext (by omega)
        intro i a b
        have hi : i < cs.length := by omega
        have hc : cs[i]? = some cs[i] := List.getElem?_eq_getElem hi
        have := foC_eq (h _ (List.getElem_mem hi)) (h2 i _ hc) (h4 i _ hc)
        simpa [a, b] using this
  · have : foC s = true := by cases s <;> first | exact h | exact absurd ⟨_, rfl⟩ ha
    exact foC_eq this hu hv

structure Kept (w : World) (B : List Own) (w' : World) : Prop where
  os : w'.os = w.os
  tape : w'.tape = w.tape
  output : w'.output = w.output
  size : w.heap.size ≤ w'.heap.size
  block : ∀ b, b < w.heap.size → ¬ owns B b → w'.heap[b]? = w.heap[b]?
theorem Kept.refl (w : World) (B : List Own) : Kept w B w := ⟨rfl, rfl, rfl, Nat.le_refl _, fun _ _ _ => rfl⟩
/-! Masks: rows that a region only reads ('false'), and rows that it may change (all others). -/
def roB : List Bool → List Own → List Own
  | [], _ => []
  | _ :: _, [] => []
  | false :: r, o :: B => o :: roB r B
  | true :: r, _ :: B => .gone :: roB r B
def rwB : List Bool → List Own → List Own
  | [], B => B
  | _ :: _, [] => []
  | false :: r, _ :: B => .gone :: rwB r B
  | true :: r, o :: B => o :: rwB r B
def mrB : List Bool → List Own → List Own → List Own
  | [], _, N => N
  | _ :: _, _, [] => []
  | _ :: _, [], n :: N => n :: N
  | false :: r, o :: B, _ :: N => o :: mrB r B N
  | true :: r, _ :: B, n :: N => n :: mrB r B N
def ronly (ws : List Bool) (i : Nat) : Bool := ws[i]? == some false
theorem roB_get : ∀ (ws : List Bool) (B : List Own) (i : Nat), getD' (roB ws B) i = if ronly ws i = true then getD' B i else .gone
  | [], B, i => by simp [roB, ronly, getD']
  | _ :: _, [], i => by simp [roB, getD']
  | false :: r, o :: B, i => by
    cases i with
    | zero => simp [roB, ronly, getD']
    | succ i => exact roB_get r B i
  | true :: r, o :: B, i => by
    cases i with
    | zero => simp [roB, ronly, getD']
    | succ i => exact roB_get r B i
theorem rwB_get : ∀ (ws : List Bool) (B : List Own) (i : Nat), getD' (rwB ws B) i = if ronly ws i = true then .gone else getD' B i
  | [], B, i => by simp [rwB, ronly]
  | _ :: _, [], i => by simp [rwB, getD']
  | false :: r, o :: B, i => by
    cases i with
    | zero => simp [rwB, ronly, getD']
    | succ i => exact rwB_get r B i
  | true :: r, o :: B, i => by
    cases i with
    | zero => simp [rwB, ronly, getD']
    | succ i => exact rwB_get r B i
theorem mrB_get : ∀ (ws : List Bool) (B N : List Own) (i : Nat), getD' (mrB ws B N) i = if ronly ws i = true ∧ i < B.length ∧ i < N.length then getD' B i else getD' N i
  | [], B, N, i => by simp [mrB, ronly]
  | _ :: _, B, [], i => by simp [mrB]
  | _ :: _, [], _ :: _, i => by simp [mrB]
  | false :: r, o :: B, n :: N, i => by
    cases i with
    | zero => simp [mrB, ronly, getD']
    | succ i =>
      have e1 : ∀ b, (ronly (b :: r) (i + 1) = true ∧ i + 1 < (o :: B).length ∧ i + 1 < (n :: N).length) ↔ (ronly r i = true ∧ i < B.length ∧ i < N.length) := fun b => by simp [ronly]
      simp only [e1]
      exact mrB_get r B N i
  | true :: r, o :: B, n :: N, i => by
    cases i with
    | zero => simp [mrB, ronly, getD']
    | succ i =>
      have e1 : ∀ b, (ronly (b :: r) (i + 1) = true ∧ i + 1 < (o :: B).length ∧ i + 1 < (n :: N).length) ↔ (ronly r i = true ∧ i < B.length ∧ i < N.length) := fun b => by simp [ronly]
      simp only [e1]
      exact mrB_get r B N i
theorem owns_rw {ws : List Bool} {B : List Own} {b : Nat} (h : owns (rwB ws B) b) : owns B b := by
  obtain ⟨i, hi⟩ := h
  rw [rwB_get] at hi
  split at hi
  · simp [Own.blocks] at hi
  · exact ⟨i, hi⟩
theorem Sat.sub {X : Nat → Prop} {w : World} {B B' : List Own} (hs : Sat X w B) (h : ∀ i, getD' B' i = getD' B i ∨ getD' B' i = .gone) : Sat X w B' := by
  have hb : ∀ i b, b ∈ (getD' B' i).blocks → b ∈ (getD' B i).blocks := fun i b hb => by
    rcases h i with e | e
    · rwa [e] at hb
    · rw [e] at hb; simp [Own.blocks] at hb
  refine ⟨fun i j b h1 h2 => hs.inj i j b (hb i b h1) (hb j b h2), fun i b h1 => hs.lt i b (hb i b h1), hs.xlt, fun b hx ⟨i, hi⟩ => hs.apart b hx ⟨i, hb i b hi⟩, fun i => ?_⟩
  rcases h i with e | e
  · rw [e]; exact hs.ok i
  · rw [e]; trivial
theorem Sat.rw {X : Nat → Prop} {w : World} {B : List Own} (hs : Sat X w B) (ws : List Bool) : Sat X w (rwB ws B) := hs.sub fun i => by
  rw [rwB_get]; split
  · exact .inr rfl
  · exact .inl rfl
theorem Sat.merge {X X' : Nat → Prop} {w w' : World} {B N : List Own} {ws : List Bool} (hs : Sat X w B) (hn : Sat X' w' N) (he : Ext X w (rwB ws B) X' w' N) : Sat X' w' (mrB ws B N) ∧ Ext X w B X' w' (mrB ws B N) := by
  have old : ∀ i b, ronly ws i = true → b ∈ (getD' B i).blocks → ¬ owns (rwB ws B) b := by
    rintro i b hi hb ⟨j, hj⟩
    rw [rwB_get] at hj
    split at hj
    · simp [Own.blocks] at hj
    · rename_i hne
      have := hs.inj i j b hb hj
      subst this
      exact hne hi
  have oldN : ∀ i b, ronly ws i = true → b ∈ (getD' B i).blocks → ¬ owns N b := fun i b hi hb ho => by
    rcases he.own b ho with h | h
    · exact old i b hi hb h
    · have := hs.lt i b hb; omega
  have cases : ∀ i, (ronly ws i = true ∧ getD' (mrB ws B N) i = getD' B i) ∨ getD' (mrB ws B N) i = getD' N i := fun i => by
    rw [mrB_get]; split
    · rename_i h; exact .inl ⟨h.1, rfl⟩
    · exact .inr rfl
  refine ⟨⟨fun i j b h1 h2 => ?_, fun i b h1 => ?_, hn.xlt, fun b hx ⟨i, hi⟩ => ?_, fun i => ?_⟩, ⟨he.os, he.tape, he.output, he.size, fun b hb hno => he.block b hb fun h => hno (owns_rw h), he.xin, fun b hb => (he.xout b hb).imp_right fun h => h.imp_left owns_rw, fun b hb => ?_⟩⟩
  · rcases cases i with ⟨ri, ei⟩ | ei <;> rcases cases j with ⟨rj, ej⟩ | ej <;> rw [ei] at h1 <;> rw [ej] at h2
    · exact hs.inj i j b h1 h2
    · exact absurd ⟨j, h2⟩ (oldN i b ri h1)
    · exact absurd ⟨i, h1⟩ (oldN j b rj h2)
    · exact hn.inj i j b h1 h2
  · rcases cases i with ⟨_, ei⟩ | ei <;> rw [ei] at h1
    · exact Nat.lt_of_lt_of_le (hs.lt i b h1) he.size
    · exact hn.lt i b h1
  · rcases cases i with ⟨ri, ei⟩ | ei <;> rw [ei] at hi
    · rcases he.xout b hx with h | h | h
      · exact hs.apart b h ⟨i, hi⟩
      · exact old i b ri hi h
      · have := hs.lt i b hi; omega
    · exact hn.apart b hx ⟨i, hi⟩
  · rcases cases i with ⟨ri, ei⟩ | ei <;> rw [ei]
    · exact Own.ok_mono (hs.ok i) he.xin (fun b hb => he.block b (hs.xlt b hb) fun h => hs.apart b hb (owns_rw h)) fun b hb => he.block b (hs.lt i b hb) (old i b ri hb)
    · exact hn.ok i
  · obtain ⟨i, hi⟩ := hb
    rcases cases i with ⟨_, ei⟩ | ei <;> rw [ei] at hi
    · exact .inl ⟨i, hi⟩
    · exact (he.own b ⟨i, hi⟩).imp_left owns_rw
section
variable {P : Program} {E : Env} {X : Nat → Prop} {w : World} {B : List Own}
theorem Kept.den {w' : World} (hk : Kept w B w') (hs : Sat X w B) {s : SV} {v : Value} (h : Den X w s v) : Den X w' s v :=
  h.mono (fun _ h => h) fun b hb => hk.block b (hs.xlt b hb) (hs.apart b hb)
theorem Kept.sat {w' : World} (hk : Kept w B w') (hs : Sat X w B) : Sat X w' [] :=
  ⟨fun i j b hi => by simp [getD', Own.blocks] at hi, fun i b hi => by simp [getD', Own.blocks] at hi, fun b hb => Nat.lt_of_lt_of_le (hs.xlt b hb) hk.size, fun b _ ⟨i, hi⟩ => by simp [getD', Own.blocks] at hi, fun i => by simp [getD', Own.ok]⟩
theorem Kept.ext {X' : Nat → Prop} {w' : World} {B' : List Own} (h : Ext X w B X' w' B') : Kept w B w' := ⟨h.os, h.tape, h.output, h.size, h.block⟩
theorem Kept.trans {X' : Nat → Prop} {w1 w2 : World} {B1 : List Own} (h : Ext X w B X' w1 B1) (k : Kept w1 B1 w2) : Kept w B w2 :=
  ⟨k.os.trans h.os, k.tape.trans h.tape, k.output.trans h.output, Nat.le_trans h.size k.size, fun b hb hn => by
    rw [k.block b (Nat.lt_of_lt_of_le hb h.size) fun ho => (h.own b ho).elim hn fun h => by omega, h.block b hb hn]⟩

theorem Kept.ro {ws : List Bool} {w' : World} (hk : Kept w (rwB ws B) w') (hs : Sat X w B) : Sat X w' (roB ws B) ∧ (∀ b, X b ∨ owns (roB ws B) b → w'.heap[b]? = w.heap[b]?) := by
  have hb : ∀ b, X b ∨ owns (roB ws B) b → w'.heap[b]? = w.heap[b]? := by
    rintro b (h | ⟨i, hi⟩)
    · exact hk.block b (hs.xlt b h) fun ho => hs.apart b h (owns_rw ho)
    · rw [roB_get] at hi
      split at hi
      · rename_i hr
        refine hk.block b (hs.lt i b hi) ?_
        rintro ⟨j, hj⟩
        rw [rwB_get] at hj
        split at hj
        · simp [Own.blocks] at hj
        · rename_i hne
          have := hs.inj i j b hi hj
          subst this
          exact hne hr
      · simp [Own.blocks] at hi
  have h0 : Sat X w (roB ws B) := hs.sub fun i => by
    rw [roB_get]; split
    · exact .inl rfl
    · exact .inr rfl
  refine ⟨⟨h0.inj, fun i b h => Nat.lt_of_lt_of_le (h0.lt i b h) hk.size, fun b h => Nat.lt_of_lt_of_le (hs.xlt b h) hk.size, h0.apart, fun i => ?_⟩, hb⟩
  exact Own.ok_mono (h0.ok i) (fun _ h => h) (fun b h => hb b (.inl h)) fun b h => hb b (.inr ⟨i, h⟩)
theorem Kept.denW {ws : List Bool} {w' : World} (hk : Kept w (rwB ws B) w') (hs : Sat X w B) {s : SV} {v : Value} (h : Den X w s v) : Den X w' s v :=
  h.mono (fun _ h => h) fun b hb => (hk.ro hs).2 b (.inl hb)
def Uni (P : Program) (X : Nat → Prop) (w : World) (B : List Own) (s : Sem Next) (sv : SV) : Prop :=
  ∃ v, Den X w sv v ∧ ∀ w', Kept w B w' → s.run P w' = .ok (.value v) w'
theorem uni_fo {s : Sem Next} {sv : SV} (hf : fo sv = true) (h : ∀ w', Kept w B w' → ∃ u, s.run P w' = .ok (.value u) w' ∧ Den X w' sv u) : Uni P X w B s sv := by
  obtain ⟨v, _, h2⟩ := h w (Kept.refl w B)
  refine ⟨v, h2, fun w' hk => ?_⟩
  obtain ⟨u, h3, h4⟩ := h w' hk
  rw [fo_eq hf h2 h4]; exact h3

def pureOp (o : Op) (sv : SV) : Prop := match o with
  | .move _ => True
  | .assign _ => True
  | .pick .. => fo sv = true
  | .load .. => True
  | .build .. => True
  | .nilCheck _ => True
  | .binOp _ _ _ y _ => fo sv = true ∧ nilOpd y = false
  | .unOp .. => fo sv = true
  | .convert .. => fo sv = true
  | .slice .. => True
  | .fieldAddr .. => True
  | .field .. => True
  | .indexAddr .. => True
  | .index .. => True
  | .extract .. => True
  | .call c => match c.callee with
    | .builtin .len => fo sv = true
    | _ => False
  | _ => False

theorem pure_uni (hE : EnvOK P E) {st : Bool} {t : List (Nat × SV)} {ρ : Operand → Value} {o : Oper} {ws : List Bool} (hs : Sat X w B) (h0 : ∀ x, Den X w (ev t x) (ρ x)) (hk : ∀ v, ρ (.const v) = v) (hd : ∀ x ∈ o.op.operands.toList, Den X w (evS st t x) (ρ x))
    (hp : pureOp o.op (evOp E st (.void none) t (roB ws B) o.op).v) (hc : (evOp E st (.void none) t (roB ws B) o.op).vc) : Uni P X w (rwB ws B) (execOp ρ o) (evOp E st (.void none) t (roB ws B) o.op).v := by
  obtain ⟨dst, op, type, pos, after, guard⟩ := o
  simp only at hd hp hc ⊢
  cases op <;> try (simp only [pureOp] at hp; done)
  case move x => exact ⟨_, hd x (by simp [Op.operands]), fun w' _ => rfl⟩
  case assign x => exact ⟨_, hd x (by simp [Op.operands]), fun w' _ => rfl⟩
  case pick c a b =>
    refine uni_fo hp fun w' hk => ?_
    obtain ⟨r, h1, h2, h3⟩ := pick_sound (P := P) (hk.denW hs (h0 c)) (hk.denW hs (h0 a)) (hk.denW hs (h0 b)) hc
    exact ⟨_, by simpa [execOp] using h1, h2⟩
  case load T x =>
    have hb : E.ty T ≠ .bad := fun e => by simp [evOp, evLoadT, e, bad] at hc
    have e1 : evLoadT (E.ty T) (roB ws B) (evS st t x) = evLoad (E.ty T).agg (E.ty T).size (roB ws B) (evS st t x) := by
      cases h : E.ty T <;> first | rfl | exact absurd h hb
    simp only [evOp, e1] at hc hp ⊢
    obtain ⟨u, r1, r2, r3⟩ := load_uni (hE.ty T) hb ((Kept.refl w (rwB ws B)).ro hs).1 (hd x (by simp [Op.operands])) hc
    exact ⟨u, r2, fun w' hk => by simpa [execOp] using run_v (r1 w' (hk.ro hs).2)⟩
  case build T ps =>
    simp only [evOp] at hc ⊢
    obtain ⟨hz, hc⟩ := hc
    have hpl : ∀ (l : List (Nat × Operand)), (evP st t l).length = l.length := by
      intro l
      induction l with
      | nil => rfl
      | cons x l ih => obtain ⟨i, x⟩ := x; simp [evP, ih]
    have hpd : ∀ (l : List (Nat × Operand)), (∀ x ∈ l.map (·.2), Den X w (evS st t x) (ρ x)) → ∀ (i : Nat) (p : Nat × SV) (q : Nat × Value), (evP st t l)[i]? = some p → (l.map fun (i, x) => (i, ρ x))[i]? = some q → p.1 = q.1 ∧ Den X w p.2 q.2 := by
      intro l
      induction l with
      | nil => intro _ i p q h; simp [evP] at h
      | cons x l ih =>
        obtain ⟨j, x⟩ := x
        intro hl i p q hp hq
        cases i with
        | zero => simp [evP] at hp hq; subst hp hq; exact ⟨rfl, hl x (by simp)⟩
        | succ i => exact ih (fun y hy => hl y (by simp at hy ⊢; exact .inr hy)) i p q (by simpa [evP] using hp) (by simpa using hq)
    obtain ⟨u, r1, r2, r3⟩ := build_sound (hE.ty T) (hE.zr T hz) (vs := ps.map fun (i, x) => (i, ρ x)) (by simp [hpl]) (fun i p q hp hq => hpd ps.toList (fun x hx => hd x (by simpa [Op.operands] using hx)) i p q hp (by simpa using hq)) hc
    exact ⟨u, r2, fun w' _ => by simpa [execOp] using run_v (r1 w')⟩
  case nilCheck x =>
    have hx := hd x (by simp [Op.operands])
    simp only [evOp] at hc ⊢
    refine ⟨_, hx, fun w' _ => ?_⟩
    simp only [execOp]
    generalize ρ x = v at hx
    generalize evS st t x = s at hx hc
    cases hx <;> simp only [isPtr, Bool.false_eq_true] at hc
    all_goals rfl
  case binOp op T x y T2 =>
    obtain ⟨hp, hy0⟩ := hp
    by_cases hsl : ∃ e a b, E.ty T = .slice e a b
    · obtain ⟨e, a, b, hti⟩ := hsl
      simp only [evOp, hti, evCmp, evNil, hy0, bad] at hc
    by_cases hsp : E.ty T = .ptr
    · have hT : ∃ e, P.underlying T = some (.pointer e) := by have := hE.ty T; rw [hsp] at this; exact tyB_ptr this
      obtain ⟨e, hT⟩ := hT
      refine uni_fo hp fun w' hk' => ?_
      simp only [evOp, hsp, evCmp, evNilP] at hc ⊢
      split at hc
      · rename_i bv hy hb
        obtain ⟨hr, a', hv⟩ := nilP_sound (w := w') hT (hk'.denW hs (hd x (by simp [Op.operands]))) hb
        have hyv : ρ y = .pointer none := by
          unfold nilPOpd at hy
          split at hy
          · exact hk _
          · cases hy
        have hg : (eqGuard op T x y (ρ x) (ρ y)).run P w' = .ok () w' := eqGuard_plain (by rw [hv]; exact ⟨by simp, by simp⟩)
        cases op <;> simp only [evEqB, bad] at hc
        case eql =>
          have h1 : (do eqGuard .eql T x y (ρ x) (ρ y); binOp .eql T (ρ x) (ρ y) : Sem Value).run P w' = .ok (.bool (bv)) w' := by rw [hyv] at hg ⊢; rw [hv] at hg hr ⊢; simp only [Sem.run_bind, hg, Result.andThen_ok, binOp, hr, Sem.run_pure]
          exact ⟨_, by simpa [execOp] using run_v h1, .bool _⟩
        case neq =>
          have h1 : (do eqGuard .neq T x y (ρ x) (ρ y); binOp .neq T (ρ x) (ρ y) : Sem Value).run P w' = .ok (.bool (!bv)) w' := by rw [hyv] at hg ⊢; rw [hv] at hg hr ⊢; simp only [Sem.run_bind, hg, Result.andThen_ok, binOp, hr, Sem.run_pure]
          exact ⟨_, by simpa [execOp] using run_v h1, .bool _⟩
      · exact hc.elim
    have evCmp_bin : ∀ h, evCmp (E.ty T) (E.lv T) op h (roB ws B) (evS st t x) (evS st t y) y = evBin (E.ty T) (E.lv T) op (roB ws B) (evS st t x) (evS st t y) := by
      intro h
      cases hti : E.ty T <;> first | rfl | exact absurd hti hsp | exact absurd ⟨_, _, _, hti⟩ hsl
    simp only [evOp, evCmp_bin] at hp hc ⊢
    refine uni_fo hp fun w' hk => ?_
    obtain ⟨u, r1, r2, r3⟩ := bin_sound (x := x) (y := y) (hE.ty T) (hE.lv T) (hk.denW hs (hd x (by simp [Op.operands]))) (hk.denW hs (hd y (by simp [Op.operands]))) hc
    exact ⟨u, by simpa [execOp] using run_v r1, r2⟩
  case unOp op T x =>
    refine uni_fo hp fun w' hk => ?_
    obtain ⟨u, r1, r2, r3⟩ := un_sound (P := P) (hk.denW hs (hd x (by simp [Op.operands]))) hc
    exact ⟨u, by simpa [execOp] using run_v r1, r2⟩
  case convert s d x =>
    have hb : E.ty s ≠ .bad := fun e => by simp [evOp, e, bad] at hc
    have e1 : (evOp E st (.void none) t (roB ws B) (.convert s d x)) = evConvert (E.ty s) (elemTy E (E.ty s)) (E.ty d) (roB ws B) (evS st t x) := by
      simp only [evOp]
    rw [e1] at hc ⊢
    rw [e1] at hp
    refine uni_fo hp fun w' hk => ?_
    obtain ⟨u, r1, r2, r3⟩ := convert_sound (hE.ty s) (fun e esz eb he => by rw [he]; exact hE.ty e) (hE.ty d) (hk.ro hs).1 (hk.denW hs (hd x (by simp [Op.operands]))) hc hb
    exact ⟨u, by simpa [execOp] using run_v r1, r2⟩
  case fieldAddr T x f =>
    obtain ⟨u, r1, r2, r3⟩ := fieldAddr_sound (hE.ty T) (hd x (by simp [Op.operands])) hc
    exact ⟨u, r2, fun w' _ => by simpa [execOp] using run_v (r1 w')⟩
  case field T x f =>
    obtain ⟨u, r1, r2, r3⟩ := field_sound (hE.ty T) (hd x (by simp [Op.operands])) hc
    exact ⟨u, r2, fun w' _ => by simpa [execOp] using run_v (r1 w')⟩
  case indexAddr T x i =>
    obtain ⟨u, r1, r2, r3⟩ := indexAddr_sound (hE.ty T) (hd x (by simp [Op.operands])) (hd i (by simp [Op.operands])) hc
    exact ⟨u, r2, fun w' _ => by simpa [execOp] using run_v (r1 w')⟩
  case index T x i =>
    obtain ⟨u, r1, r2, r3⟩ := index_sound (hE.ty T) (hd x (by simp [Op.operands])) (hd i (by simp [Op.operands])) hc
    exact ⟨u, r2, fun w' _ => by simpa [execOp] using run_v (r1 w')⟩
  case slice T x lo hi mx =>
    have hopt : ∀ (o : Option Operand), (∀ y, o = some y → Den X w (evS st t y) (ρ y)) → (∀ z, evO st t o = some z → ∃ y, o.map ρ = some y ∧ Den X w z y) ∧ (evO st t o = none → o.map ρ = none) := by
      intro o ho
      cases o with
      | none => exact ⟨fun z h => by simp [evO] at h, fun _ => rfl⟩
      | some y => exact ⟨fun z h => by simp [evO] at h; subst h; exact ⟨_, rfl, ho y rfl⟩, fun h => by simp [evO] at h⟩
    obtain ⟨a1, a2⟩ := hopt lo fun y hy => hd y (by subst hy; simp [Op.operands])
    obtain ⟨b1, b2⟩ := hopt hi fun y hy => hd y (by subst hy; simp [Op.operands])
    obtain ⟨c1, c2⟩ := hopt mx fun y hy => hd y (by subst hy; simp [Op.operands])
    obtain ⟨u, r1, r2, r3⟩ := slice_sound (hE.ty T) (hd x (by simp [Op.operands])) a1 a2 b1 b2 c1 c2 hc
    exact ⟨u, r2, fun w' _ => by simpa [execOp] using run_v (r1 w')⟩
  case extract x i =>
    have hx := hd x (by simp [Op.operands])
    simp only [evOp] at hc ⊢
    generalize evS st t x = s at hx hc ⊢
    generalize hv : ρ x = v at hx
    cases hx <;> try (simp only [evExtract, bad] at hc; done)
    case tup cs vs hsz h =>
      simp only [evExtract] at hc ⊢
      refine ⟨vs.getD i undef, h i _ (get?_of_lt _ hc), fun w' _ => ?_⟩
      simp only [execOp, hv, Instr.extract]
      rw [agetD_of_lt (show i < vs.size by omega)]
      simp
  case call c =>
    obtain ⟨callee, args, tys⟩ := c
    cases callee <;> try (simp only [pureOp] at hp; done)
    case builtin b =>
    cases b <;> try (simp only [pureOp] at hp; done)
    case len =>
    have hargs : ∀ x ∈ args.toList, Den X w (evS st t x) (ρ x) := fun x hx => hd x (by simp [Op.operands, Call.operands]; simpa using hx)
    obtain ⟨args⟩ := args
    obtain ⟨tys⟩ := tys
    have hex : evOp E st (.void none) t (roB ws B) (.call ⟨.builtin .len, args.toArray, tys.toArray⟩) = evBuiltin E st (.void none) t (roB ws B) .len args tys := rfl
    have hrun : ∀ (s : Sem Value) (v : Value) (w' : World) (hb : ∀ cs, builtin .len tys.toArray type cs (args.toArray.map ρ) = (do pure (.value (← s)) : Sem Next)),
        s.run P w' = .ok v w' → (execOp ρ ⟨dst, .call ⟨.builtin .len, args.toArray, tys.toArray⟩, type, pos, after, guard⟩).run P w' = .ok (.value v) w' := by
      intro s v w' hb hr
      simp only [execOp, resolve, Sem.run_bind, Sem.run_pure, Result.andThen_ok, invoke]
      rw [hb]; exact run_v hr
    rw [hex] at hc ⊢
    match args, tys, hargs, hrun with
    | [x], [T], hargs, hrun =>
      have hx := hargs x (by simp)
      simp only [evBuiltin] at hc ⊢
      clear hex hp hd
      generalize evS st t x = sx at *
      generalize hvx : ρ x = vx at hx
      have ht := hE.ty T
      cases hti : E.ty T <;> simp only [hti] at hc ht ⊢ <;> try (simp only [evLen, bad] at hc; done)
      case string =>
        have hu := tyB_string ht
        cases hx <;> try (simp only [evLen, bad] at hc; done)
        refine ⟨_, .int .., fun w' _ => hrun _ _ _ (fun _ => rfl) ?_⟩
        have hsz : ∀ l : List UInt8, (ByteArray.mk l.toArray).size = l.length := fun l => by simp [ByteArray.size]
        simp only [List.map_toArray, List.map_cons, List.map_nil, hvx, Builtin.len_, List.getElem?_toArray, List.getElem?_cons_zero, Sem.run_bind, run_underlying hu, Result.andThen_ok, Sem.run_pure, goInt, hsz]
      case slice e esz eb =>
        obtain ⟨hu, _⟩ := tyB_slice ht
        cases hx <;> try (simp only [evLen, bad] at hc; done)
        all_goals
          refine ⟨_, .int .., fun w' _ => hrun _ _ _ (fun _ => rfl) ?_⟩
          simp [Builtin.len_, hvx, run_underlying hu, goInt]
      case array n a e =>
        obtain ⟨e', hu, _⟩ := tyB_array ht
        refine ⟨_, .int .., fun w' _ => hrun _ _ _ (fun _ => rfl) ?_⟩
        simp [Builtin.len_, run_underlying hu, goInt]
    | [], _, _, _ => simp [evBuiltin, bad] at hc
    | _ :: _ :: _, _, _, _ => simp [evBuiltin, bad] at hc
    | [_], [], _, _ => simp [evBuiltin, bad] at hc
    | [_], _ :: _ :: _, _, _ => simp [evBuiltin, bad] at hc
end
end Go.Lift
end
section
namespace Go.Lift
set_option linter.unusedVariables false
section
variable {P : Program} {E : Env} {n : Nat}

def GoodN (n : Nat) (K : Slots → List Own → Prop) (X0 : Nat → Prop) (w0 : World) (B0 : List Own) : Exit → Act → World → Prop :=
  fun e a w => e = .normal ∧ ∃ X t B, K t B ∧ St X w B t n a ∧ Ext X0 w0 B0 X w B
/-! Orders of a region: behind every operation that is carried out 'S' holds, until one of the late operations has come up. -/
def hasL (late : List Nat) (listed : Array Bool) : Bool := late.any fun b => listed.getD b false
def wpAnyS (P : Program) (ops : Array Oper) (Q : Exit → Act → World → Prop) (late : List Nat) (S : World → Prop) : Nat → Array Bool → Act → World → Prop
  | 0, listed, a, w => Region.ready .any ops listed = [] ∧ Q .normal a w
  | fuel + 1, listed, a, w => (Region.ready .any ops listed = [] → Q .normal a w) ∧
    ∀ i ∈ Region.ready .any ops listed, wpOp P ops Q i (fun a' w' => (hasL late (listed.setIfInBounds i true) = true ∨ S w') ∧ wpAnyS P ops Q late S fuel (listed.setIfInBounds i true) a' w') a w
theorem wpAny_ofS {ops : Array Oper} {Q : Exit → Act → World → Prop} {late : List Nat} {S : World → Prop} : ∀ (fuel : Nat) (listed : Array Bool) (a : Act) (w : World), wpAnyS P ops Q late S fuel listed a w → wpAny P .any ops Q fuel listed a w
  | 0, _, _, _, h => h
  | fuel + 1, _, _, _, h => ⟨h.1, fun i hi => wpOp_mono (fun _ _ k => wpAny_ofS fuel _ _ _ k.2) (h.2 i hi)⟩
theorem wpAnyS_weak {ops : Array Oper} {Q : Exit → Act → World → Prop} {late : List Nat} {S S' : World → Prop} (h : ∀ w, S w → S' w) : ∀ (fuel : Nat) (listed : Array Bool) (a : Act) (w : World), wpAnyS P ops Q late S fuel listed a w → wpAnyS P ops Q late S' fuel listed a w
  | 0, _, _, _, k => k
  | fuel + 1, _, _, _, k => ⟨k.1, fun i hi => wpOp_mono (fun a' w' h' => ⟨h'.1.imp id (h _), wpAnyS_weak h fuel _ a' w' h'.2⟩) (k.2 i hi)⟩
theorem wpAnyS_late {ops : Array Oper} {Q : Exit → Act → World → Prop} {late : List Nat} {S S' : World → Prop} : ∀ (fuel : Nat) (listed : Array Bool) (a : Act) (w : World), hasL late listed = true → wpAnyS P ops Q late S fuel listed a w → wpAnyS P ops Q late S' fuel listed a w
  | 0, _, _, _, _, k => k
  | fuel + 1, listed, _, _, hl, k => by
    refine ⟨k.1, fun i hi => wpOp_mono (fun a' w' h' => ?_) (k.2 i hi)⟩
    have h1 : hasL late (listed.setIfInBounds i true) = true := by
      simp only [hasL, List.any_eq_true] at hl ⊢
      obtain ⟨b, hb, h⟩ := hl
      exact ⟨b, hb, getD_set_true h⟩
    exact ⟨.inl h1, wpAnyS_late fuel _ a' w' h1 h'.2⟩
theorem hasL_set {late : List Nat} {listed : Array Bool} {i : Nat} (hi : ∀ b ∈ late, b ≠ i) : hasL late (listed.setIfInBounds i true) = hasL late listed := by
  apply Bool.eq_iff_iff.2
  simp only [hasL, List.any_eq_true]
  constructor
  · rintro ⟨b, hb, h⟩
    exact ⟨b, hb, by rw [getD_set_ne false (Ne.symm (hi b hb))] at h; exact h⟩
  · rintro ⟨b, hb, h⟩
    exact ⟨b, hb, getD_set_true h⟩
theorem wpAnyS_first {ops : Array Oper} {Q : Exit → Act → World → Prop} {late : List Nat} {S : World → Prop} {i : Nat} {oi : Oper} {v : Value} (hi : ops[i]? = some oi) (hsel : ∀ (j : Nat) (o : Oper) cs b, ops[j]? = some o → o.op ≠ .select cs b)
    (hQ : ∀ c a w, Q (.panic c) (a.put oi.dst v) w → Q (.panic c) a w) (hne : ∀ b ∈ late, b ≠ i) (hwait : ∀ b ∈ late, ∀ o, ops[b]? = some o → ∃ e ∈ o.after, Region.binds .any e = true ∧ e.on = i) :
    ∀ (fuel : Nat) (listed : Array Bool) (a : Act) (w : World),
      (∀ j oj, ops[j]? = some oj → j ≠ i → listed.getD j true = false → (∀ e ∈ oj.after, Region.binds .any e = true → e.on ≠ i) → oi.apart ops oj = true) →
      i ∈ Region.ready .any ops listed → YieldsIf P ops S oi v a → S w → hasL late listed = false →
      wpAnyS P ops Q late S fuel (listed.setIfInBounds i true) (a.put oi.dst v) w → wpAnyS P ops Q late S (fuel + 1) listed a w := by
  intro fuel
  induction fuel with
  | zero =>
    intro listed a w _ hr hy hS hL H
    refine ⟨fun h => (by rw [h] at hr; cases hr), fun j hj => ?_⟩
    by_cases hji : j = i
    · subst hji; exact hy.wpOp hi hS ⟨.inr hS, H⟩
    · have h1 := ready_mono hj hji
      rw [H.1] at h1
      cases h1
  | succ fuel ih =>
    intro listed a w hfree hr hy hS hL H
    refine ⟨fun h => (by rw [h] at hr; cases hr), fun j hj => ?_⟩
    by_cases hji : j = i
    · subst hji; exact hy.wpOp hi hS ⟨.inr hS, H⟩
    obtain ⟨hun, oj, hoj, hall⟩ := mem_ready.1 hj
    have hni := (mem_ready.1 hr).1
    -- number j does not wait for number i, so it is not late
    have hfi : listed.getD i false = false := by
      rcases Nat.lt_or_ge i listed.size with h' | h'
      · simp [h'] at hni ⊢; exact hni
      · simp [Array.getElem?_eq_none h']
    have hno : ∀ e ∈ oj.after, Region.binds .any e = true → e.on ≠ i := fun e he hb heq => by
      have := hall e he hb
      rw [heq, hfi] at this
      cases this
    have hjl : ∀ b ∈ late, b ≠ j := fun b hb heq => by
      subst heq
      obtain ⟨e, he, hb1, hb2⟩ := hwait b hb oj hoj
      exact hno e he hb1 hb2
    have k1 := wpOp_putIf hoj (hfree j oj hoj hji hun hno) (fun cs b => hsel i oi cs b hi) (fun cs b => hsel j oj cs b hoj) hQ hy (H.2 j (ready_mono hj hji))
    have hL' : hasL late (listed.setIfInBounds j true) = false := by rw [hasL_set hjl]; exact hL
    refine wpOp_mono (fun a' w' k => ?_) k1
    obtain ⟨ky, ks, kw⟩ := k
    have hS' : S w' := by
      rcases ks with ks | ks
      · rw [hasL_set hjl, hasL_set hne, hL] at ks; cases ks
      · exact ks
    refine ⟨.inr hS', ih _ a' w' (fun k ok hk hki hkun hkno => hfree k ok hk hki ?_ hkno) (ready_mono hr (Ne.symm hji)) ky hS' hL' ?_⟩
    · by_cases hjk : j = k
      · subst hjk; exact hun
      · rw [getD_set_ne true hjk] at hkun; exact hkun
    · rw [Array.setIfInBounds_comm _ _ hji]; exact kw
theorem wpAnyS_all {ops : Array Oper} {Q : Exit → Act → World → Prop} {late : List Nat} {S : World → Prop} {rs : List Nat} {fuel : Nat} {listed : Array Bool} {a : Act} {w : World} (hr : Region.ready .any ops listed = rs) (hne : rs ≠ [])
    (h : ∀ i ∈ rs, wpOp P ops Q i (fun a' w' => (hasL late (listed.setIfInBounds i true) = true ∨ S w') ∧ wpAnyS P ops Q late S fuel (listed.setIfInBounds i true) a' w') a w) : wpAnyS P ops Q late S (fuel + 1) listed a w :=
  ⟨fun h0 => absurd (hr ▸ h0) hne, hr ▸ h⟩
theorem wpAnyS_done {ops : Array Oper} {Q : Exit → Act → World → Prop} {late : List Nat} {S : World → Prop} {listed : Array Bool} {a : Act} {w : World} (hr : Region.ready .any ops listed = []) (h : Q .normal a w) : ∀ fuel, wpAnyS P ops Q late S fuel listed a w
  | 0 => ⟨hr, h⟩
  | _ + 1 => ⟨fun _ => h, by rw [hr]; simp⟩

theorem owns_mr {ws : List Bool} {B N : List Own} {b : Nat} (hb : owns (rwB ws (mrB ws B N)) b) : owns N b := by
  obtain ⟨i, hi⟩ := hb
  rw [rwB_get] at hi
  split at hi
  · simp [Own.blocks] at hi
  · rename_i hne
    rw [mrB_get, if_neg fun h => hne h.1] at hi
    exact ⟨i, hi⟩
theorem Kept.transW {X X' : Nat → Prop} {w w1 w2 : World} {B B1 B2 : List Own} (h : Ext X w B X' w1 B1) (hb : ∀ b, owns B2 b → owns B1 b) (k : Kept w1 B2 w2) : Kept w B w2 :=
  ⟨k.os.trans h.os, k.tape.trans h.tape, k.output.trans h.output, Nat.le_trans h.size k.size, fun b hl hn => by
    rw [k.block b (Nat.lt_of_lt_of_le hl h.size) fun ho => (h.own b (hb b ho)).elim hn fun h => by omega, h.block b hl hn]⟩
def ED (P : Program) (n : Nat) (ops : Array Oper) (late : List Nat) (ws : List Bool) (t : Slots) (B : List Own) (K : Slots → List Own → Prop) (fuel : Nat) (listed : Array Bool) : Prop :=
  ∀ X0 w0 B0 X w a, Ext X0 w0 B0 X w B → St X w B t n a → wpAnyS P ops (GoodN n K X0 w0 B0) late (Kept w (rwB ws B)) fuel listed a w
variable {late : List Nat} {ws : List Bool} {ops : Array Oper} {t : Slots} {B : List Own} {K : Slots → List Own → Prop} {fuel : Nat} {listed : Array Bool}
theorem ED_done (hr : Region.ready .any ops listed = []) (h : K t B) : ED P n ops late ws t B K fuel listed :=
  fun X0 w0 B0 X w a he hs => wpAnyS_done hr ⟨rfl, X, t, B, h, hs, he⟩ fuel
theorem St.put {X : Nat → Prop} {w : World} {a : Act} {d : Option Nat} {s : SV} {v : Value} (hs : St X w B t n a) (hd : Den X w s v) : St X w B (setT n t d s) n (a.put d v) := by
  refine ⟨?_, hs.sat, denT_put hs.den hd⟩
  have := hs.defers; cases d <;> simpa [Act.put] using this
theorem ED_take {i : Nat} {o : Oper} {sv : SV} (hi : ops[i]? = some o) (hs : Region.noSelect ops = true) (hf : Region.free .any ops listed i = true) (hr : (Region.ready .any ops listed).contains i = true)
    (hL : hasL late listed = false) (hne : ∀ b ∈ late, b ≠ i) (hwait : ∀ b ∈ late, ∀ o, ops[b]? = some o → ∃ e ∈ o.after, Region.binds .any e = true ∧ e.on = i)
    (hu : ∀ X w a, St X w B t n a → ∃ v, YieldsIf P ops (Kept w (rwB ws B)) o v a ∧ Den X w sv v) (h : ED P n ops late ws (setT n t o.dst sv) B K fuel (listed.setIfInBounds i true)) : ED P n ops late ws t B K (fuel + 1) listed := by
  intro X0 w0 B0 X w a he hst
  obtain ⟨v, hy, hd⟩ := hu X w a hst
  exact wpAnyS_first hi (Region.noSelect_spec hs) (fun c a w h => by cases h.1) hne hwait fuel listed a w (Region.free_spec hi hf) (by simpa using hr) hy (Kept.refl w (rwB ws B)) hL (h X0 w0 B0 X w _ he (hst.put hd))
theorem ED_call {i : Nat} {o : Oper} {f : FuncId} {args : List SV} (hi : ops[i]? = some o) (hr : Region.ready .any ops listed = [i]) (hw : ∀ X w a, St X w B t n a → Region.wanted o (yielded ops a.tmps) = true)
    (hrun : ∀ X w a, St X w B t n a → ∃ vals, (execOp a.eval o).run P w = .ok (.enter f vals) w ∧ DenL X w args vals)
    (h : EC P f args (rwB ws B) fun s B' => ED P n ops late ws (setT n t o.dst s) (mrB ws B B') K fuel (listed.setIfInBounds i true)) : ED P n ops late ws t B K (fuel + 1) listed := by
  intro X0 w0 B0 X w a he hs
  refine wpAnyS_all hr (by simp) fun j hj => ?_
  simp only [List.mem_singleton] at hj
  subst hj
  unfold wpOp
  simp only [hi]
  rw [if_pos (hw X w a hs)]
  left
  obtain ⟨vals, h1, h2⟩ := hrun X w a hs
  unfold Oper.wp
  rw [h1]
  simp only [Oper.upon]
  refine (h.2 X w vals (hs.sat.rw ws) h2).mono ?_
  rintro e w' ⟨v, s, X', B', rfl, hK, hsat0, hden, hext0⟩
  simp only
  obtain ⟨hsat, hext⟩ := hs.sat.merge hsat0 hext0
  have hst : St X' w' (mrB ws B B') (setT n t o.dst s) n (a.put o.dst v) := by
    refine ⟨?_, hsat, ?_⟩
    · have := hs.defers; cases o.dst <;> simpa [Act.put] using this
    · exact denT_put ⟨hs.den.1, fun i => (hs.den.2 i).ext hs.sat hext⟩ hden
  exact ⟨.inr (Kept.ext hext0), wpAnyS_weak (fun w'' hk => Kept.transW hext0 (fun b hb => owns_mr hb) hk) _ _ _ _ (hK X0 w0 B0 X' w' _ (he.trans hext) hst)⟩
theorem ED_mem {i : Nat} {o : Oper} {out : RowH → Out} (hi : ops[i]? = some o) (hr : Region.ready .any ops listed = [i]) (hw : ∀ X w a, St X w B t n a → Region.wanted o (yielded ops a.tmps) = true)
    (hu : ∀ X w a, St X w B t n a → ∃ h, (out h).vc → Done P X w (rwB ws B) (execOp a.eval o) (out h)) (hh : ∀ h, (out h).vc ∧ ED P n ops late ws (setT n t o.dst (out h).v) (mrB ws B (out h).B) K fuel (listed.setIfInBounds i true)) : ED P n ops late ws t B K (fuel + 1) listed := by
  intro X0 w0 B0 X w a he hs
  refine wpAnyS_all hr (by simp) fun j hj => ?_
  simp only [List.mem_singleton] at hj
  subst hj
  unfold wpOp
  simp only [hi]
  rw [if_pos (hw X w a hs)]
  left
  obtain ⟨hd, hu⟩ := hu X w a hs
  obtain ⟨hvc, h⟩ := hh hd
  obtain ⟨v, w', h1, hsat0, hden, hext0⟩ := hu hvc
  obtain ⟨hsat, hext⟩ := hs.sat.merge hsat0 hext0
  have hst : St X w' (mrB ws B (out hd).B) (setT n t o.dst (out hd).v) n (a.put o.dst v) := by
    refine ⟨?_, hsat, ?_⟩
    · have := hs.defers; cases o.dst <;> simpa [Act.put] using this
    · exact denT_put ⟨hs.den.1, fun i => (hs.den.2 i).ext hs.sat hext⟩ hden
  have key : (hasL late (listed.setIfInBounds j true) = true ∨ Kept w (rwB ws B) w') ∧ wpAnyS P ops (GoodN n K X0 w0 B0) late (Kept w (rwB ws B)) fuel (listed.setIfInBounds j true) (a.put o.dst v) w' :=
    ⟨.inr (Kept.ext hext0), wpAnyS_weak (fun w'' hk => Kept.transW hext0 (fun b hb => owns_mr hb) hk) _ _ _ _ (h X0 w0 B0 X w' _ (he.trans hext) hst)⟩
  unfold Oper.wp
  rcases h1 with h1 | ⟨h1, rfl⟩
  · rw [h1]; simp only [Oper.upon]; exact key
  · rw [h1]; simp only [Oper.upon]; exact key
theorem ED_lcall {i : Nat} {o : Oper} {f : FuncId} {args : List SV} (hi : ops[i]? = some o) (hr : Region.ready .any ops listed = [i]) (hl : hasL late (listed.setIfInBounds i true) = true) (hw : ∀ X w a, St X w B t n a → Region.wanted o (yielded ops a.tmps) = true)
    (hrun : ∀ X w a, St X w B t n a → ∃ vals, (execOp a.eval o).run P w = .ok (.enter f vals) w ∧ DenL X w args vals)
    (h : EC P f args B fun s B' => ED P n ops late ws (setT n t o.dst s) B' K fuel (listed.setIfInBounds i true)) : ED P n ops late ws t B K (fuel + 1) listed := by
  intro X0 w0 B0 X w a he hs
  refine wpAnyS_all hr (by simp) fun j hj => ?_
  simp only [List.mem_singleton] at hj
  subst hj
  unfold wpOp
  simp only [hi]
  rw [if_pos (hw X w a hs)]
  left
  obtain ⟨vals, h1, h2⟩ := hrun X w a hs
  unfold Oper.wp
  rw [h1]
  simp only [Oper.upon]
  refine (h.2 X w vals hs.sat h2).mono ?_
  rintro e w' ⟨v, s, X', B', rfl, hK, hsat, hden, hext⟩
  simp only
  have hst : St X' w' B' (setT n t o.dst s) n (a.put o.dst v) := by
    refine ⟨?_, hsat, ?_⟩
    · have := hs.defers; cases o.dst <;> simpa [Act.put] using this
    · exact denT_put ⟨hs.den.1, fun i => (hs.den.2 i).ext hs.sat hext⟩ hden
  exact ⟨.inl hl, wpAnyS_late _ _ _ _ hl (hK X0 w0 B0 X' w' _ (he.trans hext) hst)⟩
theorem ED_lmem {i : Nat} {o : Oper} {out : RowH → Out} (hi : ops[i]? = some o) (hr : Region.ready .any ops listed = [i]) (hl : hasL late (listed.setIfInBounds i true) = true) (hw : ∀ X w a, St X w B t n a → Region.wanted o (yielded ops a.tmps) = true)
    (hu : ∀ X w a, St X w B t n a → ∃ h, (out h).vc → Done P X w B (execOp a.eval o) (out h)) (hh : ∀ h, (out h).vc ∧ ED P n ops late ws (setT n t o.dst (out h).v) (out h).B K fuel (listed.setIfInBounds i true)) : ED P n ops late ws t B K (fuel + 1) listed := by
  intro X0 w0 B0 X w a he hs
  refine wpAnyS_all hr (by simp) fun j hj => ?_
  simp only [List.mem_singleton] at hj
  subst hj
  unfold wpOp
  simp only [hi]
  rw [if_pos (hw X w a hs)]
  left
  obtain ⟨hd, hu⟩ := hu X w a hs
  obtain ⟨hvc, h⟩ := hh hd
  obtain ⟨v, w', h1, hsat, hden, hext⟩ := hu hvc
  have hst : St X w' (out hd).B (setT n t o.dst (out hd).v) n (a.put o.dst v) := by
    refine ⟨?_, hsat, ?_⟩
    · have := hs.defers; cases o.dst <;> simpa [Act.put] using this
    · exact denT_put ⟨hs.den.1, fun i => (hs.den.2 i).ext hs.sat hext⟩ hden
  have key := wpAnyS_late (P := P) (S' := Kept w (rwB ws B)) _ _ _ _ hl (h X0 w0 B0 X w' _ (he.trans hext) hst)
  unfold Oper.wp
  rcases h1 with h1 | ⟨h1, rfl⟩
  · rw [h1]; simp only [Oper.upon]; exact ⟨.inl hl, key⟩
  · rw [h1]; simp only [Oper.upon]; exact ⟨.inl hl, key⟩
theorem EV_draw {id : Nat} {Q : Post} (hm : P.follows .mixedOrders = true) (h : ∀ K : Slots → List Own → Prop, (∀ t B, Q .normal t B → K t B) → ED P n ops late ws t B K ops.size (Array.replicate ops.size false)) : EV P n (.region id ops true) t B Q := by
  intro X0 w0 B0 X w a he hs
  have hext : Ext X w B X { w with drawn := w.drawn + 1 } B := ⟨rfl, rfl, rfl, Nat.le_refl _, fun _ _ _ => rfl, fun _ h => h, fun _ h => .inl h, fun _ h => .inl h⟩
  have hs' : St X { w with drawn := w.drawn + 1 } B t n a := ⟨hs.defers, ⟨hs.sat.inj, hs.sat.lt, hs.sat.xlt, hs.sat.apart, fun i => Own.ok_mono (hs.sat.ok i) (fun _ h => h) (fun _ _ => rfl) fun _ _ => rfl⟩, hs.den.1, fun i => (hs.den.2 i).ext hs.sat hext⟩
  refine wp_mono (wp_region_any hm (wpAny_ofS _ _ _ _ (h (fun t B => Q .normal t B) (fun _ _ h => h) X0 w0 B0 X _ a (he.trans hext) hs'))) ?_
  rintro e a' w' ⟨rfl, X', t', B', h1, h2, h3⟩
  exact ⟨X', t', B', h1, h2, h3⟩
theorem ED_skip {i : Nat} {o : Oper} {s : SV} (hi : ops[i]? = some o) (hr : Region.ready .any ops listed = [i]) (hw : ∀ X w a, St X w B t n a → Region.wanted o (yielded ops a.tmps) = false)
    (hu : ∀ X w, Den X w s undef) (h : ED P n ops late ws (setT n t o.dst s) B K fuel (listed.setIfInBounds i true)) : ED P n ops late ws t B K (fuel + 1) listed := by
  intro X0 w0 B0 X w a he hs
  refine wpAnyS_all hr (by simp) fun j hj => ?_
  simp only [List.mem_singleton] at hj
  subst hj
  unfold wpOp
  simp only [hi]
  rw [if_neg (by rw [hw X w a hs]; simp)]
  exact ⟨.inr (Kept.refl w _), h X0 w0 B0 X w _ he (hs.put (hu X w))⟩

def isCallOp : Op → Bool
  | .call c => match c.callee with
    | .value _ => true
    | _ => false
  | _ => false
def isMemOp : Op → Bool
  | .store .. | .alloc _ | .box .. | .buildSlice .. | .makeSlice .. => true
  | .call c => match c.callee with
    | .builtin .append | .builtin .copy => true
    | _ => false
  | .binOp _ _ _ y _ => nilOpd y
  | _ => false
def inL : List Nat → Nat → Bool
  | [], _ => false
  | a :: r, i => if i = a then true else inL r i
theorem inL_contains : ∀ (l : List Nat) (i : Nat), inL l i = l.contains i
  | [], _ => rfl
  | a :: r, i => by
    simp only [inL, List.contains_cons, inL_contains r i]
    by_cases h : i = a <;> simp [h]
def ordOK (ops : Array Oper) (late : List Nat) : List Nat → Array Bool → Bool
  | [], listed => Region.ready .any ops listed == []
  | i :: r, listed => (match ops[i]? with
    | none => false
    | some o => match isCallOp o.op || isMemOp o.op || late.contains i || hasL late listed with
      | true => Region.ready .any ops listed == [i]
      | false => Region.free .any ops listed i && (Region.ready .any ops listed).contains i && late.all fun b => match ops[b]? with
        | some ob => ob.after.any fun e => Region.binds .any e && e.on == i
        | none => true) && ordOK ops late r (listed.setIfInBounds i true)
def runD (P : Program) (E : Env) (n : Nat) (ops : Array Oper) (late : List Nat) (ws : List Bool) (K : Slots → List Own → Prop) : Bool → List Nat → Slots → List Own → Array Bool → Prop
  | _, [], t, B, _ => K t B
  | b, i :: r, t, B, listed => match ops[i]? with
    | none => False
    | some o => match o.guard with
      | none => match b || inL late i with
        | true => match isCallOp o.op with
          | true => match callOf false t o.op with
            | some (f, args) => EC P f args B fun s B' => ED P n ops late ws (setT n t o.dst s) B' K r.length (listed.setIfInBounds i true)
            | none => False
          | false => ∀ h, match evOp E false h t B o.op with
            | ⟨v, B', c⟩ => c ∧ runD P E n ops late ws K (b || inL late i) r (setT n t o.dst v) B' (listed.setIfInBounds i true)
        | false => match isCallOp o.op with
          | true => match callOf false t o.op with
            | some (f, args) => EC P f args (rwB ws B) fun s B' => ED P n ops late ws (setT n t o.dst s) (mrB ws B B') K r.length (listed.setIfInBounds i true)
            | none => False
          | false => match isMemOp o.op with
            | true => ∀ h, match evOp E false h t (rwB ws B) o.op with
              | ⟨v, B', c⟩ => c ∧ runD P E n ops late ws K (b || inL late i) r (setT n t o.dst v) (mrB ws B B') (listed.setIfInBounds i true)
            | false => match evOp E false (.void none) t (roB ws B) o.op with
              | ⟨v, _, c⟩ => pureOp o.op v ∧ c ∧ runD P E n ops late ws K (b || inL late i) r (setT n t o.dst v) B (listed.setIfInBounds i true)
      | some (j, want) => match b || inL late i with
        | true => False
        | false => match guardOf ops.toList t j want with
          | none => False
          | some c => match isCallOp o.op with
            | true => match callOf true t o.op with
              | some (f, args) => (c = true → condsOk t (opnds o.op)) ∧ (c = true → EC P f args (rwB ws B) fun s B' => ED P n ops late ws (setT n t o.dst s) (mrB ws B B') K r.length (listed.setIfInBounds i true)) ∧
                  (c = false → ED P n ops late ws (setT n t o.dst .any) B K r.length (listed.setIfInBounds i true))
              | none => False
            | false => match isMemOp o.op with
              | true => False
              | false => match evOp E true (.void none) t (roB ws B) o.op with
                | ⟨v, _, vc⟩ => quiet o.op = true ∧ (c = true → condsOk t (opnds o.op) ∧ pureOp o.op v ∧ vc) ∧ runD P E n ops late ws K (b || inL late i) r (setT n t o.dst (.opt c v)) B (listed.setIfInBounds i true)

theorem pure_st (hE : EnvOK P E) {X : Nat → Prop} {w : World} {a : Act} {o : Oper} {st : Bool} (hs : St X w B t n a) (hst : st = true → quiet o.op = true ∧ condsOk t (opnds o.op)) (hp : pureOp o.op (evOp E st (.void none) t (roB ws B) o.op).v)
    (hc : (evOp E st (.void none) t (roB ws B) o.op).vc) : Uni P X w (rwB ws B) (execOp a.eval o) (evOp E st (.void none) t (roB ws B) o.op).v := by
  by_cases hpk : ∃ c x y, o.op = .pick c x y
  · obtain ⟨c, x, y, hpk⟩ := hpk
    rw [hpk] at hc hp ⊢
    refine uni_fo hp fun w' hk => ?_
    obtain ⟨r, h1, h2, h3⟩ := pick_sound (P := P) (hk.denW hs.sat (den_ev hs.den c)) (hk.denW hs.sat (den_ev hs.den x)) (hk.denW hs.sat (den_ev hs.den y)) hc
    exact ⟨r, by simpa [execOp, hpk] using h1, h2⟩
  · refine pure_uni hE hs.sat (fun x => den_ev hs.den x) (fun _ => rfl) (fun x hx => ?_) hp hc
    cases st with
    | false => exact den_evS_false hs.den x
    | true =>
      obtain ⟨h1, h2⟩ := hst rfl
      rcases quiet_opnds h1 x hx with ⟨c, a', b, e⟩ | h3
      · exact absurd ⟨c, a', b, e⟩ hpk
      · exact den_evS_true hs.den h2 x h3
theorem wait_of {ops : Array Oper} {late : List Nat} {i : Nat} (h : (late.all fun b => match ops[b]? with | some ob => ob.after.any fun e => Region.binds .any e && e.on == i | none => true) = true) :
    ∀ b ∈ late, ∀ o, ops[b]? = some o → ∃ e ∈ o.after, Region.binds .any e = true ∧ e.on = i := by
  intro b hb o ho
  have := List.all_eq_true.1 h b hb
  simp only [ho, Array.any_eq_true', Bool.and_eq_true, beq_iff_eq] at this
  exact this
theorem late_ne {late : List Nat} {i : Nat} (h : late.contains i = false) : ∀ b ∈ late, b ≠ i := fun b hb e => by subst e; rw [List.contains_iff_mem.2 hb] at h; cases h
theorem hasL_now {late : List Nat} {listed : Array Bool} {i : Nat} (h : hasL late (listed.setIfInBounds i true) = false) : (late.contains i || hasL late listed) = false ∨ listed.size ≤ i := by
  by_cases hi : i < listed.size
  · left
    have h1 : hasL late listed = false := Bool.eq_false_iff.2 fun h2 => by
      simp only [hasL, List.any_eq_true] at h2
      obtain ⟨b, hb, hh⟩ := h2
      have : hasL late (listed.setIfInBounds i true) = true := by
        simp only [hasL, List.any_eq_true]; exact ⟨b, hb, getD_set_true hh⟩
      rw [h] at this; cases this
    rw [h1, Bool.or_false]
    refine Bool.eq_false_iff.2 fun h2 => ?_
    have : hasL late (listed.setIfInBounds i true) = true := by
      simp only [hasL, List.any_eq_true]
      refine ⟨i, List.contains_iff_mem.1 h2, ?_⟩
      simp [hi]
    rw [h] at this; cases this
  · exact .inr (by omega)
theorem ready_lt {listed : Array Bool} {i : Nat} (h : i ∈ Region.ready .any ops listed) : i < listed.size := by
  have := (mem_ready.1 h).1
  rcases Nat.lt_or_ge i listed.size with h' | h'
  · exact h'
  · simp [Array.getElem?_eq_none h'] at this
theorem ED_run (hE : EnvOK P E) (hns : Region.noSelect ops = true) : ∀ (b : Bool) (ord : List Nat) (t : Slots) (B : List Own) (listed : Array Bool), b = hasL late listed → ordOK ops late ord listed = true → runD P E n ops late ws K b ord t B listed → ED P n ops late ws t B K ord.length listed
  | _, [], t, B, listed, _, ho, h => ED_done (by simpa [ordOK] using ho) h
  | b, i :: r, t, B, listed, hb, ho, h => by
    simp only [ordOK, Bool.and_eq_true] at ho
    obtain ⟨ho, ho2⟩ := ho
    simp only [runD] at h
    cases hi : ops[i]? with
    | none => simp [hi] at h
    | some o =>
      simp only [hi] at h ho
      have hlt : i < listed.size := by
        refine ready_lt (ops := ops) ?_
        split at ho
        · rw [beq_iff_eq.1 ho]; simp
        · simp only [Bool.and_eq_true] at ho
          exact List.contains_iff_mem.1 ho.1.2
      have hset : hasL late (listed.setIfInBounds i true) = (b || inL late i) := by
        rw [hb, inL_contains]
        apply Bool.eq_iff_iff.2
        simp only [hasL, List.any_eq_true, Bool.or_eq_true, List.contains_iff_mem]
        constructor
        · rintro ⟨c, hc, h1⟩
          by_cases e : c = i
          · exact .inr (e ▸ hc)
          · exact .inl ⟨c, hc, by rw [getD_set_ne false (Ne.symm e)] at h1; exact h1⟩
        · rintro (⟨c, hc, h1⟩ | h1)
          · exact ⟨c, hc, getD_set_true h1⟩
          · exact ⟨i, h1, by simp [hlt]⟩
      rw [← hset] at h
      -- from the first late operation on: alone
      cases hl : hasL late (listed.setIfInBounds i true) with
      | true =>
        cases hg : o.guard with
        | some jw => obtain ⟨j, want⟩ := jw; simp [hg, hl] at h
        | none =>
          have hw : ∀ X w a, St X w B t n a → Region.wanted o (yielded ops a.tmps) = true := fun X w a _ => by simp [Region.wanted, hg]
          have halone : Region.ready .any ops listed = [i] := by
            have hor : (late.contains i || hasL late listed) = true := by
              cases hc : late.contains i with
              | true => rfl
              | false => rw [hasL_set (late_ne hc)] at hl; simpa using hl
            have : (isCallOp o.op || isMemOp o.op || late.contains i || hasL late listed) = true := by rw [Bool.or_assoc, hor, Bool.or_true]
            simp only [this] at ho
            simpa using ho
          simp only [hg, hl] at h
          cases hco : isCallOp o.op with
          | true =>
            simp only [hco] at h
            cases hcall : callOf false t o.op with
            | none => simp [hcall] at h
            | some fa =>
              obtain ⟨f, args⟩ := fa
              simp only [hcall] at h
              exact ED_lcall hi halone hl hw (fun X w a hs => call_run hcall (fun x _ => den_evS_false hs.den x) h.1) h
          | false =>
            simp only [hco] at h
            exact ED_lmem hi halone hl hw (out := fun h => evOp E false h t B o.op) (fun X w a hs => evOp_sound' hE hs.sat hs.den (o := o) (st := false) (by simp)) fun hd => ⟨(h hd).1, ED_run hE hns _ r _ _ _ hl.symm ho2 (h hd).2⟩
      | false =>
      cases hg : o.guard with
      | none =>
        have hw : ∀ X w a, St X w B t n a → Region.wanted o (yielded ops a.tmps) = true := fun X w a _ => by simp [Region.wanted, hg]
        simp only [hg, hl] at h
        cases hco : isCallOp o.op with
        | true =>
          simp only [hco, Bool.true_or] at h ho
          cases hcall : callOf false t o.op with
          | none => simp [hcall] at h
          | some fa =>
            obtain ⟨f, args⟩ := fa
            simp only [hcall] at h
            exact ED_call hi (by simpa using ho) hw (fun X w a hs => call_run hcall (fun x _ => den_evS_false hs.den x) h.1) h
        | false =>
          simp only [hco, Bool.false_or] at h ho
          cases hmo : isMemOp o.op with
          | true =>
            simp only [hmo, Bool.true_or] at h ho
            exact ED_mem hi (by simpa using ho) hw (out := fun h => evOp E false h t (rwB ws B) o.op) (fun X w a hs => evOp_sound' hE (hs.sat.rw ws) hs.den (o := o) (st := false) (by simp)) fun hd => ⟨(h hd).1, ED_run hE hns _ r _ _ _ hl.symm ho2 (h hd).2⟩
          | false =>
          simp only [hmo, Bool.false_or] at h ho
          obtain ⟨h1, h2, h3⟩ := h
          cases hlc : (late.contains i || hasL late listed) with
          | true =>
            simp only [hlc] at ho
            have hr1 : Region.ready .any ops listed = [i] := by simpa using ho
            rcases hasL_now hl with h4 | h4
            · rw [hlc] at h4; cases h4
            · have := ready_lt (ops := ops) (listed := listed) (i := i) (by rw [hr1]; simp); omega
          | false =>
          simp only [hlc, Bool.and_eq_true] at ho
          simp only [Bool.or_eq_false_iff] at hlc
          refine ED_take hi hns ho.1.1 ho.1.2 hlc.2 (late_ne hlc.1) (wait_of ho.2) (fun X w a hs => ?_) (ED_run hE hns _ r _ _ _ hl.symm ho2 h3)
          obtain ⟨v, hd, hu⟩ := pure_st hE hs (st := false) (by simp) h1 h2
          exact ⟨v, .inl ⟨hw X w a hs, hu⟩, hd⟩
      | some jw =>
        obtain ⟨j, want⟩ := jw
        simp only [hg, hl] at h
        cases hgd : guardOf ops.toList t j want with
        | none => simp [hgd] at h
        | some c =>
          simp only [hgd] at h
          have hwc : ∀ X w a, St X w B t n a → Region.wanted o (yielded ops a.tmps) = c := fun X w a hs => by simpa using guardOf_spec hgd hs.den o hg
          cases hco : isCallOp o.op with
          | true =>
            simp only [hco, Bool.true_or] at h ho
            cases hcall : callOf true t o.op with
            | none => simp [hcall] at h
            | some fa =>
              obtain ⟨f, args⟩ := fa
              simp only [hcall] at h
              obtain ⟨h1, h2, h3⟩ := h
              cases c with
              | true => exact ED_call hi (by simpa using ho) hwc (fun X w a hs => call_run hcall (fun x hx => den_evS_true hs.den (h1 rfl) x hx) (h2 rfl).1) (h2 rfl)
              | false => exact ED_skip hi (by simpa using ho) hwc (fun _ _ => .any _) (h3 rfl)
          | false =>
            simp only [hco, Bool.false_or] at h ho
            cases hmo : isMemOp o.op with
            | true => simp [hmo] at h
            | false =>
            simp only [hmo, Bool.false_or] at h ho
            obtain ⟨hq, h1, h3⟩ := h
            cases hlc : (late.contains i || hasL late listed) with
            | true =>
              simp only [hlc] at ho
              have hr1 : Region.ready .any ops listed = [i] := by simpa using ho
              rcases hasL_now hl with h4 | h4
              · rw [hlc] at h4; cases h4
              · have := ready_lt (ops := ops) (listed := listed) (i := i) (by rw [hr1]; simp); omega
            | false =>
            simp only [hlc, Bool.and_eq_true] at ho
            simp only [Bool.or_eq_false_iff] at hlc
            refine ED_take hi hns ho.1.1 ho.1.2 hlc.2 (late_ne hlc.1) (wait_of ho.2) (fun X w a hs => ?_) (ED_run hE hns _ r _ _ _ hl.symm ho2 h3)
            cases c with
            | true =>
              obtain ⟨k1, k2, k3⟩ := h1 rfl
              obtain ⟨v, hd, hu⟩ := pure_st hE hs (st := true) (fun _ => ⟨hq, k1⟩) k2 k3
              exact ⟨v, .inl ⟨hwc X w a hs, hu⟩, .opt (fun _ => hd) fun e => by cases e⟩
            | false => exact ⟨undef, .inr ⟨hwc X w a hs, rfl⟩, .opt (fun e => by cases e) fun _ => rfl⟩
theorem EV_drawn (hE : EnvOK P E) {id : Nat} {Q : Post} (late : List Nat) (ws : List Bool) (ord : List Nat) (hm : P.follows .mixedOrders = true) (hns : Region.noSelect ops = true) (hl : ord.length = ops.size) (ho : ordOK ops late ord (Array.replicate ops.size false) = true)
    (h : ∀ K : Slots → List Own → Prop, (∀ t B, Q .normal t B → K t B) → runD P E n ops late ws K false ord t B (Array.replicate ops.size false)) : EV P n (.region id ops true) t B Q :=
  EV_draw hm fun K hK => by
    have := ED_run hE hns false ord t B _ (by simp [hasL, Array.getD]) ho (h K hK)
    rw [hl] at this
    exact this
end
end Go.Lift
end
section
namespace Go.Lift
def boolC (b : Bool) : List SV := [.bool b]
def strC (s : List UInt8) : List SV := [.str s]
def elt {α : Type} (c : α → List SV) (d : α) (l : List α) (k : Nat) : List SV := c (l.getD k d)
section
variable {α : Type} {c : α → List SV} {d : α} {l : List α}
theorem slL_elt {e : Nat} : slL e c d l = .sl false e l.length (elt c d l) := rfl
theorem elt_at (k : Nat) : elt c d l k = c (l.getD k d) := rfl
theorem range_elt : (List.range l.length).map (elt c d l) = l.map c := rangeD c d l
theorem getD_past {k : Nat} (h : l.length ≤ k) : l.getD k d = d := by simp [List.getD, List.getElem?_eq_none h]
theorem sub_elt {fl : Bool} {e lo hi : Nat} (h : hi ≤ l.length) : SV.sl fl e (hi - lo) (sub (elt c d l) l.length lo (hi - lo)) = .sl fl e ((l.take hi).drop lo).length (elt c d ((l.take hi).drop lo)) := by
  have e1 : ((l.take hi).drop lo).length = hi - lo := by simp; omega
  rw [e1]
  congr 1
  funext k
  simp only [sub, elt]
  split
  · rename_i hk
    congr 1
    simp only [List.getD, List.getElem?_drop, List.getElem?_take]
    rw [if_pos (by omega)]
  · rename_i hk
    rw [getD_past (Nat.le_refl _), getD_past (by rw [e1]; omega)]
theorem sub_elt0 {fl : Bool} {e hi : Nat} (h : hi ≤ l.length) : SV.sl fl e hi (sub (elt c d l) l.length 0 hi) = .sl fl e (l.take hi).length (elt c d (l.take hi)) := by
  have := sub_elt (c := c) (d := d) (fl := fl) (e := e) (lo := 0) h
  simpa using this
theorem sub_eltD {fl : Bool} {e lo : Nat} : SV.sl fl e (l.length - lo) (sub (elt c d l) l.length lo (l.length - lo)) = .sl fl e (l.drop lo).length (elt c d (l.drop lo)) := by
  have e1 : (l.drop lo).length = l.length - lo := by simp
  rw [e1]
  congr 1
  funext k
  simp only [sub, elt]
  split
  · rename_i hk
    congr 1
    simp only [List.getD, List.getElem?_drop]
  · rename_i hk
    rw [getD_past (Nat.le_refl _), getD_past (by rw [e1]; omega)]
theorem sub_elt_all {fl : Bool} {e : Nat} : SV.sl fl e l.length (sub (elt c d l) l.length 0 l.length) = .sl fl e l.length (elt c d l) := by
  have := sub_elt0 (c := c) (d := d) (fl := fl) (e := e) (Nat.le_refl l.length)
  simpa using this
theorem solids_map (h : ∀ x, solids (c x) = true) : (∀ y, y ∈ l.map c → solids y = true) = True :=
  eq_true fun y hy => by obtain ⟨z, _, rfl⟩ := List.mem_map.1 hy; exact h z
theorem solids_elt (h : ∀ x, solids (c x) = true) (n : Nat) : (∀ k, k < n → solids (elt c d l k) = true) = True := eq_true fun _ _ => h _
end
theorem getD_map2 {α : Type} [Inhabited α] {c : α → List SV} {l : List α} {k : Nat} (h : k < l.length) : (l.map c).getD k [] = c (l.getD k default) := by
  simp [List.getD, h]
theorem map_snocI (k : IntKind) (l : List Int) (x : Int) : l.map (intC k) ++ [[.int k x]] = (l ++ [x]).map (intC k) := by simp [intC]
theorem map_setI (k : IntKind) (l : List Int) (i : Nat) (x : Int) : (l.map (intC k)).set i [.int k x] = (l.set i x).map (intC k) := by simp [intC]
theorem map_snocS (l : List (List UInt8)) (x : List UInt8) : l.map strC ++ [[.str x]] = (l ++ [x]).map strC := by simp [strC]
theorem intC_len (k : IntKind) (x : Int) : (intC k x).length = 1 := rfl
theorem intC_g (k : IntKind) (x : Int) (d : SV) : (intC k x).getD 0 d = .int k x := rfl
theorem intC_p (k : IntKind) (x y : Int) : putL (intC k x) 0 [.int k y] = intC k y := rfl
theorem intC_sol (k : IntKind) (x : Int) : solids (intC k x) = true := rfl
theorem strC_len (x : List UInt8) : (strC x).length = 1 := rfl
theorem strC_g (x : List UInt8) (d : SV) : (strC x).getD 0 d = .str x := rfl
theorem strC_sol (x : List UInt8) : solids (strC x) = true := rfl
theorem boolC_len (x : Bool) : (boolC x).length = 1 := rfl
theorem boolC_g (x : Bool) (d : SV) : (boolC x).getD 0 d = .bool x := rfl
theorem boolC_sol (x : Bool) : solids (boolC x) = true := rfl
theorem bif_and (a b : Bool) : (bif a then b else false) = (a && b) := by cases a <;> rfl
theorem bif_or (a b : Bool) : (bif a then true else b) = (a || b) := by cases a <;> rfl
theorem beq_f (b : Bool) : (b == false) = !b := by cases b <;> rfl
theorem beq_t (b : Bool) : (b == true) = b := by cases b <;> rfl
theorem drop_getD {α : Type} (l : List α) (o j : Nat) (d : α) : (l.drop o).getD j d = l.getD (o + j) d := by simp [List.getD, List.getElem?_drop]
/-! Parts of replaced cells. -/
theorem putL_get1 (cs : List SV) (o i : Nat) (v d : SV) : (putL cs o [v]).getD i d = if i = o ∧ o < cs.length then v else cs.getD i d := by
  simp only [putL, List.getD_eq_getElem?_getD, List.getElem?_set]
  by_cases h : o = i
  · subst h
    by_cases h2 : o < cs.length
    · simp [h2]
    · simp [h2]
  · rw [if_neg h, if_neg (by omega)]
theorem putL_getE (ys cs : List SV) (o i : Nat) : (putL cs o ys)[i]? = if o ≤ i ∧ i < o + ys.length ∧ i < cs.length then ys[i - o]? else cs[i]? := by
  induction ys generalizing cs o with
  | nil => simp [putL]; intro h1 h2; omega
  | cons y r ih =>
    simp only [putL, ih, List.length_set, List.length_cons, List.getElem?_set]
    by_cases h : o = i
    · subst h
      rw [if_neg (by omega)]
      by_cases h2 : o < cs.length
      · simp [h2]
      · simp only [h2, if_true, if_false, and_false]
        rw [List.getElem?_eq_none (by omega)]
    · rw [if_neg h]
      by_cases h3 : o + 1 ≤ i ∧ i < o + 1 + r.length ∧ i < cs.length
      · rw [if_pos h3, if_pos (by omega)]
        have : i - o = (i - (o + 1)) + 1 := by omega
        rw [this, List.getElem?_cons_succ]
      · rw [if_neg h3, if_neg (by omega)]
theorem putL_app {cs ys r : List SV} {o : Nat} (h : o + ys.length ≤ cs.length) (e : cs.take o ++ (ys ++ cs.drop (o + ys.length)) = r) : putL cs o ys = r := by
  rw [← e]
  apply List.ext_getElem?
  intro i
  rw [putL_getE]
  by_cases h1 : i < o
  · rw [if_neg (by omega), List.getElem?_append_left (by simp; omega)]
    simp [h1]
  · by_cases h2 : i < o + ys.length
    · rw [if_pos (by omega), List.getElem?_append_right (by simp; omega), List.getElem?_append_left (by simp; omega)]
      congr 1; simp; omega
    · rw [if_neg (by omega), List.getElem?_append_right (by simp; omega), List.getElem?_append_right (by simp; omega)]
      simp only [List.length_take, List.getElem?_drop]
      congr 1; omega
theorem putL_one (a b : SV) : putL [a] 0 [b] = [b] := rfl
theorem putL_same (cs : List SV) (o : Nat) (a b : SV) : putL (putL cs o [a]) o [b] = putL cs o [b] := by simp [putL]
theorem LLe.getE {l l' : List SV} (h : LLe l l') : l.length = l'.length ∧ ∀ (i : Nat) (a b : SV), l[i]? = some a → l'[i]? = some b → SLe a b := by
  induction h with
  | nil => exact ⟨rfl, by simp⟩
  | cons h _ ih =>
    refine ⟨by simp [ih.1], fun i a b ha hb => ?_⟩
    cases i with
    | zero => simp at ha hb; subst ha hb; exact h
    | succ i => exact ih.2 i a b (by simpa using ha) (by simpa using hb)
theorem LLe.ofE : ∀ {l l' : List SV}, l.length = l'.length → (∀ (i : Nat) (a b : SV), l[i]? = some a → l'[i]? = some b → SLe a b) → LLe l l'
  | [], [], _, _ => .nil
  | [], _ :: _, h, _ => by simp at h
  | _ :: _, [], h, _ => by simp at h
  | a :: l, b :: l', h, hh => .cons (hh 0 a b rfl rfl) (LLe.ofE (by simpa using h) fun i a b ha hb => hh (i + 1) a b (by simpa using ha) (by simpa using hb))
theorem LLe.puts {cs ds vs ws r : List SV} (h : LLe cs ds) (j : Nat) (hv : LLe vs ws) (e : putL ds j ws = r) : LLe (putL cs j vs) r := by
  subst e
  obtain ⟨h1, h2⟩ := h.getE
  obtain ⟨h3, h4⟩ := hv.getE
  refine .ofE (by simp [putL_length, h1]) fun i a b ha hb => ?_
  rw [putL_getE] at ha hb
  by_cases hc : j ≤ i ∧ i < j + vs.length ∧ i < cs.length
  · rw [if_pos hc] at ha
    rw [if_pos (by omega)] at hb
    exact h4 _ _ _ ha hb
  · rw [if_neg hc] at ha
    rw [if_neg (by omega)] at hb
    exact h2 _ _ _ ha hb
theorem LLe.put {cs ds r : List SV} {s s' : SV} (h : LLe cs ds) (j : Nat) (hs : SLe s s') (e : putL ds j [s'] = r) : LLe (putL cs j [s]) r := h.puts j (.cons hs .nil) e
theorem LLe.of_eq {a b : List SV} (h : a = b) : LLe a b := h ▸ LLe.refl _
theorem sle_nilL {α : Type} {e e' : Nat} {fl : Bool} {cells : α → List SV} {d : α} {f : Nat → List SV} : SLe (.sl fl e' 0 f) (slL e cells d []) := by
  intro X w v h
  cases h with
  | slNil hf => exact .slNil (by simp)
  | slAt g hn => exact absurd hn (Nat.lt_irrefl 0)
theorem frzL_put (sel : Nat → Bool) (B : List Own) (cs ys : List SV) (o : Nat) : frzL sel B (putL cs o ys) = putL (frzL sel B cs) o (frzL sel B ys) := by
  have hl : ∀ l : List SV, (frzL sel B l).length = l.length := by intro l; induction l with | nil => rfl | cons a l ih => simp [frzL, ih]
  have hg : ∀ (l : List SV) (i : Nat), (frzL sel B l)[i]? = (l[i]?).map (frzC sel B) := by
    intro l
    induction l with
    | nil => simp [frzL]
    | cons a l ih => intro i; cases i <;> simp [frzL, ih]
  apply List.ext_getElem?
  intro i
  simp only [hg, putL_getE, hl]
  split <;> rfl
theorem frzKL_put (sel : Nat → Bool) (B : List Own) (cs ys : List SV) (o : Nat) (h : frzKL sel B cs) (h2 : frzKL sel B ys) : frzKL sel B (putL cs o ys) := by
  have hg : ∀ (l : List SV), frzKL sel B l ↔ ∀ (i : Nat) (s : SV), l[i]? = some s → frzKC sel B s := by
    intro l
    induction l with
    | nil => simp [frzKL]
    | cons a l ih =>
      simp only [frzKL, ih]
      constructor
      · rintro ⟨h1, h2⟩ i s h
        cases i with
        | zero => simp at h; subst h; exact h1
        | succ i => exact h2 i s (by simpa using h)
      · intro h
        exact ⟨h 0 a rfl, fun i s hs => h (i + 1) s (by simpa using hs)⟩
  rw [hg] at h h2 ⊢
  intro i s hs
  rw [putL_getE] at hs
  split at hs
  · exact h2 _ _ hs
  · exact h _ _ hs
theorem SLe.rptr {i j : Nat} {h : RowH} {e k o : Nat} : SLe (.rptr i h e k o) (.rptr j h e k o) := fun _ _ _ hd => by cases hd; exact .rptr ..
theorem SLe.row {i j : Nat} {h : RowH} {e lo n : Nat} : SLe (.row i h e lo n) (.row j h e lo n) := fun _ _ _ hd => hd.reindex
theorem getD'_one {o : Own} {i : Nat} : getD' [o] i = if i = 0 then o else .gone := by cases i <;> simp [getD']
theorem EC.at {P : Program} {f : Nat} {args args' : List SV} {B : List Own} {i : Nat} {h : RowH} {E e : Nat} {xs : List (List SV)} {Q : SV → List Own → Prop} (hc : EC P f args [.row h E e xs] Q)
    (hi : getD' B i = .row h E e xs) (ha : LLe args' args) (hq : ∀ r N, Q r N → ∃ o, N = [o]) : EC P f args' B (fun r B' => ∃ o, Q r [o] ∧ B' = B.set i o) := by
  refine ⟨hc.1, fun X w vs hs hd => ?_⟩
  have hil : i < B.length := getD'_lt hi
  have hs1 : Sat X w [.row h E e xs] := by
    refine ⟨fun a b c h1 h2 => ?_, fun a b h1 => ?_, hs.xlt, fun b hx ⟨a, h1⟩ => ?_, fun a => ?_⟩
    · rw [getD'_one] at h1 h2
      split at h1 <;> split at h2 <;> simp_all [Own.blocks]
    · rw [getD'_one] at h1
      split at h1
      · exact hs.lt i b (by rw [hi]; exact h1)
      · simp [Own.blocks] at h1
    · rw [getD'_one] at h1
      split at h1
      · exact hs.apart b hx ⟨i, by rw [hi]; exact h1⟩
      · simp [Own.blocks] at h1
    · rw [getD'_one]
      split
      · rw [← hi]; exact hs.ok i
      · trivial
  obtain ⟨l1, l2⟩ := ha.spec
  refine (hc.2 X w vs hs1 ⟨by rw [hd.1, l1], fun j c hj => ?_⟩).mono ?_
  · obtain ⟨d, hd1, hd2⟩ := l2 j c hj
    exact hd2 _ _ _ (hd.2 j d hd1)
  rintro ex w' ⟨v, r, X', N, rfl, hQ, hsat, hden, hext⟩
  obtain ⟨o, rfl⟩ := hq r N hQ
  have own1 : ∀ b, owns [Own.row h E e xs] b → b ∈ (getD' B i).blocks := by
    rintro b ⟨a, h1⟩
    rw [getD'_one] at h1
    split at h1
    · rw [hi]; exact h1
    · simp [Own.blocks] at h1
  have oldN : ∀ a b, a ≠ i → b ∈ (getD' B a).blocks → ¬ owns [Own.row h E e xs] b := fun a b hne hb ho => hne (hs.inj a i b hb (own1 b ho))
  have newo : ∀ b, b ∈ o.blocks → owns [Own.row h E e xs] b ∨ w.heap.size ≤ b := fun b hb => hext.own b ⟨0, by simpa [getD'] using hb⟩
  refine ⟨v, r, X', B.set i o, rfl, ⟨o, hQ, rfl⟩, ⟨fun a b c h1 h2 => ?_, fun a b h1 => ?_, hsat.xlt, fun b hx ⟨a, h1⟩ => ?_, fun a => ?_⟩, hden, ⟨hext.os, hext.tape, hext.output, hext.size, fun b hb hno => hext.block b hb fun ho => hno ⟨i, own1 b ho⟩, hext.xin, fun b hb => (hext.xout b hb).imp_right fun h => h.imp_left fun ho => ⟨i, own1 b ho⟩, fun b hb => ?_⟩⟩
  · rw [getD'_set hil] at h1 h2
    split at h1 <;> split at h2
    · omega
    · rcases newo c h1 with h | h
      · exact absurd h (oldN b c (by assumption) h2)
      · have := hs.lt b c h2; omega
    · rcases newo c h2 with h | h
      · exact absurd h (oldN a c (by assumption) h1)
      · have := hs.lt a c h1; omega
    · exact hs.inj a b c h1 h2
  · rw [getD'_set hil] at h1
    split at h1
    · exact hsat.lt 0 b (by simpa [getD'] using h1)
    · exact Nat.lt_of_lt_of_le (hs.lt a b h1) hext.size
  · rw [getD'_set hil] at h1
    split at h1
    · exact hsat.apart b hx ⟨0, by simpa [getD'] using h1⟩
    · rcases hext.xout b hx with h | h | h
      · exact hs.apart b h ⟨a, h1⟩
      · exact oldN a b (by assumption) h1 h
      · have := hs.lt a b h1; omega
  · rw [getD'_set hil]
    split
    · simpa [getD'] using hsat.ok 0
    · rename_i hne
      exact Own.ok_mono (hs.ok a) hext.xin (fun b hb => hext.block b (hs.xlt b hb) fun ho => hs.apart b hb ⟨i, own1 b ho⟩) fun b hb => hext.block b (hs.lt a b hb) (oldN a b hne hb)
  · obtain ⟨a, h1⟩ := hb
    rw [getD'_set hil] at h1
    split at h1
    · rcases newo b h1 with h | h
      · exact .inl ⟨i, own1 b h⟩
      · exact .inr h
    · exact .inl ⟨a, h1⟩
theorem EC.useAt {P : Program} {f : Nat} {args args' : List SV} {B : List Own} (i : Nat) {h : RowH} {E e : Nat} {xs xs' : List (List SV)} {R : SV} {Q : SV → List Own → Prop}
    (hc : EC P f args [.row h E e xs] fun r N => r = R ∧ N = [.row h E e xs']) (hi : getD' B i = .row h E e xs) (ha : LLe args' args) (hk : Q R (B.set i (.row h E e xs'))) : EC P f args' B Q :=
  (EC.at hc hi ha fun _ _ hq => ⟨_, hq.2⟩).mono (by rintro r B' ⟨o, ⟨rfl, ho⟩, rfl⟩; cases ho; exact hk)
theorem EC.uses {P : Program} {f : Nat} {args args' : List SV} {B : List Own} {R : SV} {Q : SV → List Own → Prop} (h : EC P f args' [] fun r B' => B' = [] ∧ r = R) (ha : LLe args args') (hk : Q R B) : EC P f args B Q :=
  EC.args ha (EC.use h hk)
end Go.Lift
end
section
namespace Go.Lift
section
variable {P : Program} {n : Nat} {t : Slots} {B : List Own} {Q : Post}
def keepS (t : Slots) : List Nat → Slots
  | [] => []
  | k :: r => (k, lkp t k) :: keepS t r
theorem wkS_app {t : Slots} : ∀ {a b : Slots}, wkS t a → wkS t b → wkS t (a ++ b)
  | [], _, _, h => h
  | (_, _) :: _, _, ha, h => ⟨ha.1, wkS_app ha.2 h⟩
theorem wkS_keep {t : Slots} : ∀ (l : List Nat), wkS t (keepS t l)
  | [] => trivial
  | _ :: r => ⟨rfl, wkS_keep r⟩
theorem EV_loopL {σ : Type} (live : List Nat) (V : σ → Slots) (Inv : σ → Prop) (μ : σ → Nat) (s0 : σ) {c : Code} (h0 : Inv s0) (hw : wkS t (V s0))
    (round : ∀ s, Inv s → EV P n c (V s ++ keepS t live) B (thenP (fun t' B' => ∃ s', Inv s' ∧ μ s' < μ s ∧ wkS t' (V s' ++ keepS t live) ∧ B'.take B.length = B) Q)) : EV P n (.loop c) t B Q := by
  refine EV_loop (fun s => V s ++ keepS t live) (fun _ => B) Inv μ s0 h0 (wkS_app hw (wkS_keep _)) (by simp) round
theorem EV_matr (d E e : Nat) {f : Nat → List SV} {c : Code} (hd : lkp t d = .sl true 0 0 f) (h : ∀ h, EV P n c ((d, .row B.length h e 0 0) :: t) (B ++ [.row h E e []]) Q) : EV P n c t B Q := by
  intro X0 w0 B0 X w a he hs
  have h1 := hs.den.2 d
  rw [hd] at h1
  obtain ⟨ad, hv⟩ : ∃ ad, a.tmps.getD d undef = .slice ad 0 0 := by
    generalize a.tmps.getD d undef = v at h1
    cases h1 with
    | slNil hf => rw [hf rfl]; exact ⟨_, rfl⟩
    | slAt g hn => exact absurd hn (Nat.lt_irrefl 0)
  have hp : Sat X w (B ++ [.row (.void ad) E e []]) := hs.sat.push (Nat.le_refl _) (fun _ _ => rfl) (fun c hc => by simp [Own.blocks] at hc) rfl
  have hx : Ext X w B X w (B ++ [.row (.void ad) E e []]) := Ext.push rfl rfl rfl (Nat.le_refl _) (fun _ _ => rfl) fun c hc => by simp [Own.blocks] at hc
  refine h (.void ad) X0 w0 B0 X w a (he.trans hx) ⟨hs.defers, hp, hs.den.1, fun i => ?_⟩
  simp only [lkp]
  split
  · rename_i hi; subst hi; rw [hv]; exact .rowVoid ..
  · exact hs.den.2 i
theorem EC.finE {f : Nat} {args : List SV} {B0 : List Own} {σ : Type} {C : σ → Prop} {R : σ → SV} {X : σ → List (List SV)} {hh : RowH} {E e : Nat}
    (h : EC P f args B0 fun r B' => frzKT (fromM 1) B' r ∧ ∃ x, C x ∧ SLe (frzT (fromM 1) B' r) (R x) ∧ B'.take 1 = [.row hh E e (X x)]) : EC P f args B0 fun r N => ∃ x, C x ∧ r = R x ∧ N = [.row hh E e (X x)] := by
  have := EC.close 1 (Q := fun r N => ∃ x, C x ∧ SLe r (R x) ∧ N = [.row hh E e (X x)]) h
  refine EC.ret (this.mono ?_)
  rintro r N ⟨x, h1, h2, h3⟩
  exact ⟨R x, h2, x, h1, rfl, h3⟩
theorem EC.useAtE {f : Nat} {args args' : List SV} (i : Nat) {h : RowH} {E e : Nat} {xs : List (List SV)} {σ : Type} {C : σ → Prop} {R : σ → SV} {X : σ → List (List SV)} {Q : SV → List Own → Prop}
    (hc : EC P f args [.row h E e xs] fun r N => ∃ x, C x ∧ r = R x ∧ N = [.row h E e (X x)]) (hi : getD' B i = .row h E e xs) (ha : LLe args' args) (hk : ∀ x, C x → Q (R x) (B.set i (.row h E e (X x)))) : EC P f args' B Q :=
  (EC.at hc hi ha fun _ _ ⟨_, hq⟩ => ⟨_, hq.2.2⟩).mono (by rintro r B' ⟨o, ⟨x, h1, rfl, ho⟩, rfl⟩; cases ho; exact hk x h1)
theorem EC.finP {f : Nat} {args : List SV} {σ : Type} {C : σ → Prop} {R : σ → SV} (h : EC P f args [] fun r B' => frzKT (fromM 0) B' r ∧ ∃ x, C x ∧ SLe (frzT (fromM 0) B' r) (R x)) : EC P f args [] fun r N => N = [] ∧ ∃ x, C x ∧ r = R x := by
  have := EC.close 0 (Q := fun r N => N = [] ∧ ∃ x, C x ∧ SLe r (R x)) (h.mono fun r B' ⟨h1, h2⟩ => ⟨h1, by simp, h2⟩)
  refine EC.ret (this.mono ?_)
  rintro r N ⟨rfl, x, h1, h2⟩
  exact ⟨R x, h2, rfl, x, h1, rfl⟩
theorem EC.useP {f : Nat} {args : List SV} {σ : Type} {C : σ → Prop} {R : σ → SV} {Q : SV → List Own → Prop} (hc : EC P f args [] fun r N => N = [] ∧ ∃ x, C x ∧ r = R x) (hk : ∀ x, C x → Q (R x) B) : EC P f args B Q :=
  (EC.frame (Q := fun r => ∃ x, C x ∧ r = R x) hc B).mono (by rintro r B' ⟨rfl, x, h1, rfl⟩; exact hk x h1)
theorem EC.useM {f : Nat} {args : List SV} {E e : Nat} {xs : List (List SV)} {R : RowH → Nat → SV} {Q : SV → List Own → Prop}
    (hc : EC P f args [] fun r N => ∃ h, r = R h 0 ∧ N = [.row h E e xs]) (hR : ∀ h i j, SLe (R h i) (R h j)) (hk : ∀ h, Q (R h B.length) (B ++ [.row h E e xs])) : EC P f args B Q := by
  refine ⟨hc.1, fun X w vs hs hd => ?_⟩
  have h0 : Sat X w [] := hs.sub fun i => .inr (by simp [getD'])
  refine (hc.2 X w vs h0 hd).mono ?_
  rintro ex w' ⟨v, r, X', N, rfl, ⟨h, rfl, rfl⟩, hsat, hden, hext⟩
  have hx : ∀ b, ¬ owns ([] : List Own) b := fun b ⟨i, hi⟩ => by simp [getD', Own.blocks] at hi
  have nb : ∀ b, b ∈ (Own.row h E e xs).blocks → w.heap.size ≤ b := fun b hb => (hext.own b ⟨0, by simpa [getD'] using hb⟩).elim (fun ho => absurd ho (hx b)) id
  refine ⟨v, _, X', _, rfl, hk h, ⟨fun a b c h1 h2 => ?_, fun a b h1 => ?_, hsat.xlt, fun b hb ⟨a, h1⟩ => ?_, fun a => ?_⟩, hR _ _ _ _ _ _ hden, ⟨hext.os, hext.tape, hext.output, hext.size, fun b hb _ => hext.block b hb (hx b), hext.xin, fun b hb => (hext.xout b hb).imp_right fun h => .inr (h.elim (fun ho => absurd ho (hx b)) id), fun b hb => ?_⟩⟩
  · rw [getD'_push] at h1 h2
    split at h1 <;> split at h2
    · omega
    · have := nb c h1; have := hs.lt b c h2; omega
    · have := nb c h2; have := hs.lt a c h1; omega
    · exact hs.inj a b c h1 h2
  · rw [getD'_push] at h1
    split at h1
    · exact hsat.lt 0 b (by simpa [getD'] using h1)
    · exact Nat.lt_of_lt_of_le (hs.lt a b h1) hext.size
  · rw [getD'_push] at h1
    split at h1
    · exact hsat.apart b hb ⟨0, by simpa [getD'] using h1⟩
    · rcases hext.xout b hb with h | h | h
      · exact hs.apart b h ⟨a, h1⟩
      · exact hx b h
      · have := hs.lt a b h1; omega
  · rw [getD'_push]
    split
    · simpa [getD'] using hsat.ok 0
    · exact Own.ok_mono (hs.ok a) hext.xin (fun b hb => hext.block b (hs.xlt b hb) (hx b)) fun b hb => hext.block b (hs.lt a b hb) (hx b)
  · obtain ⟨a, h1⟩ := hb
    rw [getD'_push] at h1
    split at h1
    · exact .inr (nb b h1)
    · exact .inl ⟨a, h1⟩
end
def setX (o : Own) (xs : List (List SV)) : Own := match o with
  | .row h E e _ => .row h E e xs
  | .gone => .gone
def updX : List Own → Nat → List (List SV) → List Own
  | [], _, _ => []
  | o :: B, 0, xs => setX o xs :: B
  | o :: B, i + 1, xs => o :: updX B i xs
def updH : List Own → Nat → RowH → List (List SV) → List Own
  | [], _, _, _ => []
  | o :: B, 0, h, xs => (match o with | .row _ E e _ => .row h E e xs | .gone => .gone) :: B
  | o :: B, i + 1, h, xs => o :: updH B i h xs
theorem EV_loopB {P : Program} {n : Nat} {t : Slots} {B : List Own} {Q : Post} {σ : Type} (live : List Nat) (V : σ → Slots) (R : List Own → σ → List Own) (Inv : σ → Prop) (μ : σ → Nat) (s0 : σ) {c : Code} (h0 : Inv s0) (hw : wkS t (V s0)) (hb : R B s0 = B)
    (round : ∀ s, Inv s → EV P n c (V s ++ keepS t live) (R B s) (thenP (fun t' B' => ∃ s', Inv s' ∧ μ s' < μ s ∧ wkS t' (V s' ++ keepS t live) ∧ B'.take (R B s').length = R B s') Q)) : EV P n (.loop c) t B Q :=
  EV_loop (fun s => V s ++ keepS t live) (fun s => R B s) Inv μ s0 h0 (wkS_app hw (wkS_keep _)) (by rw [hb]; simp) round
end Go.Lift
end
section
namespace Go.Lift
attribute [push_cast] inL Bool.false_or Bool.or_false updX updH setX run holds evOp evS evL evP evO ev lkp setT callOf guardOf quiet opnds condsOk SV.cond SV.strip SV.ofVal SV.ofCell SV.ofCells SV.cells SV.solid SV.len SV.isStr solids isPtr getD' TyI.agg TyI.size evLoadT evLoad evStoreT evStore evNew evLen evCap evMax evMin evExtract elemTy evBuiltin evFieldAddr evField evIndexAddr evIndex evSliceB evSlice srcOf srcSolid srcTy evAppend evAppendL evCopy fillL fillC evBuildSlice evMakeSlice buildL evBuild evConvert evInt evCmp evNil nilOpd nilOf evNilP nilPOpd nilPOf evEqB evBin evUn boolOf armOf evPick Own.blocks unguard if_true if_false List.length_cons List.length_nil List.append_eq List.cons_append List.nil_append List.append_nil List.getElem?_cons_zero List.getElem?_cons_succ List.getElem?_nil List.set_cons_zero List.set_cons_succ List.drop_succ_cons List.drop_zero List.drop_nil drop_getD List.length_drop List.drop_drop List.take_succ_cons List.take_zero List.take_nil List.getD_cons_zero List.getD_cons_succ List.getD_nil Bool.false_eq_true Bool.true_eq_false Bool.and_true Bool.true_and Bool.or_true Bool.true_or Bool.not_true Bool.not_false true_and and_true Nat.add_zero Nat.zero_add List.replicate_succ List.replicate_zero List.range_zero List.map_nil Nat.lt_add_one zero_lt IntKind.bits min1 min7 min63 rangeI runD pureOp fo foC isCallOp isMemOp roB rwB mrB keepS List.getElem?_toArray List.size_toArray List.all_cons List.all_nil isBytes and_self beq_self_eq_true cond_true cond_false toNat_add2 u64_not i64_not List.mem_singleton forall_eq take_map_len take_map_app take_map_app3 List.length_append Nat.mul_one List.length_map true_or or_true imp_self forall_const Bool.and_self not_true not_false_iff eq_self Nat.zero_le Nat.lt_irrefl Nat.le_refl ne_eq not_false_eq_true implies_true false_implies true_implies Int.toNat_zero Nat.sub_zero List.map_cons Int.toNat_natCast Int.toNat_one Int.cast_ofNat_Int bif_and bif_or beq_f beq_t slL_elt elt_at range_elt sub_eltD sub_elt_all map_snocI map_setI map_snocS intC_len intC_g intC_p intC_sol strC_len strC_g strC_sol boolC_len boolC_g boolC_sol putL_get1 putL_same putL_one putL_length solids_map solids_elt Bool.not_eq_true' decide_eq_true_eq Bool.not_not Bool.false_and Bool.and_false Bool.false_or Bool.or_false decide_true decide_false false_and and_false
end Go.Lift
end
section
namespace Go.Lift
set_option linter.unusedVariables false
section
variable {P : Program} {E : Env} {n : Nat} {ws : List Bool} {ops : Array Oper} {t : Slots} {B : List Own} {K : Slots → List Own → Prop} {fuel : Nat} {listed : Array Bool}
def EDi (P : Program) (n : Nat) (ops : Array Oper) (ws : List Bool) (t : Slots) (B : List Own) (K : Slots → List Own → Prop) (fuel : Nat) (listed : Array Bool) (i : Nat) : Prop :=
  ∀ X0 w0 B0 X w a, Ext X0 w0 B0 X w B → St X w B t n a → wpOp P ops (GoodN n K X0 w0 B0) i (fun a' w' => (hasL [] (listed.setIfInBounds i true) = true ∨ Kept w (rwB ws B) w') ∧ wpAnyS P ops (GoodN n K X0 w0 B0) [] (Kept w (rwB ws B)) fuel (listed.setIfInBounds i true) a' w') a w
theorem ED_two {i j : Nat} (hr : Region.ready .any ops listed = [i, j]) (h1 : EDi P n ops ws t B K fuel listed i) (h2 : EDi P n ops ws t B K fuel listed j) : ED P n ops [] ws t B K (fuel + 1) listed := by
  intro X0 w0 B0 X w a he hs
  refine wpAnyS_all hr (by simp) fun k hk => ?_
  simp only [List.mem_cons, List.not_mem_nil, or_false] at hk
  rcases hk with rfl | rfl
  · exact h1 X0 w0 B0 X w a he hs
  · exact h2 X0 w0 B0 X w a he hs
theorem EDi_call {i : Nat} {o : Oper} {f : FuncId} {args : List SV} (hi : ops[i]? = some o) (hw : ∀ X w a, St X w B t n a → Region.wanted o (yielded ops a.tmps) = true)
    (hrun : ∀ X w a, St X w B t n a → ∃ vals, (execOp a.eval o).run P w = .ok (.enter f vals) w ∧ DenL X w args vals)
    (h : EC P f args (rwB ws B) fun s B' => ED P n ops [] ws (setT n t o.dst s) (mrB ws B B') K fuel (listed.setIfInBounds i true)) : EDi P n ops ws t B K fuel listed i := by
  intro X0 w0 B0 X w a he hs
  unfold wpOp
  simp only [hi]
  rw [if_pos (hw X w a hs)]
  left
  obtain ⟨vals, h1, h2⟩ := hrun X w a hs
  unfold Oper.wp
  rw [h1]
  simp only [Oper.upon]
  refine (h.2 X w vals (hs.sat.rw ws) h2).mono ?_
  rintro e w' ⟨v, s, X', B', rfl, hK, hsat0, hden, hext0⟩
  simp only
  obtain ⟨hsat, hext⟩ := hs.sat.merge hsat0 hext0
  have hst : St X' w' (mrB ws B B') (setT n t o.dst s) n (a.put o.dst v) := by
    refine ⟨?_, hsat, ?_⟩
    · have := hs.defers; cases o.dst <;> simpa [Act.put] using this
    · exact denT_put ⟨hs.den.1, fun i => (hs.den.2 i).ext hs.sat hext⟩ hden
  exact ⟨.inr (Kept.ext hext0), wpAnyS_weak (fun w'' hk => Kept.transW hext0 (fun b hb => owns_mr hb) hk) _ _ _ _ (hK X0 w0 B0 X' w' _ (he.trans hext) hst)⟩
theorem EDi_mem {i : Nat} {o : Oper} {out : RowH → Out} (hi : ops[i]? = some o) (hw : ∀ X w a, St X w B t n a → Region.wanted o (yielded ops a.tmps) = true)
    (hu : ∀ X w a, St X w B t n a → ∃ h, (out h).vc → Done P X w (rwB ws B) (execOp a.eval o) (out h)) (hh : ∀ h, (out h).vc ∧ ED P n ops [] ws (setT n t o.dst (out h).v) (mrB ws B (out h).B) K fuel (listed.setIfInBounds i true)) : EDi P n ops ws t B K fuel listed i := by
  intro X0 w0 B0 X w a he hs
  unfold wpOp
  simp only [hi]
  rw [if_pos (hw X w a hs)]
  left
  obtain ⟨hd, hu⟩ := hu X w a hs
  obtain ⟨hvc, h⟩ := hh hd
  obtain ⟨v, w', h1, hsat0, hden, hext0⟩ := hu hvc
  obtain ⟨hsat, hext⟩ := hs.sat.merge hsat0 hext0
  have hst : St X w' (mrB ws B (out hd).B) (setT n t o.dst (out hd).v) n (a.put o.dst v) := by
    refine ⟨?_, hsat, ?_⟩
    · have := hs.defers; cases o.dst <;> simpa [Act.put] using this
    · exact denT_put ⟨hs.den.1, fun i => (hs.den.2 i).ext hs.sat hext⟩ hden
  have key : (hasL [] (listed.setIfInBounds i true) = true ∨ Kept w (rwB ws B) w') ∧ wpAnyS P ops (GoodN n K X0 w0 B0) [] (Kept w (rwB ws B)) fuel (listed.setIfInBounds i true) (a.put o.dst v) w' :=
    ⟨.inr (Kept.ext hext0), wpAnyS_weak (fun w'' hk => Kept.transW hext0 (fun b hb => owns_mr hb) hk) _ _ _ _ (h X0 w0 B0 X w' _ (he.trans hext) hst)⟩
  unfold Oper.wp
  rcases h1 with h1 | ⟨h1, rfl⟩
  · rw [h1]; simp only [Oper.upon]; exact key
  · rw [h1]; simp only [Oper.upon]; exact key
def stepI (P : Program) (E : Env) (n : Nat) (ops : Array Oper) (ws : List Bool) (t : Slots) (B : List Own) (K : Slots → List Own → Prop) (fuel : Nat) (listed : Array Bool) (i : Nat) : Prop :=
  match ops[i]? with
  | none => False
  | some o => match o.guard with
    | some _ => False
    | none => match isCallOp o.op with
      | true => match callOf false t o.op with
        | some (f, args) => EC P f args (rwB ws B) fun s B' => ED P n ops [] ws (setT n t o.dst s) (mrB ws B B') K fuel (listed.setIfInBounds i true)
        | none => False
      | false => ∀ h, match evOp E false h t (rwB ws B) o.op with
        | ⟨v, B', c⟩ => c ∧ ED P n ops [] ws (setT n t o.dst v) (mrB ws B B') K fuel (listed.setIfInBounds i true)
theorem EDi_step (hE : EnvOK P E) {i : Nat} (h : stepI P E n ops ws t B K fuel listed i) : EDi P n ops ws t B K fuel listed i := by
  unfold stepI at h
  cases hi : ops[i]? with
  | none => simp [hi] at h
  | some o =>
    simp only [hi] at h
    cases hg : o.guard with
    | some jw => simp [hg] at h
    | none =>
      have hw : ∀ X w a, St X w B t n a → Region.wanted o (yielded ops a.tmps) = true := fun X w a _ => by simp [Region.wanted, hg]
      simp only [hg] at h
      cases hco : isCallOp o.op with
      | true =>
        simp only [hco] at h
        cases hcall : callOf false t o.op with
        | none => simp [hcall] at h
        | some fa =>
          obtain ⟨f, args⟩ := fa
          simp only [hcall] at h
          exact EDi_call hi hw (fun X w a hs => call_run hcall (fun x _ => den_evS_false hs.den x) h.1) h
      | false =>
        simp only [hco] at h
        exact EDi_mem hi hw (out := fun h => evOp E false h t (rwB ws B) o.op) (fun X w a hs => evOp_sound' hE (hs.sat.rw ws) hs.den (o := o) (st := false) (by simp)) fun hd => h hd
def preOK (ops : Array Oper) : List Nat → Array Bool → Bool
  | [], _ => true
  | i :: r, listed => (match ops[i]? with
    | none => false
    | some o => !(isCallOp o.op || isMemOp o.op) && (Region.free .any ops listed i && (Region.ready .any ops listed).contains i)) && preOK ops r (listed.setIfInBounds i true)
def runP (P : Program) (E : Env) (n : Nat) (ops : Array Oper) (ws : List Bool) (K : Slots → List Own → Prop) (m : Nat) : List Nat → Slots → List Own → Array Bool → Prop
  | [], t, B, listed => ED P n ops [] ws t B K m listed
  | i :: r, t, B, listed => match ops[i]? with
    | none => False
    | some o => match o.guard with
      | some _ => False
      | none => match evOp E false (.void none) t (roB ws B) o.op with
        | ⟨v, _, c⟩ => pureOp o.op v ∧ c ∧ runP P E n ops ws K m r (setT n t o.dst v) B (listed.setIfInBounds i true)
theorem ED_pre (hE : EnvOK P E) (hns : Region.noSelect ops = true) {m : Nat} : ∀ (ord : List Nat) (t : Slots) (B : List Own) (listed : Array Bool), preOK ops ord listed = true → runP P E n ops ws K m ord t B listed → ED P n ops [] ws t B K (m + ord.length) listed
  | [], t, B, listed, _, h => h
  | i :: r, t, B, listed, ho, h => by
    simp only [preOK, Bool.and_eq_true] at ho
    obtain ⟨ho, ho2⟩ := ho
    simp only [runP] at h
    cases hi : ops[i]? with
    | none => simp [hi] at h
    | some o =>
      simp only [hi, Bool.and_eq_true] at h ho
      cases hg : o.guard with
      | some jw => simp [hg] at h
      | none =>
        have hw : ∀ X w a, St X w B t n a → Region.wanted o (yielded ops a.tmps) = true := fun X w a _ => by simp [Region.wanted, hg]
        simp only [hg] at h
        obtain ⟨h1, h2, h3⟩ := h
        refine ED_take (fuel := m + r.length) hi hns ho.2.1 ho.2.2 (by simp [hasL]) (by simp) (by simp) (fun X w a hs => ?_) (ED_pre hE hns r _ _ _ ho2 h3)
        obtain ⟨v, hd, hu⟩ := pure_st hE hs (st := false) (by simp) h1 h2
        exact ⟨v, .inl ⟨hw X w a hs, hu⟩, hd⟩
end
attribute [push_cast] stepI runP
end Go.Lift
end
section
namespace Go.Lift
set_option linter.unusedVariables false
section
variable {P : Program} {E : Env} {n : Nat} {ws : List Bool} {ops : Array Oper} {t t' : Slots} {B : List Own} {K : Slots → List Own → Prop} {fuel : Nat} {listed : Array Bool}
theorem getD'_setZ {B : List Own} {m i : Nat} {o : Own} (hm : m < B.length) : getD' (B.set m o) i = if i = m then o else getD' B i := by
  simp only [getD', List.getD_eq_getElem?_getD, List.getElem?_set]
  by_cases e : m = i
  · subst e; simp [hm]
  · simp [e, Ne.symm e]
theorem owns_nil {b : Nat} : ¬ owns [] b := by rintro ⟨i, hi⟩; simp [getD', Own.blocks] at hi
theorem Sat.addAt {X X' : Nat → Prop} {w w' : World} {B : List Own} {m : Nat} {o : Own} (hs : Sat X w B) (hn : Sat X' w' [o]) (he : Ext X w [] X' w' [o]) (hm : m < B.length) (hg : getD' B m = .gone) : Sat X' w' (B.set m o) ∧ Ext X w B X' w' (B.set m o) := by
  have hb : ∀ b, b ∈ o.blocks → w.heap.size ≤ b := fun b hb => (he.own b ⟨0, by simpa [getD'] using hb⟩).elim (fun h => absurd h owns_nil) id
  refine ⟨⟨fun i j b h1 h2 => ?_, fun i b h1 => ?_, hn.xlt, fun b hx ⟨i, hi⟩ => ?_, fun i => ?_⟩, ⟨he.os, he.tape, he.output, he.size, fun b hb _ => he.block b hb owns_nil, he.xin, fun b hx => ?_, fun b ⟨i, hi⟩ => ?_⟩⟩
  · rw [getD'_setZ hm] at h1 h2
    split at h1 <;> split at h2
    · omega
    · have := hb b h1; have := hs.lt j b h2; omega
    · have := hb b h2; have := hs.lt i b h1; omega
    · exact hs.inj i j b h1 h2
  · rw [getD'_setZ hm] at h1
    split at h1
    · exact hn.lt 0 b (by simpa [getD'] using h1)
    · exact Nat.lt_of_lt_of_le (hs.lt i b h1) he.size
  · rw [getD'_setZ hm] at hi
    split at hi
    · exact hn.apart b hx ⟨0, by simpa [getD'] using hi⟩
    · rcases he.xout b hx with h | h | h
      · exact hs.apart b h ⟨i, hi⟩
      · exact owns_nil h
      · have := hs.lt i b hi; omega
  · rw [getD'_setZ hm]
    split
    · simpa [getD'] using hn.ok 0
    · exact Own.ok_mono (hs.ok i) he.xin (fun b hb => he.block b (hs.xlt b hb) owns_nil) fun b hb => he.block b (hs.lt i b hb) owns_nil
  · rcases he.xout b hx with h | h | h
    · exact .inl h
    · exact absurd h owns_nil
    · exact .inr (.inr h)
  · rw [getD'_setZ hm] at hi
    split at hi
    · exact .inr (hb b hi)
    · exact .inl ⟨i, hi⟩
theorem Kept.transA {X X' : Nat → Prop} {w w1 w2 : World} {B1 C : List Own} (h : Ext X w [] X' w1 B1) (k : Kept w1 C w2) : Kept w C w2 :=
  ⟨k.os.trans h.os, k.tape.trans h.tape, k.output.trans h.output, Nat.le_trans h.size k.size, fun b hb hn => (k.block b (Nat.lt_of_lt_of_le hb h.size) hn).trans (h.block b hb owns_nil)⟩
theorem Kept.sub {w w1 : World} {C C' : List Own} (k : Kept w C' w1) (h : ∀ b, owns C' b → owns C b) : Kept w C w1 := ⟨k.os, k.tape, k.output, k.size, fun b hb hn => k.block b hb fun ho => hn (h b ho)⟩
structure Flt where
  i : Nat
  d : Nat
  m : Nat
  row : RowH → Own
  sv : RowH → SV
def FltOK (E : Env) (ops : Array Oper) (F : Flt) : Prop := match ops[F.i]? with
  | some o => o.guard = none ∧ o.dst = some F.d ∧ ∀ h, match evOp E false h [] [] o.op with
    | ⟨v, B, c⟩ => c ∧ B = [F.row h] ∧ SLe v (F.sv h)
  | none => False
theorem Kept.step {X X' : Nat → Prop} {w w1 w2 : World} {C C1 C2 B1 : List Own} (h : Ext X w C X' w1 B1) (hc : ∀ b, b < w.heap.size → owns C b → owns C1 b) (k : Kept w1 C2 w2) (hb : ∀ b, b < w.heap.size → owns C2 b → owns C1 b) : Kept w C1 w2 :=
  ⟨k.os.trans h.os, k.tape.trans h.tape, k.output.trans h.output, Nat.le_trans h.size k.size, fun b hl hn => (k.block b (Nat.lt_of_lt_of_le hl h.size) fun ho => hn (hb b hl ho)).trans (h.block b hl fun ho => hn (hc b hl ho))⟩
def leM : List Bool → List Bool → Bool
  | [], _ => true
  | a :: r, fs => (a || fs.head? == some false) && leM r fs.tail
theorem leM_spec : ∀ {ws fs : List Bool} {i : Nat}, leM ws fs = true → ronly ws i = true → ronly fs i = true
  | [], _, _, _, h => by simp [ronly] at h
  | a :: r, fs, i, hl, h => by
    simp only [leM, Bool.and_eq_true] at hl
    cases fs with
    | nil => cases i with
      | zero => simp [ronly] at h; subst h; simp at hl
      | succ i => have := leM_spec (i := i) hl.2 (by simpa [ronly] using h); simp [ronly] at this
    | cons f fs => cases i with
      | zero => simp [ronly] at h; subst h; simpa [ronly] using hl.1
      | succ i => have := leM_spec (i := i) hl.2 (by simpa [ronly] using h); simpa [ronly] using this
theorem owns_le {ws fs : List Bool} {B : List Own} {b : Nat} (hl : leM ws fs = true) (h : owns (rwB fs B) b) : owns (rwB ws B) b := by
  obtain ⟨i, hi⟩ := h
  rw [rwB_get] at hi
  split at hi
  · simp [Own.blocks] at hi
  · rename_i hne
    exact ⟨i, by rw [rwB_get, if_neg fun h => hne (leM_spec hl h)]; exact hi⟩
theorem owns_mrF {ws fs : List Bool} {X X' : Nat → Prop} {w w' : World} {B B' : List Own} {b : Nat} (hl : leM ws fs = true) (he : Ext X w (rwB fs B) X' w' B') (hb : b < w.heap.size) (h : owns (rwB ws (mrB fs B B')) b) : owns (rwB ws B) b := by
  obtain ⟨i, hi⟩ := h
  rw [rwB_get] at hi
  split at hi
  · simp [Own.blocks] at hi
  · rename_i hne
    rw [mrB_get] at hi
    split at hi
    · exact ⟨i, by rw [rwB_get, if_neg hne]; exact hi⟩
    · rcases he.own b ⟨i, hi⟩ with h | h
      · exact owns_le hl h
      · omega
theorem EDi_callF {fs : List Bool} (hl : leM ws fs = true) {i : Nat} {o : Oper} {f : FuncId} {args : List SV} (hi : ops[i]? = some o) (hw : ∀ X w a, St X w B t n a → Region.wanted o (yielded ops a.tmps) = true)
    (hrun : ∀ X w a, St X w B t n a → ∃ vals, (execOp a.eval o).run P w = .ok (.enter f vals) w ∧ DenL X w args vals)
    (h : EC P f args (rwB fs B) fun s B' => ED P n ops [] ws (setT n t o.dst s) (mrB fs B B') K fuel (listed.setIfInBounds i true)) : EDi P n ops ws t B K fuel listed i := by
  intro X0 w0 B0 X w a he hs
  unfold wpOp
  simp only [hi]
  rw [if_pos (hw X w a hs)]
  left
  obtain ⟨vals, h1, h2⟩ := hrun X w a hs
  unfold Oper.wp
  rw [h1]
  simp only [Oper.upon]
  refine (h.2 X w vals (hs.sat.rw fs) h2).mono ?_
  rintro e w' ⟨v, s, X', B', rfl, hK, hsat0, hden, hext0⟩
  simp only
  obtain ⟨hsat, hext⟩ := hs.sat.merge hsat0 hext0
  have hst : St X' w' (mrB fs B B') (setT n t o.dst s) n (a.put o.dst v) := by
    refine ⟨?_, hsat, ?_⟩
    · have := hs.defers; cases o.dst <;> simpa [Act.put] using this
    · exact denT_put ⟨hs.den.1, fun i => (hs.den.2 i).ext hs.sat hext⟩ hden
  exact ⟨.inr (Kept.sub (Kept.ext hext0) fun b => owns_le hl), wpAnyS_weak (fun w'' hk => Kept.step hext0 (fun b _ => owns_le hl) hk fun b hb => owns_mrF hl hext0 hb) _ _ _ _ (hK X0 w0 B0 X' w' _ (he.trans hext) hst)⟩
theorem EDi_memF {fs : List Bool} (hl : leM ws fs = true) {i : Nat} {o : Oper} {out : RowH → Out} (hi : ops[i]? = some o) (hw : ∀ X w a, St X w B t n a → Region.wanted o (yielded ops a.tmps) = true)
    (hu : ∀ X w a, St X w B t n a → ∃ h, (out h).vc → Done P X w (rwB fs B) (execOp a.eval o) (out h)) (hh : ∀ h, (out h).vc ∧ ED P n ops [] ws (setT n t o.dst (out h).v) (mrB fs B (out h).B) K fuel (listed.setIfInBounds i true)) : EDi P n ops ws t B K fuel listed i := by
  intro X0 w0 B0 X w a he hs
  unfold wpOp
  simp only [hi]
  rw [if_pos (hw X w a hs)]
  left
  obtain ⟨hd, hu⟩ := hu X w a hs
  obtain ⟨hvc, h⟩ := hh hd
  obtain ⟨v, w', h1, hsat0, hden, hext0⟩ := hu hvc
  obtain ⟨hsat, hext⟩ := hs.sat.merge hsat0 hext0
  have hst : St X w' (mrB fs B (out hd).B) (setT n t o.dst (out hd).v) n (a.put o.dst v) := by
    refine ⟨?_, hsat, ?_⟩
    · have := hs.defers; cases o.dst <;> simpa [Act.put] using this
    · exact denT_put ⟨hs.den.1, fun i => (hs.den.2 i).ext hs.sat hext⟩ hden
  have key : (hasL [] (listed.setIfInBounds i true) = true ∨ Kept w (rwB ws B) w') ∧ wpAnyS P ops (GoodN n K X0 w0 B0) [] (Kept w (rwB ws B)) fuel (listed.setIfInBounds i true) (a.put o.dst v) w' :=
    ⟨.inr (Kept.sub (Kept.ext hext0) fun b => owns_le hl), wpAnyS_weak (fun w'' hk => Kept.step hext0 (fun b _ => owns_le hl) hk fun b hb => owns_mrF hl hext0 hb) _ _ _ _ (h X0 w0 B0 X w' _ (he.trans hext) hst)⟩
  unfold Oper.wp
  rcases h1 with h1 | ⟨h1, rfl⟩
  · rw [h1]; simp only [Oper.upon]; exact key
  · rw [h1]; simp only [Oper.upon]; exact key
def stepF (P : Program) (E : Env) (n : Nat) (ops : Array Oper) (ws fs : List Bool) (t : Slots) (B : List Own) (K : Slots → List Own → Prop) (fuel : Nat) (listed : Array Bool) (i : Nat) : Prop :=
  match ops[i]? with
  | none => False
  | some o => match o.guard with
    | some _ => False
    | none => match isCallOp o.op with
      | true => match callOf false t o.op with
        | some (f, args) => EC P f args (rwB fs B) fun s B' => ED P n ops [] ws (setT n t o.dst s) (mrB fs B B') K fuel (listed.setIfInBounds i true)
        | none => False
      | false => ∀ h, match evOp E false h t (rwB fs B) o.op with
        | ⟨v, B', c⟩ => c ∧ ED P n ops [] ws (setT n t o.dst v) (mrB fs B B') K fuel (listed.setIfInBounds i true)
theorem EDi_stepF (hE : EnvOK P E) {fs : List Bool} (hl : leM ws fs = true) {i : Nat} (h : stepF P E n ops ws fs t B K fuel listed i) : EDi P n ops ws t B K fuel listed i := by
  unfold stepF at h
  cases hi : ops[i]? with
  | none => simp [hi] at h
  | some o =>
    simp only [hi] at h
    cases hg : o.guard with
    | some jw => simp [hg] at h
    | none =>
      have hw : ∀ X w a, St X w B t n a → Region.wanted o (yielded ops a.tmps) = true := fun X w a _ => by simp [Region.wanted, hg]
      simp only [hg] at h
      cases hco : isCallOp o.op with
      | true =>
        simp only [hco] at h
        cases hcall : callOf false t o.op with
        | none => simp [hcall] at h
        | some fa =>
          obtain ⟨f, args⟩ := fa
          simp only [hcall] at h
          exact EDi_callF hl hi hw (fun X w a hs => call_run hcall (fun x _ => den_evS_false hs.den x) h.1) h
      | false =>
        simp only [hco] at h
        exact EDi_memF hl hi hw (out := fun h => evOp E false h t (rwB fs B) o.op) (fun X w a hs => evOp_sound' hE (hs.sat.rw fs) hs.den (o := o) (st := false) (by simp)) fun hd => h hd
theorem EDi_flt (hE : EnvOK P E) {F : Flt} (hF : FltOK E ops F) (hm : F.m < B.length) (hg : getD' B F.m = .gone)
    (h : ∀ h, ED P n ops [] ws (setT n t (some F.d) (F.sv h)) (B.set F.m (F.row h)) K fuel (listed.setIfInBounds F.i true)) : EDi P n ops ws t B K fuel listed F.i := by
  unfold FltOK at hF
  cases hi : ops[F.i]? with
  | none => simp [hi] at hF
  | some o =>
    simp only [hi] at hF
    obtain ⟨hgu, hdst, hev⟩ := hF
    intro X0 w0 B0 X w a he hs
    unfold wpOp
    simp only [hi]
    rw [if_pos (by simp [Region.wanted, hgu])]
    left
    have hs0 : Sat X w [] := hs.sat.sub fun i => .inr (by simp [getD'])
    have hd0 : DenT X w [] n a.tmps := ⟨hs.den.1, fun i => .any _⟩
    obtain ⟨hd, hu⟩ := evOp_sound' (P := P) (E := E) (n := n) (t := []) (a := a) (o := o) (st := false) hE hs0 hd0 (by simp)
    have hv := hev hd
    generalize evOp E false hd [] [] o.op = out at hu hv
    obtain ⟨v0, B', c⟩ := out
    obtain ⟨h1, rfl, h3⟩ := hv
    obtain ⟨v, w', hrun, hsat0, hden, hext0⟩ := hu h1
    simp only at hsat0 hden hext0
    obtain ⟨hsat, hext⟩ := hs.sat.addAt hsat0 hext0 hm hg
    have hst : St X w' (B.set F.m (F.row hd)) (setT n t o.dst (F.sv hd)) n (a.put o.dst v) := by
      refine ⟨?_, hsat, ?_⟩
      · have := hs.defers; cases o.dst <;> simpa [Act.put] using this
      · exact denT_put ⟨hs.den.1, fun i => (hs.den.2 i).ext hs.sat hext⟩ (h3 _ _ _ hden)
    rw [hdst] at hst
    have key : (hasL [] (listed.setIfInBounds F.i true) = true ∨ Kept w (rwB ws B) w') ∧ wpAnyS P ops (GoodN n K X0 w0 B0) [] (Kept w (rwB ws B)) fuel (listed.setIfInBounds F.i true) (a.put o.dst v) w' := by
      refine ⟨.inr (Kept.transA hext0 (Kept.refl _ _)), ?_⟩
      rw [hdst]
      have := h hd X0 w0 B0 X w' _ (he.trans hext) hst
      refine wpAnyS_weak (fun w'' hk => ?_) _ _ _ _ this
      refine Kept.step hext0 (fun b _ h => absurd h owns_nil) hk fun b hb ⟨i, hi⟩ => ⟨i, ?_⟩
      rw [rwB_get] at hi ⊢
      split at hi
      · simp [Own.blocks] at hi
      · rename_i hne
        rw [if_neg hne]
        rw [getD'_setZ hm] at hi
        split at hi
        · have := hext0.own b ⟨0, by simpa [getD'] using hi⟩
          rcases this with h | h
          · exact absurd h owns_nil
          · omega
        · exact hi
    unfold Oper.wp
    rcases hrun with hrun | ⟨hrun, rfl⟩
    · rw [hrun]; simp only [Oper.upon]; exact key
    · rw [hrun]; simp only [Oper.upon]; exact key
def readyIn (ops : Array Oper) (listed : Array Bool) (rs : List Nat) : Bool := (Region.ready .any ops listed).all (fun k => rs.contains k) && !(Region.ready .any ops listed).isEmpty
theorem ED_many {rs : List Nat} (hr : readyIn ops listed rs = true) (h : ∀ i ∈ rs, EDi P n ops ws t B K fuel listed i) : ED P n ops [] ws t B K (fuel + 1) listed := by
  intro X0 w0 B0 X w a he hs
  simp only [readyIn, Bool.and_eq_true, List.all_eq_true, Bool.not_eq_true', List.isEmpty_eq_false_iff] at hr
  exact wpAnyS_all rfl hr.2 fun k hk => h k (by simpa using hr.1 k hk) X0 w0 B0 X w a he hs
theorem ED_wk (h : wkS t t') (hv : ED P n ops [] ws t' B K fuel listed) : ED P n ops [] ws t B K fuel listed := fun X0 w0 B0 X w a he hs => by
  have := hs.weak h B.length
  rw [List.take_length] at this
  exact hv X0 w0 B0 X w a he this
theorem ED_pad (k : Nat) (h : ED P n ops [] ws t (B ++ List.replicate k .gone) K fuel listed) : ED P n ops [] ws t B K fuel listed := by
  have hget : ∀ i, getD' (B ++ List.replicate k .gone) i = getD' B i := fun i => by
    simp only [getD', List.getD_eq_getElem?_getD]
    by_cases hi : i < B.length
    · rw [List.getElem?_append_left hi]
    · rw [List.getElem?_append_right (by omega), List.getElem?_eq_none (show B.length ≤ i by omega)]
      by_cases h2 : i - B.length < k
      · simp [h2]
      · simp [h2]
  have hown : ∀ b, owns (B ++ List.replicate k .gone) b → owns B b := fun b ⟨i, hi⟩ => ⟨i, by rwa [hget] at hi⟩
  have hown2 : ∀ b, owns (rwB ws (B ++ List.replicate k .gone)) b → owns (rwB ws B) b := fun b ⟨i, hi⟩ => ⟨i, by rwa [rwB_get, hget, ← rwB_get] at hi⟩
  intro X0 w0 B0 X w a he hs
  have h1 : Sat X w (B ++ List.replicate k .gone) := hs.sat.sub fun i => .inl (hget i)
  have h2 : Ext X w B X w (B ++ List.replicate k .gone) := ⟨rfl, rfl, rfl, Nat.le_refl _, fun _ _ _ => rfl, fun _ h => h, fun _ h => .inl h, fun b hb => .inl (hown b hb)⟩
  exact wpAnyS_weak (fun w'' hk => Kept.sub hk hown2) _ _ _ _ (h X0 w0 B0 X w a (he.trans h2) ⟨hs.defers, h1, hs.den⟩)
theorem ED_tr {B' : List Own} {listed' : Array Bool} (hl : listed' = listed) (hB : B' = B) (ht : wkS t t') (h : ED P n ops [] ws t' B' K fuel listed') : ED P n ops [] ws t B K fuel listed := by
  subst hl hB; exact ED_wk ht h
/-! The four states. -/
variable {A C : Flt} {t0 : Slots} {B0 : List Own} {l0 lA lC lX : Array Bool} {f0 fA fC fX : Nat} {tA tC : RowH → Slots} {BA BC : RowH → List Own} {tX : RowH → RowH → Slots} {BX : RowH → RowH → List Own}
theorem ED4_start (h : ∀ a c, ED P n ops [] ws t B K (fuel + 2) listed ∧ ED P n ops [] ws (setT n t (some A.d) (A.sv a)) (B.set A.m (A.row a)) K (fuel + 1) (listed.setIfInBounds A.i true) ∧
    ED P n ops [] ws (setT n t (some C.d) (C.sv c)) (B.set C.m (C.row c)) K (fuel + 1) (listed.setIfInBounds C.i true) ∧
    ED P n ops [] ws (setT n (setT n t (some A.d) (A.sv a)) (some C.d) (C.sv c)) ((B.set A.m (A.row a)).set C.m (C.row c)) K fuel ((listed.setIfInBounds A.i true).setIfInBounds C.i true)) : ED P n ops [] ws t B K (fuel + 2) listed := (h (.void none) (.void none)).1
theorem ED4_step (hE : EnvOK P E) (fs : List Bool) (hl : leM ws fs = true) (j : Nat) (A C : Flt) (hA : FltOK E ops A) (hC : FltOK E ops C)
    (r0 : readyIn ops l0 [j, A.i, C.i] = true) (rA : readyIn ops lA [j, C.i] = true) (rC : readyIn ops lC [j, A.i] = true) (rX : readyIn ops lX [j] = true)
    (g0A : A.m < B0.length ∧ getD' B0 A.m = .gone) (g0C : C.m < B0.length ∧ getD' B0 C.m = .gone) (gA : ∀ a, C.m < (BA a).length ∧ getD' (BA a) C.m = .gone) (gC : ∀ c, A.m < (BC c).length ∧ getD' (BC c) A.m = .gone)
    (t0A : ∀ a, ED P n ops [] ws (tA a) (BA a) K (fA + 1) lA → ED P n ops [] ws (setT n t0 (some A.d) (A.sv a)) (B0.set A.m (A.row a)) K f0 (l0.setIfInBounds A.i true))
    (t0C : ∀ c, ED P n ops [] ws (tC c) (BC c) K (fC + 1) lC → ED P n ops [] ws (setT n t0 (some C.d) (C.sv c)) (B0.set C.m (C.row c)) K f0 (l0.setIfInBounds C.i true))
    (tAX : ∀ a c, ED P n ops [] ws (tX a c) (BX a c) K (fX + 1) lX → ED P n ops [] ws (setT n (tA a) (some C.d) (C.sv c)) ((BA a).set C.m (C.row c)) K fA (lA.setIfInBounds C.i true))
    (tCX : ∀ a c, ED P n ops [] ws (tX a c) (BX a c) K (fX + 1) lX → ED P n ops [] ws (setT n (tC c) (some A.d) (A.sv a)) ((BC c).set A.m (A.row a)) K fC (lC.setIfInBounds A.i true))
    (h : ∀ a c, stepF P E n ops ws fs t0 B0 K f0 l0 j ∧ stepF P E n ops ws fs (tA a) (BA a) K fA lA j ∧ stepF P E n ops ws fs (tC c) (BC c) K fC lC j ∧ stepF P E n ops ws fs (tX a c) (BX a c) K fX lX j) :
    ∀ a c, ED P n ops [] ws t0 B0 K (f0 + 1) l0 ∧ ED P n ops [] ws (tA a) (BA a) K (fA + 1) lA ∧ ED P n ops [] ws (tC c) (BC c) K (fC + 1) lC ∧ ED P n ops [] ws (tX a c) (BX a c) K (fX + 1) lX := by
  have hX : ∀ a c, ED P n ops [] ws (tX a c) (BX a c) K (fX + 1) lX := fun a c => ED_many rX fun i hi => by
    simp only [List.mem_cons, List.not_mem_nil, or_false] at hi
    subst hi; exact EDi_stepF hE hl (h a c).2.2.2
  have hAA : ∀ a, ED P n ops [] ws (tA a) (BA a) K (fA + 1) lA := fun a => ED_many rA fun i hi => by
    simp only [List.mem_cons, List.not_mem_nil, or_false] at hi
    rcases hi with rfl | rfl
    · exact EDi_stepF hE hl (h a (.void none)).2.1
    · exact EDi_flt hE hC (gA a).1 (gA a).2 fun c => tAX a c (hX a c)
  have hCC : ∀ c, ED P n ops [] ws (tC c) (BC c) K (fC + 1) lC := fun c => ED_many rC fun i hi => by
    simp only [List.mem_cons, List.not_mem_nil, or_false] at hi
    rcases hi with rfl | rfl
    · exact EDi_stepF hE hl (h (.void none) c).2.2.1
    · exact EDi_flt hE hA (gC c).1 (gC c).2 fun a => tCX a c (hX a c)
  have h0 : ED P n ops [] ws t0 B0 K (f0 + 1) l0 := ED_many r0 fun i hi => by
    simp only [List.mem_cons, List.not_mem_nil, or_false] at hi
    rcases hi with rfl | rfl | rfl
    · exact EDi_stepF hE hl (h (.void none) (.void none)).1
    · exact EDi_flt hE hA g0A.1 g0A.2 fun a => t0A a (hAA a)
    · exact EDi_flt hE hC g0C.1 g0C.2 fun c => t0C c (hCC c)
  exact fun a c => ⟨h0, hAA a, hCC c, hX a c⟩
theorem ED4_join (hE : EnvOK P E) (A C : Flt) (hA : FltOK E ops A) (hC : FltOK E ops C)
    (r0 : readyIn ops l0 [A.i, C.i] = true) (rA : readyIn ops lA [C.i] = true) (rC : readyIn ops lC [A.i] = true)
    (g0A : A.m < B0.length ∧ getD' B0 A.m = .gone) (g0C : C.m < B0.length ∧ getD' B0 C.m = .gone) (gA : ∀ a, C.m < (BA a).length ∧ getD' (BA a) C.m = .gone) (gC : ∀ c, A.m < (BC c).length ∧ getD' (BC c) A.m = .gone)
    (t0A : ∀ a, ED P n ops [] ws (tA a) (BA a) K (fA + 1) lA → ED P n ops [] ws (setT n t0 (some A.d) (A.sv a)) (B0.set A.m (A.row a)) K f0 (l0.setIfInBounds A.i true))
    (t0C : ∀ c, ED P n ops [] ws (tC c) (BC c) K (fC + 1) lC → ED P n ops [] ws (setT n t0 (some C.d) (C.sv c)) (B0.set C.m (C.row c)) K f0 (l0.setIfInBounds C.i true))
    (tAX : ∀ a c, ED P n ops [] ws (tX a c) (BX a c) K fX lX → ED P n ops [] ws (setT n (tA a) (some C.d) (C.sv c)) ((BA a).set C.m (C.row c)) K fA (lA.setIfInBounds C.i true))
    (tCX : ∀ a c, ED P n ops [] ws (tX a c) (BX a c) K fX lX → ED P n ops [] ws (setT n (tC c) (some A.d) (A.sv a)) ((BC c).set A.m (A.row a)) K fC (lC.setIfInBounds A.i true))
    (h : ∀ a c, ED P n ops [] ws (tX a c) (BX a c) K fX lX) :
    ∀ a c, ED P n ops [] ws t0 B0 K (f0 + 1) l0 ∧ ED P n ops [] ws (tA a) (BA a) K (fA + 1) lA ∧ ED P n ops [] ws (tC c) (BC c) K (fC + 1) lC ∧ ED P n ops [] ws (tX a c) (BX a c) K fX lX := by
  have hAA : ∀ a, ED P n ops [] ws (tA a) (BA a) K (fA + 1) lA := fun a => ED_many rA fun i hi => by
    simp only [List.mem_cons, List.not_mem_nil, or_false] at hi
    subst hi; exact EDi_flt hE hC (gA a).1 (gA a).2 fun c => tAX a c (h a c)
  have hCC : ∀ c, ED P n ops [] ws (tC c) (BC c) K (fC + 1) lC := fun c => ED_many rC fun i hi => by
    simp only [List.mem_cons, List.not_mem_nil, or_false] at hi
    subst hi; exact EDi_flt hE hA (gC c).1 (gC c).2 fun a => tCX a c (h a c)
  have h0 : ED P n ops [] ws t0 B0 K (f0 + 1) l0 := ED_many r0 fun i hi => by
    simp only [List.mem_cons, List.not_mem_nil, or_false] at hi
    rcases hi with rfl | rfl
    · exact EDi_flt hE hA g0A.1 g0A.2 fun a => t0A a (hAA a)
    · exact EDi_flt hE hC g0C.1 g0C.2 fun c => t0C c (hCC c)
  exact fun a c => ⟨h0, hAA a, hCC c, h a c⟩
theorem ED4_pre (hE : EnvOK P E) (hns : Region.noSelect ops = true) {m0 mA mC mX : Nat} (o0 oA oC oX : List Nat) (h0 : preOK ops o0 l0 = true) (hA : preOK ops oA lA = true) (hC : preOK ops oC lC = true) (hX : preOK ops oX lX = true)
    (h : ∀ a c, runP P E n ops ws K m0 o0 t0 B0 l0 ∧ runP P E n ops ws K mA oA (tA a) (BA a) lA ∧ runP P E n ops ws K mC oC (tC c) (BC c) lC ∧ runP P E n ops ws K mX oX (tX a c) (BX a c) lX) :
    ∀ a c, ED P n ops [] ws t0 B0 K (m0 + o0.length) l0 ∧ ED P n ops [] ws (tA a) (BA a) K (mA + oA.length) lA ∧ ED P n ops [] ws (tC c) (BC c) K (mC + oC.length) lC ∧ ED P n ops [] ws (tX a c) (BX a c) K (mX + oX.length) lX :=
  fun a c => ⟨ED_pre hE hns _ _ _ _ h0 (h a c).1, ED_pre hE hns _ _ _ _ hA (h a c).2.1, ED_pre hE hns _ _ _ _ hC (h a c).2.2.1, ED_pre hE hns _ _ _ _ hX (h a c).2.2.2⟩
theorem EC4 {f : Nat} {args : List SV} {D : List Own} {Q0 : SV → List Own → Prop} {QA QC : RowH → SV → List Own → Prop} {QX : RowH → RowH → SV → List Own → Prop} (h : EC P f args D fun s B' => ∀ a c, Q0 s B' ∧ QA a s B' ∧ QC c s B' ∧ QX a c s B') :
    ∀ a c, EC P f args D Q0 ∧ EC P f args D (QA a) ∧ EC P f args D (QC c) ∧ EC P f args D (QX a c) :=
  fun a c => ⟨h.mono fun _ _ q => (q a c).1, h.mono fun _ _ q => (q a c).2.1, h.mono fun _ _ q => (q a c).2.2.1, h.mono fun _ _ q => (q a c).2.2.2⟩
theorem M4 {Q0 : RowH → Prop} {QA QC : RowH → RowH → Prop} {QX : RowH → RowH → RowH → Prop} (h : ∀ h a c, Q0 h ∧ QA a h ∧ QC c h ∧ QX a c h) : ∀ a c, (∀ h, Q0 h) ∧ (∀ h, QA a h) ∧ (∀ h, QC c h) ∧ (∀ h, QX a c h) :=
  fun a c => ⟨fun k => (h k a c).1, fun k => (h k a c).2.1, fun k => (h k a c).2.2.1, fun k => (h k a c).2.2.2⟩
theorem EV_weakR {c : Code} {Q : Post} {m : Nat} {R : List Own} (h : wkS t t') (hB : B.take m = R) (hv : EV P n c t' R Q) : EV P n c t B Q := EV_weak m h (hB ▸ hv)
theorem EV_meetB {σ : Type} (live : List Nat) (V : σ → Slots) (R : List Own → σ → List Own) (Inv : σ → Prop) {c : Code} {Q : Post}
    (hrest : ∀ s, Inv s → ∀ t' B', wkS t' (V s ++ keepS t live) → B'.take (R B s).length = R B s → K t' B')
    (h : EV P n c t B (thenP (fun t' B' => ∃ s, Inv s ∧ wkS t' (V s ++ keepS t live) ∧ B'.take (R B s).length = R B s) Q)) : EV P n c t B (thenP K Q) :=
  EV_meet (fun s => V s ++ keepS t live) (fun s => R B s) Inv (fun s t' B' h1 h2 h3 => hrest s h1 t' B' h2 h3) h
/-! Rows that are lent to a callee that only reads, and yields plain values. -/
theorem Den.foC {X X' : Nat → Prop} {w w' : World} {s : SV} {v : Value} (h : Go.Lift.foC s = true) (hd : Den X w s v) : Den X' w' s v := by
  cases hd <;> first | (constructor; done) | (simp [Go.Lift.foC] at h; done)
theorem Den.fo {X X' : Nat → Prop} {w w' : World} {s : SV} {v : Value} (h : Go.Lift.fo s = true) (hd : Den X w s v) : Den X' w' s v := by
  cases s with
  | agg cs =>
    cases hd with
    | agg hs hc =>
      refine .agg hs fun i c hi => (hc i c hi).foC ?_
      simp only [Go.Lift.fo, List.all_eq_true] at h
      exact h c (List.mem_of_getElem? hi)
  | _ => exact hd.foC (by simpa [Go.Lift.fo] using h)
def fot : SV → Bool
  | .tup cs => cs.all fo
  | s => fo s
theorem Den.fot {X X' : Nat → Prop} {w w' : World} {s : SV} {v : Value} (h : Go.Lift.fot s = true) (hd : Den X w s v) : Den X' w' s v := by
  cases s with
  | tup cs =>
    cases hd with
    | tup hs hc =>
      refine .tup hs fun i c hi => (hc i c hi).fo ?_
      simp only [Go.Lift.fot, List.all_eq_true] at h
      exact h c (List.mem_of_getElem? hi)
  | _ => exact hd.fo (by simpa [Go.Lift.fot] using h)
theorem EC.lend {f : Nat} {args args' : List SV} {B : List Own} {C : SV → Prop} {Q : SV → List Own → Prop} (h : EC P f args' [] fun r N => N = [] ∧ C r) (ha : LFz 0 B args args') (hf : ∀ r, C r → fot r = true) (hk : ∀ r, C r → Q r B) : EC P f args B Q := by
  have hb : ∀ i, getD' ([] : List Own) i = if fromM 0 i then .gone else getD' B i := fun i => by simp [fromM, getD']
  refine ⟨h.1, fun X w vs hs hd => ?_⟩
  have hsp := ha.spec
  refine (h.2 (withSel X B (fromM 0)) w vs (hs.drop_sel hb) ⟨by rw [hd.1, hsp.1], fun i c hc => ?_⟩).mono ?_
  · obtain ⟨d, h1, h2, h3⟩ := hsp.2 i c hc
    exact h3 _ _ _ (frzT_sound hs (hd.2 i d h1) h2)
  · rintro e w' ⟨v, r, X', B', he, ⟨rfl, hq⟩, h1, h2, h3⟩
    have hblk : ∀ b, b < w.heap.size → w'.heap[b]? = w.heap[b]? := fun b hb => h3.block b hb owns_nil
    refine ⟨v, r, X, B, he, hk r hq, ⟨hs.inj, fun i b h => Nat.lt_of_lt_of_le (hs.lt i b h) h3.size, fun b h => Nat.lt_of_lt_of_le (hs.xlt b h) h3.size, hs.apart, fun i => ?_⟩, h2.fot (hf r hq),
      ⟨h3.os, h3.tape, h3.output, h3.size, fun b hb _ => hblk b hb, fun _ h => h, fun _ h => .inl h, fun _ h => .inl h⟩⟩
    exact Own.ok_mono (hs.ok i) (fun _ h => h) (fun b hb => hblk b (hs.xlt b hb)) fun b hb => hblk b (hs.lt i b hb)
theorem LFz.row {α : Type} {B : List Own} {i e n E : Nat} {h : RowH} {xs : List (List SV)} {cells : α → List SV} {d : α} {l : List α} {r r' : List SV} (hB : getD' B i = .row h E e xs) (hx : xs = l.map cells) (hn : n = l.length) (hr : LFz 0 B r r') :
    LFz 0 B (.row i h e 0 n :: r) (.sl false e l.length (elt cells d l) :: r') := by
  subst hx hn
  refine .cons ?_ ?_ hr
  · simp [frzKT, frzKA, frzKC, fromM, hB]
  · simp only [frzT, frzA, frzC, fromM, Nat.zero_le, decide_true, hB]
    refine SLe.sl (fun h => h) (.inr rfl) fun k hk => ?_
    simp [List.getD, hk, elt]
theorem LFz.int {B : List Own} {k : IntKind} {n : Int} {r r' : List SV} (hr : LFz 0 B r r') : LFz 0 B (.int k n :: r) (.int k n :: r') := .cons trivial (SLe.refl _) hr
theorem LFz.str {B : List Own} {n : List UInt8} {r r' : List SV} (hr : LFz 0 B r r') : LFz 0 B (.str n :: r) (.str n :: r') := .cons trivial (SLe.refl _) hr
end
attribute [push_cast] stepF
end Go.Lift
end
section
namespace Go.Lift
set_option linter.unusedVariables false
section
variable {P : Program} {E : Env} {n : Nat} {ws : List Bool} {ops : Array Oper} {t : Slots} {B : List Own} {K : Slots → List Own → Prop} {fuel : Nat} {listed : Array Bool} {late : List Nat}
def EDj (P : Program) (n : Nat) (ops : Array Oper) (late : List Nat) (ws : List Bool) (t : Slots) (B : List Own) (K : Slots → List Own → Prop) (fuel : Nat) (listed : Array Bool) (i : Nat) : Prop :=
  ∀ X0 w0 B0 X w a, Ext X0 w0 B0 X w B → St X w B t n a → wpOp P ops (GoodN n K X0 w0 B0) i (fun a' w' => (hasL late (listed.setIfInBounds i true) = true ∨ Kept w (rwB ws B) w') ∧ wpAnyS P ops (GoodN n K X0 w0 B0) late (Kept w (rwB ws B)) fuel (listed.setIfInBounds i true) a' w') a w
def stepJ (P : Program) (E : Env) (n : Nat) (ops : Array Oper) (late : List Nat) (ws : List Bool) (t : Slots) (B : List Own) (K : Slots → List Own → Prop) (fuel : Nat) (listed : Array Bool) (i : Nat) : Prop :=
  match ops[i]? with
  | none => False
  | some o => match o.guard with
    | some _ => False
    | none => match isCallOp o.op with
      | true => match callOf false t o.op with
        | some (f, args) => EC P f args (rwB ws B) fun s B' => ED P n ops late ws (setT n t o.dst s) (mrB ws B B') K fuel (listed.setIfInBounds i true)
        | none => False
      | false => ∀ h, match evOp E false h t (rwB ws B) o.op with
        | ⟨v, B', c⟩ => c ∧ ED P n ops late ws (setT n t o.dst v) (mrB ws B B') K fuel (listed.setIfInBounds i true)
def preJ (ops : Array Oper) (late : List Nat) : List Nat → Array Bool → Bool
  | [], _ => true
  | i :: r, listed => (match ops[i]? with
    | none => false
    | some o => !(isCallOp o.op || isMemOp o.op) && (Region.free .any ops listed i && (Region.ready .any ops listed).contains i) && (!hasL late listed && late.all fun b => b != i && (match ops[b]? with
      | some ob => ob.after.any fun e => Region.binds .any e && e.on == i
      | none => true))) && preJ ops late r (listed.setIfInBounds i true)
def runJ (P : Program) (E : Env) (n : Nat) (ops : Array Oper) (late : List Nat) (ws : List Bool) (K : Slots → List Own → Prop) (m : Nat) : List Nat → Slots → List Own → Array Bool → Prop
  | [], t, B, listed => ED P n ops late ws t B K m listed
  | i :: r, t, B, listed => match ops[i]? with
    | none => False
    | some o => match o.guard with
      | some _ => False
      | none => match evOp E false (.void none) t (roB ws B) o.op with
        | ⟨v, _, c⟩ => pureOp o.op v ∧ c ∧ runJ P E n ops late ws K m r (setT n t o.dst v) B (listed.setIfInBounds i true)
end
theorem getD'_app {B N : List Own} {j : Nat} : getD' (B ++ N) j = if j < B.length then getD' B j else getD' N (j - B.length) := by
  unfold getD'
  simp only [List.getD, List.getElem?_append]
  split <;> rfl
theorem EC.useN {P : Program} {f : Nat} {args : List SV} {B : List Own} {σ : Type} {C : σ → Prop} {N : σ → List Own} {R : σ → Nat → SV} {Q : SV → List Own → Prop}
    (hc : EC P f args [] fun r B' => ∃ s, C s ∧ r = R s 0 ∧ B' = N s) (hR : ∀ s i, SLe (R s 0) (R s i)) (hk : ∀ s, C s → Q (R s B.length) (B ++ N s)) : EC P f args B Q := by
  refine ⟨hc.1, fun X w vs hs hd => ?_⟩
  have h0 : Sat X w [] := hs.sub fun i => .inr (by simp [getD'])
  refine (hc.2 X w vs h0 hd).mono ?_
  rintro ex w' ⟨v, r, X', N', rfl, ⟨s, hC, rfl, rfl⟩, hsat, hden, hext⟩
  have hx : ∀ b, ¬ owns ([] : List Own) b := fun b ⟨i, hi⟩ => by simp [getD', Own.blocks] at hi
  have nb : ∀ i b, b ∈ (getD' (N s) i).blocks → w.heap.size ≤ b := fun i b hb => (hext.own b ⟨i, hb⟩).elim (fun ho => absurd ho (hx b)) id
  refine ⟨v, _, X', _, rfl, hk s hC, ⟨fun a b c h1 h2 => ?_, fun a b h1 => ?_, hsat.xlt, fun b hb ⟨a, h1⟩ => ?_, fun a => ?_⟩, hR _ _ _ _ _ hden, ⟨hext.os, hext.tape, hext.output, hext.size, fun b hb _ => hext.block b hb (hx b), hext.xin, fun b hb => (hext.xout b hb).imp_right fun h => .inr (h.elim (fun ho => absurd ho (hx b)) id), fun b hb => ?_⟩⟩
  · rw [getD'_app] at h1 h2
    split at h1 <;> split at h2
    · exact hs.inj a b c h1 h2
    · have := nb _ c h2; have := hs.lt a c h1; omega
    · have := nb _ c h1; have := hs.lt b c h2; omega
    · have := hsat.inj _ _ c h1 h2; omega
  · rw [getD'_app] at h1
    split at h1
    · exact Nat.lt_of_lt_of_le (hs.lt a b h1) hext.size
    · exact hsat.lt _ b h1
  · rw [getD'_app] at h1
    split at h1
    · rcases hext.xout b hb with h | h | h
      · exact hs.apart b h ⟨a, h1⟩
      · exact hx b h
      · have := hs.lt a b h1; omega
    · exact hsat.apart b hb ⟨_, h1⟩
  · rw [getD'_app]
    split
    · exact Own.ok_mono (hs.ok a) hext.xin (fun b hb => hext.block b (hs.xlt b hb) (hx b)) fun b hb => hext.block b (hs.lt a b hb) (hx b)
    · exact hsat.ok _
  · obtain ⟨a, h1⟩ := hb
    rw [getD'_app] at h1
    split at h1
    · exact .inl ⟨a, h1⟩
    · exact .inr (nb _ b h1)
theorem Den.rowX {X X' : Nat → Prop} {w w' : World} {i j : Nat} {h : RowH} {e lo n : Nat} {v : Value} (hd : Den X w (.row i h e lo n) v) : Den X' w' (.row j h e lo n) v := by
  cases hd with
  | rowVoid => exact .rowVoid ..
  | rowAt _ _ _ _ _ h => exact .rowAt _ _ _ _ _ h
  | rowLo _ _ _ _ _ _ _ hn h => exact .rowLo _ _ _ _ _ _ _ hn h
  | rowLo0 => exact .rowLo0 ..
def freeC (s : SV) : Bool := foC s || match s with | .row .. => true | _ => false
theorem Den.freeC {X X' : Nat → Prop} {w w' : World} {s : SV} {v : Value} (h : Go.Lift.freeC s = true) (hd : Den X w s v) : Den X' w' s v := by
  cases s with
  | row i hh e lo n => exact hd.rowX
  | _ => exact hd.foC (by simpa [Go.Lift.freeC] using h)
def free : SV → Bool
  | .agg cs => cs.all freeC
  | s => freeC s
theorem Den.free {X X' : Nat → Prop} {w w' : World} {s : SV} {v : Value} (h : Go.Lift.free s = true) (hd : Den X w s v) : Den X' w' s v := by
  cases s with
  | agg cs =>
    cases hd with
    | agg hs hc =>
      refine .agg hs fun i c hi => (hc i c hi).freeC ?_
      simp only [Go.Lift.free, List.all_eq_true] at h
      exact h c (List.mem_of_getElem? hi)
  | _ => exact hd.freeC (by simpa [Go.Lift.free] using h)
def Own.free : Own → Prop
  | .row _ _ _ xs => ∀ x ∈ xs, ∀ c ∈ x, freeC c = true
  | .gone => True
theorem Own.ok_free {X X' : Nat → Prop} {w : World} {o : Own} (hf : o.free) (h : Own.ok X w o) : Own.ok X' w o := by
  cases o with
  | gone => trivial
  | row h0 E e xs =>
    cases h0 with
    | void a => exact h
    | «at» b cap =>
      obtain ⟨vs, h1, h2, h3, h4, h5⟩ := h
      exact ⟨vs, h1, h2, h3, h4, fun k j x c hx hc => (h5 k j x c hx hc).freeC (hf x (List.mem_of_getElem? hx) c (List.mem_of_getElem? hc))⟩
theorem EC.lendN {P : Program} {f : Nat} {args args' : List SV} {B : List Own} {σ : Type} {C : σ → Prop} {N : σ → List Own} {R : σ → Nat → SV} {Q : SV → List Own → Prop}
    (hc : EC P f args' [] fun r B' => ∃ s, C s ∧ r = R s 0 ∧ B' = N s) (ha : LFz 0 B args args') (hf : ∀ s, free (R s 0) = true) (hn : ∀ s i, (getD' (N s) i).free) (hR : ∀ s i, SLe (R s 0) (R s i)) (hk : ∀ s, C s → Q (R s B.length) (B ++ N s)) : EC P f args B Q := by
  have hb : ∀ i, getD' ([] : List Own) i = if fromM 0 i then .gone else getD' B i := fun i => by simp [fromM, getD']
  refine ⟨hc.1, fun X w vs hs hd => ?_⟩
  have hsp := ha.spec
  refine (hc.2 (withSel X B (fromM 0)) w vs (hs.drop_sel hb) ⟨by rw [hd.1, hsp.1], fun i c hc => ?_⟩).mono ?_
  · obtain ⟨d, h1, h2, h3⟩ := hsp.2 i c hc
    exact h3 _ _ _ (frzT_sound hs (hd.2 i d h1) h2)
  · rintro e w' ⟨v, r, X', B', he, ⟨s, hC, rfl, rfl⟩, hsat, hden, hext⟩
    have hx : ∀ b, ¬ owns ([] : List Own) b := fun b ⟨i, hi⟩ => by simp [getD', Own.blocks] at hi
    have hblk : ∀ b, b < w.heap.size → w'.heap[b]? = w.heap[b]? := fun b hb => hext.block b hb (hx b)
    have nb : ∀ i b, b ∈ (getD' (N s) i).blocks → w.heap.size ≤ b := fun i b hb => (hext.own b ⟨i, hb⟩).elim (fun ho => absurd ho (hx b)) id
    refine ⟨v, _, X, _, he, hk s hC, ⟨fun a b c h1 h2 => ?_, fun a b h1 => ?_, fun b h => Nat.lt_of_lt_of_le (hs.xlt b h) hext.size, fun b hb ⟨a, h1⟩ => ?_, fun a => ?_⟩, hR _ _ _ _ _ (hden.free (hf s)),
      ⟨hext.os, hext.tape, hext.output, hext.size, fun b hb _ => hblk b hb, fun _ h => h, fun _ h => .inl h, fun b hb => ?_⟩⟩
    · rw [getD'_app] at h1 h2
      split at h1 <;> split at h2
      · exact hs.inj a b c h1 h2
      · have := nb _ c h2; have := hs.lt a c h1; omega
      · have := nb _ c h1; have := hs.lt b c h2; omega
      · have := hsat.inj _ _ c h1 h2; omega
    · rw [getD'_app] at h1
      split at h1
      · exact Nat.lt_of_lt_of_le (hs.lt a b h1) hext.size
      · exact hsat.lt _ b h1
    · rw [getD'_app] at h1
      split at h1
      · exact hs.apart b hb ⟨a, h1⟩
      · have := nb _ b h1; have := hs.xlt b hb; omega
    · rw [getD'_app]
      split
      · exact Own.ok_mono (hs.ok a) (fun _ h => h) (fun b hb => hblk b (hs.xlt b hb)) fun b hb => hblk b (hs.lt a b hb)
      · exact Own.ok_free (hn s _) (hsat.ok _)
    · obtain ⟨a, h1⟩ := hb
      rw [getD'_app] at h1
      split at h1
      · exact .inl ⟨a, h1⟩
      · exact .inr (nb _ b h1)
attribute [push_cast] stepJ runJ
end Go.Lift
end
section
namespace Go.Lift
open Go.ChangeShapes Go.WideShapes Go.ChangeAt Go.RowKit

def old (W : World) (b : Nat) : Prop := b < W.heap.size
theorem sat_old (W : World) : Sat (old W) W [] :=
  ⟨fun i j b hi => by simp [getD', Own.blocks] at hi, fun i b hi => by simp [getD', Own.blocks] at hi, fun b hb => hb, fun b _ ⟨i, hi⟩ => by simp [getD', Own.blocks] at hi, fun i => by simp [getD', Own.ok]⟩
theorem Ext.below {W W' : World} {X' : Nat → Prop} {B' : List Own} (h : Ext (old W) W [] X' W' B') : Below W.heap.size W W' :=
  ⟨h.os, h.tape, h.output, h.size, fun k hk => h.block k hk fun ⟨i, hi⟩ => by simp [getD', Own.blocks] at hi⟩

section
variable {H : Type} {enc : TypeId × Value → H} {P : Program} {W W' : World}
theorem trodAll_below (hl : laidOutB P = true) (hb : Below W.heap.size W W') : ∀ {ts : List TypeId} {vs : List Value} {ds : List (DataW H)} {ps : List MemPlace},
    (∀ t ∈ ts, P.readableRec t = true ∧ t < P.types.size) → DataW.TrodAll enc P W 0 (fun _ => true) true ts vs ds ps → (∀ x ∈ ps, x.block < W.heap.size) →
    DataW.TrodAll enc P W' 0 (fun b => decide (b < W.heap.size)) true ts vs ds ps
  | [], [], [], _, _, h, _ => h
  | t :: ts, v :: vs, d :: ds, ps, ht, h, hlt => by
    obtain ⟨p, q, h1, h2, rfl⟩ := h
    exact ⟨p, q, Below.trod hl (ht t (.head _)).1 (ht t (.head _)).2 h1 hb fun x hx => hlt x (List.mem_append_left _ hx),
      trodAll_below hl hb (fun t ht' => ht t (.tail _ ht')) h2 fun x hx => hlt x (List.mem_append_right _ hx), rfl⟩
  | [], [], _ :: _, _, _, h, _ => h.elim
  | [], _ :: _, _, _, _, h, _ => h.elim
  | _ :: _, [], _, _, _, h, _ => h.elim
  | _ :: _, _ :: _, [], _, _, h, _ => h.elim
theorem trodAll_len : ∀ {ts : List TypeId} {vs : List Value} {ds : List (DataW H)} {ps : List MemPlace} {w : World} {base : Nat} {sp : Nat → Bool} {hd : Bool},
    DataW.TrodAll enc P w base sp hd ts vs ds ps → vs.length = ts.length ∧ ds.length = ts.length
  | [], [], [], _, _, _, _, _, _ => ⟨rfl, rfl⟩
  | t :: ts, v :: vs, d :: ds, ps, _, _, _, _, h => by
    obtain ⟨p, q, _, h2, _⟩ := h
    have := trodAll_len h2
    exact ⟨by simp [this.1], by simp [this.2]⟩
  | [], [], _ :: _, _, _, _, _, _, h => h.elim
  | [], _ :: _, _, _, _, _, _, _, h => h.elim
  | _ :: _, [], _, _, _, _, _, _, h => h.elim
  | _ :: _, _ :: _, [], _, _, _, _, _, h => h.elim
theorem shut_bool {w : World} {base : Nat} {spare : Nat → Bool} {held : Bool} {t : TypeId} (ht : P.underlying t = some .bool) (b : Bool) : DataW.Trod enc P w base spare held t (.bool b) (.lit (.bool b)) [] :=
  ⟨1, by simp [Value.cells, DataW.trod, ht]⟩
end

theorem true_lifted {C : Checked} {os : Os} {H : Type} {enc : TypeId × Value → H} {f : FuncId} {fn : Func} {s : ChangeSpec} {conds : List PathCond} {tb : TypeId}
    (own : ownKnob C.prog.godebug = none) (started : os.Started) (noInit : C.prog.inits.idxOf? f = none) (hfn : C.prog.funcs[f]? = some fn) (hlaid : laidOutB C.prog = true)
    (hread : ∀ t ∈ fn.params.toList, C.prog.readableRec t = true ∧ t < C.prog.types.size) (hres : fn.resultTypes = #[tb]) (htb : C.prog.underlying tb = some .bool) (hvars : s.vars = [])
    (hspec : ∀ ds : List (DataW H), ds.length = fn.params.size → s.fn H ds = { results := [.lit (.bool true)], args := ds })
    (witness : ∃ (w : World) (tape : Tape) (i : Input), w.os = os ∧ (w.forCall tape i).Shaped C.prog ∧ i.vars = [] ∧ Input.okWide C.prog (w.forCall tape i) .any w.heap.size f i ∧
      s.pre6 enc C.prog fn conds false (w.forCall tape i).memory i.args ∧ Assume.holds {} C.prog (lone (Frame.enter C.prog f i.args .normal) [] (w.forCall tape i)))
    (walk : ∀ (W : World) (base : Nat) (args : Array Value) (ds : List (DataW H)) (p : List MemPlace),
      (∀ (j : Nat) t v, fn.params[j]? = some t → args[j]? = some v → Value.okWide C.prog W .any base t v) →
      (∀ x ∈ p, x.block < W.heap.size) →
      (DataW.weightsEach C.prog fn.params.toList ds).all (· ≤ reachBytes) = true →
      DataW.TrodAll enc C.prog W 0 (fun _ => true) true fn.params.toList args.toList ds p →
      ∃ svs, DenL (old W) W svs args ∧ EC C.prog f svs [] fun r B => B = [] ∧ r = .bool true) :
    ReturnsInHanded {} C os f .any (s.pre6 enc C.prog fn conds false) (s.post enc C.prog fn false true false false) := by
  refine returnsInHanded_of_change_sized (C := C) own started noInit hfn witness ?_
  intro W base args ds gs before hval hW _ hsz _
  have hW' := hW
  obtain ⟨p, q, hA, hV, rfl, _, _⟩ := hW
  rw [hvars] at hV
  obtain ⟨rfl, rfl⟩ := trodVars_none hV
  have hlt := hW'.lt
  simp only [List.append_nil] at hlt
  have hsz2 : (DataW.weightsEach C.prog fn.params.toList ds).all (· ≤ reachBytes) = true := by
    simpa [DataSpec.varTypes, ChangeSpec.plain, hvars] using hsz
  obtain ⟨svs, hden, _, hcall⟩ := walk W base args ds p hval hlt hsz2 hA
  refine (hcall (old W) W args (sat_old W) hden).mono ?_
  rintro e W' ⟨v, r, X', B', rfl, ⟨rfl, rfl⟩, _, hr, hext⟩
  cases hr
  have hb := hext.below
  have hsp := hspec ds (by rw [(trodAll_len hA).2]; simp)
  refine ⟨_, rfl, ds, [], _, [], p, [], hW', ?_, ?_, ?_, hb.frame _, fun h => by cases h⟩
  · rw [List.append_nil, hsp, hres]
    exact trodAll_mk1 (shut_bool htb true)
  · rw [List.append_nil, hsp]
    exact trodAll_below hlaid hb hread hA hlt
  · rw [List.append_nil, hsp, hvars]
    rfl

section
variable {H : Type} {enc : TypeId × Value → H} {P : Program} {W : World}
end
end Go.Lift
end
section
namespace Go.Lift
open Go.ChangeShapes Go.WideShapes Go.ChangeAt
def DenC (X : Nat → Prop) (w : World) (ss : List SV) (cs : List Value) : Prop := cs.length = ss.length ∧ ∀ (i : Nat) (c : SV), ss[i]? = some c → Den X w c (cs.getD i undef)
def RD (P : Program) (t : TypeId) {α : Type} (c : α → List SV) (Wf : α → Prop) : Prop :=
  ∀ (H : Type) (enc : TypeId × Value → H) (W : World) (fuel : Nat) (cs : List Value) (y : DataW H × List MemPlace), DataW.trod enc P W 0 (fun _ => true) true fuel t cs = some y → (∀ x ∈ y.2, x.block < W.heap.size) →
    ∃ x, Wf x ∧ DenC (old W) W (c x) cs
section
variable {P : Program} {t e : TypeId}
theorem DenC.one {X : Nat → Prop} {w : World} {s : SV} {v : Value} (h : Den X w s v) : DenC X w [s] [v] := ⟨rfl, fun i c hc => by
  cases i with
  | zero => simp at hc; subst hc; exact h
  | succ i => simp at hc⟩
theorem DenC.app {X : Nat → Prop} {w : World} {a b : List SV} {u v : List Value} (h : DenC X w a u) (k : DenC X w b v) : DenC X w (a ++ b) (u ++ v) := by
  refine ⟨by simp [h.1, k.1], fun i c hc => ?_⟩
  by_cases hi : i < a.length
  · rw [List.getElem?_append_left hi] at hc
    have : (u ++ v).getD i undef = u.getD i undef := by
      simp only [List.getD_eq_getElem?_getD]; rw [List.getElem?_append_left (by rw [h.1]; exact hi)]
    rw [this]; exact h.2 i c hc
  · rw [List.getElem?_append_right (by omega)] at hc
    have : (u ++ v).getD i undef = v.getD (i - a.length) undef := by
      simp only [List.getD_eq_getElem?_getD]; rw [List.getElem?_append_right (by rw [h.1]; omega), h.1]
    rw [this]; exact k.2 _ c hc
theorem RD.int {k : IntKind} (ht : P.underlying t = some (.int k)) : RD P t (intC k) (fun n => (Lit.int k n).wf = true) := by
  intro H enc W fuel cs y h _
  obtain ⟨n, rfl, rfl, hw⟩ := DataW.trod_int ht h
  exact ⟨n, hw, .one (.int ..)⟩
theorem RD.bool (ht : P.underlying t = some .bool) : RD P t boolC (fun _ => True) := by
  intro H enc W fuel cs y h _
  obtain ⟨b, rfl, rfl⟩ := DataW.trod_bool ht h
  exact ⟨b, trivial, .one (.bool ..)⟩
theorem RD.str (ht : P.underlying t = some .string) : RD P t strC (fun s => s.length ≤ maxLen) := by
  intro H enc W fuel cs y h _
  obtain ⟨⟨s⟩, rfl, rfl, hw⟩ := DataW.trod_string ht h
  refine ⟨s.toList, by simpa [ByteArray.size] using hw, .one ?_⟩
  have := Den.str (X := old W) (w := W) s.toList
  simpa using this
theorem cells_of_cells? {w : World} {a : Addr} {n : Nat} {cs : List Value} (h : w.cells? 0 a n = some cs) : cs.length = n ∧ ∀ j, j < n → w.cell? (a.add j) = some (cs.getD j undef) := by
  simp only [World.cells?, Nat.zero_le, if_true] at h
  have hl := mapM_some_length h
  refine ⟨by simpa using hl, fun j hj => ?_⟩
  have := mapM_some_get h j j (by simp [hj])
  rw [this]
  have hj' : j < cs.length := by rw [hl]; simpa using hj
  simp [List.getD, hj']
theorem choose_list {α : Type} [Inhabited α] {n : Nat} {p : Nat → α → Prop} (h : ∀ i, i < n → ∃ x, p i x) : ∃ l : List α, l.length = n ∧ ∀ i, i < n → p i (l.getD i default) := by
  induction n with
  | zero => exact ⟨[], rfl, fun i hi => absurd hi (Nat.not_lt_zero i)⟩
  | succ n ih =>
    obtain ⟨l, h1, h2⟩ := ih fun i hi => h i (by omega)
    obtain ⟨x, hx⟩ := h n (by omega)
    refine ⟨l ++ [x], by simp [h1], fun i hi => ?_⟩
    by_cases hn : i < n
    · have : (l ++ [x]).getD i default = l.getD i default := by simp [List.getD, List.getElem?_append_left (show i < l.length by omega)]
      rw [this]; exact h2 i hn
    · have : i = n := by omega
      subst this
      have : (l ++ [x]).getD l.length default = x := by simp [List.getD]
      rw [← h1, this, h1]; exact hx
theorem RD.slice {α : Type} [Inhabited α] {c : α → List SV} {Wf : α → Prop} {m : Nat} (ht : P.underlying t = some (.slice e)) (hm : P.cellsOf e = m) (hpos : 0 < m) (hc : ∀ x, (c x).length = m) (he : RD P e c Wf) :
    RD P t (fun l => [slL m c default l]) (fun l => l.length ≤ maxLen ∧ ∀ x ∈ l, Wf x) := by
  intro H enc W fuel cs y h hlt
  rcases DataW.trod_slice ht h with ⟨rfl, rfl⟩ | ⟨a, len, cap, elems, rest, n, _, rfl, rfl, hb, hl, hmx, hlen, hel, hsp, hns⟩
  · exact ⟨[], ⟨Nat.zero_le _, by simp⟩, .one (.slNil fun h => (nomatch h))⟩
  · rw [hm] at hel hsp hlt
    have each : ∀ i, i < len → ∃ x, Wf x ∧ ∃ vs : List Value, vs.length = m ∧ (∀ j, j < m → W.cell? ((a.add (i * m)).add j) = some (vs.getD j undef)) ∧ DenC (old W) W (c x) vs := by
      intro i hi
      have h1 := hel i hi
      have hie : i < elems.length := by omega
      rw [List.getElem?_eq_getElem hie, Option.bind_eq_some_iff] at h1
      obtain ⟨vs, h2, h3⟩ := h1
      obtain ⟨k1, k2⟩ := cells_of_cells? h2
      obtain ⟨x, hx, hd⟩ := he H enc W n vs elems[i] h3 fun z hz => hlt z (by
        simp only [List.mem_append, List.mem_flatMap]
        exact .inr ⟨elems[i], .inl (List.getElem_mem hie), hz⟩)
      exact ⟨x, hx, vs, k1, k2, hd⟩
    obtain ⟨l, hll, hp⟩ := choose_list each
    refine ⟨l, ⟨by omega, fun x hx => ?_⟩, .one ?_⟩
    · obtain ⟨i, hi, rfl⟩ := List.getElem_of_mem hx
      have := (hp i (by omega)).1
      simpa [List.getD, hi] using this
    · rcases Nat.eq_zero_or_pos len with h0 | hpos2
      · subst h0
        have : l = [] := List.length_eq_zero_iff.1 hll
        subst this
        exact .slNil fun h => (nomatch h)
      obtain ⟨b, off, spot⟩ := a
      have hspot : spot = none := by
        obtain ⟨_, vs, _, h2, _⟩ := hp 0 hpos2
        simpa [Addr.add] using World.cell?_spot (h2 0 hpos)
      subst hspot
      have hbW : b < W.heap.size := hlt (.cell b off) (by
        simp only [List.mem_append]
        exact .inl (MemPlace.mem_row.2 ⟨0, by have : 0 < (elems.length + rest.length) * m := Nat.mul_pos (by omega) hpos; omega, by simp⟩))
      have key : Den (old W) W (.sl false m len fun k => c (l.getD k default)) (.slice (some ⟨b, off, none⟩) len cap) := by
        refine .slAt (fun k j => (W.cell? ⟨b, off + (k * m + j), none⟩).getD undef) hpos2 hl (fun h => (nomatch h)) hbW (fun k _ => hc _) (fun k j hk hj => ?_) fun k j s hk hs => ?_
        · obtain ⟨_, vs, h1, h2, _⟩ := hp k hk
          have := h2 j hj
          simp only [add_none] at this
          rw [show off + (k * m + j) = off + k * m + j by omega, this]; rfl
        · obtain ⟨_, vs, h1, h2, h3⟩ := hp k hk
          have hj : j < m := by have := (List.getElem?_eq_some_iff.1 hs).1; rw [hc] at this; exact this
          have := h2 j hj
          simp only [add_none] at this
          rw [show off + (k * m + j) = off + k * m + j by omega, this]
          exact h3.2 j s hs
      show Den (old W) W (.sl false m l.length fun k => c (l.getD k default)) _
      rw [hll]; exact key
def totF : List (TypeId × Nat) → Nat
  | [] => 0
  | (_, m) :: r => m + totF r
def FR {H : Type} (enc : TypeId × Value → H) (P : Program) (W : World) (n : Nat) (cs : List Value) : Nat → List (TypeId × Nat) → Prop
  | _, [] => True
  | o, (t, m) :: r => (∃ y, DataW.trod enc P W 0 (fun _ => true) true n t ((cs.drop o).take m) = some y ∧ ∀ x ∈ y.2, x.block < W.heap.size) ∧ FR enc P W n cs (o + m) r
def RDF (P : Program) (fs : List (TypeId × Nat)) {α : Type} (c : α → List SV) (Wf : α → Prop) : Prop :=
  ∀ (H : Type) (enc : TypeId × Value → H) (W : World) (n : Nat) (cs : List Value) (o : Nat), o + totF fs ≤ cs.length → FR enc P W n cs o fs → ∃ x, Wf x ∧ DenC (old W) W (c x) ((cs.drop o).take (totF fs))
theorem RDF.nil : RDF P [] (fun _ : Unit => []) (fun _ => True) := fun _ _ _ _ _ _ _ _ => ⟨(), trivial, by simp [totF, DenC]⟩
theorem RDF.cons {α β : Type} {c : α → List SV} {d : β → List SV} {W1 : α → Prop} {W2 : β → Prop} {m : Nat} {r : List (TypeId × Nat)} (h1 : RD P t c W1) (h2 : RDF P r d W2) : RDF P ((t, m) :: r) (fun x : α × β => c x.1 ++ d x.2) (fun x => W1 x.1 ∧ W2 x.2) := by
  intro H enc W n cs o hl ⟨⟨y, hy, hp⟩, hr⟩
  simp only [totF] at hl ⊢
  obtain ⟨x, hx, hdx⟩ := h1 H enc W n _ y hy hp
  obtain ⟨z, hz, hdz⟩ := h2 H enc W n cs (o + m) (by omega) hr
  refine ⟨(x, z), ⟨hx, hz⟩, ?_⟩
  have : (cs.drop o).take (m + totF r) = (cs.drop o).take m ++ (cs.drop (o + m)).take (totF r) := by rw [List.take_add, List.drop_drop]
  rw [this]
  exact hdx.app hdz
def contig (P : Program) : Nat → List Field → List (TypeId × Nat) → Bool
  | _, [], [] => true
  | o, f :: F, (t, m) :: r => f.type == t && f.offset == o && P.cellsOf t == m && contig P (o + m) F r
  | _, _, _ => false
theorem contig_FR {H : Type} {enc : TypeId × Value → H} {W : World} {n : Nat} {cs : List Value} : ∀ (F : List Field) (fs : List (TypeId × Nat)) (o : Nat) (xs : List (DataW H × List MemPlace)), contig P o F fs = true → xs.length = F.length →
    (∀ (i : Nat) (f : Field), F[i]? = some f → DataW.trod enc P W 0 (fun _ => true) true n f.type ((cs.drop f.offset).take (P.cellsOf f.type)) = xs[i]?) → (∀ y ∈ xs, ∀ x ∈ y.2, x.block < W.heap.size) → FR enc P W n cs o fs
  | [], [], _, _, _, _, _, _ => trivial
  | [], _ :: _, _, _, h, _, _, _ => by simp [contig] at h
  | _ :: _, [], _, _, h, _, _, _ => by simp [contig] at h
  | f :: F, (t, m) :: r, o, [], _, hl, _, _ => by simp at hl
  | f :: F, (t, m) :: r, o, y :: xs, h, hl, hx, hp => by
    simp only [contig, Bool.and_eq_true, beq_iff_eq] at h
    obtain ⟨⟨⟨rfl, rfl⟩, rfl⟩, h4⟩ := h
    exact ⟨⟨y, hx 0 f rfl, hp y (List.mem_cons_self ..)⟩, contig_FR F r _ xs h4 (by simpa using hl) (fun i f hf => hx (i + 1) f hf) fun z hz => hp z (List.mem_cons_of_mem _ hz)⟩
theorem rep_FR {H : Type} {enc : TypeId × Value → H} {W : World} {n m : Nat} {cs : List Value} : ∀ (k o : Nat) (xs : List (DataW H × List MemPlace)), xs.length = k → (∀ i, i < k → DataW.trod enc P W 0 (fun _ => true) true n e ((cs.drop (o + i * m)).take m) = xs[i]?) →
    (∀ y ∈ xs, ∀ x ∈ y.2, x.block < W.heap.size) → FR enc P W n cs o (List.replicate k (e, m))
  | 0, _, _, _, _, _ => trivial
  | k + 1, o, [], hl, _, _ => by simp at hl
  | k + 1, o, y :: xs, hl, hx, hp => by
    refine ⟨⟨y, by simpa using hx 0 (by omega), hp y (List.mem_cons_self ..)⟩, rep_FR k (o + m) xs (by simpa using hl) (fun i hi => ?_) fun z hz => hp z (List.mem_cons_of_mem _ hz)⟩
    have := hx (i + 1) (by omega)
    rw [Nat.add_mul, Nat.one_mul] at this
    rw [show o + m + i * m = o + (i * m + m) by omega]
    simpa using this
def structOK (P : Program) (t : TypeId) (fs : List (TypeId × Nat)) : Bool := match P.underlying t with
  | some (.struct F) => contig P 0 F.toList fs && P.cellsOf t == totF fs
  | some (.array n e) => fs == List.replicate n (e, P.cellsOf e) && P.cellsOf t == totF fs
  | _ => false
theorem RD.struct {fs : List (TypeId × Nat)} {α : Type} {c : α → List SV} {Wf : α → Prop} (h : structOK P t fs = true) (hf : RDF P fs c Wf) : RD P t c Wf := by
  intro H enc W fuel cs y hy hlt
  unfold structOK at h
  split at h
  · rename_i F hu
    simp only [Bool.and_eq_true, beq_iff_eq] at h
    obtain ⟨xs, n, rfl, rfl, hl, hxl, hx⟩ := DataW.trod_struct hu hy
    obtain ⟨x, h1, h2⟩ := hf H enc W n cs 0 (by omega) (contig_FR F.toList fs 0 xs h.1 (by simpa using hxl) (fun i f hi => hx i f (by simpa using hi)) fun z hz x hx => hlt x (by simp only [List.mem_flatMap]; exact ⟨z, hz, hx⟩))
    refine ⟨x, h1, ?_⟩
    have : (cs.drop 0).take (totF fs) = cs := by rw [List.drop_zero, List.take_of_length_le (by omega)]
    rwa [this] at h2
  · rename_i n e hu
    simp only [Bool.and_eq_true, beq_iff_eq] at h
    obtain ⟨xs, m, rfl, rfl, hl, hxl, hx⟩ := DataW.trod_array hu hy
    obtain ⟨hfs, htot⟩ := h
    obtain ⟨x, h1, h2⟩ := hf H enc W m cs 0 (by omega) (by
      rw [hfs]
      exact rep_FR n 0 xs hxl (fun i hi => by simpa using hx i hi) fun z hz x hx => hlt x (by simp only [List.mem_flatMap]; exact ⟨z, hz, hx⟩))
    refine ⟨x, h1, ?_⟩
    have : (cs.drop 0).take (totF fs) = cs := by rw [List.drop_zero, List.take_of_length_le (by omega)]
    rwa [this] at h2
  · cases h
theorem RD.map {α β : Type} {c : α → List SV} {d : β → List SV} {W1 : α → Prop} {W2 : β → Prop} (f : α → β) (hc : ∀ x, c x = d (f x)) (hw : ∀ x, W1 x → W2 (f x)) (h : RD P t c W1) : RD P t d W2 := by
  intro H enc W fuel cs y hy hlt
  obtain ⟨x, h1, h2⟩ := h H enc W fuel cs y hy hlt
  exact ⟨f x, hw x h1, hc x ▸ h2⟩
/-! ### Arguments -/
def RDV (P : Program) (t : TypeId) {α : Type} (s : α → SV) (Wf : α → Prop) : Prop :=
  ∀ (H : Type) (enc : TypeId × Value → H) (W : World) (base : Nat) (v : Value) (d : DataW H) (p : List MemPlace), Value.okWide P W .any base t v → DataW.Trod enc P W 0 (fun _ => true) true t v d p → (∀ x ∈ p, x.block < W.heap.size) → ∃ x, Wf x ∧ Den (old W) W (s x) v
def wideT (P : Program) (t : TypeId) : Bool := match P.underlying t with
  | some (.struct _) => true
  | some (.array _ _) => true
  | _ => false
def flatT (P : Program) (t : TypeId) : Bool := match P.underlying t with
  | some .bool => true
  | some (.int _) => true
  | some .string => true
  | some (.slice _) => true
  | _ => false
theorem RDV.agg {α : Type} {c : α → List SV} {Wf : α → Prop} (hw : wideT P t = true) (h : RD P t c Wf) : RDV P t (fun x => .agg (c x)) Wf := by
  intro H enc W base v d p hok ⟨fuel, hd⟩ hlt
  have : ∃ cs, v = .agg cs := by
    unfold wideT at hw
    unfold Value.okWide at hok
    split at hw <;> rename_i hu <;> first | (rw [hu] at hok; obtain ⟨cs, h, _⟩ := hok; exact ⟨cs, h⟩) | cases hw
  obtain ⟨cs, rfl⟩ := this
  obtain ⟨x, h1, h2, h3⟩ := h H enc W fuel _ _ hd hlt
  simp only [Value.cells] at h2 h3
  exact ⟨x, h1, .agg (by simpa using h2) fun i c hc => by simpa using h3 i c hc⟩
theorem RDV.cell {α : Type} {s : α → SV} {Wf : α → Prop} (hw : flatT P t = true) (h : RD P t (fun x => [s x]) Wf) : RDV P t s Wf := by
  intro H enc W base v d p hok ⟨fuel, hd⟩ hlt
  have : ∀ cs, v ≠ .agg cs := by
    rintro cs rfl
    unfold flatT at hw
    unfold Value.okWide at hok
    split at hw <;> rename_i hu <;> first | (rw [hu] at hok; simp [Cell.okWide, Cell.ok, hu] at hok; done) | cases hw
  obtain ⟨x, h1, h2, h3⟩ := h H enc W fuel _ _ hd hlt
  have hv : v.cells = #[v] := by cases v <;> first | rfl | exact absurd rfl (this _)
  rw [hv] at h3
  exact ⟨x, h1, h3 0 _ rfl⟩
def RA (P : Program) (ts : List TypeId) (K : List SV → Prop) : Prop :=
  ∀ (H : Type) (enc : TypeId × Value → H) (W : World) (base : Nat) (vs : List Value) (ds : List (DataW H)) (p : List MemPlace), (∀ (j : Nat) (t : TypeId) (v : Value), ts[j]? = some t → vs[j]? = some v → Value.okWide P W .any base t v) →
    DataW.TrodAll enc P W 0 (fun _ => true) true ts vs ds p → (∀ x ∈ p, x.block < W.heap.size) → ∃ l, K l ∧ l.length = vs.length ∧ ∀ (i : Nat) (c : SV), l[i]? = some c → Den (old W) W c (vs.getD i undef)
theorem RA.nil : RA P [] (fun l => l = []) := fun _ _ _ _ vs ds p _ h _ => by
  cases vs <;> cases ds <;> simp only [DataW.TrodAll] at h
  exact ⟨[], rfl, rfl, by simp⟩
theorem RA.cons {α : Type} {s : α → SV} {Wf : α → Prop} {ts : List TypeId} {K : List SV → Prop} (h1 : RDV P t s Wf) (h2 : RA P ts K) : RA P (t :: ts) (fun l => ∃ x l', Wf x ∧ K l' ∧ l = s x :: l') := by
  intro H enc W base vs ds p hok h hlt
  cases vs <;> cases ds <;> simp only [DataW.TrodAll] at h
  rename_i v vs d ds
  obtain ⟨p, q, h3, h4, rfl⟩ := h
  obtain ⟨x, hx, hd⟩ := h1 H enc W base v d p (hok 0 t v rfl rfl) h3 fun z hz => hlt z (by simp [hz])
  obtain ⟨l, k1, k2, k3⟩ := h2 H enc W base vs ds q (fun j t v a b => hok (j + 1) t v a b) h4 fun z hz => hlt z (by simp [hz])
  refine ⟨s x :: l, ⟨x, l, hx, k1, rfl⟩, by simp [k2], fun i c hc => ?_⟩
  cases i with
  | zero => simp at hc; subst hc; exact hd
  | succ i => exact k3 i c (by simpa using hc)
theorem true_top {C : Checked} {os : Os} {H : Type} {enc : TypeId × Value → H} {f : FuncId} {fn : Func} {s : ChangeSpec} {conds : List PathCond} {tb : TypeId} {K : List SV → Prop} {ts : List TypeId}
    (own : ownKnob C.prog.godebug = none) (started : os.Started) (noInit : C.prog.inits.idxOf? f = none) (hfn : C.prog.funcs[f]? = some fn) (hlaid : laidOutB C.prog = true)
    (hread : ∀ t ∈ fn.params.toList, C.prog.readableRec t = true ∧ t < C.prog.types.size) (hres : fn.resultTypes = #[tb]) (htb : C.prog.underlying tb = some .bool) (hvars : s.vars = [])
    (hspec : ∀ ds : List (DataW H), ds.length = fn.params.size → s.fn H ds = { results := [.lit (.bool true)], args := ds })
    (witness : ∃ (w : World) (tape : Tape) (i : Input), w.os = os ∧ (w.forCall tape i).Shaped C.prog ∧ i.vars = [] ∧ Input.okWide C.prog (w.forCall tape i) .any w.heap.size f i ∧
      s.pre6 enc C.prog fn conds false (w.forCall tape i).memory i.args ∧ Assume.holds {} C.prog (lone (Frame.enter C.prog f i.args .normal) [] (w.forCall tape i)))
    (hts : fn.params.toList = ts) (hra : RA C.prog ts K) (hc : ∀ l, K l → EC C.prog f l [] fun r B => B = [] ∧ r = .bool true) :
    ReturnsInHanded {} C os f .any (s.pre6 enc C.prog fn conds false) (s.post enc C.prog fn false true false false) := by
  refine true_lifted (C := C) (tb := tb) own started noInit hfn hlaid hread hres htb hvars hspec witness ?_
  intro W base args ds p hval hlt hsz hA
  obtain ⟨l, h1, h2, h3⟩ := hra H enc W base args.toList ds p (fun j t v a b => hval j t v (by rw [← hts] at a; simpa using a) (by simpa using b)) (hts ▸ hA) hlt
  exact ⟨l, ⟨by simpa using h2.symm, fun i c hi => by simpa using h3 i c hi⟩, hc l h1⟩
end
end Go.Lift
end
