/-
  Entering functions; frames; giving memory up.
-/
import Derived.Test.YtfmldmafigpblaaDoorLiftN
namespace Go.Lift
section
variable {P : Program} {E : Env} {n : Nat}

theorem EV_region (hE : EnvOK P E) {id : Nat} {ops : Array Oper} {t : Slots} {B : List Own} {Q : Post}
    (h : ∀ K : Slots → List Own → Prop, (∀ t B, Q .normal t B → K t B) → ∀ fr, holds P n ops.toList K (run E n ops.toList fr 0 ops.toList t B)) : EV P n (.region id ops false) t B Q := by
  intro X0 w0 B0 X w a he hs
  refine wp_region_list ?_
  have := EO_run hE (K := fun t B => Q .normal t B) ops.toList 0 t B (fun fr => h _ (fun _ _ h => h) fr) Q (fun _ _ h => h) X0 w0 B0 X w a he hs
  simpa using this

def bindA : Nat → List SV → Slots
  | _, [] => []
  | i, a :: r => (i, a) :: bindA (i + 1) r
theorem lkp_bindA : ∀ (args : List SV) (i j : Nat), lkp (bindA i args) j = if i ≤ j then args.getD (j - i) .any else .any
  | [], i, j => by simp [bindA, lkp]
  | a :: r, i, j => by
    simp only [bindA, lkp, lkp_bindA r (i + 1) j]
    by_cases e : j = i
    · subst e; simp
    · simp only [e, if_false]
      by_cases h : i + 1 ≤ j
      · rw [if_pos h, if_pos (by omega)]
        have : j - i = (j - (i + 1)) + 1 := by omega
        rw [this]; simp
      · rw [if_neg h, if_neg (by omega)]

def evRes1 (E : Env) (t : Slots) (B : List Own) : ResultVar → SV × Prop
  | .tmp i => (lkp t i, True)
  | .cell a T => match evLoadT (E.ty T) B (lkp t a) with
    | ⟨v, _, c⟩ => (v, c)
def evRes (E : Env) (t : Slots) (B : List Own) : List ResultVar → List SV × Prop
  | [] => ([], True)
  | r :: rs => match evRes1 E t B r, evRes E t B rs with
    | (v, c), (vs, d) => (v :: vs, c ∧ d)
def evR (E : Env) (t : Slots) (B : List Own) (rs : List ResultVar) : SV × Prop := match evRes E t B rs with
  | ([v], c) => (v, c)
  | (vs, c) => (.tup vs, c)
def retP (E : Env) (rs : List ResultVar) (Q : SV → List Own → Prop) : Post
  | .normal, t, B => (evR E t B rs).2 ∧ Q (evR E t B rs).1 B
  | .ret, t, B => (evR E t B rs).2 ∧ Q (evR E t B rs).1 B
  | _, _, _ => False

def resFn (tmps : Array Value) : ResultVar → Sem Value
  | .tmp t => pure (tmps.getD t undef)
  | .cell a t => do loadVar t (← asAddr (tmps.getD a undef))
theorem results_eq (fn : Func) (tmps : Array Value) : results fn tmps = (do let vs ← fn.results.mapM (resFn tmps); pure (if h : vs.size = 1 then vs[0] else .tuple vs)) := by
  unfold results
  congr 2

theorem res_sound (hE : EnvOK P E) {X : Nat → Prop} {w : World} {B : List Own} {t : Slots} {tmps : Array Value} (hs : Sat X w B) (hd : DenT X w t n tmps) : ∀ (rs : List ResultVar), (evRes E t B rs).2 →
    ∃ vs : List Value, (rs.mapM (resFn tmps)).run P w = .ok vs w ∧ vs.length = (evRes E t B rs).1.length ∧
      ∀ (i : Nat) (c : SV), (evRes E t B rs).1[i]? = some c → Den X w c (vs.getD i undef)
  | [], _ => ⟨[], by simp, rfl, by simp [evRes]⟩
  | r :: rs, h => by
    simp only [evRes] at h ⊢
    obtain ⟨h1, h2⟩ := h
    obtain ⟨vs, r1, r2, r3⟩ := res_sound hE hs hd rs h2
    have one : ∃ v, (resFn tmps r).run P w = .ok v w ∧ Den X w (evRes1 E t B r).1 v := by
      cases r with
      | tmp i => exact ⟨_, rfl, hd.2 i⟩
      | cell a T =>
        simp only [evRes1] at h1 ⊢
        have hb : E.ty T ≠ .bad := fun e => by simp [evLoadT, e, bad] at h1
        have e1 : evLoadT (E.ty T) B (lkp t a) = evLoad (E.ty T).agg (E.ty T).size B (lkp t a) := by
          cases h : E.ty T <;> first | rfl | exact absurd h hb
        rw [e1] at h1 ⊢
        obtain ⟨u, q1, q2, q3⟩ := load_sound (hE.ty T) hb hs (hd.2 a) h1
        refine ⟨u, ?_, q2⟩
        simp only [Instr.loadAt, Instr.sureAddr, asAddr, resFn] at q1 ⊢
        cases hv : tmps.getD a undef <;> simp only [hv] at q1 ⊢ <;> try (simp at q1; done)
        case pointer p =>
          cases p with
          | none => simp at q1
          | some ad => simpa using q1
    obtain ⟨v, q1, q2⟩ := one
    refine ⟨v :: vs, ?_, by simp [r2], fun i c hc => ?_⟩
    · rw [List.mapM_cons, Sem.run_bind, q1]
      simp only [Result.andThen_ok, Sem.run_bind, r1, Sem.run_pure]
    · cases i with
      | zero => simp at hc; subst hc; simpa using q2
      | succ i => simpa using r3 i c (by simpa using hc)

theorem results_sound (hE : EnvOK P E) {X : Nat → Prop} {w : World} {B : List Own} {t : Slots} {tmps : Array Value} (fn : Func) (hs : Sat X w B) (hd : DenT X w t n tmps) (h : (evR E t B fn.results.toList).2) :
    ∃ v, (results fn tmps).run P w = .ok v w ∧ Den X w (evR E t B fn.results.toList).1 v := by
  have h' : (evRes E t B fn.results.toList).2 := by
    unfold evR at h
    split at h <;> (rename_i e; rw [e]; exact h)
  obtain ⟨vs, r1, r2, r3⟩ := res_sound hE hs hd fn.results.toList h'
  have hm : (fn.results.mapM (resFn tmps)).run P w = .ok vs.toArray w := by
    rw [Array.mapM_eq_mapM_toList]
    simp only [Sem.run_map, r1, Result.andThen_ok]
  refine ⟨if h : vs.toArray.size = 1 then vs.toArray[0] else .tuple vs.toArray, ?_, ?_⟩
  · rw [results_eq, Sem.run_bind, hm]
    rfl
  · unfold evR
    split
    · rename_i v c e
      rw [e] at r2 r3
      simp at r2
      have hsz : vs.toArray.size = 1 := by simpa using r2
      rw [dif_pos hsz]
      have := r3 0 v rfl
      simpa [List.getD, r2] using this
    · rename_i us c hne e
      rw [e] at r2 r3
      simp only at r2 r3
      have hsz : ¬ vs.toArray.size = 1 := by
        intro h1
        have h2 : us.length = 1 := by rw [← r2]; simpa using h1
        match us, h2 with
        | [u], _ => exact hne u rfl
      rw [dif_neg hsz]
      exact .tup (by simpa using r2) (by simpa using r3)

theorem EC.enter (hE : EnvOK P E) {f : FuncId} {fn : Func} {c : Code} {args : List SV} {B : List Own} {Q : SV → List Own → Prop} (hc : callable P f = true) (hf : P.funcs[f]? = some fn) (hb : fn.body = some c) (hn : args.length ≤ fn.ntmps)
    (h : EV P fn.ntmps c (bindA 0 args) B (retP E fn.results.toList Q)) : EC P f args B Q := by
  refine ⟨hc, fun X w vs hs hd => ?_⟩
  refine calls_of_wp hf hb ?_
  have hden : DenT X w (bindA 0 args) fn.ntmps (vs ++ Array.replicate (fn.ntmps - vs.size) undef) := by
    refine ⟨by simp; have := hd.1; omega, fun i => ?_⟩
    rw [lkp_bindA]
    simp only [Nat.zero_le, if_true, Nat.sub_zero]
    rcases Nat.lt_or_ge i args.length with hi | hi
    · have := hd.2 i _ (get?_of_lt .any hi)
      simp only [Array.getD_eq_getD_getElem?] at this ⊢
      rw [Array.getElem?_append_left (by have := hd.1; omega)]
      exact this
    · have : args.getD i .any = .any := by simp [List.getD, List.getElem?_eq_none hi]
      rw [this]; exact .any _
  refine wp_mono (h X w B X w _ (Ext.refl _ _ _) ⟨rfl, hs, hden⟩) fun e a w' hg => ?_
  obtain ⟨X', t', B', hQ, hst, hext⟩ := hg
  have fin : (evR E t' B' fn.results.toList).2 ∧ Q (evR E t' B' fn.results.toList).1 B' → a.defers = [] ∧ ∃ v, (results fn a.tmps).run P w' = .ok v w' ∧ ∃ v' r X' B', Ending.returned v = .returned v' ∧ Q r B' ∧ Sat X' w' B' ∧ Den X' w' r v' ∧ Ext X w B X' w' B' := by
    rintro ⟨h1, h2⟩
    obtain ⟨v, r1, r2⟩ := results_sound hE fn hst.sat hst.den h1
    exact ⟨hst.defers, v, r1, v, _, X', B', rfl, h2, hst.sat, r2, hext⟩
  cases e <;> simp only [retP] at hQ
  case normal => exact fin hQ
  case ret => exact fin hQ

/-! ### Weaker values -/
def SLe (s s' : SV) : Prop := ∀ X w v, Den X w s v → Den X w s' v
theorem SLe.refl (s : SV) : SLe s s := fun _ _ _ h => h
theorem SLe.any (s : SV) : SLe s .any := fun _ _ v _ => .any v
theorem SLe.sl {full full' : Bool} {esz esz' n : Nat} {f g : Nat → List SV} (hf : full' = true → full = true) (he : n = 0 ∨ esz = esz') (h : ∀ k, k < n → f k = g k) : SLe (.sl full esz n f) (.sl full' esz' n g) := by
  intro X w v hd
  cases hd with
  | slNil hc => exact .slNil fun h => hc (hf h)
  | slAt g' hn hcap hfull hX hl hw hden =>
    have he' : esz = esz' := by omega
    subst he'
    exact .slAt g' hn hcap (fun h => hfull (hf h)) hX (fun k hk => by rw [← h k hk]; exact hl k hk) hw (fun k j c hk hc => hden k j c hk (by rw [h k hk]; exact hc))
inductive LLe : List SV → List SV → Prop
  | nil : LLe [] []
  | cons {s s' : SV} {l l' : List SV} (h : SLe s s') (hr : LLe l l') : LLe (s :: l) (s' :: l')
theorem LLe.refl : ∀ (l : List SV), LLe l l
  | [] => .nil
  | s :: r => .cons (SLe.refl s) (LLe.refl r)
theorem LLe.spec {l l' : List SV} (h : LLe l l') : l.length = l'.length ∧ ∀ (i : Nat) (c : SV), l'[i]? = some c → ∃ d, l[i]? = some d ∧ SLe d c := by
  induction h with
  | nil => exact ⟨rfl, by simp⟩
  | cons h _ ih =>
    refine ⟨by simp [ih.1], fun i c hc => ?_⟩
    cases i with
    | zero => simp at hc; subst hc; exact ⟨_, rfl, h⟩
    | succ i => simpa using ih.2 i c (by simpa using hc)
theorem SLe.agg {l l' : List SV} (h : LLe l l') : SLe (.agg l) (.agg l') := by
  intro X w v hd
  cases hd with
  | agg hs hh =>
    refine .agg (by rw [hs, h.spec.1]) fun i c hc => ?_
    obtain ⟨d, hd, hle⟩ := h.spec.2 i c hc
    exact hle _ _ _ (hh i d hd)
theorem SLe.tup {l l' : List SV} (h : LLe l l') : SLe (.tup l) (.tup l') := by
  intro X w v hd
  cases hd with
  | tup hs hh =>
    refine .tup (by rw [hs, h.spec.1]) fun i c hc => ?_
    obtain ⟨d, hd, hle⟩ := h.spec.2 i c hc
    exact hle _ _ _ (hh i d hd)
theorem EC.ret {f args B} {Q : SV → List Own → Prop} (h : EC P f args B fun r B' => ∃ r', SLe r r' ∧ Q r' B') : EC P f args B Q :=
  ⟨h.1, fun X w vs hs hd => (h.2 X w vs hs hd).mono fun _ _ ⟨v, _, X', B', he, ⟨r', hle, hr⟩, h1, h2, h3⟩ => ⟨v, r', X', B', he, hr, h1, hle _ _ _ h2, h3⟩⟩
theorem EC.args {f args args' B} {Q : SV → List Own → Prop} (hle : LLe args args') (h : EC P f args' B Q) : EC P f args B Q :=
  ⟨h.1, fun X w vs hs hd => h.2 X w vs hs ⟨by rw [hd.1, hle.spec.1], fun i c hc => by
    obtain ⟨d, h1, h2⟩ := hle.spec.2 i c hc
    exact h2 _ _ _ (hd.2 i d h1)⟩⟩

/-! ### Giving memory up -/
def frzC (sel : Nat → Bool) (B : List Own) : SV → SV
  | .row i h esz lo n => match sel i with
    | true => match getD' B i with
      | .row _ _ _ xs => .sl false esz n fun k => xs.getD (lo + k) []
      | .gone => .any
    | false => .row i h esz lo n
  | .rptr i h esz k off => match sel i with
    | true => match getD' B i with
      | .row _ _ _ xs => .xp ((xs.getD k []).drop off)
      | .gone => .any
    | false => .rptr i h esz k off
  | .om i h k1 k2 => match sel i with
    | true => match getD' B i with
      | .row _ _ _ xs => .xm k1 k2 (entsOf xs)
      | .gone => .any
    | false => .om i h k1 k2
  | s => s
def frzKC (sel : Nat → Bool) (B : List Own) : SV → Prop
  | .row i h esz lo n => match sel i with
    | true => match getD' B i with
      | .row h' _ e' xs => h' = h ∧ e' = esz ∧ lo + n ≤ xs.length
      | .gone => True
    | false => True
  | .rptr i h esz k _ => match sel i with
    | true => match getD' B i with
      | .row h' _ e' xs => h' = h ∧ e' = esz ∧ k < xs.length
      | .gone => True
    | false => True
  | .om i h k1 k2 => match sel i with
    | true => match getD' B i with
      | .row h' _ _ xs => h' = h ∧ xs = (entsOf xs).map (mC k1 k2)
      | .gone => True
    | false => True
  | _ => True
def frzL (sel : Nat → Bool) (B : List Own) : List SV → List SV
  | [] => []
  | s :: r => frzC sel B s :: frzL sel B r
def frzKL (sel : Nat → Bool) (B : List Own) : List SV → Prop
  | [] => True
  | s :: r => frzKC sel B s ∧ frzKL sel B r
def frzA (sel : Nat → Bool) (B : List Own) : SV → SV
  | .agg cs => .agg (frzL sel B cs)
  | s => frzC sel B s
def frzKA (sel : Nat → Bool) (B : List Own) : SV → Prop
  | .agg cs => frzKL sel B cs
  | s => frzKC sel B s
def frzLA (sel : Nat → Bool) (B : List Own) : List SV → List SV
  | [] => []
  | s :: r => frzA sel B s :: frzLA sel B r
def frzKLA (sel : Nat → Bool) (B : List Own) : List SV → Prop
  | [] => True
  | s :: r => frzKA sel B s ∧ frzKLA sel B r
def frzT (sel : Nat → Bool) (B : List Own) : SV → SV
  | .tup cs => .tup (frzLA sel B cs)
  | s => frzA sel B s
def frzKT (sel : Nat → Bool) (B : List Own) : SV → Prop
  | .tup cs => frzKLA sel B cs
  | s => frzKA sel B s

variable {X : Nat → Prop} {w : World} {B : List Own} {sel : Nat → Bool}
/-- External memory, with the rows that are given up. -/
def withSel (X : Nat → Prop) (B : List Own) (sel : Nat → Bool) (b : Nat) : Prop := X b ∨ ∃ i, sel i = true ∧ b ∈ (getD' B i).blocks

theorem Den.wsel {s v} (h : Den X w s v) : Den (withSel X B sel) w s v := h.mono (fun _ h => .inl h) fun _ _ => rfl

theorem frzC_sound (hs : Sat X w B) {s : SV} {v : Value} (hd : Den X w s v) (hk : frzKC sel B s) : Den (withSel X B sel) w (frzC sel B s) v := by
  have pt : ∀ (i b cap esz k off : Nat), frzKC sel B (.rptr i (.at b cap) esz k off) → Den (withSel X B sel) w (frzC sel B (.rptr i (.at b cap) esz k off)) (.pointer (some ⟨b, k * esz + off, none⟩)) := by
    intro i b cap esz k off hk
    simp only [frzC, frzKC] at hk ⊢
    cases hsel : sel i with
    | false => exact .rptr ..
    | true =>
      simp only [hsel] at hk
      cases hg : getD' B i with
      | gone => exact .any _
      | row h' E' e' xs =>
        simp only [hg] at hk ⊢
        obtain ⟨rfl, rfl, hlt⟩ := hk
        obtain ⟨vs, a1, a2, a3, a4, a5⟩ := hs.row hg
        have hx := get?_of_lt (α := List SV) [] hlt
        have hl := a4 k _ hx
        refine .xp (fun j => vs.getD (k * e' + (off + j)) undef) (.inr ⟨i, hsel, by rw [hg]; simp [Own.blocks]⟩) (fun j hj => ?_) (fun j c hc => ?_)
        · simp only [List.length_drop] at hj
          rw [Nat.add_assoc]
          exact cell_of_heap a1 (by have := idx_lt (m := cap) (esz := e') (show k < cap by omega) (show off + j < e' by omega); omega)
        · rw [List.getElem?_drop] at hc
          exact (a5 k _ _ _ hx hc).wsel
  have rw1 : ∀ (i b cap esz lo n c : Nat) (a : Option Addr), frzKC sel B (.row i (.at b cap) esz lo n) → (0 < n → a = some ⟨b, lo * esz, none⟩) → n ≤ c → Den X w (.row i (.at b cap) esz lo n) (.slice a n c) →
      Den (withSel X B sel) w (frzC sel B (.row i (.at b cap) esz lo n)) (.slice a n c) := by
    intro i b cap esz lo n c a hk ha hnc hden
    simp only [frzC, frzKC] at hk ⊢
    cases hsel : sel i with
    | false => exact hden.wsel
    | true =>
      simp only [hsel] at hk
      cases hg : getD' B i with
      | gone => exact .any _
      | row h' E' e' xs =>
        simp only [hg] at hk ⊢
        obtain ⟨rfl, rfl, hlt⟩ := hk
        obtain ⟨vs, a1, a2, a3, a4, a5⟩ := hs.row hg
        by_cases hn : n = 0
        · subst hn; exact .slNil (by simp)
        · rw [ha (by omega)]
          refine .slAt (fun k j => vs.getD ((lo + k) * e' + j) undef) (by omega) hnc (by simp) (.inr ⟨i, hsel, by rw [hg]; simp [Own.blocks]⟩) (fun k hk => a4 _ _ (get?_of_lt (α := List SV) [] (by omega))) (fun k j hk hj => ?_) (fun k j c hk hc => ?_)
          · have e : lo * e' + (k * e' + j) = (lo + k) * e' + j := by rw [Nat.add_mul]; omega
            rw [e]
            exact cell_of_heap a1 (by have := idx_lt (m := cap) (esz := e') (show lo + k < cap by omega) hj; omega)
          · exact (a5 _ _ _ _ (get?_of_lt (α := List SV) [] (show lo + k < xs.length by omega)) hc).wsel
  have hd0 := hd
  cases hd
  case rptr i b cap esz k off => exact pt _ _ _ _ _ _ hk
  case rowAt i b cap esz n hn => exact rw1 _ _ _ _ _ _ _ _ hk (fun _ => by simp) hn hd0
  case rowLo i b cap esz lo n c hn hc => exact rw1 _ _ _ _ _ _ _ _ hk (fun _ => rfl) hc hd0
  case rowLo0 i b cap esz lo c a => exact rw1 _ _ _ _ _ _ _ _ hk (fun h => by omega) (Nat.zero_le _) hd0
  case rowVoid i a esz lo =>
    simp only [frzC, frzKC] at hk ⊢
    cases hsel : sel i with
    | false => exact .rowVoid ..
    | true =>
      simp only [hsel] at hk
      cases hg : getD' B i with
      | gone => exact .any _
      | row h' E' e' xs => exact .slNil (by simp)
  case om i b k1 k2 =>
    simp only [frzC, frzKC] at hk ⊢
    cases hsel : sel i with
    | false => exact .om ..
    | true =>
      simp only [hsel] at hk
      cases hg : getD' B i with
      | gone => exact .any _
      | row h' E' e' xs =>
        simp only [hg] at hk ⊢
        obtain ⟨rfl, hxs⟩ := hk
        obtain ⟨arr, clock, hb, he⟩ := hs.mrow hg
        rw [hxs] at he
        exact .xm (.inr ⟨i, hsel, by rw [hg]; simp [Own.blocks]⟩) hb he
  all_goals exact hd0.wsel
theorem frzL_sound (hs : Sat X w B) : ∀ {l : List SV} (_ : frzKL sel B l), (frzL sel B l).length = l.length ∧ ∀ (vs : Array Value), (∀ (i : Nat) (c : SV), l[i]? = some c → Den X w c (vs.getD i undef)) → ∀ (i : Nat) (c : SV), (frzL sel B l)[i]? = some c → Den (withSel X B sel) w c (vs.getD i undef)
  | [], _ => ⟨rfl, by simp [frzL]⟩
  | s :: r, hk => by
    obtain ⟨h1, h2⟩ := frzL_sound hs (l := r) hk.2
    refine ⟨by simp [frzL, h1], fun vs hv i c hc => ?_⟩
    cases i with
    | zero => simp [frzL] at hc; subst hc; exact frzC_sound hs (hv 0 s rfl) hk.1
    | succ i =>
      have := h2 (vs.extract 1 vs.size) (fun i c hc => by
        have := hv (i + 1) c (by simpa using hc)
        simp only [Array.getD_eq_getD_getElem?, Array.getElem?_extract] at this ⊢
        rcases Nat.lt_or_ge (i + 1) vs.size with hlt | hge
        · rw [if_pos (by omega), Nat.add_comm 1 i]; exact this
        · rw [if_neg (by omega)]; rw [Array.getElem?_eq_none hge] at this; exact this) i c (by simpa [frzL] using hc)
      simp only [Array.getD_eq_getD_getElem?, Array.getElem?_extract] at this ⊢
      rcases Nat.lt_or_ge (i + 1) vs.size with hlt | hge
      · rw [if_pos (by omega), Nat.add_comm 1 i] at this; exact this
      · rw [if_neg (by omega)] at this; rw [Array.getElem?_eq_none hge]; exact this
theorem frzA_sound (hs : Sat X w B) {s : SV} {v : Value} (hd : Den X w s v) (hk : frzKA sel B s) : Den (withSel X B sel) w (frzA sel B s) v := by
  by_cases ha : ∃ cs, s = .agg cs
  · obtain ⟨cs, rfl⟩ := ha
    cases hd with
    | agg hsz h =>
      obtain ⟨h1, h2⟩ := frzL_sound hs (l := cs) hk
      exact .agg (by rw [h1]; exact hsz) (h2 _ h)
  · have e1 : frzA sel B s = frzC sel B s := by cases s <;> first | rfl | exact absurd ⟨_, rfl⟩ ha
    have e2 : frzKA sel B s = frzKC sel B s := by cases s <;> first | rfl | exact absurd ⟨_, rfl⟩ ha
    rw [e1]; rw [e2] at hk; exact frzC_sound hs hd hk
theorem frzLA_sound (hs : Sat X w B) : ∀ {l : List SV} (_ : frzKLA sel B l), (frzLA sel B l).length = l.length ∧ ∀ (vs : Nat → Value), (∀ (i : Nat) (c : SV), l[i]? = some c → Den X w c (vs i)) → ∀ (i : Nat) (c : SV), (frzLA sel B l)[i]? = some c → Den (withSel X B sel) w c (vs i)
  | [], _ => ⟨rfl, by simp [frzLA]⟩
  | s :: r, hk => by
    obtain ⟨h1, h2⟩ := frzLA_sound hs (l := r) hk.2
    refine ⟨by simp [frzLA, h1], fun vs hv i c hc => ?_⟩
    cases i with
    | zero => simp [frzLA] at hc; subst hc; exact frzA_sound hs (hv 0 s rfl) hk.1
    | succ i => exact h2 (fun i => vs (i + 1)) (fun i c hc => hv (i + 1) c (by simpa using hc)) i c (by simpa [frzLA] using hc)
theorem frzT_sound (hs : Sat X w B) {s : SV} {v : Value} (hd : Den X w s v) (hk : frzKT sel B s) : Den (withSel X B sel) w (frzT sel B s) v := by
  by_cases ha : ∃ cs, s = .tup cs
  · obtain ⟨cs, rfl⟩ := ha
    cases hd with
    | tup hsz h =>
      obtain ⟨h1, h2⟩ := frzLA_sound hs (l := cs) hk
      exact .tup (by rw [h1]; exact hsz) (h2 (fun i => Array.getD _ i undef) h)
  · have e1 : frzT sel B s = frzA sel B s := by cases s <;> first | rfl | exact absurd ⟨_, rfl⟩ ha
    have e2 : frzKT sel B s = frzKA sel B s := by cases s <;> first | rfl | exact absurd ⟨_, rfl⟩ ha
    rw [e1]; rw [e2] at hk; exact frzA_sound hs hd hk

/-- Rows that are given up are external memory from now on. -/
theorem Sat.drop_sel (hs : Sat X w B) {B' : List Own} (hb : ∀ i, getD' B' i = if sel i then .gone else getD' B i) : Sat (withSel X B sel) w B' := by
  have sub : ∀ i b, b ∈ (getD' B' i).blocks → sel i = false ∧ b ∈ (getD' B i).blocks := fun i b h => by
    rw [hb] at h
    cases hsel : sel i
    · simpa [hsel] using h
    · simp [hsel, Own.blocks] at h
  refine ⟨fun i j b hi hj => hs.inj i j b (sub i b hi).2 (sub j b hj).2, fun i b hi => hs.lt i b (sub i b hi).2, hs.xg.mono (fun _ h => .inl h) (fun _ _ => rfl) ?_, ?_, fun i => ?_⟩
  · rintro b (h | ⟨i, _, h⟩)
    · exact hs.xlt b h
    · exact hs.lt i b h
  · rintro b (h | ⟨i, hi, h⟩) ⟨j, hj⟩
    · exact hs.apart b h ⟨j, (sub j b hj).2⟩
    · obtain ⟨h1, h2⟩ := sub j b hj
      have := hs.inj i j b h h2
      subst this
      rw [hi] at h1; cases h1
  · rw [hb]
    cases sel i
    · exact Own.ok_mono (hs.ok i) (fun _ h => .inl h) (fun _ _ => rfl) fun _ _ => rfl
    · trivial
theorem Ext.drop_sel {B' : List Own} (hb : ∀ i, getD' B' i = if sel i then .gone else getD' B i) : Ext X w B (withSel X B sel) w B' := by
  refine ⟨rfl, rfl, rfl, Nat.le_refl _, fun _ _ _ => rfl, fun _ h => .inl h, ?_, ?_⟩
  · rintro b (h | ⟨i, _, h⟩)
    · exact .inl h
    · exact .inr (.inl ⟨i, h⟩)
  · rintro b ⟨i, hi⟩
    rw [hb] at hi
    cases hsel : sel i
    · exact .inl ⟨i, by simpa [hsel] using hi⟩
    · simp [hsel, Own.blocks] at hi

/-- At its end a function gives up all rows from number m on. -/
def fromM (m : Nat) (i : Nat) : Bool := decide (m ≤ i)
theorem EC.close {f args B0} (m : Nat) {Q : SV → List Own → Prop} (h : EC P f args B0 fun r B' => frzKT (fromM m) B' r ∧ Q (frzT (fromM m) B' r) (B'.take m)) : EC P f args B0 Q := by
  refine ⟨h.1, fun X w vs hs hd => (h.2 X w vs hs hd).mono ?_⟩
  rintro e w' ⟨v, r, X', B', he, ⟨hk, hq⟩, h1, h2, h3⟩
  have hb : ∀ i, getD' (B'.take m) i = if fromM m i then .gone else getD' B' i := fun i => by
    rw [getD'_take]
    by_cases hi : i < m
    · have : fromM m i = false := by simp [fromM]; omega
      simp [hi, this]
    · have : fromM m i = true := by simp [fromM]; omega
      simp [hi, this]
  exact ⟨v, _, _, _, he, hq, h1.drop_sel hb, frzT_sound h1 h2 hk, h3.trans (Ext.drop_sel hb)⟩

/-- A function that owns nothing in the end, called where rows are owned. -/
theorem EC.frame {f args} {Q : SV → Prop} (h : EC P f args [] fun r B' => B' = [] ∧ Q r) (B : List Own) : EC P f args B fun r B' => B' = B ∧ Q r := by
  refine ⟨h.1, fun X w vs hs hd => ?_⟩
  have hs0 : Sat X w [] := ⟨fun i j b hi => by simp [getD', Own.blocks] at hi, fun i b hi => by simp [getD', Own.blocks] at hi, hs.xg, fun b _ ⟨i, hi⟩ => by simp [getD', Own.blocks] at hi, fun i => by simp [getD', Own.ok]⟩
  refine (h.2 X w vs hs0 hd).mono ?_
  rintro e w' ⟨v, r, X', B', he, ⟨rfl, hq⟩, h1, h2, h3⟩
  have hno : ∀ b, ¬ owns [] b := fun b ⟨i, hi⟩ => by simp [getD', Own.blocks] at hi
  have hblk : ∀ b, b < w.heap.size → w'.heap[b]? = w.heap[b]? := fun b hb => h3.block b hb (hno b)
  refine ⟨v, r, X', B, he, ⟨rfl, hq⟩, ⟨hs.inj, fun i b hi => Nat.lt_of_lt_of_le (hs.lt i b hi) h3.size, h1.xg, fun b hb ⟨i, hi⟩ => ?_, fun i => Own.ok_mono (hs.ok i) h3.xin (fun b hb => hblk b (hs.xlt b hb)) fun b hb => hblk b (hs.lt i b hb)⟩, h2, ?_⟩
  · rcases h3.xout b hb with h | h | h
    · exact hs.apart b h ⟨i, hi⟩
    · exact hno b h
    · have := hs.lt i b hi; omega
  · refine ⟨h3.os, h3.tape, h3.output, h3.size, fun b hb _ => hblk b hb, h3.xin, fun b hb => ?_, fun b hb => .inl hb⟩
    rcases h3.xout b hb with h | h | h
    · exact .inl h
    · exact absurd h (hno b)
    · exact .inr (.inr h)
end
end Go.Lift
