/-
  Loops with slots that stay, rows that grow out of nothing, loops that are written out.
-/
import Derived.Test.YtfmldmafigpblaaDoorLiftU
namespace Go.Lift
section
variable {P : Program} {n : Nat} {t : Slots} {B : List Own} {Q : Post}
/-- Slots that stay as they are. -/
def keepS (t : Slots) : List Nat → Slots
  | [] => []
  | k :: r => (k, lkp t k) :: keepS t r
theorem wkS_app {t : Slots} : ∀ {a b : Slots}, wkS t a → wkS t b → wkS t (a ++ b)
  | [], _, _, h => h
  | (_, _) :: _, _, ha, h => ⟨ha.1, wkS_app ha.2 h⟩
theorem wkS_keep {t : Slots} : ∀ (l : List Nat), wkS t (keepS t l)
  | [] => trivial
  | _ :: r => ⟨rfl, wkS_keep r⟩
/-- A loop: the slots 'live' and the rows stay as they are, 'V' and 'R' are what turns. -/
theorem EV_loopG {σ : Type} (live : List Nat) (m : Nat) (V : σ → Slots) (R : σ → List Own) (Inv : σ → Prop) (μ : σ → Nat) (s0 : σ) {c : Code} (h0 : Inv s0) (hw : wkS t (V s0)) (hb : B.take (m + (R s0).length) = B.take m ++ R s0) (hm : m ≤ B.length)
    (round : ∀ s, Inv s → EV P n c (V s ++ keepS t live) (B.take m ++ R s) (thenP (fun t' B' => ∃ s', Inv s' ∧ μ s' < μ s ∧ wkS t' (V s' ++ keepS t live) ∧ B'.take (m + (R s').length) = B.take m ++ R s') Q)) : EV P n (.loop c) t B Q := by
  have hl : ∀ s, (B.take m ++ R s).length = m + (R s).length := fun s => by simp; omega
  refine EV_loop (fun s => V s ++ keepS t live) (fun s => B.take m ++ R s) Inv μ s0 h0 (wkS_app hw (wkS_keep _)) (by rw [hl, hb]) fun s hs => ?_
  refine (round s hs).mono ?_
  intro e t' B' h
  cases e <;> try exact h
  obtain ⟨s', h1, h2, h3, h4⟩ := h
  exact ⟨s', h1, h2, h3, by rw [hl, h4]⟩
/-- A loop that leaves the rows alone. -/
theorem EV_loopL {σ : Type} (live : List Nat) (V : σ → Slots) (Inv : σ → Prop) (μ : σ → Nat) (s0 : σ) {c : Code} (h0 : Inv s0) (hw : wkS t (V s0))
    (round : ∀ s, Inv s → EV P n c (V s ++ keepS t live) B (thenP (fun t' B' => ∃ s', Inv s' ∧ μ s' < μ s ∧ wkS t' (V s' ++ keepS t live) ∧ B'.take B.length = B) Q)) : EV P n (.loop c) t B Q := by
  refine EV_loop (fun s => V s ++ keepS t live) (fun _ => B) Inv μ s0 h0 (wkS_app hw (wkS_keep _)) (by simp) round
/-- A slice that is nil is an owned row without elements. -/
theorem EV_matr (d E e : Nat) {f : Nat → List SV} {c : Code} (hd : lkp t d = .sl true 0 0 f) (h : ∀ h, EV P n c ((d, .row B.length h e 0 0) :: t) (B ++ [.row h E e []]) Q) : EV P n c t B Q := by
  intro X0 w0 B0 X w a he hs
  have h1 := hs.den.2 d
  rw [hd] at h1
  obtain ⟨ad, hv⟩ : ∃ ad, a.tmps.getD d undef = .slice ad 0 0 := by
    generalize a.tmps.getD d undef = v at h1
    cases h1 with
    | slNil hf => rw [hf rfl]; exact ⟨_, rfl⟩
    | slAt g hn => exact absurd hn (Nat.lt_irrefl 0)
  have hp : Sat X w (B ++ [.row (.void ad) E e []]) := hs.sat.push (Nat.le_refl _) (fun _ _ => rfl) (fun c hc => by simp [Own.blocks] at hc) rfl
  have hx : Ext X w B X w (B ++ [.row (.void ad) E e []]) := Ext.push rfl rfl rfl (Nat.le_refl _) (fun _ _ => rfl) fun c hc => by simp [Own.blocks] at hc
  refine h (.void ad) X0 w0 B0 X w a (he.trans hx) ⟨hs.defers, hp, hs.den.1, fun i => ?_⟩
  simp only [lkp]
  split
  · rename_i hi; subst hi; rw [hv]; exact .rowVoid ..
  · exact hs.den.2 i
/-- A function that takes one row and gives it back, with a result that is said alone to be of a kind. -/
theorem EC.finE {f : Nat} {args : List SV} {B0 : List Own} {σ : Type} {C : σ → Prop} {R : σ → SV} {X : σ → List (List SV)} {hh : RowH} {E e : Nat}
    (h : EC P f args B0 fun r B' => frzKT (fromM 1) B' r ∧ ∃ x, C x ∧ SLe (frzT (fromM 1) B' r) (R x) ∧ B'.take 1 = [.row hh E e (X x)]) : EC P f args B0 fun r N => ∃ x, C x ∧ r = R x ∧ N = [.row hh E e (X x)] := by
  have := EC.close 1 (Q := fun r N => ∃ x, C x ∧ SLe r (R x) ∧ N = [.row hh E e (X x)]) h
  refine EC.ret (this.mono ?_)
  rintro r N ⟨x, h1, h2, h3⟩
  exact ⟨R x, h2, x, h1, rfl, h3⟩
theorem EC.useAtE {f : Nat} {args args' : List SV} (i : Nat) {h : RowH} {E e : Nat} {xs : List (List SV)} {σ : Type} {C : σ → Prop} {R : σ → SV} {X : σ → List (List SV)} {Q : SV → List Own → Prop}
    (hc : EC P f args [.row h E e xs] fun r N => ∃ x, C x ∧ r = R x ∧ N = [.row h E e (X x)]) (hi : getD' B i = .row h E e xs) (ha : LLe args' args) (hk : ∀ x, C x → Q (R x) (B.set i (.row h E e (X x)))) : EC P f args' B Q :=
  (EC.at hc hi ha fun _ _ ⟨_, hq⟩ => ⟨_, hq.2.2⟩).mono (by rintro r B' ⟨o, ⟨x, h1, rfl, ho⟩, rfl⟩; cases ho; exact hk x h1)
/-- A pure result that is said alone to be of a kind. -/
theorem EC.finP {f : Nat} {args : List SV} {σ : Type} {C : σ → Prop} {R : σ → SV} (h : EC P f args [] fun r B' => frzKT (fromM 0) B' r ∧ ∃ x, C x ∧ SLe (frzT (fromM 0) B' r) (R x)) : EC P f args [] fun r N => N = [] ∧ ∃ x, C x ∧ r = R x := by
  have := EC.close 0 (Q := fun r N => N = [] ∧ ∃ x, C x ∧ SLe r (R x)) (h.mono fun r B' ⟨h1, h2⟩ => ⟨h1, by simp, h2⟩)
  refine EC.ret (this.mono ?_)
  rintro r N ⟨rfl, x, h1, h2⟩
  exact ⟨R x, h2, rfl, x, h1, rfl⟩
theorem EC.useP {f : Nat} {args : List SV} {σ : Type} {C : σ → Prop} {R : σ → SV} {Q : SV → List Own → Prop} (hc : EC P f args [] fun r N => N = [] ∧ ∃ x, C x ∧ r = R x) (hk : ∀ x, C x → Q (R x) B) : EC P f args B Q :=
  (EC.frame (Q := fun r => ∃ x, C x ∧ r = R x) hc B).mono (by rintro r B' ⟨rfl, x, h1, rfl⟩; exact hk x h1)
/-- A function that makes one row. -/
theorem EC.useM {f : Nat} {args : List SV} {E e : Nat} {xs : List (List SV)} {R : RowH → Nat → SV} {Q : SV → List Own → Prop}
    (hc : EC P f args [] fun r N => ∃ h, r = R h 0 ∧ N = [.row h E e xs]) (hR : ∀ h i j, SLe (R h i) (R h j)) (hk : ∀ h, Q (R h B.length) (B ++ [.row h E e xs])) : EC P f args B Q := by
  refine ⟨hc.1, fun X w vs hs hd => ?_⟩
  have h0 : Sat X w [] := hs.sub fun i => .inr (by simp [getD'])
  refine (hc.2 X w vs h0 hd).mono ?_
  rintro ex w' ⟨v, r, X', N, rfl, ⟨h, rfl, rfl⟩, hsat, hden, hext⟩
  have hx : ∀ b, ¬ owns ([] : List Own) b := fun b ⟨i, hi⟩ => by simp [getD', Own.blocks] at hi
  have nb : ∀ b, b ∈ (Own.row h E e xs).blocks → w.heap.size ≤ b := fun b hb => (hext.own b ⟨0, by simpa [getD'] using hb⟩).elim (fun ho => absurd ho (hx b)) id
  refine ⟨v, _, X', _, rfl, hk h, ⟨fun a b c h1 h2 => ?_, fun a b h1 => ?_, hsat.xg, fun b hb ⟨a, h1⟩ => ?_, fun a => ?_⟩, hR _ _ _ _ _ _ hden, ⟨hext.os, hext.tape, hext.output, hext.size, fun b hb _ => hext.block b hb (hx b), hext.xin, fun b hb => (hext.xout b hb).imp_right fun h => .inr (h.elim (fun ho => absurd ho (hx b)) id), fun b hb => ?_⟩⟩
  · rw [getD'_push] at h1 h2
    split at h1 <;> split at h2
    · omega
    · have := nb c h1; have := hs.lt b c h2; omega
    · have := nb c h2; have := hs.lt a c h1; omega
    · exact hs.inj a b c h1 h2
  · rw [getD'_push] at h1
    split at h1
    · exact hsat.lt 0 b (by simpa [getD'] using h1)
    · exact Nat.lt_of_lt_of_le (hs.lt a b h1) hext.size
  · rw [getD'_push] at h1
    split at h1
    · exact hsat.apart b hb ⟨0, by simpa [getD'] using h1⟩
    · rcases hext.xout b hb with h | h | h
      · exact hs.apart b h ⟨a, h1⟩
      · exact hx b h
      · have := hs.lt a b h1; omega
  · rw [getD'_push]
    split
    · simpa [getD'] using hsat.ok 0
    · exact Own.ok_mono (hs.ok a) hext.xin (fun b hb => hext.block b (hs.xlt b hb) (hx b)) fun b hb => hext.block b (hs.lt a b hb) (hx b)
  · obtain ⟨a, h1⟩ := hb
    rw [getD'_push] at h1
    split at h1
    · exact .inr (nb b h1)
    · exact .inl ⟨a, h1⟩
end
def setX (o : Own) (xs : List (List SV)) : Own := match o with
  | .row h E e _ => .row h E e xs
  | .gone => .gone
/-- Other contents for the row with a number. -/
def updX : List Own → Nat → List (List SV) → List Own
  | [], _, _ => []
  | o :: B, 0, xs => setX o xs :: B
  | o :: B, i + 1, xs => o :: updX B i xs
/-- Another handle and other contents for the row with a number. -/
def updH : List Own → Nat → RowH → List (List SV) → List Own
  | [], _, _, _ => []
  | o :: B, 0, h, xs => (match o with | .row _ E e _ => .row h E e xs | .gone => .gone) :: B
  | o :: B, i + 1, h, xs => o :: updH B i h xs
theorem EV_loopB {P : Program} {n : Nat} {t : Slots} {B : List Own} {Q : Post} {σ : Type} (live : List Nat) (V : σ → Slots) (R : List Own → σ → List Own) (Inv : σ → Prop) (μ : σ → Nat) (s0 : σ) {c : Code} (h0 : Inv s0) (hw : wkS t (V s0)) (hb : R B s0 = B)
    (round : ∀ s, Inv s → EV P n c (V s ++ keepS t live) (R B s) (thenP (fun t' B' => ∃ s', Inv s' ∧ μ s' < μ s ∧ wkS t' (V s' ++ keepS t live) ∧ B'.take (R B s').length = R B s') Q)) : EV P n (.loop c) t B Q :=
  EV_loop (fun s => V s ++ keepS t live) (fun s => R B s) Inv μ s0 h0 (wkS_app hw (wkS_keep _)) (by rw [hb]; simp) round
end Go.Lift
