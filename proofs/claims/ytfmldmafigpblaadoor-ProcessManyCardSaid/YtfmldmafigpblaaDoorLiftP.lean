/-
  Environments from lists; small simp lemmas.
-/
import Derived.Test.YtfmldmafigpblaaDoorLiftO
namespace Go.Lift

def envOf (tyL : List TyI) (zrL : List (List SV)) (lvL : List (List Nat)) : Env := ⟨fun T => tyL.getD T .bad, fun T => zrL.getD T [], fun T => lvL.getD T [], false⟩
def envB (P : Program) (tyL : List TyI) (zrL : List (List SV)) (lvL : List (List Nat)) : Bool :=
  (List.range tyL.length).all (fun T => tyB P T (tyL.getD T .bad)) && (List.range zrL.length).all (fun T => (zrL.getD T []).isEmpty || zeroB P T (zrL.getD T [])) && (List.range lvL.length).all (fun T => lvB P T (lvL.getD T []))
theorem envOf_ok {P : Program} {tyL : List TyI} {zrL : List (List SV)} {lvL : List (List Nat)} (h : envB P tyL zrL lvL = true) : EnvOK P (envOf tyL zrL lvL) := by
  simp only [envB, Bool.and_eq_true, List.all_eq_true, List.mem_range, Bool.or_eq_true, List.isEmpty_iff] at h
  obtain ⟨⟨h1, h2⟩, h3⟩ := h
  refine ⟨fun T => ?_, fun T hT => ?_, fun T => ?_⟩
  · rcases Nat.lt_or_ge T tyL.length with h' | h'
    · exact h1 T h'
    · have : (envOf tyL zrL lvL).ty T = .bad := by simp [envOf, List.getD, List.getElem?_eq_none h']
      rw [this]; rfl
  · rcases Nat.lt_or_ge T zrL.length with h' | h'
    · rcases h2 T h' with h4 | h4
      · have : (envOf tyL zrL lvL).zr T = [] := h4
        rw [this] at hT; simp at hT
      · exact h4
    · have : (envOf tyL zrL lvL).zr T = [] := by simp [envOf, List.getD, List.getElem?_eq_none h']
      rw [this] at hT; simp at hT
  · rcases Nat.lt_or_ge T lvL.length with h' | h'
    · exact h3 T h'
    · have : (envOf tyL zrL lvL).lv T = [] := by simp [envOf, List.getD, List.getElem?_eq_none h']
      rw [this]; rfl

/-- A list as a slice that nobody writes. -/
def slL {α : Type} (esz : Nat) (cells : α → List SV) (d : α) (l : List α) : SV := .sl false esz l.length fun k => cells (l.getD k d)
/-- Slices of one-cell elements. -/
def bytesS (l : List UInt8) : SV := .sl false 1 l.length fun k => [.int .u8 ((l.getD k 0).toNat : Int)]
def intsS (k : IntKind) (l : List Int) : SV := .sl false 1 l.length fun j => [.int k (l.getD j 0)]
theorem min1 : min 1 64 = 1 := rfl
theorem min7 : min 7 64 = 7 := rfl
theorem min63 : min 63 64 = 63 := rfl
theorem zero_lt (n : Nat) : 0 < n + 1 := Nat.succ_pos n
theorem i64_nat (i : Nat) (h : i < 1000000000000) : IntKind.i64.wrap (i : Int) = (i : Int) := IntWalk.i64_in _ (by omega)
theorem i64_succ (i : Nat) (h : i < 1000000000000) : IntKind.i64.wrap ((i : Int) + 1) = ((i + 1 : Nat) : Int) := by
  rw [IntWalk.i64_in _ (by omega)]; rfl
theorem rangeD {α β : Type} (f : α → β) (d : α) (l : List α) : (List.range l.length).map (fun k => f (l.getD k d)) = l.map f := by
  apply List.ext_getElem
  · simp
  · intro i h1 h2
    simp at h1
    simp [List.getD, h1]
/-- A byte, a 64-bit number and so on as cells. -/
def intC (k : IntKind) (x : Int) : List SV := [.int k x]
theorem i64_in' {x : Int} (h : -9223372036854775808 ≤ x ∧ x ≤ 9223372036854775807) : IntKind.i64.wrap x = x := IntWalk.i64_in _ h
theorem rangeI (k : IntKind) (l : List Int) : (List.range l.length).map (fun j => [SV.int k (l.getD j 0)]) = l.map (intC k) := rangeD (intC k) 0 l
theorem take_map_len {α β : Type} (f : α → β) (l : List α) : (l.map f).take l.length = l.map f := by
  rw [List.take_of_length_le (by simp)]
theorem take_map_app {α β : Type} (f : α → β) (l m : List α) : ((l ++ m).map f).take (l.length + m.length) = (l ++ m).map f := by
  rw [List.take_of_length_le (by simp)]
theorem take_map_app3 {α β : Type} (f : α → β) (l m o : List α) : ((l ++ m ++ o).map f).take (l.length + m.length + o.length) = (l ++ m ++ o).map f := by
  rw [List.take_of_length_le (by simp; omega)]
theorem row1 {h : RowH} {E e : Nat} {xs ys : List (List SV)} {B : List Own} (hh : xs = ys) : List.take [Own.row h E e ys].length (Own.row h E e xs :: B) = [Own.row h E e ys] := by
  subst hh; rfl
theorem getD_map {α β : Type} (f : α → β) (d : α) (l : List α) (k : Nat) : (l.map f).getD k (f d) = f (l.getD k d) := by
  simp only [List.getD, List.getElem?_map]
  cases l[k]? <;> rfl
theorem map_take' {α β : Type} (f : α → β) (n : Nat) (l : List α) : (l.map f).take n = (l.take n).map f := List.map_take.symm
theorem map_drop' {α β : Type} (f : α → β) (n : Nat) (l : List α) : (l.map f).drop n = (l.drop n).map f := List.map_drop.symm
theorem EC.fin {P : Program} {f : Nat} {args : List SV} {R : SV} (h : EC P f args [] fun r B' => frzKT (fromM 0) B' r ∧ SLe (frzT (fromM 0) B' r) R) : EC P f args [] fun r B => B = [] ∧ r = R := by
  have h2 : EC P f args [] fun r B => B = [] ∧ SLe r R := EC.close 0 (h.mono fun r B hq => ⟨hq.1, List.take_zero .., hq.2⟩)
  exact EC.ret (h2.mono fun r B hq => ⟨R, hq.2, hq.1, rfl⟩)
theorem fin_row {α : Type} {esz E : Nat} {h : RowH} {n : Nat} {xs : List (List SV)} {Bs : List Own} {cells : α → List SV} {d : α} {l : List α} (hx : xs = l.map cells) (hn : n = l.length) :
    frzKT (fromM 0) (.row h E esz xs :: Bs) (.row 0 h esz 0 n) ∧ SLe (frzT (fromM 0) (.row h E esz xs :: Bs) (.row 0 h esz 0 n)) (slL esz cells d l) := by
  subst hx hn
  refine ⟨⟨rfl, rfl, by simp⟩, SLe.sl (fun h => h) (.inr rfl) fun k hk => ?_⟩
  simp [List.getD, hk]
theorem fin_frz {B : List Own} {r R : SV} (hk : frzKT (fromM 0) B r) (he : SLe (frzT (fromM 0) B r) R) : frzKT (fromM 0) B r ∧ SLe (frzT (fromM 0) B r) R := ⟨hk, he⟩
/-- Where the ways of a statement meet: what holds there, for the rest of the code. -/
theorem EV_meet {σ : Type} (S : σ → Slots) (R : σ → List Own) (Inv : σ → Prop) {P : Program} {n : Nat} {c : Code} {t : Slots} {B : List Own} {K : Slots → List Own → Prop} {Q : Post}
    (hrest : ∀ s t B, Inv s → wkS t (S s) → B.take (R s).length = R s → K t B)
    (h : EV P n c t B (thenP (fun t B => ∃ s, Inv s ∧ wkS t (S s) ∧ B.take (R s).length = R s) Q)) : EV P n c t B (thenP K Q) :=
  h.mono fun e t' B' hq => by
    cases e with
    | normal => obtain ⟨s, h1, h2, h3⟩ := hq; exact hrest s t' B' h1 h2 h3
    | _ => exact hq
theorem u64_not : (if IntKind.u64.signed = true then -1 else IntKind.u64.max) = 18446744073709551615 := by decide
theorem i64_not : (if IntKind.i64.signed = true then -1 else IntKind.i64.max) = -1 := by decide
def scopeP (Q : Post) : Post
  | .goto _, _, _ => False
  | e, t, B => Q e t B
theorem EV_scope {P : Program} {n : Nat} {c : Code} {t : Slots} {B : List Own} {Q : Post} (h : EV P n c t B (scopeP Q)) : EV P n (.scope c) t B Q := by
  intro X0 w0 B0 X w a he hs
  refine wp_scope_straight (wp_mono (h X0 w0 B0 X w a he hs) fun e a' w' hg => ?_)
  obtain ⟨X', t', B', h1, h2, h3⟩ := hg
  cases e with
  | goto l => exact h1.elim
  | _ => exact ⟨X', t', B', h1, h2, h3⟩
theorem toNat_add2 (p n : Nat) : ((p : Int) + (n : Int)).toNat = p + n := by omega
/-- A call by its contract, where rows are owned. -/
theorem EC.use {P : Program} {f : Nat} {args : List SV} {B : List Own} {R : SV} {Q : SV → List Own → Prop} (h : EC P f args [] fun r B' => B' = [] ∧ r = R) (hk : Q R B) : EC P f args B Q :=
  (EC.frame h B).mono (by rintro r B' ⟨rfl, rfl⟩; exact hk)
theorem Den.reindex {X : Nat → Prop} {w : World} {i j : Nat} {h : RowH} {e lo n : Nat} {v : Value} (hd : Den X w (.row i h e lo n) v) : Den X w (.row j h e lo n) v := by
  cases hd with
  | rowVoid => exact .rowVoid ..
  | rowAt _ _ _ _ _ h => exact .rowAt _ _ _ _ _ h
  | rowLo _ _ _ _ _ _ _ hn h => exact .rowLo _ _ _ _ _ _ _ hn h
  | rowLo0 => exact .rowLo0 ..
/-- A function that makes one row, called where rows are owned. -/
theorem EC.frame1 {P : Program} {f : Nat} {args : List SV} {E e n : Nat} {xs : List (List SV)} (h : EC P f args [] fun r B' => ∃ h, B' = [.row h E e xs] ∧ r = .row 0 h e 0 n) (B : List Own) :
    EC P f args B fun r B' => ∃ h, B' = B ++ [.row h E e xs] ∧ r = .row B.length h e 0 n := by
  refine ⟨h.1, fun X w vs hs hd => ?_⟩
  have hs0 : Sat X w [] := ⟨fun i j b hi => by simp [getD', Own.blocks] at hi, fun i b hi => by simp [getD', Own.blocks] at hi, hs.xg, fun b _ ⟨i, hi⟩ => by simp [getD', Own.blocks] at hi, fun i => by simp [getD', Own.ok]⟩
  refine (h.2 X w vs hs0 hd).mono ?_
  rintro e' w' ⟨v, r, X', B', he, ⟨rh, rfl, rfl⟩, h1, h2, h3⟩
  have hno : ∀ b, ¬ owns [] b := fun b ⟨i, hi⟩ => by simp [getD', Own.blocks] at hi
  have hblk : ∀ b, b < w.heap.size → w'.heap[b]? = w.heap[b]? := fun b hb => h3.block b hb (hno b)
  have hnew : ∀ b, b ∈ (Own.row rh E e xs).blocks → w.heap.size ≤ b := fun b hb => by
    rcases h3.own b ⟨0, hb⟩ with h | h
    · exact absurd h (hno b)
    · exact h
  refine ⟨v, _, X', B ++ [.row rh E e xs], he, ⟨rh, rfl, rfl⟩, ⟨fun i j b hi hj => ?_, fun i b hi => ?_, h1.xg, fun b hb ⟨i, hi⟩ => ?_, fun i => ?_⟩, h2.reindex, ?_⟩
  · rw [getD'_push] at hi hj
    by_cases a1 : i = B.length <;> by_cases a2 : j = B.length
    · omega
    · simp only [a1, a2, if_true, if_false] at hi hj
      have := hnew b hi; have := hs.lt j b hj; omega
    · simp only [a1, a2, if_true, if_false] at hi hj
      have := hnew b hj; have := hs.lt i b hi; omega
    · simp only [a1, a2, if_false] at hi hj
      exact hs.inj i j b hi hj
  · rw [getD'_push] at hi
    by_cases a1 : i = B.length
    · simp only [a1, if_true] at hi; exact h1.lt 0 b hi
    · simp only [a1, if_false] at hi; exact Nat.lt_of_lt_of_le (hs.lt i b hi) h3.size
  · rw [getD'_push] at hi
    by_cases a1 : i = B.length
    · simp only [a1, if_true] at hi; exact h1.apart b hb ⟨0, hi⟩
    · simp only [a1, if_false] at hi
      rcases h3.xout b hb with h | h | h
      · exact hs.apart b h ⟨i, hi⟩
      · exact hno b h
      · have := hs.lt i b hi; omega
  · rw [getD'_push]
    by_cases a1 : i = B.length
    · simp only [a1, if_true]; exact h1.ok 0
    · simp only [a1, if_false]
      exact Own.ok_mono (hs.ok i) h3.xin (fun b hb => hblk b (hs.xlt b hb)) fun b hb => hblk b (hs.lt i b hb)
  · refine ⟨h3.os, h3.tape, h3.output, h3.size, fun b hb _ => hblk b hb, h3.xin, fun b hb => ?_, fun b hb => ?_⟩
    · rcases h3.xout b hb with h | h | h
      · exact .inl h
      · exact absurd h (hno b)
      · exact .inr (.inr h)
    · obtain ⟨i, hi⟩ := hb
      rw [getD'_push] at hi
      by_cases a1 : i = B.length
      · simp only [a1, if_true] at hi; exact .inr (hnew b hi)
      · simp only [a1, if_false] at hi; exact .inl ⟨i, hi⟩
theorem EC.use1 {P : Program} {f : Nat} {args : List SV} {B : List Own} {E e n : Nat} {xs : List (List SV)} {Q : SV → List Own → Prop} (h : EC P f args [] fun r B' => ∃ h, B' = [.row h E e xs] ∧ r = .row 0 h e 0 n)
    (hk : ∀ h, Q (.row B.length h e 0 n) (B ++ [.row h E e xs])) : EC P f args B Q :=
  (EC.frame1 h B).mono (by rintro r B' ⟨h, rfl, rfl⟩; exact hk h)
/-- At its end a function keeps its first row alone, and returns it. -/
theorem EC.fin1 {P : Program} {f : Nat} {args : List SV} {E e n : Nat} {xs : List (List SV)} (h : EC P f args [] fun r B' => ∃ h Bs, B' = .row h E e xs :: Bs ∧ r = .row 0 h e 0 n) :
    EC P f args [] fun r B' => ∃ h, B' = [.row h E e xs] ∧ r = .row 0 h e 0 n :=
  EC.close 1 (h.mono (by rintro r B' ⟨h, Bs, rfl, rfl⟩; exact ⟨trivial, h, rfl, rfl⟩))
theorem fin1_row {h : RowH} {E e n m : Nat} {xs ys : List (List SV)} {Bs : List Own} (hx : xs = ys) (hn : n = m) : ∃ h' Bs', Own.row h E e xs :: Bs = .row h' E e ys :: Bs' ∧ SV.row 0 h e 0 n = .row 0 h' e 0 m :=
  ⟨h, Bs, by rw [hx], by rw [hn]⟩
theorem range_slice {α β : Type} (f : α → β) (d : α) (l : List α) (p n : Nat) (h : p + n ≤ l.length) : (List.range n).map (fun k => f (l.getD (p + k) d)) = ((l.drop p).take n).map f := by
  apply List.ext_getElem
  · simp; omega
  · intro i h1 h2
    simp at h1
    have : p + i < l.length := by omega
    simp [List.getD, this]
theorem sle_row {α : Type} {e n : Nat} {xs : List (List SV)} {cells : α → List SV} {d : α} {l : List α} (hx : xs = l.map cells) (hn : n = l.length) :
    SLe (.sl false e n fun k => xs.getD (0 + k) []) (slL e cells d l) := by
  subst hx hn
  refine SLe.sl (fun h => h) (.inr rfl) fun k hk => ?_
  simp [List.getD, hk]
theorem SLe.of_eq {s s' : SV} (h : s = s') : SLe s s' := h ▸ SLe.refl s
theorem fin_bool {B : List Own} {p q : Bool} (h : p = q) : frzKT (fromM 0) B (.bool p) ∧ SLe (frzT (fromM 0) B (.bool p)) (.bool q) := ⟨trivial, SLe.of_eq (congrArg SV.bool h)⟩
theorem isBytes (x : List Int) : (∀ y, y ∈ List.map (intC .u8) x → isByte y = true) = True :=
  eq_true fun y hy => by obtain ⟨z, _, rfl⟩ := List.mem_map.1 hy; rfl
/-- Giving memory up inside a function. -/
theorem EV_frz {P : Program} {n : Nat} {c : Code} {t t' : Slots} {B : List Own} {Q : Post} (m : Nat) (ht : ∀ i, lkp t' i = .any ∨ (frzKT (fromM m) B (lkp t i) ∧ SLe (frzT (fromM m) B (lkp t i)) (lkp t' i))) (h : EV P n c t' (B.take m) Q) : EV P n c t B Q := by
  have hb : ∀ i, getD' (B.take m) i = if fromM m i then .gone else getD' B i := fun i => by
    rw [getD'_take]
    by_cases hi : i < m
    · have : fromM m i = false := by simp [fromM]; omega
      simp [hi, this]
    · have : fromM m i = true := by simp [fromM]; omega
      simp [hi, this]
  intro X0 w0 B0 X w a he hs
  refine h X0 w0 B0 (withSel X B (fromM m)) w a (he.trans (Ext.drop_sel hb)) ⟨hs.defers, hs.sat.drop_sel hb, hs.den.1, fun i => ?_⟩
  rcases ht i with h1 | ⟨h1, h2⟩
  · rw [h1]; exact .any _
  · exact h2 _ _ _ (frzT_sound hs.sat (hs.den.2 i) h1)
def wkF (m : Nat) (B : List Own) (t : Slots) : Slots → Prop
  | [] => True
  | (i, v) :: r => (frzKT (fromM m) B (lkp t i) ∧ SLe (frzT (fromM m) B (lkp t i)) v) ∧ wkF m B t r
theorem wkF_spec {m : Nat} {B : List Own} {t : Slots} : ∀ {t' : Slots}, wkF m B t t' → ∀ i, lkp t' i = .any ∨ (frzKT (fromM m) B (lkp t i) ∧ SLe (frzT (fromM m) B (lkp t i)) (lkp t' i))
  | [], _, i => .inl rfl
  | (j, v) :: r, h, i => by
    by_cases hj : j = i
    · subst hj
      right
      have : lkp ((j, v) :: r) j = v := by simp [lkp]
      rw [this]; exact h.1
    · have : lkp ((j, v) :: r) i = lkp r i := by simp [lkp, Ne.symm hj]
      rw [this]; exact wkF_spec h.2 i
theorem EV_freeze {P : Program} {n : Nat} {c : Code} {t : Slots} {B : List Own} {Q : Post} (m : Nat) (t' : Slots) (ht : wkF m B t t') (h : EV P n c t' (B.take m) Q) : EV P n c t B Q := EV_frz m (wkF_spec ht) h
/-- Arguments that are owned rows are given up to the callee, for reading. -/
inductive LFz (m : Nat) (B : List Own) : List SV → List SV → Prop where
  | nil : LFz m B [] []
  | cons {s s' : SV} {l l' : List SV} (hk : frzKT (fromM m) B s) (h : SLe (frzT (fromM m) B s) s') (hr : LFz m B l l') : LFz m B (s :: l) (s' :: l')
theorem LFz.spec {m : Nat} {B : List Own} {l l' : List SV} (h : LFz m B l l') : l.length = l'.length ∧ ∀ (i : Nat) (c : SV), l'[i]? = some c → ∃ d, l[i]? = some d ∧ frzKT (fromM m) B d ∧ SLe (frzT (fromM m) B d) c := by
  induction h with
  | nil => exact ⟨rfl, fun i c h => by simp at h⟩
  | cons hk h _ ih =>
    refine ⟨by simp [ih.1], fun i c hc => ?_⟩
    cases i with
    | zero => simp at hc; subst hc; exact ⟨_, rfl, hk, h⟩
    | succ i => simpa using ih.2 i c (by simpa using hc)
theorem EC.give {P : Program} {f : Nat} {args args' : List SV} {B : List Own} {Q : SV → List Own → Prop} (m : Nat) (ha : LFz m B args args') (h : EC P f args' (B.take m) Q) : EC P f args B Q := by
  have hb : ∀ i, getD' (B.take m) i = if fromM m i then .gone else getD' B i := fun i => by
    rw [getD'_take]
    by_cases hi : i < m
    · have : fromM m i = false := by simp [fromM]; omega
      simp [hi, this]
    · have : fromM m i = true := by simp [fromM]; omega
      simp [hi, this]
  refine ⟨h.1, fun X w vs hs hd => ?_⟩
  have hsp := ha.spec
  refine (h.2 (withSel X B (fromM m)) w vs (hs.drop_sel hb) ⟨by rw [hd.1, hsp.1], fun i c hc => ?_⟩).mono ?_
  · obtain ⟨d, h1, h2, h3⟩ := hsp.2 i c hc
    exact h3 _ _ _ (frzT_sound hs (hd.2 i d h1) h2)
  · rintro e w' ⟨v, r, X', B', he, hq, h1, h2, h3⟩
    exact ⟨v, r, X', B', he, hq, h1, h2, (Ext.drop_sel hb).trans h3⟩
end Go.Lift
