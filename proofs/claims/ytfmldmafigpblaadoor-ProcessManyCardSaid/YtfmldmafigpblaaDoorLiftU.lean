/-
  Lists as slices, typed cells: small laws for the evaluator's terms.
-/
import Derived.Test.YtfmldmafigpblaaDoorLiftT
namespace Go.Lift
def boolC (b : Bool) : List SV := [.bool b]
def strC (s : List UInt8) : List SV := [.str s]
/-- The cells of the element at a place of a list. -/
def elt {α : Type} (c : α → List SV) (d : α) (l : List α) (k : Nat) : List SV := c (l.getD k d)
section
variable {α : Type} {c : α → List SV} {d : α} {l : List α}
theorem slL_elt {e : Nat} : slL e c d l = .sl false e l.length (elt c d l) := rfl
theorem elt_at (k : Nat) : elt c d l k = c (l.getD k d) := rfl
theorem range_elt : (List.range l.length).map (elt c d l) = l.map c := rangeD c d l
theorem getD_past {k : Nat} (h : l.length ≤ k) : l.getD k d = d := by simp [List.getD, List.getElem?_eq_none h]
theorem elt_nil : (fun _ => []) = elt (fun _ : Nat => []) 0 [] := rfl
theorem sub_elt {fl : Bool} {e lo hi : Nat} (h : hi ≤ l.length) : SV.sl fl e (hi - lo) (sub (elt c d l) l.length lo (hi - lo)) = .sl fl e ((l.take hi).drop lo).length (elt c d ((l.take hi).drop lo)) := by
  have e1 : ((l.take hi).drop lo).length = hi - lo := by simp; omega
  rw [e1]
  congr 1
  funext k
  simp only [sub, elt]
  split
  · rename_i hk
    congr 1
    simp only [List.getD, List.getElem?_drop, List.getElem?_take]
    rw [if_pos (by omega)]
  · rename_i hk
    rw [getD_past (Nat.le_refl _), getD_past (by rw [e1]; omega)]
theorem sub_elt0 {fl : Bool} {e hi : Nat} (h : hi ≤ l.length) : SV.sl fl e hi (sub (elt c d l) l.length 0 hi) = .sl fl e (l.take hi).length (elt c d (l.take hi)) := by
  have := sub_elt (c := c) (d := d) (fl := fl) (e := e) (lo := 0) h
  simpa using this
theorem sub_eltD {fl : Bool} {e lo : Nat} : SV.sl fl e (l.length - lo) (sub (elt c d l) l.length lo (l.length - lo)) = .sl fl e (l.drop lo).length (elt c d (l.drop lo)) := by
  have e1 : (l.drop lo).length = l.length - lo := by simp
  rw [e1]
  congr 1
  funext k
  simp only [sub, elt]
  split
  · rename_i hk
    congr 1
    simp only [List.getD, List.getElem?_drop]
  · rename_i hk
    rw [getD_past (Nat.le_refl _), getD_past (by rw [e1]; omega)]
theorem sub_elt_all {fl : Bool} {e : Nat} : SV.sl fl e l.length (sub (elt c d l) l.length 0 l.length) = .sl fl e l.length (elt c d l) := by
  have := sub_elt0 (c := c) (d := d) (fl := fl) (e := e) (Nat.le_refl l.length)
  simpa using this
theorem map_snoc (y : α) : l.map c ++ [c y] = (l ++ [y]).map c := by simp
theorem map_app2 (m : List α) : l.map c ++ m.map c = (l ++ m).map c := by simp
theorem map_set2 (k : Nat) (y : α) : (l.map c).set k (c y) = (l.set k y).map c := by simp
theorem entsOf_mC (k1 k2 : IntKind) (M : List (Int × Int)) : entsOf (M.map (mC k1 k2)) = M := by
  simp only [entsOf, List.map_map]
  induction M with
  | nil => rfl
  | cons a r ih => rw [List.map_cons, ih]; rfl
theorem solids_map (h : ∀ x, solids (c x) = true) : (∀ y, y ∈ l.map c → solids y = true) = True :=
  eq_true fun y hy => by obtain ⟨z, _, rfl⟩ := List.mem_map.1 hy; exact h z
theorem solids_elt (h : ∀ x, solids (c x) = true) (n : Nat) : (∀ k, k < n → solids (elt c d l k) = true) = True := eq_true fun _ _ => h _
end
theorem getD_map2 {α : Type} [Inhabited α] {c : α → List SV} {l : List α} {k : Nat} (h : k < l.length) : (l.map c).getD k [] = c (l.getD k default) := by
  simp [List.getD, h]
theorem map_snocI (k : IntKind) (l : List Int) (x : Int) : l.map (intC k) ++ [[.int k x]] = (l ++ [x]).map (intC k) := by simp [intC]
theorem map_setI (k : IntKind) (l : List Int) (i : Nat) (x : Int) : (l.map (intC k)).set i [.int k x] = (l.set i x).map (intC k) := by simp [intC]
theorem map_snocS (l : List (List UInt8)) (x : List UInt8) : l.map strC ++ [[.str x]] = (l ++ [x]).map strC := by simp [strC]
theorem intC_len (k : IntKind) (x : Int) : (intC k x).length = 1 := rfl
theorem intC_g (k : IntKind) (x : Int) (d : SV) : (intC k x).getD 0 d = .int k x := rfl
theorem intC_p (k : IntKind) (x y : Int) : putL (intC k x) 0 [.int k y] = intC k y := rfl
theorem intC_sol (k : IntKind) (x : Int) : solids (intC k x) = true := rfl
theorem intC_fold (k : IntKind) (x : Int) : [SV.int k x] = intC k x := rfl
theorem strC_len (x : List UInt8) : (strC x).length = 1 := rfl
theorem strC_g (x : List UInt8) (d : SV) : (strC x).getD 0 d = .str x := rfl
theorem strC_sol (x : List UInt8) : solids (strC x) = true := rfl
theorem boolC_len (x : Bool) : (boolC x).length = 1 := rfl
theorem boolC_g (x : Bool) (d : SV) : (boolC x).getD 0 d = .bool x := rfl
theorem boolC_sol (x : Bool) : solids (boolC x) = true := rfl
theorem bif_and (a b : Bool) : (bif a then b else false) = (a && b) := by cases a <;> rfl
theorem bif_or (a b : Bool) : (bif a then true else b) = (a || b) := by cases a <;> rfl
theorem beq_f (b : Bool) : (b == false) = !b := by cases b <;> rfl
theorem beq_t (b : Bool) : (b == true) = b := by cases b <;> rfl
theorem drop_getD {α : Type} (l : List α) (o j : Nat) (d : α) : (l.drop o).getD j d = l.getD (o + j) d := by simp [List.getD, List.getElem?_drop]
/-! Parts of replaced cells. -/
theorem putL_get1 (cs : List SV) (o i : Nat) (v d : SV) : (putL cs o [v]).getD i d = if i = o ∧ o < cs.length then v else cs.getD i d := by
  simp only [putL, List.getD_eq_getElem?_getD, List.getElem?_set]
  by_cases h : o = i
  · subst h
    by_cases h2 : o < cs.length
    · simp [h2]
    · simp [h2]
  · rw [if_neg h, if_neg (by omega)]
theorem putL_getE (ys cs : List SV) (o i : Nat) : (putL cs o ys)[i]? = if o ≤ i ∧ i < o + ys.length ∧ i < cs.length then ys[i - o]? else cs[i]? := by
  induction ys generalizing cs o with
  | nil => simp [putL]; intro h1 h2; omega
  | cons y r ih =>
    simp only [putL, ih, List.length_set, List.length_cons, List.getElem?_set]
    by_cases h : o = i
    · subst h
      rw [if_neg (by omega)]
      by_cases h2 : o < cs.length
      · simp [h2]
      · simp only [h2, if_true, if_false, and_false]
        rw [List.getElem?_eq_none (by omega)]
    · rw [if_neg h]
      by_cases h3 : o + 1 ≤ i ∧ i < o + 1 + r.length ∧ i < cs.length
      · rw [if_pos h3, if_pos (by omega)]
        have : i - o = (i - (o + 1)) + 1 := by omega
        rw [this, List.getElem?_cons_succ]
      · rw [if_neg h3, if_neg (by omega)]
theorem putL_app {cs ys r : List SV} {o : Nat} (h : o + ys.length ≤ cs.length) (e : cs.take o ++ (ys ++ cs.drop (o + ys.length)) = r) : putL cs o ys = r := by
  rw [← e]
  apply List.ext_getElem?
  intro i
  rw [putL_getE]
  by_cases h1 : i < o
  · rw [if_neg (by omega), List.getElem?_append_left (by simp; omega)]
    simp [h1]
  · by_cases h2 : i < o + ys.length
    · rw [if_pos (by omega), List.getElem?_append_right (by simp; omega), List.getElem?_append_left (by simp; omega)]
      congr 1; simp; omega
    · rw [if_neg (by omega), List.getElem?_append_right (by simp; omega), List.getElem?_append_right (by simp; omega)]
      simp only [List.length_take, List.getElem?_drop]
      congr 1; omega
theorem putL_getN (cs ys : List SV) (o i : Nat) (d : SV) (h : i < o ∨ o + ys.length ≤ i) : (putL cs o ys).getD i d = cs.getD i d := by
  rw [List.getD_eq_getElem?_getD, List.getD_eq_getElem?_getD, putL_getE, if_neg (by omega)]
theorem putL_getY (cs ys : List SV) (o i : Nat) (d : SV) (h : o ≤ i ∧ i < o + ys.length ∧ o + ys.length ≤ cs.length) : (putL cs o ys).getD i d = ys.getD (i - o) d := by
  rw [List.getD_eq_getElem?_getD, List.getD_eq_getElem?_getD, putL_getE, if_pos (by omega)]
theorem putL_partN (cs ys : List SV) (o a n : Nat) (h : o + ys.length ≤ a ∨ a + n ≤ o) : ((putL cs o ys).drop a).take n = (cs.drop a).take n := by
  apply List.ext_getElem?
  intro i
  simp only [List.getElem?_take, List.getElem?_drop]
  split
  · rw [putL_getE, if_neg (by omega)]
  · rfl
theorem putL_partY (cs ys : List SV) (o a n : Nat) (h : a ≤ o ∧ o + ys.length ≤ a + n ∧ o + ys.length ≤ cs.length) : ((putL cs o ys).drop a).take n = putL ((cs.drop a).take n) (o - a) ys := by
  apply List.ext_getElem?
  intro i
  simp only [List.getElem?_take, List.getElem?_drop, putL_getE, List.length_take, List.length_drop]
  by_cases hi : i < n
  · rw [if_pos hi, if_pos hi]
    by_cases h2 : o ≤ a + i ∧ a + i < o + ys.length ∧ a + i < cs.length
    · rw [if_pos h2, if_pos (by omega)]
      congr 1; omega
    · rw [if_neg h2, if_neg (by omega)]
  · rw [if_neg hi, if_neg hi, if_neg (by omega)]
theorem putL_takeY (cs ys : List SV) (o n : Nat) (h : o + ys.length ≤ n ∧ o + ys.length ≤ cs.length) : (putL cs o ys).take n = putL (cs.take n) o ys := by
  have := putL_partY cs ys o 0 n (by omega)
  simpa using this
theorem putL_takeN (cs ys : List SV) (o n : Nat) (h : n ≤ o) : (putL cs o ys).take n = cs.take n := by
  have := putL_partN cs ys o 0 n (by omega)
  simpa using this
theorem putL_one (a b : SV) : putL [a] 0 [b] = [b] := rfl
theorem putL_same (cs : List SV) (o : Nat) (a b : SV) : putL (putL cs o [a]) o [b] = putL cs o [b] := by simp [putL]
theorem solids_getE : ∀ {l : List SV}, solids l = true ↔ ∀ (i : Nat) (s : SV), l[i]? = some s → s.solid = true
  | [] => by simp [solids]
  | a :: l => by
    simp only [solids, Bool.and_eq_true, solids_getE (l := l)]
    constructor
    · rintro ⟨h1, h2⟩ i s h
      cases i with
      | zero => simp at h; subst h; exact h1
      | succ i => exact h2 i s (by simpa using h)
    · intro h
      exact ⟨h 0 a rfl, fun i s hs => h (i + 1) s (by simpa using hs)⟩
theorem putL_sol (cs ys : List SV) (o : Nat) (h : solids cs = true) (h2 : solids ys = true) : solids (putL cs o ys) = true := by
  rw [solids_getE] at h h2 ⊢
  intro i s hs
  rw [putL_getE] at hs
  split at hs
  · exact h2 _ _ hs
  · exact h _ _ hs
theorem LLe.getE {l l' : List SV} (h : LLe l l') : l.length = l'.length ∧ ∀ (i : Nat) (a b : SV), l[i]? = some a → l'[i]? = some b → SLe a b := by
  induction h with
  | nil => exact ⟨rfl, by simp⟩
  | cons h _ ih =>
    refine ⟨by simp [ih.1], fun i a b ha hb => ?_⟩
    cases i with
    | zero => simp at ha hb; subst ha hb; exact h
    | succ i => exact ih.2 i a b (by simpa using ha) (by simpa using hb)
theorem LLe.ofE : ∀ {l l' : List SV}, l.length = l'.length → (∀ (i : Nat) (a b : SV), l[i]? = some a → l'[i]? = some b → SLe a b) → LLe l l'
  | [], [], _, _ => .nil
  | [], _ :: _, h, _ => by simp at h
  | _ :: _, [], h, _ => by simp at h
  | a :: l, b :: l', h, hh => .cons (hh 0 a b rfl rfl) (LLe.ofE (by simpa using h) fun i a b ha hb => hh (i + 1) a b (by simpa using ha) (by simpa using hb))
theorem LLe.puts {cs ds vs ws r : List SV} (h : LLe cs ds) (j : Nat) (hv : LLe vs ws) (e : putL ds j ws = r) : LLe (putL cs j vs) r := by
  subst e
  obtain ⟨h1, h2⟩ := h.getE
  obtain ⟨h3, h4⟩ := hv.getE
  refine .ofE (by simp [putL_length, h1]) fun i a b ha hb => ?_
  rw [putL_getE] at ha hb
  by_cases hc : j ≤ i ∧ i < j + vs.length ∧ i < cs.length
  · rw [if_pos hc] at ha
    rw [if_pos (by omega)] at hb
    exact h4 _ _ _ ha hb
  · rw [if_neg hc] at ha
    rw [if_neg (by omega)] at hb
    exact h2 _ _ _ ha hb
theorem LLe.put {cs ds r : List SV} {s s' : SV} (h : LLe cs ds) (j : Nat) (hs : SLe s s') (e : putL ds j [s'] = r) : LLe (putL cs j [s]) r := h.puts j (.cons hs .nil) e
theorem LLe.of_eq {a b : List SV} (h : a = b) : LLe a b := h ▸ LLe.refl _
theorem sle_nilL {α : Type} {e e' : Nat} {fl : Bool} {cells : α → List SV} {d : α} {f : Nat → List SV} : SLe (.sl fl e' 0 f) (slL e cells d []) := by
  intro X w v h
  cases h with
  | slNil hf => exact .slNil (by simp)
  | slAt g hn => exact absurd hn (Nat.lt_irrefl 0)
theorem sle_row0 {α : Type} {e n : Nat} {xs : List (List SV)} {cells : α → List SV} {d : α} {l : List α} (hx : xs = l.map cells) (hn : n = l.length) :
    SLe (.sl false e n fun k => xs.getD (0 + k) []) (slL e cells d l) := sle_row hx hn
theorem frzL_put (sel : Nat → Bool) (B : List Own) (cs ys : List SV) (o : Nat) : frzL sel B (putL cs o ys) = putL (frzL sel B cs) o (frzL sel B ys) := by
  have hl : ∀ l : List SV, (frzL sel B l).length = l.length := by intro l; induction l with | nil => rfl | cons a l ih => simp [frzL, ih]
  have hg : ∀ (l : List SV) (i : Nat), (frzL sel B l)[i]? = (l[i]?).map (frzC sel B) := by
    intro l
    induction l with
    | nil => simp [frzL]
    | cons a l ih => intro i; cases i <;> simp [frzL, ih]
  apply List.ext_getElem?
  intro i
  simp only [hg, putL_getE, hl]
  split <;> rfl
theorem frzKL_put (sel : Nat → Bool) (B : List Own) (cs ys : List SV) (o : Nat) (h : frzKL sel B cs) (h2 : frzKL sel B ys) : frzKL sel B (putL cs o ys) := by
  have hg : ∀ (l : List SV), frzKL sel B l ↔ ∀ (i : Nat) (s : SV), l[i]? = some s → frzKC sel B s := by
    intro l
    induction l with
    | nil => simp [frzKL]
    | cons a l ih =>
      simp only [frzKL, ih]
      constructor
      · rintro ⟨h1, h2⟩ i s h
        cases i with
        | zero => simp at h; subst h; exact h1
        | succ i => exact h2 i s (by simpa using h)
      · intro h
        exact ⟨h 0 a rfl, fun i s hs => h (i + 1) s (by simpa using hs)⟩
  rw [hg] at h h2 ⊢
  intro i s hs
  rw [putL_getE] at hs
  split at hs
  · exact h2 _ _ hs
  · exact h _ _ hs
/-- A row's number does not matter to what a value means. -/
theorem SLe.rptr {i j : Nat} {h : RowH} {e k o : Nat} : SLe (.rptr i h e k o) (.rptr j h e k o) := fun _ _ _ hd => by cases hd; exact .rptr ..
theorem SLe.row {i j : Nat} {h : RowH} {e lo n : Nat} : SLe (.row i h e lo n) (.row j h e lo n) := fun _ _ _ hd => hd.reindex
theorem getD'_one {o : Own} {i : Nat} : getD' [o] i = if i = 0 then o else .gone := by cases i <;> simp [getD']
/-- A call that needs one row alone, where others are owned. -/
theorem EC.at {P : Program} {f : Nat} {args args' : List SV} {B : List Own} {i : Nat} {h : RowH} {E e : Nat} {xs : List (List SV)} {Q : SV → List Own → Prop} (hc : EC P f args [.row h E e xs] Q)
    (hi : getD' B i = .row h E e xs) (ha : LLe args' args) (hq : ∀ r N, Q r N → ∃ o, N = [o]) : EC P f args' B (fun r B' => ∃ o, Q r [o] ∧ B' = B.set i o) := by
  refine ⟨hc.1, fun X w vs hs hd => ?_⟩
  have hil : i < B.length := getD'_lt hi
  have hs1 : Sat X w [.row h E e xs] := by
    refine ⟨fun a b c h1 h2 => ?_, fun a b h1 => ?_, hs.xg, fun b hx ⟨a, h1⟩ => ?_, fun a => ?_⟩
    · rw [getD'_one] at h1 h2
      split at h1 <;> split at h2 <;> simp_all [Own.blocks]
    · rw [getD'_one] at h1
      split at h1
      · exact hs.lt i b (by rw [hi]; exact h1)
      · simp [Own.blocks] at h1
    · rw [getD'_one] at h1
      split at h1
      · exact hs.apart b hx ⟨i, by rw [hi]; exact h1⟩
      · simp [Own.blocks] at h1
    · rw [getD'_one]
      split
      · rw [← hi]; exact hs.ok i
      · trivial
  obtain ⟨l1, l2⟩ := ha.spec
  refine (hc.2 X w vs hs1 ⟨by rw [hd.1, l1], fun j c hj => ?_⟩).mono ?_
  · obtain ⟨d, hd1, hd2⟩ := l2 j c hj
    exact hd2 _ _ _ (hd.2 j d hd1)
  rintro ex w' ⟨v, r, X', N, rfl, hQ, hsat, hden, hext⟩
  obtain ⟨o, rfl⟩ := hq r N hQ
  have own1 : ∀ b, owns [Own.row h E e xs] b → b ∈ (getD' B i).blocks := by
    rintro b ⟨a, h1⟩
    rw [getD'_one] at h1
    split at h1
    · rw [hi]; exact h1
    · simp [Own.blocks] at h1
  have oldN : ∀ a b, a ≠ i → b ∈ (getD' B a).blocks → ¬ owns [Own.row h E e xs] b := fun a b hne hb ho => hne (hs.inj a i b hb (own1 b ho))
  have newo : ∀ b, b ∈ o.blocks → owns [Own.row h E e xs] b ∨ w.heap.size ≤ b := fun b hb => hext.own b ⟨0, by simpa [getD'] using hb⟩
  refine ⟨v, r, X', B.set i o, rfl, ⟨o, hQ, rfl⟩, ⟨fun a b c h1 h2 => ?_, fun a b h1 => ?_, hsat.xg, fun b hx ⟨a, h1⟩ => ?_, fun a => ?_⟩, hden, ⟨hext.os, hext.tape, hext.output, hext.size, fun b hb hno => hext.block b hb fun ho => hno ⟨i, own1 b ho⟩, hext.xin, fun b hb => (hext.xout b hb).imp_right fun h => h.imp_left fun ho => ⟨i, own1 b ho⟩, fun b hb => ?_⟩⟩
  · rw [getD'_set hil] at h1 h2
    split at h1 <;> split at h2
    · omega
    · rcases newo c h1 with h | h
      · exact absurd h (oldN b c (by assumption) h2)
      · have := hs.lt b c h2; omega
    · rcases newo c h2 with h | h
      · exact absurd h (oldN a c (by assumption) h1)
      · have := hs.lt a c h1; omega
    · exact hs.inj a b c h1 h2
  · rw [getD'_set hil] at h1
    split at h1
    · exact hsat.lt 0 b (by simpa [getD'] using h1)
    · exact Nat.lt_of_lt_of_le (hs.lt a b h1) hext.size
  · rw [getD'_set hil] at h1
    split at h1
    · exact hsat.apart b hx ⟨0, by simpa [getD'] using h1⟩
    · rcases hext.xout b hx with h | h | h
      · exact hs.apart b h ⟨a, h1⟩
      · exact oldN a b (by assumption) h1 h
      · have := hs.lt a b h1; omega
  · rw [getD'_set hil]
    split
    · simpa [getD'] using hsat.ok 0
    · rename_i hne
      exact Own.ok_mono (hs.ok a) hext.xin (fun b hb => hext.block b (hs.xlt b hb) fun ho => hs.apart b hb ⟨i, own1 b ho⟩) fun b hb => hext.block b (hs.lt a b hb) (oldN a b hne hb)
  · obtain ⟨a, h1⟩ := hb
    rw [getD'_set hil] at h1
    split at h1
    · rcases newo b h1 with h | h
      · exact .inl ⟨i, own1 b h⟩
      · exact .inr h
    · exact .inl ⟨a, h1⟩
theorem EC.useAt {P : Program} {f : Nat} {args args' : List SV} {B : List Own} (i : Nat) {h : RowH} {E e : Nat} {xs xs' : List (List SV)} {R : SV} {Q : SV → List Own → Prop}
    (hc : EC P f args [.row h E e xs] fun r N => r = R ∧ N = [.row h E e xs']) (hi : getD' B i = .row h E e xs) (ha : LLe args' args) (hk : Q R (B.set i (.row h E e xs'))) : EC P f args' B Q :=
  (EC.at hc hi ha fun _ _ hq => ⟨_, hq.2⟩).mono (by rintro r B' ⟨o, ⟨rfl, ho⟩, rfl⟩; cases ho; exact hk)
/-- A call by its contract, with arguments that are described otherwise. -/
theorem EC.uses {P : Program} {f : Nat} {args args' : List SV} {B : List Own} {R : SV} {Q : SV → List Own → Prop} (h : EC P f args' [] fun r B' => B' = [] ∧ r = R) (ha : LLe args args') (hk : Q R B) : EC P f args B Q :=
  EC.args ha (EC.use h hk)
end Go.Lift
