/-
  Comparison of structs and arrays; arithmetic; picks.
-/
import Derived.Test.YtfmldmafigpblaaDoorLiftI
namespace Go.Lift

def leavesF (P : Program) (g : TypeId → Option (List Nat)) : Nat → List Field → Option (List Nat)
  | _, [] => some []
  | o, f :: r => if f.name != "_" && f.offset == o then
      match g f.type with
      | some l => if sizeB P f.type l.length && l.length != 0 then (leavesF P g (o + l.length) r).map (l ++ ·) else none
      | none => none
    else none
def leaves (P : Program) : Nat → TypeId → Option (List Nat)
  | 0, _ => none
  | d + 1, T => match P.underlying T with
    | some .bool => some [0]
    | some (.int _) => some [1]
    | some .string => some [2]
    | some (.struct F) => if P.stoodInHeld T then none else leavesF P (leaves P d) 0 F.toList
    | some (.array n E) => match leaves P d E with
      | some l => if sizeB P E l.length && l.length != 0 then some (List.replicate n l).flatten else none
      | none => none
    | _ => none

def fit : Nat → Value → Value → Prop
  | 0, .bool _, .bool _ => True
  | 1, .int k _, .int k' _ => k = k'
  | 2, .string _, .string _ => True
  | _, _, _ => False
def veq : Value → Value → Bool
  | .bool a, .bool b => a == b
  | .int _ a, .int _ b => a == b
  | .string a, .string b => a.toList == b.toList
  | _, _ => false
def eqAt : List Nat → Nat → Array Value → Array Value → Bool
  | [], _, _, _ => true
  | _ :: r, o, xs, ys => veq (xs.getD o undef) (ys.getD o undef) && eqAt r (o + 1) xs ys
def fits (ks : List Nat) (o : Nat) (xs ys : Array Value) : Prop := ∀ (i k : Nat), ks[i]? = some k → fit k (xs.getD (o + i) undef) (ys.getD (o + i) undef)

theorem eqAt_append : ∀ (a b : List Nat) (o : Nat) (xs ys : Array Value), eqAt (a ++ b) o xs ys = (eqAt a o xs ys && eqAt b (o + a.length) xs ys)
  | [], b, o, xs, ys => by simp [eqAt]
  | k :: a, b, o, xs, ys => by
    simp only [List.cons_append, eqAt, eqAt_append a b (o + 1) xs ys, List.length_cons, Bool.and_assoc]
    congr 3; omega
theorem fit_lt {k i : Nat} {xs ys : Array Value} (h : fit k (xs.getD i undef) (ys.getD i undef)) : i < xs.size ∧ i < ys.size := by
  constructor
  · rcases Nat.lt_or_ge i xs.size with h' | h'
    · exact h'
    · have : xs.getD i undef = undef := by simp [Array.getD_eq_getD_getElem?, Array.getElem?_eq_none h']
      rw [this] at h; unfold fit undef at h; split at h <;> simp_all
  · rcases Nat.lt_or_ge i ys.size with h' | h'
    · exact h'
    · have : ys.getD i undef = undef := by simp [Array.getD_eq_getD_getElem?, Array.getElem?_eq_none h']
      rw [this] at h; unfold fit undef at h; split at h <;> simp_all
theorem fits_size {ks : List Nat} {o : Nat} {xs ys : Array Value} (h : fits ks o xs ys) (h0 : ks ≠ []) : o + ks.length ≤ xs.size ∧ o + ks.length ≤ ys.size := by
  have hp : 0 < ks.length := List.length_pos_iff.2 h0
  have hl : ks[ks.length - 1]? = some (ks.getD (ks.length - 1) 0) := get?_of_lt 0 (by omega)
  have := fit_lt (h _ _ hl)
  omega
theorem fits_left {a b : List Nat} {o : Nat} {xs ys : Array Value} (h : fits (a ++ b) o xs ys) : fits a o xs ys := fun i k hk => by
  refine h i k ?_
  have : i < a.length := by
    rcases Nat.lt_or_ge i a.length with h' | h'
    · exact h'
    · rw [List.getElem?_eq_none h'] at hk; cases hk
  rw [List.getElem?_append_left this]; exact hk
theorem fits_right {a b : List Nat} {o : Nat} {xs ys : Array Value} (h : fits (a ++ b) o xs ys) : fits b (o + a.length) xs ys := fun i k hk => by
  have := h (a.length + i) k (by rw [List.getElem?_append_right (by omega)]; simpa using hk)
  rw [Nat.add_assoc]; exact this
theorem getD_extract {xs : Array Value} {o n i : Nat} (hi : i < n) (hs : o + n ≤ xs.size) : (xs.extract o (o + n)).getD i undef = xs.getD (o + i) undef := by
  simp [Array.getD_eq_getD_getElem?, Array.getElem?_extract]
  rw [if_pos (by omega)]
theorem eqAt_extract : ∀ (ks : List Nat) (i o n : Nat) (xs ys : Array Value), o + n ≤ xs.size → o + n ≤ ys.size → i + ks.length ≤ n → eqAt ks i (xs.extract o (o + n)) (ys.extract o (o + n)) = eqAt ks (o + i) xs ys
  | [], _, _, _, _, _, _, _, _ => rfl
  | k :: ks, i, o, n, xs, ys, h1, h2, h3 => by
    simp only [List.length_cons] at h3
    simp only [eqAt]
    rw [getD_extract (by omega) h1, getD_extract (by omega) h2, eqAt_extract ks (i + 1) o n xs ys h1 h2 (by omega)]
    rfl

section
variable {P : Program}

theorem eq_leaves : ∀ (d : Nat) (T : TypeId) (ks : List Nat), leaves P d T = some ks → ∀ fuel, d ≤ fuel → ∀ (w : World),
    (aggB P T = true → ∀ (xs ys : Array Value), fits ks 0 xs ys → (Op.equalIn fuel T (.agg xs) (.agg ys)).run P w = .ok (eqAt ks 0 xs ys) w) ∧
    (aggB P T = false → ∃ k, ks = [k] ∧ ∀ (u v : Value), fit k u v → (Op.equalIn fuel T u v).run P w = .ok (veq u v) w)
  | 0, _, _, h, _, _, _ => by simp [leaves] at h
  | d + 1, T, ks, h, 0, hf, _ => by omega
  | d + 1, T, ks, h, fuel + 1, hf, w => by
    simp only [leaves] at h
    -- a part of an aggregate
    have part : ∀ (T : TypeId) (l : List Nat), leaves P d T = some l → sizeB P T l.length = true → ∀ (xs ys : Array Value) (o : Nat) (w : World), fits l o xs ys → l ≠ [] →
        ∃ u v, (part T xs o).run P w = .ok u w ∧ (part T ys o).run P w = .ok v w ∧ (Op.equalIn fuel T u v).run P w = .ok (eqAt l o xs ys) w := by
      intro T l hl hs xs ys o w hfit hne
      obtain ⟨ih1, ih2⟩ := eq_leaves d T l hl fuel (by omega) w
      obtain ⟨s1, s2⟩ := fits_size hfit hne
      have hund : (P.underlying T).isSome = true := by
        cases hu : P.underlying T with
        | none => cases d <;> simp [leaves, hu] at hl
        | some x => rfl
      have hag := isAgg_spec hund
      cases ha : aggB P T
      · obtain ⟨k, rfl, h3⟩ := ih2 ha
        have hk := hfit 0 k rfl
        rw [Nat.add_zero] at hk
        obtain ⟨l1, l2⟩ := fit_lt hk
        refine ⟨xs.getD o undef, ys.getD o undef, ?_, ?_, by rw [h3 _ _ hk]; simp [eqAt]⟩
        · simp only [Go.part, Sem.run_bind, hag, ha, Result.andThen_ok, Bool.false_eq_true, if_false]; rw [agetD_of_lt l1]; rfl
        · simp only [Go.part, Sem.run_bind, hag, ha, Result.andThen_ok, Bool.false_eq_true, if_false]; rw [agetD_of_lt l2]; rfl
      · refine ⟨.agg (xs.extract o (o + l.length)), .agg (ys.extract o (o + l.length)), ?_, ?_, ?_⟩
        · simp only [Go.part, Sem.run_bind, hag, ha, Result.andThen_ok, if_true, sizeB_spec hs, Sem.run_pure]
        · simp only [Go.part, Sem.run_bind, hag, ha, Result.andThen_ok, if_true, sizeB_spec hs, Sem.run_pure]
        · rw [ih1 ha _ _ (fun i k hk => by
            have hi : i < l.length := by
              rcases Nat.lt_or_ge i l.length with h' | h'
              · exact h'
              · rw [List.getElem?_eq_none h'] at hk; cases hk
            rw [Nat.zero_add, getD_extract hi s1, getD_extract hi s2]
            exact hfit i k hk)]
          rw [eqAt_extract l 0 o l.length xs ys s1 s2 (by omega)]
          rfl
    cases hu : P.underlying T with
    | none => simp [hu] at h
    | some desc =>
      cases desc <;> simp only [hu] at h <;> try (cases h; done)
      case bool =>
        simp only [Option.some.injEq] at h; subst h
        refine ⟨fun ha => by simp [aggB, hu] at ha, fun _ => ⟨0, rfl, fun u v hfit => ?_⟩⟩
        unfold fit at hfit
        split at hfit <;> try (simp at hfit; done)
        · exact run_equalIn_bool' w fuel T _ _ hu
        all_goals (rename_i h; cases h)
      case int kk =>
        simp only [Option.some.injEq] at h; subst h
        refine ⟨fun ha => by simp [aggB, hu] at ha, fun _ => ⟨1, rfl, fun u v hfit => ?_⟩⟩
        unfold fit at hfit
        split at hfit <;> try (simp at hfit; done)
        · rename_i h; cases h
        · subst hfit; exact run_equalIn_int w fuel T _ kk _ _ hu
        · rename_i h; cases h
      case string =>
        simp only [Option.some.injEq] at h; subst h
        refine ⟨fun ha => by simp [aggB, hu] at ha, fun _ => ⟨2, rfl, fun u v hfit => ?_⟩⟩
        unfold fit at hfit
        split at hfit <;> try (simp at hfit; done)
        · rename_i h; cases h
        · rename_i h; cases h
        · exact run_equalIn_string w fuel T _ _ hu
      case struct F =>
        refine ⟨fun _ xs ys hfit => ?_, fun ha => by simp [aggB, hu] at ha⟩
        by_cases hst : P.stoodInHeld T = true
        · simp [hst] at h
        · have hst' : P.stoodInHeld T = false := by simpa using hst
          simp only [hst', Bool.false_eq_true, if_false] at h
          rw [run_equalIn_struct w fuel T xs ys (by simp [Program.fieldsOf, hu]) hst']
          have hF : P.fieldsOf T = F := by simp [Program.fieldsOf, hu]
          rw [hF]
          have fieldsL : ∀ (fs : List Field) (o : Nat) (ks : List Nat) (w : World), leavesF P (leaves P d) o fs = some ks → fits ks o xs ys → (Op.eqFields fuel xs ys fs).run P w = .ok (eqAt ks o xs ys) w := by
            intro fs
            induction fs with
            | nil => intro o ks w hk _; simp [leavesF] at hk; subst hk; simp [Op.eqFields, eqAt]
            | cons f fs ihf =>
              intro o ks w hk hfit
              simp only [leavesF] at hk
              split at hk
              · rename_i hcond
                simp only [Bool.and_eq_true, bne_iff_ne, ne_eq, beq_iff_eq] at hcond
                cases hl : leaves P d f.type with
                | none => simp [hl] at hk
                | some l =>
                  simp only [hl] at hk
                  split at hk
                  · rename_i hs0
                    simp only [Bool.and_eq_true, bne_iff_ne, ne_eq] at hs0
                    obtain ⟨hs, hne0⟩ := hs0
                    have hne : l ≠ [] := fun e => hne0 (by simp [e])
                    cases hr : leavesF P (leaves P d) (o + l.length) fs with
                    | none => simp [hr] at hk
                    | some r =>
                      simp only [hr, Option.map_some, Option.some.injEq] at hk
                      subst hk
                      obtain ⟨u, v, p1, p2, p3⟩ := part f.type l hl hs xs ys o w (fits_left hfit) hne
                      simp only [Op.eqFields]
                      rw [if_pos hcond.1, hcond.2]
                      simp only [Sem.run_bind, p1, p2, p3, Result.andThen_ok, eqAt_append]
                      cases eqAt l o xs ys
                      · simp
                      · simp only [Bool.not_true, Bool.false_eq_true, if_false, Bool.true_and]
                        exact ihf _ _ w hr (fits_right hfit)
                  · cases hk
              · cases hk
          exact fieldsL F.toList 0 ks w h hfit
      case array n E =>
        refine ⟨fun _ xs ys hfit => ?_, fun ha => by simp [aggB, hu] at ha⟩
        cases hl : leaves P d E with
        | none => simp [hl] at h
        | some l =>
          simp only [hl] at h
          split at h
          · rename_i hs0
            simp only [Bool.and_eq_true, bne_iff_ne, ne_eq] at hs0
            obtain ⟨hs, hne0⟩ := hs0
            have hne : l ≠ [] := fun e => hne0 (by simp [e])
            simp only [Option.some.injEq] at h
            subst h
            have hs' := hs
            unfold sizeB at hs'
            cases hi : P.info? E with
            | none => simp [hi] at hs'
            | some ie =>
              simp only [hi, beq_iff_eq] at hs'
              rw [run_equalIn_array w fuel xs ys hu hi]
              have hce : P.cellsOf E = l.length := by simp [Program.cellsOf, hi, hs']
              rw [hce, List.range_eq_range']
              have items : ∀ (m s : Nat) (w : World), fits (List.replicate m l).flatten (s * l.length) xs ys → (Op.eqItems fuel E l.length xs ys (List.range' s m)).run P w = .ok (eqAt (List.replicate m l).flatten (s * l.length) xs ys) w := by
                intro m
                induction m with
                | zero => intro s w _; simp [Op.eqItems, eqAt]
                | succ m ihm =>
                  intro s w hfit
                  rw [List.replicate_succ, List.flatten_cons] at hfit ⊢
                  obtain ⟨u, v, p1, p2, p3⟩ := part E l hl hs xs ys (s * l.length) w (fits_left hfit) hne
                  simp only [List.range'_succ, Op.eqItems, Sem.run_bind, p1, p2, p3, Result.andThen_ok, eqAt_append]
                  cases eqAt l (s * l.length) xs ys
                  · simp
                  · have hr := fits_right hfit
                    rw [← Nat.succ_mul] at hr ⊢
                    simp only [Bool.not_true, Bool.false_eq_true, if_false, Bool.true_and]
                    exact ihm _ w hr
              have := items n 0 w (by simpa using hfit)
              simpa using this
          · cases h

/-- Values of type T can be compared cell by cell, and 'lv' are their cells' kinds. -/
def lvB (P : Program) (T : TypeId) (lv : List Nat) : Bool := match lv with
  | [] => true
  | lv => aggB P T && leaves P 40 T == some lv && !P.eqGuardType P.depth T && lv.all (· != 9)

end
section
variable {P : Program} {X : Nat → Prop} {w : World} {B : List Own} {T : TypeId}

theorem eqCells_spec : ∀ (a b : List SV) (xs ys : List Value), (eqCells a b).2 → xs.length = a.length → ys.length = b.length →
    (∀ (i : Nat) (c : SV), a[i]? = some c → Den X w c (xs.getD i undef)) → (∀ (i : Nat) (c : SV), b[i]? = some c → Den X w c (ys.getD i undef)) →
    ys.length = xs.length ∧ (∀ (i k : Nat), (kinds a)[i]? = some k → k ≠ 9 → fit k (xs.getD i undef) (ys.getD i undef)) ∧
    ((List.range xs.length).all fun i => veq (xs.getD i undef) (ys.getD i undef)) = (eqCells a b).1
  | [], [], xs, ys, _, hx, hy, _, _ => by
    have : xs = [] := List.length_eq_zero_iff.1 hx
    have : ys = [] := List.length_eq_zero_iff.1 hy
    subst xs ys
    exact ⟨rfl, by simp [kinds], by simp [eqCells]⟩
  | [], _ :: _, _, _, h, _, _, _, _ => by simp [eqCells] at h
  | _ :: _, [], _, _, h, _, _, _, _ => by simp [eqCells] at h
  | c :: a, d :: b, xs, ys, h, hx, hy, h1, h2 => by
    cases xs with
    | nil => simp at hx
    | cons x xs =>
      cases ys with
      | nil => simp at hy
      | cons y ys =>
        simp only [eqCells] at h ⊢
        obtain ⟨hc, hr⟩ := h
        obtain ⟨r1, r2, r3⟩ := eqCells_spec a b xs ys hr (by simpa using hx) (by simpa using hy) (fun i c hc => by simpa using h1 (i + 1) c (by simpa using hc)) (fun i c hc => by simpa using h2 (i + 1) c (by simpa using hc))
        have hdx : Den X w c x := by simpa using h1 0 c rfl
        have hdy : Den X w d y := by simpa using h2 0 d rfl
        have key : veq x y = (eqCell c d).1 ∧ ∀ k, (kinds (c :: a))[0]? = some k → k ≠ 9 → fit k x y := by
          cases hdx <;> cases hdy <;> simp only [eqCell] at hc
          · subst hc; exact ⟨rfl, fun k hk _ => by simp [kinds] at hk; subst hk; rfl⟩
          · exact ⟨rfl, fun k hk _ => by simp [kinds] at hk; subst hk; trivial⟩
          · refine ⟨?_, fun k hk _ => by simp [kinds] at hk; subst hk; trivial⟩
            simp [veq, eqCell, ByteArray.toList_eq]
        have hk : ∀ i k, (kinds (c :: a))[i + 1]? = some k → (kinds a)[i]? = some k := by
          intro i k h; cases c <;> simpa [kinds] using h
        refine ⟨by simp [r1], fun i k hi hk9 => ?_, ?_⟩
        · cases i with
          | zero => simpa using key.2 k hi hk9
          | succ i => simpa using r2 i k (hk i k hi) hk9
        · rw [List.length_cons, List.range_succ_eq_map, List.all_cons, List.all_map]
          simp only [List.getD_cons_zero, key.1]
          rw [← r3]
          rfl

theorem eqAt_all : ∀ (ks : List Nat) (o : Nat) (xs ys : Array Value), eqAt ks o xs ys = (List.range' o ks.length).all fun i => veq (xs.getD i undef) (ys.getD i undef)
  | [], _, _, _ => rfl
  | k :: ks, o, xs, ys => by
    simp only [eqAt, eqAt_all ks (o + 1) xs ys, List.length_cons, List.range'_succ, List.all_cons]

theorem kinds_length : ∀ (a : List SV), (kinds a).length = a.length
  | [] => rfl
  | c :: a => by cases c <;> simp [kinds, kinds_length a]

theorem eqAgg_sound {lv : List Nat} (hlv : lvB P T lv = true) {a b : List SV} {xs ys : Array Value} (hx : Den X w (.agg a) (.agg xs)) (hy : Den X w (.agg b) (.agg ys))
    (hc : (eqCells a b).2 ∧ kinds a = lv ∧ lv ≠ []) : (Op.equalIn 10000 T (.agg xs) (.agg ys)).run P w = .ok (eqCells a b).1 w ∧ P.eqGuardType P.depth T = false := by
  obtain ⟨hc1, hc2, hc3⟩ := hc
  unfold lvB at hlv
  split at hlv
  · exact absurd rfl hc3
  · simp only [Bool.and_eq_true, Bool.not_eq_true', beq_iff_eq] at hlv
    obtain ⟨⟨⟨h1, h2⟩, h3⟩, h4⟩ := hlv
    cases hx with
    | agg hsx hdx =>
      cases hy with
      | agg hsy hdy =>
        obtain ⟨r1, r2, r3⟩ := eqCells_spec a b xs.toList ys.toList hc1 (by simpa using hsx) (by simpa using hsy) (by simpa using hdx) (by simpa using hdy)
        have hk9 : ∀ (i k : Nat), lv[i]? = some k → k ≠ 9 := by
          intro i k hk
          have := List.all_eq_true.1 h4 k (List.mem_of_getElem? hk)
          simpa using this
        have := (eq_leaves 40 T lv h2 10000 (by omega) w).1 h1 xs ys (fun i k hk => by
          have := r2 i k (by rw [hc2]; exact hk) (hk9 i k hk)
          simpa using this)
        refine ⟨?_, h3⟩
        rw [this, eqAt_all, ← r3, ← hc2, kinds_length, ← hsx]
        simp [List.range_eq_range']
end
end Go.Lift
