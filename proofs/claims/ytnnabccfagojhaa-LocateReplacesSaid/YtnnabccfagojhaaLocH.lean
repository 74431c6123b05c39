/- Addresses: plain laws. -/
import Derived.Test.YtnnabccfagojhaaLocG
namespace Go.Proofs.Ytnnabccfagojhaa
open Go.Lift
set_option linter.unusedSimpArgs false
set_option linter.unusedVariables false
/-- Where the first address from a node leads. -/
def nxA (l : List GAddress) (q v : Int) : Option Int := (l.find? (sameA v q)).map GAddress.To
theorem sameA_iff {f p : Int} {a : GAddress} : sameA f p a = true ↔ a.From = f ∧ a.Process = p := by simp [sameA]
theorem sameA_ne {f p v q : Int} {a : GAddress} (h : sameA f p a = true) (hne : ¬ (v = f ∧ q = p)) : sameA v q a = false := by
  rw [sameA_iff] at h
  rw [Bool.eq_false_iff, Ne, sameA_iff]
  rintro ⟨h1, h2⟩
  exact hne ⟨h1.symm.trans h.1, h2.symm.trans h.2⟩
theorem find_keep {f p v q : Int} (l : List GAddress) : (keepA (sameA f p) l).find? (sameA v q) = if v = f ∧ q = p then none else l.find? (sameA v q) := by
  induction l with
  | nil => simp [keepA]
  | cons a r ih =>
    by_cases h : sameA f p a = true
    · rw [show keepA (sameA f p) (a :: r) = keepA (sameA f p) r by simp [keepA, h], ih]
      split
      · rfl
      · rename_i hne; rw [List.find?_cons, sameA_ne h hne]
    · rw [show keepA (sameA f p) (a :: r) = a :: keepA (sameA f p) r by simp [keepA, h], List.find?_cons, ih]
      by_cases hv : v = f ∧ q = p
      · rw [if_pos hv, if_pos hv, hv.1, hv.2]; simp [h]
      · rw [if_neg hv, if_neg hv, List.find?_cons]
theorem find_rn {f p t v q : Int} (hne : ¬ (v = f ∧ q = p)) (l : List GAddress) : ∀ out, (rnF f p t false out l).find? (sameA v q) = (out ++ l).find? (sameA v q) := by
  induction l with
  | nil => intro out; simp [rnF, sameA_ne (a := ⟨f, p, t⟩) (sameA_iff.2 ⟨rfl, rfl⟩) hne]
  | cons a r ih =>
    intro out
    by_cases h : sameA f p a = true
    · have h1 : sameA v q { a with To := t } = false := sameA_ne (a := { a with To := t }) h hne
      rw [rnF, if_pos h, if_neg (by simp), rnF_true, List.append_assoc, List.find?_append, List.find?_append, List.find?_append, find_keep, if_neg hne]
      simp only [List.find?_cons, List.find?_nil, h1, sameA_ne h hne, Option.none_or]
    · rw [rnF, if_neg h, ih, List.append_assoc]; rfl
theorem find_self {f p t : Int} (l : List GAddress) : ∀ out, out.find? (sameA f p) = none → ((rnF f p t false out l).find? (sameA f p)).map GAddress.To = some t := by
  induction l with
  | nil => intro out ho; simp [rnF, ho, sameA]
  | cons a r ih =>
    intro out ho
    by_cases h : sameA f p a = true
    · have h1 : sameA f p { a with To := t } = true := h
      rw [rnF, if_pos h, if_neg (by simp), rnF_true, List.append_assoc, List.find?_append, ho]
      simp [h1]
    · rw [rnF, if_neg h]
      refine ih _ ?_
      rw [List.find?_append, ho]; simp [h]
theorem nx_note (l : List GAddress) (f p t q v : Int) : nxA (noteL l f p t) q v = if v = f ∧ q = p then (if t = f then none else some t) else nxA l q v := by
  rw [← rnF_note]
  by_cases ht : t = f
  · rw [show (t == f) = true by simpa using ht, rnF_true, List.nil_append, nxA, find_keep, if_pos ht]
    split <;> rfl
  · rw [show (t == f) = false by simpa using ht, if_neg ht]
    by_cases hv : v = f ∧ q = p
    · rw [if_pos hv, hv.1, hv.2]; exact find_self l [] rfl
    · rw [if_neg hv, nxA, find_rn hv]; rfl
theorem find_idx (P : GAddress → Bool) (l : List GAddress) : l.find? P = if l.findIdx P < l.length then some (l.getD (l.findIdx P) default) else none := by
  induction l with
  | nil => rfl
  | cons a r ih =>
    rw [List.find?_cons, List.findIdx_cons]
    cases h : P a with
    | true => simp
    | false => simp [ih]
theorem nx_at (l : List GAddress) (p v : Int) : nxA l p v = if atL l v p < 0 then none else some (l.getD (atL l v p).toNat default).To := by
  rw [nxA, find_idx, atL, idxP_find]
  split
  · rename_i h; rw [if_neg (by omega)]; simp
  · simp
theorem at_from {l : List GAddress} {v p : Int} (h : ¬ atL l v p < 0) : (l.getD (atL l v p).toNat default).From = v := by
  have hlt := (atL_lt h).1
  rw [atL, idxP_find] at h hlt ⊢
  split
  · rename_i hn
    have := List.findIdx_getElem (w := hn)
    simp only [Nat.zero_add, Int.toNat_natCast]
    rw [show l.getD (l.findIdx (sameA v p)) default = l[l.findIdx (sameA v p)] by simp [List.getD, hn]]
    exact (sameA_iff.1 this).1
  · rename_i hn; simp [hn] at h
/-- So many steps lead from a node to one that has no address. -/
def Leads (nx : Int → Option Int) : Nat → Int → Int → Prop
  | 0, v, w => nx v = none ∧ v = w
  | k + 1, v, w => ∃ u, nx v = some u ∧ Leads nx k u w
theorem leads_end {nx : Int → Option Int} : ∀ {k : Nat} {v w : Int}, Leads nx k v w → nx w = none
  | 0, _, _, h => h.2 ▸ h.1
  | _ + 1, _, _, ⟨_, _, h⟩ => leads_end h
theorem leads_uniq {nx : Int → Option Int} : ∀ {k k' : Nat} {v w w' : Int}, Leads nx k v w → Leads nx k' v w' → w = w'
  | 0, 0, _, _, _, h, h' => h.2.symm.trans h'.2
  | 0, _ + 1, _, _, _, h, ⟨_, h', _⟩ => by rw [h.1] at h'; cases h'
  | _ + 1, 0, _, _, _, ⟨_, h, _⟩, h' => by rw [h'.1] at h; cases h
  | _ + 1, _ + 1, _, _, _, ⟨u, h1, h2⟩, ⟨u', h1', h2'⟩ => by rw [h1] at h1'; cases h1'; exact leads_uniq h2 h2'
theorem leads_all {nx : Int → Option Int} {r : Int → Nat} (hr : ∀ v w, nx v = some w → r w < r v) : ∀ (n : Nat) (v : Int), r v < n → ∃ k w, Leads nx k v w
  | 0, _, h => absurd h (Nat.not_lt_zero _)
  | n + 1, v, h => by
    cases hv : nx v with
    | none => exact ⟨0, v, hv, rfl⟩
    | some u =>
      obtain ⟨k, w, hk⟩ := leads_all hr n u (by have := hr v u hv; omega)
      exact ⟨k + 1, w, u, hv, hk⟩
theorem leads_nodes {nx : Int → Option Int} {r : Int → Nat} (hr : ∀ v w, nx v = some w → r w < r v) : ∀ {k : Nat} {v w : Int}, Leads nx k v w → ∃ vs : List Int, vs.length = k ∧ vs.Pairwise (fun a b => r b < r a) ∧ ∀ x ∈ vs, nx x ≠ none ∧ r x ≤ r v
  | 0, _, _, _ => ⟨[], rfl, .nil, by simp⟩
  | k + 1, v, w, ⟨u, hu, h⟩ => by
    obtain ⟨vs, h1, h2, h3⟩ := leads_nodes hr h
    have hlt := hr v u hu
    refine ⟨v :: vs, by simp [h1], .cons (fun x hx => by have := (h3 x hx).2; omega) h2, ?_⟩
    intro x hx
    rcases List.mem_cons.1 hx with rfl | hx
    · exact ⟨by rw [hu]; simp, Nat.le_refl _⟩
    · exact ⟨(h3 x hx).1, by have := (h3 x hx).2; omega⟩
theorem pigeon : ∀ (n : Nat) (l : List Nat), l.Nodup → (∀ x ∈ l, x < n) → l.length ≤ n
  | 0, [], _, _ => Nat.le_refl _
  | 0, a :: _, _, h => absurd (h a (by simp)) (Nat.not_lt_zero _)
  | n + 1, l, hn, h => by
    by_cases hm : n ∈ l
    · have := pigeon n (l.erase n) (hn.erase n) (fun x hx => by
        have h1 := (hn.mem_erase_iff).1 hx
        have := h x h1.2
        have := h1.1
        omega)
      rw [List.length_erase_of_mem hm] at this
      omega
    · have := pigeon n l hn (fun x hx => by
        have h1 := h x hx
        have h2 : x ≠ n := fun e => hm (e ▸ hx)
        omega)
      omega
theorem pigeonF {r : Int → Nat} {vs : List Int} (g : Int → Nat) (n : Nat) (h : vs.Pairwise (fun a b => r b < r a)) (hg : ∀ a ∈ vs, ∀ b ∈ vs, g a = g b → a = b) (hb : ∀ a ∈ vs, g a < n) : vs.length ≤ n := by
  have h1 : (vs.map g).Nodup := by
    rw [List.Nodup, List.pairwise_map]
    refine List.Pairwise.imp_of_mem ?_ h
    intro a b ha hb2 hlt e
    rw [hg a ha b hb2 e] at hlt
    omega
  have := pigeon n (vs.map g) h1 (by simpa using hb)
  simpa using this
theorem fol_leads {l : List GAddress} {p : Int} : ∀ {k : Nat} {s w : Int} (n : Nat) (acc : List Int), Leads (nxA l p) k s w → k < n → ∃ q, fol l p n acc s = some (acc ++ q, w) ∧ q.length = k ∧ (∀ i ∈ q, ∃ v j, atL l v p = i ∧ 0 ≤ i ∧ Leads (nxA l p) j v w) ∧ (0 < k → atL l s p ∈ q)
  | 0, s, w, n, acc, h, hk => by
    obtain ⟨m, rfl⟩ : ∃ m, n = m + 1 := ⟨n - 1, by omega⟩
    have h1 := h.1
    rw [nx_at] at h1
    have hlt : atL l s p < 0 := by
      split at h1
      · assumption
      · cases h1
    exact ⟨[], by rw [fol, if_pos hlt, List.append_nil, h.2], rfl, by simp, by simp⟩
  | k + 1, s, w, n, acc, h, hk => by
    obtain ⟨m, rfl⟩ : ∃ m, n = m + 1 := ⟨n - 1, by omega⟩
    obtain ⟨u, hu, h2⟩ := id h
    rw [nx_at] at hu
    have hge : ¬ atL l s p < 0 := by
      intro hlt; rw [if_pos hlt] at hu; cases hu
    rw [if_neg hge] at hu
    cases hu
    obtain ⟨q, h3, h4, h5, h6⟩ := fol_leads m (acc ++ [atL l s p]) h2 (by omega)
    refine ⟨atL l s p :: q, by rw [fol, if_neg hge, h3]; simp, by simp [h4], ?_, by simp⟩
    intro i hi
    rcases List.mem_cons.1 hi with rfl | hi
    · exact ⟨s, k + 1, rfl, by omega, h⟩
    · exact h5 i hi
theorem sa_at {last : Int} {l : List GAddress} {i v p : Int} : atL (setA last l i) v p = atL l v p := by
  have hk : (setA last l i).map (fun a => (a.From, a.Process)) = l.map (fun a => (a.From, a.Process)) := by
    rw [setA, List.map_set]
    apply List.ext_getElem?
    intro k
    rw [List.getElem?_set]
    split
    · rename_i e
      subst e
      split
      · rename_i hk; simp [List.getD] at hk ⊢; simp [hk]
      · rename_i hk; simp at hk; simp [hk]
    · rfl
  have hf : ∀ m : List GAddress, m.findIdx (sameA v p) = (m.map (fun a => (a.From, a.Process))).findIdx (fun z => z.1 == v && z.2 == p) := by
    intro m; rw [List.findIdx_map]; rfl
  rw [atL, atL, idxP_find, idxP_find, hf, hf, hk, setA_len]
theorem all_at {last v p : Int} (path : List Int) : ∀ l : List GAddress, atL (setAll last l path) v p = atL l v p := by
  induction path with
  | nil => intro l; rfl
  | cons i r ih => intro l; rw [setAll, List.foldl_cons]; exact (ih _).trans sa_at
theorem all_to {last : Int} {j : Nat} (path : List Int) : ∀ l : List GAddress, j < l.length → (∀ i ∈ path, 0 ≤ i) → ((setAll last l path).getD j default).To = if (j : Int) ∈ path then last else (l.getD j default).To := by
  induction path with
  | nil => intro l _ _; simp [setAll]
  | cons i r ih =>
    intro l hj hp
    have hi := hp i (by simp)
    rw [setAll, List.foldl_cons]
    refine (ih (setA last l i) (by rw [setA_len]; exact hj) (fun x hx => hp x (by simp [hx]))).trans ?_
    by_cases hr : (j : Int) ∈ r
    · simp [hr]
    · by_cases he : (j : Int) = i
      · subst he
        simp [setA, hr, List.getD, hj]
      · have : ¬ i.toNat = j := fun e => he (by omega)
        simp [setA, hr, he, List.getD, List.getElem?_set, this]
/-- What is known of what moves leave behind, of one process. -/
def Jn (nx : Int → Option Int) (c : Int) : Prop := (0 ≤ c ∧ c < 5) ∧ nx c = none ∧ (c = 0 ∨ nx 0 ≠ none) ∧ ∃ r : Int → Nat, ∀ v w, nx v = some w → r w < r v ∧ (0 ≤ v ∧ v < 5) ∧ (w = c ∨ nx w ≠ none)
theorem Jn.move {nx nx' : Int → Option Int} {c t : Int} (h : Jn nx c) (ht : 0 ≤ t ∧ t < 5) (hx : ∀ v, nx' v = if v = t then none else if v = c then some t else nx v) : Jn nx' t := by
  obtain ⟨hc, hn, h0, r, hr⟩ := h
  refine ⟨ht, by rw [hx, if_pos rfl], ?_, fun v => if v = t then 0 else if v = c then 1 else r v + 2, ?_⟩
  · by_cases e : t = 0
    · exact .inl e
    · refine .inr ?_
      rw [hx, if_neg (fun e2 => e e2.symm)]
      split
      · simp
      · rename_i e2
        exact h0.resolve_left (fun e3 => e2 e3.symm)
  · intro v w hv
    rw [hx] at hv
    by_cases e : v = t
    · rw [if_pos e] at hv; cases hv
    rw [if_neg e] at hv
    by_cases e2 : v = c
    · rw [if_pos e2] at hv
      cases hv
      refine ⟨by simp only [if_true, if_neg e, if_pos e2]; omega, by omega, .inl rfl⟩
    · rw [if_neg e2] at hv
      obtain ⟨h1, h2, h3⟩ := hr v w hv
      refine ⟨?_, h2, ?_⟩
      · simp only [if_neg e, if_neg e2]
        split
        · omega
        · split <;> omega
      · by_cases e3 : w = t
        · exact .inl e3
        · refine .inr ?_
          rw [hx, if_neg e3]
          rcases h3 with h3 | h3
          · rw [if_pos h3]; simp
          · split
            · simp
            · exact h3
theorem at4_set {a : A4i64} {p q t : Int} (hp : 1 ≤ p ∧ p ≤ 3) (hq : 1 ≤ q ∧ q ≤ 3) : at4 (set4 a p t) q = if q = p then t else at4 a q := by
  obtain rfl | rfl | rfl : p = 1 ∨ p = 2 ∨ p = 3 := by omega
  all_goals obtain rfl | rfl | rfl : q = 1 ∨ q = 2 ∨ q = 3 := by omega
  all_goals rfl
theorem made_J {x : List GAddress × A4i64} (h : MadeA x) : ∀ q, 1 ≤ q ∧ q ≤ 3 → Jn (nxA x.1 q) (at4 x.2 q) := by
  induction h with
  | none =>
    intro q hq
    refine ⟨?_, rfl, .inl ?_, fun _ => 0, fun v w h => by cases h⟩
    · obtain rfl | rfl | rfl : q = 1 ∨ q = 2 ∨ q = 3 := by omega
      all_goals decide
    · obtain rfl | rfl | rfl : q = 1 ∨ q = 2 ∨ q = 3 := by omega
      all_goals rfl
  | @move x p t h hp ht ih =>
    intro q hq
    simp only [moveS]
    rw [at4_set hp hq]
    by_cases e : q = p
    · subst e
      rw [if_pos rfl]
      refine (ih q hq).move ht ?_
      intro v
      rw [nx_note, nx_note]
      simp only [and_true, if_true]
      by_cases e1 : v = t
      · simp [e1]
      · simp only [e1, if_false]
        by_cases e2 : v = at4 x.2 q
        · have : ¬ t = at4 x.2 q := fun e3 => e1 (e2.trans e3.symm)
          simp [e2, this]
        · simp [e2]
    · rw [if_neg e]
      have : nxA (noteL (noteL x.1 (at4 x.2 p) p t) t p t) q = nxA x.1 q := by
        funext v
        rw [nx_note, if_neg (fun h => e h.2), nx_note, if_neg (fun h => e h.2)]
      rw [this]
      exact ih q hq
theorem nx_short {l : List GAddress} {s p last : Int} {path : List Int} (h : followL l s p = some (path, last)) (v : Int) : nxA (shortL l s p) p v = if atL l v p < 0 then none else if atL l v p ∈ path then some last else nxA l p v := by
  have hs : shortL l s p = setAll last l path := by rw [shortL, h]
  have hb := (follow_ok h).1
  rw [nx_at, hs, all_at, nx_at]
  split
  · rfl
  · rename_i hn
    have hat := atL_lt hn
    rw [all_to path l hat.1 (fun i hi => (hb i hi).1), hat.2]
    split <;> rfl
/-- What LocateLeads says. -/
theorem leads_law {x : List GAddress × A4i64} (h : MadeA x) {p s : Int} (hp : 1 ≤ p ∧ p ≤ 3) : (∃ path, followL x.1 0 p = some (path, at4 x.2 p) ∧ path.length ≤ 5) ∧
    ∀ node, ∃ q1 q2 w, followL x.1 node p = some (q1, w) ∧ followL (shortL x.1 s p) node p = some (q2, w) ∧ q2.length ≤ q1.length ∧ (node = s → q2.length ≤ 1) := by
  obtain ⟨hc, hn, h0, r, hr⟩ := made_J h p hp
  generalize x.1 = l at *
  generalize at4 x.2 p = c at *
  have hr1 : ∀ v w, nxA l p v = some w → r w < r v := fun v w e => (hr v w e).1
  have hat : ∀ v, nxA l p v ≠ none → ¬ atL l v p < 0 := by
    intro v hv hlt; rw [nx_at, if_pos hlt] at hv; exact hv rfl
  have hkl : ∀ k v w, Leads (nxA l p) k v w → k ≤ l.length ∧ k ≤ 5 := by
    intro k v w hk
    obtain ⟨vs, h1, h2, h3⟩ := leads_nodes hr1 hk
    constructor
    · rw [← h1]
      refine pigeonF (fun x => (atL l x p).toNat) _ h2 ?_ (fun a ha => (atL_lt (hat a (h3 a ha).1)).1)
      intro a ha b hb e
      have ea := at_from (hat a (h3 a ha).1)
      have eb := at_from (hat b (h3 b hb).1)
      rw [e, eb] at ea
      exact ea.symm
    · rw [← h1]
      have hrange : ∀ a ∈ vs, 0 ≤ a ∧ a < 5 := by
        intro a ha
        cases e : nxA l p a with
        | none => exact absurd e (h3 a ha).1
        | some w => exact (hr a w e).2.1
      refine pigeonF Int.toNat _ h2 ?_ ?_
      · intro a ha b hb e
        have := hrange a ha
        have := hrange b hb
        omega
      · intro a ha
        have := hrange a ha
        omega
  have hall : ∀ v, ∃ k w, Leads (nxA l p) k v w := fun v => leads_all hr1 _ v (Nat.lt_succ_self _)
  have hfol : ∀ k v w, Leads (nxA l p) k v w → ∃ q, followL l v p = some (q, w) ∧ q.length = k ∧ (∀ i ∈ q, ∃ u j, atL l u p = i ∧ 0 ≤ i ∧ Leads (nxA l p) j u w) ∧ (0 < k → atL l v p ∈ q) := by
    intro k v w hk
    have := (hkl k v w hk).1
    exact fol_leads (l.length + 1) [] hk (by omega)
  have hclosed : ∀ k v w, Leads (nxA l p) k v w → (v = c ∨ nxA l p v ≠ none) → w = c := by
    intro k
    induction k with
    | zero => rintro v w ⟨h1, rfl⟩ h2; exact h2.resolve_right (fun h => h h1)
    | succ k ih => rintro v w ⟨u, h1, h2⟩ _; exact ih u w h2 (hr v u h1).2.2
  constructor
  · obtain ⟨k, w, hk⟩ := hall 0
    obtain ⟨q, h1, h2, _, _⟩ := hfol _ _ _ hk
    have hw := hclosed _ _ _ hk (by rcases h0 with h | h; exact .inl h.symm; exact .inr h)
    rw [hw] at h1
    exact ⟨q, h1, by rw [h2]; exact (hkl _ _ _ hk).2⟩
  · intro node
    obtain ⟨ks, ws, hs⟩ := hall s
    obtain ⟨path, hp1, hp2, hp3, hp4⟩ := hfol _ _ _ hs
    have hend : nxA l p ws = none := leads_end hs
    have hwsn : nxA (shortL l s p) p ws = none := by
      rw [nx_short hp1]
      split
      · rfl
      · rename_i hn2
        rw [nx_at, if_neg hn2] at hend; cases hend
    have hnone : ∀ v, nxA l p v = none → nxA (shortL l s p) p v = none := by
      intro v hv
      rw [nx_short hp1]
      split
      · rfl
      · rename_i hn2
        rw [nx_at, if_neg hn2] at hv; cases hv
    have hin : ∀ v, ¬ atL l v p < 0 → atL l v p ∈ path → nxA (shortL l s p) p v = some ws ∧ ∃ j, Leads (nxA l p) j v ws := by
      intro v hv hm
      refine ⟨by rw [nx_short hp1, if_neg hv, if_pos hm], ?_⟩
      obtain ⟨u, j, hu, hu0, hj⟩ := hp3 _ hm
      have e1 := at_from hv
      have e2 := at_from (l := l) (v := u) (p := p) (by rw [hu]; omega)
      rw [hu, e1] at e2
      exact ⟨j, e2 ▸ hj⟩
    have hmain : ∀ k v w, Leads (nxA l p) k v w → ∃ j, j ≤ k ∧ Leads (nxA (shortL l s p) p) j v w ∧ ((0 < k → atL l v p ∈ path) → j ≤ 1) := by
      intro k
      induction k with
      | zero => rintro v w ⟨h1, rfl⟩; exact ⟨0, Nat.le_refl _, ⟨hnone v h1, rfl⟩, fun _ => Nat.zero_le _⟩
      | succ k ih =>
        rintro v w ⟨u, h1, h2⟩
        have hge : ¬ atL l v p < 0 := hat v (by rw [h1]; simp)
        by_cases hm : atL l v p ∈ path
        · obtain ⟨h3, j, hj⟩ := hin v hge hm
          have hw : w = ws := leads_uniq (k := k + 1) (k' := j) ⟨u, h1, h2⟩ hj
          exact ⟨1, by omega, ⟨ws, h3, hwsn, hw.symm⟩, fun _ => Nat.le_refl _⟩
        · obtain ⟨j, h3, h4, _⟩ := ih u w h2
          refine ⟨j + 1, by omega, ⟨u, ?_, h4⟩, fun h => absurd (h (by omega)) hm⟩
          rw [nx_short hp1, if_neg hge, if_neg hm, h1]
    obtain ⟨k, w, hk⟩ := hall node
    obtain ⟨q1, h1, h2, _, _⟩ := hfol _ _ _ hk
    obtain ⟨j, h3, h4, h5⟩ := hmain k node w hk
    have hjl : j < (shortL l s p).length + 1 := by rw [shortL_len]; have := (hkl _ _ _ hk).1; omega
    obtain ⟨q2, h6, h7, _, _⟩ := fol_leads _ [] h4 hjl
    refine ⟨q1, q2, w, h1, h6, by omega, ?_⟩
    intro e
    subst e
    have : k = ks := by
      have := hfol _ _ _ hk
      obtain ⟨q, h8, h9, _, _⟩ := this
      rw [hp1] at h8
      cases h8
      omega
    rw [h7]
    exact h5 (fun h => hp4 (by omega))
end Go.Proofs.Ytnnabccfagojhaa
