-- SG
/- Contracts: what is known of them, and what is made. -/
import Derived.Test.YtnnabccfagojhaaConD
import Derived.Test.YtnnabccfagojhaaLocF
namespace Go.Proofs.Ytnnabccfagojhaa
open Go.Lift
set_option linter.unusedSimpArgs false
set_option linter.unusedVariables false
set_option maxRecDepth 10000
def tOk (t : GTerms) : Prop := 0 ≤ t.Low ∧ t.Low < 20 ∧ t.Low < t.High ∧ t.High ≤ t.Low + 20 ∧ 1 ≤ t.Rounds ∧ t.Rounds ≤ 4
theorem tOk_v {t : GTerms} (h : tOk t) : vOk t = true := by
  obtain ⟨h1, h2, h3, h4, h5, h6⟩ := h
  simp only [vOk, Bool.and_eq_true, decide_eq_true_eq]
  omega
def gC (t : GTerms) (c : GContract) : Prop := 1 ≤ c.State ∧ c.State ≤ 5 ∧ 1 ≤ c.Left ∧ c.Left ≤ t.Rounds ∧ c.From ≠ c.To ∧ c.Process ≠ 0
def goodL (t : GTerms) (l : List GContract) : Prop := (∀ c ∈ l, gC t c) ∧ (l.map GContract.Process).Nodup
theorem good_nil (t : GTerms) : goodL t [] := ⟨by simp, by simp⟩
theorem ctAt_none {l : List GContract} {p : Int} (h : ctAt l p < 0) : ∀ c ∈ l, c.Process ≠ p := by
  rw [ctAt, idxP_find] at h
  split at h
  · omega
  · rename_i hn
    intro c hc e
    have hfi : l.findIdx (isC p) = l.length := by have := List.findIdx_le_length (p := isC p) (xs := l); omega
    have := List.findIdx_eq_length.1 hfi c hc
    simp [isC, e] at this
theorem offer_err {l : List GContract} {t : GTerms} {p f o d : Int} (h : (offerC l t p f o d).2 ≠ 0) : (offerC l t p f o d).1 = [] := by
  unfold offerC at h ⊢
  repeat' split
  all_goals first | rfl | simp_all
theorem change_err {l : List GContract} {t : GTerms} {p : Int} {G : Int → Int} (h : (changeC l t p G).2 ≠ 0) : (changeC l t p G).1 = [] := by
  unfold changeC at h ⊢
  repeat' split
  all_goals first | rfl | simp_all
theorem offer_good {l : List GContract} {t : GTerms} {p f o d : Int} (ht : tOk t) (hl : goodL t l) (h : (offerC l t p f o d).2 = 0) : goodL t (offerC l t p f o d).1 ∧ (offerC l t p f o d).1.length ≤ l.length + 1 := by
  unfold offerC at h ⊢
  split
  · exact ⟨good_nil t, Nat.zero_le _⟩
  split
  · exact ⟨good_nil t, Nat.zero_le _⟩
  split
  · exact ⟨good_nil t, Nat.zero_le _⟩
  split
  · exact ⟨good_nil t, Nat.zero_le _⟩
  rename_i h1 h2 h3 h4
  simp only [Bool.or_eq_true, beq_iff_eq, not_or, decide_eq_true_eq] at h2 h3
  refine ⟨⟨fun c hc => ?_, ?_⟩, by simp⟩
  · rcases List.mem_append.1 hc with hc | hc
    · exact hl.1 c hc
    · rw [List.mem_singleton] at hc
      subst hc
      exact ⟨by dsimp only; omega, by dsimp only; omega, ht.2.2.2.2.1, Int.le_refl _, h2.2, h2.1⟩
  · rw [List.map_append, List.nodup_append]
    refine ⟨hl.2, by simp, ?_⟩
    intro a ha b hb
    obtain ⟨c, hc, rfl⟩ := List.mem_map.1 ha
    simp only [List.map_cons, List.map_nil, List.mem_singleton] at hb
    rw [hb]
    exact ctAt_none (by omega) c hc
theorem change_good {l : List GContract} {t : GTerms} {p : Int} {G : Int → Int} (ht : tOk t) (hl : goodL t l) (hG : ∀ s, (s = 1 ∨ s = 2 ∨ s = 3) → 1 ≤ G s ∧ G s ≤ 5) : goodL t (changeC l t p G).1 ∧ (changeC l t p G).1.length ≤ l.length + 1 := by
  unfold changeC
  split
  · exact ⟨good_nil t, Nat.zero_le _⟩
  split
  · exact ⟨good_nil t, Nat.zero_le _⟩
  rename_i hn
  split
  · exact ⟨good_nil t, Nat.zero_le _⟩
  rename_i ho
  have hop : openC (l.getD (ctAt l p).toNat default) = true := by simpa using ho
  have hat := (ctAt_lt hn).1
  generalize (ctAt l p).toNat = i at hat hop
  have hg : l.getD i default = l[i] := by simp [List.getD, hat]
  have hmem : l.getD i default ∈ l := by rw [hg]; exact List.getElem_mem _
  have hi := hl.1 _ hmem
  refine ⟨⟨fun c hc => ?_, ?_⟩, by simp⟩
  · rcases List.mem_or_eq_of_mem_set hc with hc | hc
    · exact hl.1 c hc
    · subst hc
      have := hG (l.getD i default).State (by simp only [openC, Bool.or_eq_true, beq_iff_eq] at hop; omega)
      exact ⟨this.1, this.2, ht.2.2.2.2.1, Int.le_refl _, hi.2.2.2.2.1, hi.2.2.2.2.2⟩
  · rw [List.map_set]
    have : (l.map GContract.Process).set i (l.getD i default).Process = l.map GContract.Process := by
      rw [hg]
      apply List.ext_getElem?
      intro k
      rw [List.getElem?_set]
      split
      · rename_i e; subst e; simp [hat]
      · rfl
    show ((l.map GContract.Process).set i (l.getD i default).Process).Nodup
    rw [this]
    exact hl.2
theorem ans_range {t : GTerms} {d : Int} (s : Int) (hs : s = 1 ∨ s = 2 ∨ s = 3) : 1 ≤ ansG t d s ∧ ansG t d s ≤ 5 := by
  rw [ansG]
  split
  · omega
  · rcases hs with rfl | rfl | rfl <;> decide
theorem pass_good {l : List GContract} {t : GTerms} (ht : tOk t) (hl : goodL t l) : goodL t (passC l) := by
  have hw : ∀ x : Int, 1 ≤ x → x ≤ 4 → IntKind.i64.wrap x = x := fun x h1 h2 => i64_in' (by omega)
  have hR := ht.2.2.2.2
  constructor
  · intro c hc
    obtain ⟨a, ha, hc⟩ := List.mem_flatMap.1 hc
    have hga := hl.1 a ha
    obtain ⟨g1, g2, g3, g4, g5, g6⟩ := hga
    rw [pass1] at hc
    split at hc
    · split at hc
      · rw [List.mem_singleton] at hc
        subst hc
        exact ⟨by dsimp only; omega, by dsimp only; omega, by dsimp only; omega, by dsimp only; omega, g5, g6⟩
      · cases hc
    · rename_i hlt
      rw [List.mem_singleton] at hc
      subst hc
      have := hw (a.Left - 1) (by omega) (by omega)
      exact ⟨g1, g2, by dsimp only; omega, by dsimp only; omega, g5, g6⟩
  · have hsub : ∀ m : List GContract, ((passC m).map GContract.Process).Sublist (m.map GContract.Process) := by
      intro m
      induction m with
      | nil => exact List.Sublist.refl _
      | cons c r ih =>
        simp only [passC, List.flatMap_cons, List.map_append, List.map_cons] at ih ⊢
        rw [pass1]
        split
        · split
          · exact ih.cons_cons _
          · exact ih.cons _
        · exact ih.cons_cons _
    exact hl.2.sublist (hsub l)
end Go.Proofs.Ytnnabccfagojhaa
