/- Results that give up the rows that they name. -/
import Derived.Test.YtfmldmafigpblaaDoorRef06
namespace Go.Proofs.YtfmldmafigpblaaDoor
open Go.Lift
set_option linter.unusedSimpArgs false
set_option linter.unusedVariables false
variable {B : List Own}
def FzC (B : List Own) (s r : SV) : Prop := frzKC (fromM 0) B s ∧ SLe (frzC (fromM 0) B s) r
def FzL (B : List Own) (cs ds : List SV) : Prop := frzKL (fromM 0) B cs ∧ LLe (frzL (fromM 0) B cs) ds
def FzA (B : List Own) (s r : SV) : Prop := frzKA (fromM 0) B s ∧ SLe (frzA (fromM 0) B s) r
theorem FzC.row {α : Type} {i e n E : Nat} {h : RowH} {xs : List (List SV)} {cells : α → List SV} {d : α} {l : List α} (hB : getD' B i = .row h E e xs) (hx : xs = l.map cells) (hn : n = l.length) : FzC B (.row i h e 0 n) (slL e cells d l) := by
  subst hx hn
  unfold FzC
  simp only [frzKC, frzC, fromM, Nat.zero_le, decide_true, hB]
  refine ⟨⟨trivial, trivial, by simp⟩, SLe.sl (fun h => h) (.inr rfl) fun k hk => ?_⟩
  simp [List.getD, hk]
/-- Some of a row. -/
theorem FzC.part {α : Type} {i e lo n E : Nat} {h : RowH} {xs : List (List SV)} {cells : α → List SV} {d : α} {l m : List α} (hB : getD' B i = .row h E e xs) (hx : xs = l.map cells) (hn : n = m.length) (hm : (l.drop lo).take n = m) (hl : lo + n ≤ l.length) : FzC B (.row i h e lo n) (slL e cells d m) := by
  subst hx hn
  unfold FzC
  simp only [frzKC, frzC, fromM, Nat.zero_le, decide_true, hB]
  refine ⟨⟨trivial, trivial, by simpa using hl⟩, SLe.sl (fun h => h) (.inr rfl) fun k hk => ?_⟩
  have h1 : lo + k < l.length := by omega
  rw [show m.getD k d = m[k] by simp [List.getD, hk]]
  have h2 : m[k]? = l[lo + k]? := by rw [← hm]; simp [hk]
  rw [List.getElem?_eq_getElem hk, List.getElem?_eq_getElem h1] at h2
  simp only [Option.some.injEq] at h2
  simp [List.getD, h1, h2]
theorem FzC.nil {α : Type} {e e' : Nat} {fl : Bool} {cells : α → List SV} {d : α} {f : Nat → List SV} : FzC B (.sl fl e' 0 f) (slL e cells d []) := ⟨trivial, sle_nilL⟩
theorem FzC.sl {e n : Nat} {fl : Bool} {f : Nat → List SV} : FzC B (.sl fl e n f) (.sl fl e n f) := ⟨trivial, SLe.refl _⟩
theorem FzC.slL {α : Type} {e : Nat} {cells : α → List SV} {d : α} {l : List α} : FzC B (slL e cells d l) (slL e cells d l) := ⟨trivial, SLe.refl _⟩
theorem FzC.int {k : IntKind} {n : Int} : FzC B (.int k n) (.int k n) := ⟨trivial, SLe.refl _⟩
theorem FzL.obj {cs : List SV} (hk : ∀ sel B, frzKL sel B cs = True) (hz : ∀ sel B, frzL sel B cs = cs) : FzL B cs cs := ⟨by rw [hk]; trivial, by rw [hz]; exact LLe.refl _⟩
theorem FzL.put {cs ds r : List SV} {s s' : SV} (h : FzL B cs ds) (j : Nat) (hs : FzC B s s') (e : putL ds j [s'] = r) : FzL B (putL cs j [s]) r := by
  refine ⟨frzKL_put _ _ _ _ _ h.1 ⟨hs.1, trivial⟩, ?_⟩
  rw [frzL_put]
  exact LLe.put h.2 j hs.2 e
theorem FzA.agg {cs ds : List SV} (h : FzL B cs ds) : FzA B (.agg cs) (.agg ds) := ⟨h.1, SLe.agg h.2⟩
theorem FzA.int {k : IntKind} {n : Int} : FzA B (.int k n) (.int k n) := ⟨trivial, SLe.refl _⟩
theorem FzA.bool {b : Bool} : FzA B (.bool b) (.bool b) := ⟨trivial, SLe.refl _⟩
theorem FzA.row {α : Type} {i e n E : Nat} {h : RowH} {xs : List (List SV)} {cells : α → List SV} {d : α} {l : List α} (hB : getD' B i = .row h E e xs) (hx : xs = l.map cells) (hn : n = l.length) : FzA B (.row i h e 0 n) (slL e cells d l) := FzC.row hB hx hn
theorem FzA.part {α : Type} {i e lo n E : Nat} {h : RowH} {xs : List (List SV)} {cells : α → List SV} {d : α} {l m : List α} (hB : getD' B i = .row h E e xs) (hx : xs = l.map cells) (hn : n = m.length) (hm : (l.drop lo).take n = m) (hl : lo + n ≤ l.length) : FzA B (.row i h e lo n) (slL e cells d m) := FzC.part hB hx hn hm hl
theorem FzA.nil {α : Type} {e e' : Nat} {fl : Bool} {cells : α → List SV} {d : α} {f : Nat → List SV} : FzA B (.sl fl e' 0 f) (Go.Lift.slL e cells d []) := ⟨trivial, sle_nilL⟩
theorem FzA.slL {α : Type} {e : Nat} {cells : α → List SV} {d : α} {l : List α} : FzA B (Go.Lift.slL e cells d l) (Go.Lift.slL e cells d l) := ⟨trivial, SLe.refl _⟩
theorem fin_agg {cs ds : List SV} (h : FzL B cs ds) : frzKT (fromM 0) B (.agg cs) ∧ SLe (frzT (fromM 0) B (.agg cs)) (.agg ds) := ⟨h.1, SLe.agg h.2⟩
theorem fin_rowT {α : Type} {i e n E : Nat} {h : RowH} {xs : List (List SV)} {cells : α → List SV} {d : α} {l : List α} (hB : getD' B i = .row h E e xs) (hx : xs = l.map cells) (hn : n = l.length) : frzKT (fromM 0) B (.row i h e 0 n) ∧ SLe (frzT (fromM 0) B (.row i h e 0 n)) (Go.Lift.slL e cells d l) := FzC.row hB hx hn
theorem fin_t2 {a b c d : SV} (h1 : FzA B a c) (h2 : FzA B b d) : frzKT (fromM 0) B (.tup [a, b]) ∧ SLe (frzT (fromM 0) B (.tup [a, b])) (.tup [c, d]) := ⟨⟨h1.1, h2.1, trivial⟩, SLe.tup (.cons h1.2 (.cons h2.2 .nil))⟩
theorem fin_t3 {a b c d e f : SV} (h1 : FzA B a d) (h2 : FzA B b e) (h3 : FzA B c f) : frzKT (fromM 0) B (.tup [a, b, c]) ∧ SLe (frzT (fromM 0) B (.tup [a, b, c])) (.tup [d, e, f]) := ⟨⟨h1.1, h2.1, h3.1, trivial⟩, SLe.tup (.cons h1.2 (.cons h2.2 (.cons h3.2 .nil)))⟩
theorem FzL.O (x : GObject) : FzL B x.c x.c := FzL.obj (fun s B => by rw [GObject.fk]) (fun s B => by rw [GObject.fz])
/-- One of the rows is kept, the others are given up. -/
theorem EC_pick {P : Program} {f : Nat} {args : List SV} {Q : SV → List Own → Prop} (i : Nat) (h : EC P f args [] fun r B' => ∃ r', SLe r r' ∧ Q r' [getD' B' i]) : EC P f args [] Q := by
  refine ⟨h.1, fun X w vs hs hd => (h.2 X w vs hs hd).mono ?_⟩
  rintro e w' ⟨v, r, X', B', he, ⟨r', hr, hq⟩, h1, h2, h3⟩
  have key : ∀ k, getD' [getD' B' i] k = if k = 0 then getD' B' i else .gone := fun k => getD'_one
  have kb : ∀ k b, b ∈ (getD' [getD' B' i] k).blocks → k = 0 ∧ b ∈ (getD' B' i).blocks := fun k b hb => by
    rw [key] at hb
    split at hb
    · exact ⟨by assumption, hb⟩
    · simp [Own.blocks] at hb
  exact ⟨v, r', X', _, he, hq, ⟨fun a b c h4 h5 => (kb a c h4).1.trans (kb b c h5).1.symm, fun a b h4 => h1.lt i b (kb a b h4).2, h1.xg, fun b hx ⟨a, ha⟩ => h1.apart b hx ⟨i, (kb a b ha).2⟩, fun a => by
      rw [key]; split
      · exact h1.ok i
      · trivial⟩, hr _ _ _ h2,
    ⟨h3.os, h3.tape, h3.output, h3.size, h3.block, h3.xin, h3.xout, fun b ⟨a, ha⟩ => h3.own b ⟨i, (kb a b ha).2⟩⟩⟩
theorem blankP_eq {p : GProcess} (h : blankP p = true) : p = default := by
  simp only [blankP, restB, Bool.and_eq_true, beq_iff_eq, List.isEmpty_iff] at h
  obtain ⟨⟨⟨k1, k2⟩, k3⟩, ⟨⟨⟨⟨⟨⟨⟨h1, h2⟩, h3⟩, h4⟩, h5⟩, h6⟩, h7⟩, h8⟩, h9⟩ := h
  apply GProcess.ext <;> first | assumption | (apply GProgram.ext <;> assumption)
theorem bareB_eq {o : GObject} (h : bareB o = true) : o = { (default : GObject) with ID := o.ID, Kind := o.Kind } := by
  simp only [bareB, Bool.and_eq_true, beq_iff_eq, List.isEmpty_iff] at h
  obtain ⟨⟨⟨⟨⟨⟨⟨⟨⟨⟨⟨⟨⟨h1, h2⟩, h3⟩, h4⟩, h5⟩, h6⟩, h7⟩, h8⟩, h9⟩, h10⟩, h11⟩, h12⟩, h13⟩, h14⟩ := h
  have h15 := blankP_eq h14
  apply GObject.ext <;> first | assumption | rfl | skip
  all_goals first | (apply A2Lu8.ext <;> assumption) | skip
end Go.Proofs.YtfmldmafigpblaaDoor
