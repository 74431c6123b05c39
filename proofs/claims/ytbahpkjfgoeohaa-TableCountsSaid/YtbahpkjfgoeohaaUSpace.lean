-- SG
/- Address spaces: validity, and functions that take functions. -/
import Derived.Test.YtbahpkjfgoeohaaUClone
import Derived.Test.YtbahpkjfgoeohaaUFin
import Derived.Test.YtbahpkjfgoeohaaULift2
namespace Go.Proofs.Ytbahpkjfgoeohaa
open Go.Lift
set_option linter.unusedSimpArgs false
set_option linter.unusedVariables false
set_option maxRecDepth 10000
attribute [push_cast] Option.toList_none Option.toList_some
theorem SLe.fn {f : FuncId} {l l' : List SV} (h : LLe l l') : SLe (.fn f l) (.fn f l') := by
  intro X w v hd
  cases hd with
  | fn hs hc =>
    refine .fn (by rw [hs, h.spec.1]) fun i c hi => ?_
    obtain ⟨d, h1, h2⟩ := h.spec.2 i c hi
    exact h2 _ _ _ (hc i d h1)
def idxP {α : Type} (p : α → Bool) : Nat → List α → Int
  | _, [] => -1
  | i, y :: t => if p y then (i : Int) else idxP p (i + 1) t
theorem idxP_ge {α : Type} (p : α → Bool) (l : List α) : ∀ i, decide (0 ≤ idxP p i l) = l.any p := by
  induction l with
  | nil => intro i; simp [idxP]
  | cons y t ih =>
    intro i
    simp only [idxP, List.any_cons]
    split
    · simp [*]
    · simp [*]
theorem idxP_step {α : Type} [Inhabited α] {p : α → Bool} {l : List α} {i : Nat} (h : i < l.length) : idxP p i (l.drop i) = if p (l.getD i default) then (i : Int) else idxP p (i + 1) (l.drop (i + 1)) := by
  rw [List.drop_eq_getElem_cons h]
  simp [idxP, List.getD, h]
def again (p q : GPageRef) : Bool := q.ID == p.ID && (!q.Shared || !p.Shared)
def pgP (l : List GPageRef) (i : Nat) : Bool := !((l.getD i default).ID == 0) && !((l.take i).any (again (l.getD i default)))
def spOk (l : List GPageRef) : Bool := (List.range l.length).all (pgP l) && decide ((l.length : Int) ≤ 16)
def spFind (l : List GPageRef) (a : Int) : Int × Int × Int :=
  if (!spOk l) = true then (0, 0, 1) else if (decide (a < 0) || decide ((l.length : Int) * 16 ≤ a)) = true then (0, 0, 11) else ((l.getD (a / 16).toNat default).ID, a % 16, 0)
def r3s (x : Int × Int × Int) : SV := .tup [.int .u64 x.1, .int .i64 x.2.1, .int .i64 x.2.2]
end Go.Proofs.Ytbahpkjfgoeohaa
