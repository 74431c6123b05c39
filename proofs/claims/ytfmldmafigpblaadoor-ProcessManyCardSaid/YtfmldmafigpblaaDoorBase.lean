/- Common definitions. -/
import Derived.Test.YtfmldmafigpblaaDoorEnv
import Derived.Test.YtfmldmafigpblaaDoorLiftZ1
namespace Go.Proofs.YtfmldmafigpblaaDoor
open Go.Lift
set_option linter.unusedSimpArgs false
set_option linter.unusedVariables false
set_option maxRecDepth 10000
theorem Tryd.follows : Tryd.prog.follows .mixedOrders = true := by kernel_rfl
theorem len0 {α : Type} (l : List α) : ((l.length : Int) == 0) = l.isEmpty := by
  cases l with
  | nil => rfl
  | cons a l => simp; omega
theorem lenP {α : Type} (l : List α) : decide (0 < (l.length : Int)) = !l.isEmpty := by cases l <;> simp
theorem bne_eq (a b : Int) : (a != b) = !(a == b) := rfl
/-- Lists of a process are not of any size. -/
def smallP (p : GProcess) : Prop := p.Children.length ≤ 1000000 ∧ p.Program.Code.length ≤ 1000000 ∧ p.Program.Strings.length ≤ 1000000 ∧ p.Pages.length ≤ 1000000 ∧ p.Table.length ≤ 1000000
def smallO (o : GObject) : Prop := smallP o.Process ∧ o.Words.length ≤ 1000000 ∧ o.Data.length ≤ 1000000 ∧ o.Backlog.length ≤ 1000000 ∧ o.Queues.x0.length ≤ 1000000 ∧ o.Queues.x1.length ≤ 1000000 ∧ o.Names.length ≤ 1000000 ∧
  (∀ n ∈ o.Names, n.IDs.length ≤ 1000000 ∧ n.Path.length ≤ 1000000)
def restB (p : GProcess) : Bool := p.Children.isEmpty && p.Program.Code.isEmpty && p.Program.Strings.isEmpty && p.Pages.isEmpty && p.Table.isEmpty && p.Program.Pages == 0 && p.CPU == default && p.Pending == 0 && p.Alarm == 0
def blankP (p : GProcess) : Bool := p.State == 0 && p.Parent == 0 && p.Status == 0 && restB p
theorem take_eq_succ {α : Type} [Inhabited α] {a b : List α} {i : Nat} (h1 : i < a.length) (h2 : i < b.length) (h : a.take i = b.take i) (he : a.getD i default = b.getD i default) : a.take (i + 1) = b.take (i + 1) := by
  rw [List.take_succ_eq_append_getElem h1, List.take_succ_eq_append_getElem h2, h]
  simp [List.getD, h1, h2] at he
  rw [he]
theorem take_eq_all {α : Type} {a b : List α} (hl : a.length = b.length) (h : a.take a.length = b.take a.length) : a = b := by
  rw [List.take_length, hl, List.take_length] at h; exact h
theorem getD_ne {α : Type} [Inhabited α] {a b : List α} {i : Nat} (h : ¬a.getD i default = b.getD i default) : ¬a = b := fun e => h (e ▸ rfl)
theorem all_succ {α : Type} [Inhabited α] {l : List α} {p : α → Bool} {i : Nat} (hi : i < l.length) (h : (l.take i).all p = true) (hp : p (l.getD i default) = true) : (l.take (i + 1)).all p = true := by
  rw [List.take_succ_eq_append_getElem hi, List.all_append, h]
  simpa [List.getD, hi] using hp
theorem all_fail {α : Type} [Inhabited α] {l : List α} {p : α → Bool} {i : Nat} (hi : i < l.length) (hp : p (l.getD i default) = false) : l.all p = false := by
  apply Bool.eq_false_iff.2
  intro h
  have := List.all_eq_true.1 h l[i] (List.getElem_mem hi)
  simp [List.getD, hi] at hp
  rw [hp] at this; cases this
theorem getD_mem {α : Type} [Inhabited α] {l : List α} {i : Nat} (hi : i < l.length) : l.getD i default ∈ l := by
  rw [show l.getD i default = l[i] by simp [List.getD, hi]]; exact List.getElem_mem hi
end Go.Proofs.YtfmldmafigpblaaDoor
