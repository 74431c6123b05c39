/- Results at a function's end, by their shapes. -/
import Derived.Test.YtfmldmafigpblaaDoorFin
namespace Go.Proofs.YtfmldmafigpblaaDoor
open Go.Lift
set_option linter.unusedSimpArgs false
set_option linter.unusedVariables false
variable {B : List Own}
def Lt (B : List Own) (s r : SV) : Prop := frzKT (fromM 0) B s ∧ SLe (frzT (fromM 0) B s) r
theorem EC.finK {P : Program} {f : Nat} {args : List SV} {R : SV} (h : EC P f args [] fun r B' => Lt B' r R) : EC P f args [] fun r N => N = [] ∧ r = R := EC.fin h
theorem EC.finKP {P : Program} {f : Nat} {args : List SV} {σ : Type} {C : σ → Prop} {R : σ → SV} (h : EC P f args [] fun r B' => ∃ x, C x ∧ Lt B' r (R x)) : EC P f args [] fun r N => N = [] ∧ ∃ x, C x ∧ r = R x :=
  EC.finP (h.mono fun r B' ⟨x, h1, h2, h3⟩ => ⟨h2, x, h1, h3⟩)
theorem Lt.bool {p q : Bool} (h : p = q) : Lt B (.bool p) (.bool q) := by subst h; exact ⟨trivial, SLe.refl _⟩
theorem Lt.int {k : IntKind} {p q : Int} (h : p = q) : Lt B (.int k p) (.int k q) := by subst h; exact ⟨trivial, SLe.refl _⟩
theorem Lt.str {p q : List UInt8} (h : p = q) : Lt B (.str p) (.str q) := by subst h; exact ⟨trivial, SLe.refl _⟩
theorem Lt.agg {cs ds : List SV} (h : FzL B cs ds) : Lt B (.agg cs) (.agg ds) := fin_agg h
theorem Lt.t0 : Lt B (.tup []) (.tup []) := ⟨trivial, SLe.refl _⟩
theorem Lt.t2 {a b c d : SV} (h1 : FzA B a c) (h2 : FzA B b d) : Lt B (.tup [a, b]) (.tup [c, d]) := fin_t2 h1 h2
theorem Lt.t3 {a b c d e f : SV} (h1 : FzA B a d) (h2 : FzA B b e) (h3 : FzA B c f) : Lt B (.tup [a, b, c]) (.tup [d, e, f]) := fin_t3 h1 h2 h3
theorem Lt.t4 {a b c d e f g h : SV} (h1 : FzA B a e) (h2 : FzA B b f) (h3 : FzA B c g) (h4 : FzA B d h) : Lt B (.tup [a, b, c, d]) (.tup [e, f, g, h]) :=
  ⟨⟨h1.1, h2.1, h3.1, h4.1, trivial⟩, SLe.tup (.cons h1.2 (.cons h2.2 (.cons h3.2 (.cons h4.2 .nil))))⟩
theorem FzA.boolE {p q : Bool} (h : p = q) : FzA B (.bool p) (.bool q) := by subst h; exact FzA.bool
theorem FzA.intE {k : IntKind} {p q : Int} (h : p = q) : FzA B (.int k p) (.int k q) := by subst h; exact FzA.int
theorem FzA.strE {p q : List UInt8} (h : p = q) : FzA B (.str p) (.str q) := by subst h; exact ⟨trivial, SLe.refl _⟩
theorem FzL.eqO {x y : GObject} (h : x = y) : FzL B x.c y.c := by subst h; exact FzL.O x
theorem FzA.aggO {x y : GObject} (h : x = y) : FzA B (.agg x.c) (.agg y.c) := by subst h; exact FzA.agg (FzL.O x)
theorem Lt.aggO {x y : GObject} (h : x = y) : Lt B (.agg x.c) (.agg y.c) := by subst h; exact Lt.agg (FzL.O x)
theorem Lt.row {α : Type} {i e n E : Nat} {h : RowH} {xs : List (List SV)} {cells : α → List SV} {d : α} {l : List α} (hB : getD' B i = .row h E e xs) (hx : xs = l.map cells) (hn : n = l.length) : Lt B (.row i h e 0 n) (.sl false e l.length (elt cells d l)) := fin_rowT hB hx hn
theorem putO {x : GObject} {L : List SV} (h : L.length = 36) : putL x.c 0 L = L := putL_app (by rw [h, GObject.len]; decide) (by rw [List.drop_of_length_le (by rw [h, GObject.len]; decide)]; simp)
theorem take36 {L : List SV} (h : L.length = 36) : L.take 36 = L := List.take_of_length_le (by omega)
theorem solids_put {cs ys : List SV} {o : Nat} (h : solids cs = true ∧ solids ys = true) : solids (putL cs o ys) = true := putL_sol cs ys o h.1 h.2
attribute [push_cast] take36 putO solids_put
end Go.Proofs.YtfmldmafigpblaaDoor
