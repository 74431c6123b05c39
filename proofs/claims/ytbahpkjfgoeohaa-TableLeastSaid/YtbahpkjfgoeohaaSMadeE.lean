/- Made objects: ports, name spaces, objects of any kind. -/
import Derived.Test.YtbahpkjfgoeohaaSMadeD
import Derived.Test.YtbahpkjfgoeohaaSMadeC
import Derived.Test.YtbahpkjfgoeohaaSRef17
import Derived.Test.YtbahpkjfgoeohaaSLift2
namespace Go.Proofs.Ytbahpkjfgoeohaa
open Go.Lift
set_option linter.unusedSimpArgs false
set_option linter.unusedVariables false
set_option maxRecDepth 10000
/-- The environment in which the backlog of a zero object is known to be nil. -/
def zrB : List SV := putL (GObject.c default) 29 [.sl true 0 0 fun _ => []]
def E2 : Env := { E with zr := fun T => if T = 65 then zrB else E.zr T }
theorem E2_ty (T : Nat) : E2.ty T = E.ty T := rfl
theorem E2_lv (T : Nat) : E2.lv T = E.lv T := rfl
theorem E2_zr : E2.zr 65 = zrB := rfl
theorem E2_zrU : E2.zr 26 = E.zr 26 := rfl
theorem zrB_len : zrB.length = 36 := rfl
theorem zrB_sol : solids zrB = true := rfl
theorem zrB_t : zrB.take 36 = zrB := rfl
theorem zrB_q (v : List SV) (h : v.length = 36) : putL zrB 0 v = v := putL_app (by rw [zrB_len, h]; decide) (by simp [zrB_len, h])
attribute [push_cast] E2_ty E2_lv E2_zr E2_zrU zrB_len zrB_sol zrB_t
def portN (id r : Int) : GObject := { (default : GObject) with ID := id, Kind := 6, Refs := r }
def nilQ : SV := .sl true 0 0 fun _ => []
/-- The cells of a port, with whatever stands for its backlog. -/
def portC (id r : Int) (q : SV) : List SV := putL (GObject.c (portN id r)) 29 [q]
theorem portC_mk (id k r : Int) : putL (putL (putL zrB 0 [.int .u64 id]) 1 [.int .i64 6]) 2 [.int .i64 r] = portC id r nilQ := rfl
theorem portC_len (id r : Int) (q : SV) : (portC id r q).length = 36 := rfl
theorem portC_t (id r : Int) (q : SV) : (portC id r q).take 36 = portC id r q := rfl
theorem portC_solN (id r : Int) : solids (portC id r nilQ) = true := rfl
theorem portC_solR (id r : Int) (i : Nat) (h : RowH) (e a n : Nat) : solids (portC id r (.row i h e a n)) = true := by simp [portC, putL, GObject.c, solids, SV.solid]
theorem portC_q (id r : Int) (q : SV) : putL zrB 0 (portC id r q) = portC id r q := zrB_q _ rfl
theorem portC_r (id r v : Int) (q : SV) : putL (portC id r q) 2 [.int .i64 v] = portC id v q := rfl
theorem portC_g (id r : Int) (q d : SV) : (portC id r q).getD 29 d = q := rfl
theorem portC_p (id r : Int) (q q2 : SV) : putL (portC id r q) 29 [q2] = portC id r q2 := rfl
attribute [push_cast] portC_mk portC_len portC_t portC_solN portC_solR portC_q portC_r portC_g portC_p
theorem LFz.obj {m : Nat} {B : List Own} {o : GObject} {r r' : List SV} (hr : LFz m B r r') : LFz m B (.agg o.c :: r) (.agg o.c :: r') := by
  refine .cons ?_ ?_ hr
  · simp only [frzKT, frzKA]; rw [GObject.fk]; trivial
  · simp only [frzT, frzA]; rw [GObject.fz]; exact SLe.refl _
theorem LFz.name {m : Nat} {B : List Own} {n : GName} {i E k : Nat} {h : RowH} {xs : List (List SV)} {l : List Int} {r r' : List SV} (hB : getD' B i = .row h E 1 xs) (hm : m ≤ i) (hx : xs = l.map (intC .u64)) (hk : k = l.length) (hr : LFz m B r r') :
    LFz m B (.agg (putL n.c 2 [.row i h 1 0 k]) :: r) (.agg (GName.c { n with IDs := l }) :: r') := by
  subst hx hk
  have hsel : fromM m i = true := by simpa [fromM] using hm
  refine .cons ?_ ?_ hr
  · simp only [frzKT, frzKA]
    refine frzKL_put _ _ _ _ _ (by rw [GName.fk]; trivial) ⟨by simp only [frzKC, hsel, hB]; exact ⟨trivial, trivial, by simp⟩, trivial⟩
  · simp only [frzT, frzA, frzL_put, frzL]
    refine SLe.agg ?_
    rw [GName.fz]
    refine LLe.put (LLe.refl _) 2 ?_ (GName.p2 _ _)
    simp only [frzC, hsel, hB]
    refine SLe.sl (fun h => h) (.inr rfl) fun k hk => ?_
    simp [List.getD, hk, elt]
def fltA : Flt := ⟨5, 20, 3, fun h => .row h 3 1 [[.int .i64 3], [.int .i64 6], [.int .i64 8], [.int .i64 9], [.int .i64 2]], fun h => .row 3 h 1 0 5⟩
def fltC : Flt := ⟨14, 5, 4, fun h => .row h 105 3 [GName.c default], fun h => .rptr 4 h 3 0 0⟩
def fltS : List Bool := [true, true, true, false, false]
end Go.Proofs.Ytbahpkjfgoeohaa
