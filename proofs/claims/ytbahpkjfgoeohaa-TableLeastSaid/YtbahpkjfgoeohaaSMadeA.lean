/- Made objects: the simple kinds. -/
import Derived.Test.YtbahpkjfgoeohaaSDice
namespace Go.Proofs.Ytbahpkjfgoeohaa
open Go.Lift
set_option linter.unusedSimpArgs false
set_option linter.unusedVariables false
set_option maxRecDepth 10000
theorem o23t (o : GObject) (s : SV) : (putL o.c 23 [s]).take 36 = putL o.c 23 [s] := rfl
theorem o23l (o : GObject) (s : SV) : (putL o.c 23 [s]).length = 36 := rfl
theorem o23s (o : GObject) (i : Nat) (h : RowH) (e a n : Nat) : solids (putL o.c 23 [.row i h e a n]) = true := by simp [putL, GObject.c, solids, SV.solid]
theorem o23d (o : GObject) (s : SV) : putL (GObject.c default) 0 (putL o.c 23 [s]) = putL o.c 23 [s] := putL_app (by simp only [GObject.len, o23l]; decide) rfl
attribute [push_cast] o23t o23l o23s o23d
theorem o24t (o : GObject) (s : SV) : (putL o.c 24 [s]).take 36 = putL o.c 24 [s] := rfl
theorem o24l (o : GObject) (s : SV) : (putL o.c 24 [s]).length = 36 := rfl
theorem o24s (o : GObject) (i : Nat) (h : RowH) (e a n : Nat) : solids (putL o.c 24 [.row i h e a n]) = true := by simp [putL, GObject.c, solids, SV.solid]
theorem o24d (o : GObject) (s : SV) : putL (GObject.c default) 0 (putL o.c 24 [s]) = putL o.c 24 [s] := putL_app (by simp only [GObject.len, o24l]; decide) rfl
attribute [push_cast] o24t o24l o24s o24d
theorem o29t (o : GObject) (s : SV) : (putL o.c 29 [s]).take 36 = putL o.c 29 [s] := rfl
theorem o29l (o : GObject) (s : SV) : (putL o.c 29 [s]).length = 36 := rfl
theorem o29s (o : GObject) (i : Nat) (h : RowH) (e a n : Nat) : solids (putL o.c 29 [.row i h e a n]) = true := by simp [putL, GObject.c, solids, SV.solid]
theorem o29d (o : GObject) (s : SV) : putL (GObject.c default) 0 (putL o.c 29 [s]) = putL o.c 29 [s] := putL_app (by simp only [GObject.len, o29l]; decide) rfl
attribute [push_cast] o29t o29l o29s o29d
theorem o30t (o : GObject) (s : SV) : (putL o.c 30 [s]).take 36 = putL o.c 30 [s] := rfl
theorem o30l (o : GObject) (s : SV) : (putL o.c 30 [s]).length = 36 := rfl
theorem o30s (o : GObject) (i : Nat) (h : RowH) (e a n : Nat) : solids (putL o.c 30 [.row i h e a n]) = true := by simp [putL, GObject.c, solids, SV.solid]
theorem o30d (o : GObject) (s : SV) : putL (GObject.c default) 0 (putL o.c 30 [s]) = putL o.c 30 [s] := putL_app (by simp only [GObject.len, o30l]; decide) rfl
attribute [push_cast] o30t o30l o30s o30d
theorem o31t (o : GObject) (s : SV) : (putL o.c 31 [s]).take 36 = putL o.c 31 [s] := rfl
theorem o31l (o : GObject) (s : SV) : (putL o.c 31 [s]).length = 36 := rfl
theorem o31s (o : GObject) (i : Nat) (h : RowH) (e a n : Nat) : solids (putL o.c 31 [.row i h e a n]) = true := by simp [putL, GObject.c, solids, SV.solid]
theorem o31d (o : GObject) (s : SV) : putL (GObject.c default) 0 (putL o.c 31 [s]) = putL o.c 31 [s] := putL_app (by simp only [GObject.len, o31l]; decide) rfl
attribute [push_cast] o31t o31l o31s o31d
theorem o35t (o : GObject) (s : SV) : (putL o.c 35 [s]).take 36 = putL o.c 35 [s] := rfl
theorem o35l (o : GObject) (s : SV) : (putL o.c 35 [s]).length = 36 := rfl
theorem o35s (o : GObject) (i : Nat) (h : RowH) (e a n : Nat) : solids (putL o.c 35 [.row i h e a n]) = true := by simp [putL, GObject.c, solids, SV.solid]
theorem o35d (o : GObject) (s : SV) : putL (GObject.c default) 0 (putL o.c 35 [s]) = putL o.c 35 [s] := putL_app (by simp only [GObject.len, o35l]; decide) rfl
attribute [push_cast] o35t o35l o35s o35d
def semNew (id n : Int) : GObject × Int := if id == 0 then (default, 1) else if decide (n < 0) || decide (1073741824 < n) then (default, 2) else ({ (default : GObject) with ID := id, Kind := 8, Count := n }, 0)
theorem small0 : smallO default := by
  refine ⟨⟨?_, ?_, ?_, ?_, ?_⟩, ?_, ?_, ?_, ?_, ?_, ?_, ?_⟩ <;> first | decide | (intro n hn; cases hn)
end Go.Proofs.Ytbahpkjfgoeohaa
