/-
  The statement about many children: what its objects are.
-/
import Derived.Test.YtfmldmafigpblaaDoorProcD
namespace Go.Proofs.YtfmldmafigpblaaDoor
open Go.Lift
set_option linter.unusedVariables false
/-- A process without a parent, with these children. -/
def pO (ks : List Int) : GObject := { (default : GObject) with ID := 3, Kind := 1, Process := { (default : GProcess) with State := 1, Children := ks } }
/-- Its child. -/
def cO (id : Int) : GObject := { (default : GObject) with ID := id, Kind := 1, Process := { (default : GProcess) with State := 1, Parent := 3 } }
/-- What is left of the child. -/
def zO (id st : Int) : GObject := { (default : GObject) with ID := id, Kind := 1, Process := { (default : GProcess) with State := 3, Parent := 3, Status := st } }
theorem small_pO {ks : List Int} (h : ks.length ≤ 1000000) : smallO (pO ks) := ⟨⟨h, Nat.zero_le _, Nat.zero_le _, Nat.zero_le _, Nat.zero_le _⟩, Nat.zero_le _, Nat.zero_le _, Nat.zero_le _, Nat.zero_le _, Nat.zero_le _, Nat.zero_le _, by intro n hn; cases hn⟩
theorem small_cO (id : Int) : smallO (cO id) := ⟨⟨Nat.zero_le _, Nat.zero_le _, Nat.zero_le _, Nat.zero_le _, Nat.zero_le _⟩, Nat.zero_le _, Nat.zero_le _, Nat.zero_le _, Nat.zero_le _, Nat.zero_le _, Nat.zero_le _, by intro n hn; cases hn⟩
theorem small_zO (id st : Int) : smallO (zO id st) := ⟨⟨Nat.zero_le _, Nat.zero_le _, Nat.zero_le _, Nat.zero_le _, Nat.zero_le _⟩, Nat.zero_le _, Nat.zero_le _, Nat.zero_le _, Nat.zero_le _, Nat.zero_le _, Nat.zero_le _, by intro n hn; cases hn⟩
theorem sig_0 : sigOk 0 = true := by decide +kernel
theorem prB_alive (o : GObject) (h1 : o.Process.State = 1) (h2 : o.Process.Program = default) (h3 : o.Process.Pages = []) (h4 : o.Process.Table = []) (h5 : o.Process.Pending = 0) (h6 : o.Process.Alarm = 0) (h7 : o.Process.Status = 0) (h8 : o.Kind = 1) (h9 : onlyB o 2 = true) :
    prB o = !(o.ID == 0 || !famB o) := by
  unfold prB
  rw [h1, h2, h3, h4, h5, h6, h7, h8, h9, sig_0]
  cases o.ID == 0 <;> cases famB o <;> rfl
theorem prB_pO (ks : List Int) : prB (pO ks) = (famL 3 ks && decide ((ks.length : Int) ≤ 32)) := by
  rw [prB_alive (pO ks) rfl rfl rfl rfl rfl rfl rfl rfl rfl]
  show (!(false || !(famL 3 ks && (true && decide ((ks.length : Int) ≤ 32))))) = _
  simp
theorem prB_cO {id : Int} (h0 : id ≠ 0) (h3 : id ≠ 3) : prB (cO id) = true := by
  rw [prB_alive (cO id) rfl rfl rfl rfl rfl rfl rfl rfl rfl]
  show (!((id == 0) || !(true && ((3 : Int) != id && true)))) = _
  have e1 : (id == 0) = false := by simpa using h0
  have e2 : ((3 : Int) != id) = true := by simpa using (Ne.symm h3)
  rw [e1, e2]
  rfl
theorem prB_zO {id : Int} (st : Int) (h0 : id ≠ 0) (h3 : id ≠ 3) : prB (zO id st) = true := by
  show (if ((false || (id == 0) || false || !(true && ((3 : Int) != id && true))) : Bool) = true then false else true) = _
  have e1 : (id == 0) = false := by simpa using h0
  have e2 : ((3 : Int) != id) = true := by simpa using (Ne.symm h3)
  rw [e1, e2]
  rfl
theorem new_pO : newO0 3 default = (pO [], 0) := by decide
/-- The children of a process are in order. -/
structure Kids (ks : List Int) : Prop where
  nodup : ks.Nodup
  le : ks.length ≤ 32
  pos : ∀ k ∈ ks, 10 ≤ k ∧ k < 42
theorem famL_of {ks : List Int} (h : Kids ks) : famL 3 ks = true := by
  simp only [famL, List.all_eq_true, List.mem_range, famP]
  intro i hi
  have e : ks.getD i default = ks[i] := by simp [List.getD, hi]
  rw [e]
  have hp := h.pos ks[i] (List.getElem_mem hi)
  have hn : ks[i] ∉ ks.take i := by
    intro hm
    obtain ⟨j, hj, he⟩ := List.getElem_of_mem hm
    rw [List.getElem_take] at he
    have hj' : j < i := by simp at hj; omega
    have := (List.pairwise_iff_getElem.1 h.nodup) j i (by omega) hi hj'
    exact this he
  simp [hn]; omega
theorem Kids.valid {ks : List Int} (h : Kids ks) : prB (pO ks) = true := by rw [prB_pO, famL_of h]; simp; have := h.le; omega
theorem fork_pO {ks : List Int} (h : Kids ks) {id : Int} (hl : ks.length < 32) (h1 : 10 ≤ id) (hn : id ∉ ks) : forkO (pO ks) id [] = (pO (ks ++ [id]), cO id, 0) := by
  have e1 : prB (pO ks) = true := h.valid
  have hc : { childO (pO ks) id with Process := { (childO (pO ks) id).Process with Pages := (spRepl (pO ks).Process.Pages []).1 } } = cO id := rfl
  have e2 : (spRepl (pO ks).Process.Pages []).2 = 0 := rfl
  have e3 : ((pO ks).Process.State != 1) = false := rfl
  have e4 : (pO ks).Process.Children = ks := rfl
  have e5 : (pO ks).ID = 3 := rfl
  unfold forkO
  rw [hc, e1, e2, e3, e4, e5, prB_cO (by omega) (by omega), if_neg (by simp), if_neg (by simp), if_neg (by simp; omega), if_neg (by simp [hn]; omega), if_neg (by simp), if_neg (by simp)]
  rfl
theorem fork_full {ks : List Int} (h : Kids ks) {id : Int} (hl : ks.length = 32) : forkO (pO ks) id [] = (default, default, 3) := by
  have e1 : prB (pO ks) = true := h.valid
  have e3 : ((pO ks).Process.State != 1) = false := rfl
  have e4 : (pO ks).Process.Children = ks := rfl
  unfold forkO
  rw [e1, e3, e4, if_neg (by simp), if_neg (by simp), if_pos (by simp; omega)]
theorem end_cO {id : Int} (st : Int) (h1 : 10 ≤ id) : endO (cO id) st = (zO id st, false, 0) := by
  unfold endO
  rw [prB_cO (by omega) (by omega), if_neg (by simp)]
  rfl
theorem idxI_at {x : Int} {l : List Int} (hl : l.Nodup) : ∀ {i j : Nat} (hj : j < l.length), l[j] = x → idxI x i l = i + j := by
  induction l with
  | nil => intro i j hj; simp at hj
  | cons y t ih =>
    intro i j hj he
    rw [idxI]
    cases j with
    | zero => rw [if_pos (by simpa using he.symm)]; simp
    | succ j =>
      have hd := List.nodup_cons.1 hl
      have hj' : j < t.length := by simpa using hj
      have hx : t[j] = x := by simpa using he
      rw [if_neg (fun e => hd.1 (by rw [← e, ← hx]; exact List.getElem_mem _)), ih hd.2 hj' hx]
      push_cast; omega
theorem reap_pO {ks : List Int} (h : Kids ks) {k : Nat} (hk : k < ks.length) (st : Int) : reapO (pO ks) (zO ks[k] st) = (pO (ks.eraseIdx k), st, 0) := by
  have hp := h.pos ks[k] (List.getElem_mem hk)
  have e1 : prB (pO ks) = true := h.valid
  have e4 : (pO ks).Process.Children = ks := rfl
  have e5 : (zO ks[k] st).ID = ks[k] := rfl
  have e6 : ((zO ks[k] st).Process.Parent != (pO ks).ID) = false := rfl
  have e7 : ((zO ks[k] st).Process.State != 3) = false := rfl
  have hi : idxI ks[k] 0 ks = k := by rw [idxI_at (i := 0) h.nodup hk rfl]; simp
  unfold reapO
  rw [e4, e5, e6, e7, hi, e1, prB_zO st (by omega) (by omega), if_neg (by simp), if_neg (by simp), if_neg (by simp)]
  rfl
theorem Kids.erase {ks : List Int} (h : Kids ks) (k : Nat) : Kids (ks.eraseIdx k) :=
  ⟨h.nodup.sublist (List.eraseIdx_sublist ..), Nat.le_trans (List.length_eraseIdx_le ..) h.le, fun x hx => h.pos x ((List.eraseIdx_sublist ..).subset hx)⟩
theorem Kids.nil : Kids [] := ⟨List.nodup_nil, Nat.zero_le _, by simp⟩
/-- The first children. -/
def kidsN (n : Nat) : List Int := (List.range n).map fun i : Nat => 10 + (i : Int)
theorem kids_N {n : Nat} (hn : n ≤ 32) : Kids (kidsN n) := by
  refine ⟨?_, by simpa [kidsN] using hn, ?_⟩
  · rw [kidsN, List.nodup_iff_pairwise_ne, List.pairwise_map]
    refine List.nodup_range.imp ?_
    intro a b h; omega
  · intro k hk; simp [kidsN] at hk; omega
theorem kidsN_succ (n : Nat) : kidsN (n + 1) = kidsN n ++ [10 + (n : Int)] := by simp [kidsN, List.range_succ]
theorem kidsN_new (n : Nat) : (10 + (n : Int)) ∉ kidsN n := by simp [kidsN]; omega
/-- What is left of children. -/
def leftL (ks : List Int) : List GObject := ks.map fun k => zO k ((k - 10) * (k - 10))
end Go.Proofs.YtfmldmafigpblaaDoor
