/- Part 10: KerM, KerN, KerO, KerQ, KerR, KerS, KerT, KerU0, KerU. -/
import Derived.Test.YtfmldmafigpblaaGreatDoorU09
section
namespace Go.Proofs.YtfmldmafigpblaaGreatDoor
open Go.Lift
set_option linter.unusedSimpArgs false
set_option linter.unusedVariables false
set_option maxRecDepth 10000
theorem okO_plain {I D : Int → Prop} {o p : GObject} (h : okO I D o) (hk : p.Kind ≠ 1) (hid : I p.ID) (hp : p.Process = o.Process) (hw : p.Words.length ≤ 1000000) (hd : p.Data.length ≤ 1000000) (hb : p.Backlog.length ≤ 1000000) (h0 : p.Queues.x0.length ≤ 1000000) (h1 : p.Queues.x1.length ≤ 1000000) (hn : p.Names = o.Names) : okO I D p :=
  ⟨⟨by rw [hp]; exact h.sm.1, hw, hd, hb, h0, h1, by rw [hn]; exact h.sm.2.2.2.2.2.2⟩, by unfold pendO; rw [hp]; exact h.pd, fun e => absurd e hk, ⟨hid, by rw [hp]; exact h.kn.2.1, by rw [hp]; exact h.kn.2.2.1, by rw [hn]; exact h.kn.2.2.2⟩, by rw [hn]; exact h.nm, fun e => absurd e hk⟩
theorem okO_new {I D : Int → Prop} {p : GObject} (h0 : I 0) (hk : p.Kind ≠ 1) (hid : I p.ID) (hp : p.Process = default) (hw : p.Words.length ≤ 1000000) (hd : p.Data = []) (hb : p.Backlog = []) (hq : p.Queues = default) (hn : p.Names = []) : okO I D p :=
  okO_plain (okO_def h0) hk hid hp hw (by rw [hd]; exact Nat.zero_le _) (by rw [hb]; exact Nat.zero_le _) (by rw [hq]; exact Nat.zero_le _) (by rw [hq]; exact Nat.zero_le _) hn
section
variable {I D : Int → Prop} {o : GObject}
theorem okO_slSet {s : GSlot} {n : Int} (h : okO I D o) (hk : o.Kind ≠ 1) : okO I D (slSet o s n) := by
  unfold slSet
  repeat' split
  all_goals exact okO_plain h hk h.kn.1 rfl h.sm.2.1 h.sm.2.2.1 h.sm.2.2.2.1 h.sm.2.2.2.2.1 h.sm.2.2.2.2.2.1 rfl
theorem okO_change {s : GSlot} {b : Int} (h : okO I D o) (h2 : (tbChange o s b).2 = 0) : okO I D (tbChange o s b).1 := by
  unfold tbChange at h2 ⊢
  split
  · rename_i g; rw [if_pos g] at h2; simp at g h2; exact absurd h2 g
  rename_i g
  rw [if_neg g] at h2
  have hk : o.Kind ≠ 1 := by
    have g' : tbFits o s = 0 := by simpa using g
    unfold tbFits at g'
    split at g'
    · simp at g'
    · split at g'
      · simp at g'
      · rename_i g2
        simp at g2
        rw [g2.2]
        unfold slKind
        repeat' split
        all_goals decide
  split
  · rename_i g2; rw [if_pos g2] at h2; simp at h2
  rename_i g2
  rw [if_neg g2] at h2
  split
  · rename_i g3; rw [if_pos g3] at h2; simp at h2
  exact okO_slSet h hk
theorem okO_drop {s : GSlot} (h : okO I D o) (h2 : (tbDrop o s).2.2 = 0) : okO I D (tbDrop o s).1 := by
  unfold tbDrop at h2 ⊢
  split
  · rename_i g; rw [if_pos g] at h2; simp at g h2; exact absurd h2 g
  · rename_i g; exact okO_change h (by simpa using g)
theorem okO_pageSet {w v : Int} (h : okO I D o) (h2 : (pageSet o w v).2 = 0) : okO I D (pageSet o w v).1 := by
  unfold pageSet at h2 ⊢
  split
  · rename_i g; rw [if_pos g] at h2; simp at g h2; exact absurd h2 g
  · rename_i g
    have hk : o.Kind ≠ 1 := by
      simp only [pageGet] at g
      split at g
      · simp at g
      · rename_i g2; simp [pageOk] at g2; omega
    exact okO_plain h hk h.kn.1 rfl (by show (o.Words.set _ _).length ≤ _; rw [List.length_set]; exact h.sm.2.1) h.sm.2.2.1 h.sm.2.2.2.1 h.sm.2.2.2.2.1 h.sm.2.2.2.2.2.1 rfl
theorem okO_pageCopy {id : Int} (h : okO I D o) (hi : I id) (h2 : (pageCopy o id).2 = 0) : okO I D (pageCopy o id).1 := by
  unfold pageCopy at h2 ⊢
  split
  · rename_i g; rw [if_pos g] at h2; simp at h2
  · rename_i g
    have hk : o.Kind ≠ 1 := by simp [pageOk] at g; omega
    exact okO_plain h hk hi rfl h.sm.2.1 h.sm.2.2.1 h.sm.2.2.2.1 h.sm.2.2.2.2.1 h.sm.2.2.2.2.2.1 rfl
theorem wrD_len (D : List Int) (k : Nat) (c : Int) : (wrD D k c).length ≤ D.length + (k + 1) := by
  unfold wrD; simp <;> omega
theorem okO_fileWrite {k c : Int} (h : okO I D o) (h2 : (fileWrite o k c).2 = 0) : okO I D (fileWrite o k c).1 := by
  unfold fileWrite at h2 ⊢
  split
  · rename_i g; rw [if_pos g] at h2; simp at h2
  rename_i g
  rw [if_neg g] at h2
  split
  · rename_i g2; rw [if_pos g2] at h2; simp at h2
  rename_i g2
  rw [if_neg g2] at h2
  split
  · rename_i g3; rw [if_pos g3] at h2; simp at h2
  rename_i g3
  have hk : o.Kind ≠ 1 := by simp [fileOk] at g; omega
  have hl : o.Data.length ≤ 4096 := fileOk_len (by simpa using g)
  simp at g2 g3
  refine okO_plain h hk h.kn.1 rfl h.sm.2.1 ?_ h.sm.2.2.2.1 h.sm.2.2.2.2.1 h.sm.2.2.2.2.2.1 rfl
  have := wrD_len o.Data k.toNat c
  show (wrD o.Data k.toNat c).length ≤ _
  omega
theorem okO_pipeRead (h : okO I D o) (h2 : (pipeRead o).2.2 = 0) : okO I D (pipeRead o).2.1 := by
  unfold pipeRead at h2 ⊢
  split
  · rename_i g; rw [if_pos g] at h2; simp at h2
  rename_i g
  rw [if_neg g] at h2
  have hk : o.Kind ≠ 1 := by simp [pipeOk] at g; omega
  split
  · rename_i g2; rw [if_pos g2] at h2; simp at h2
  split
  · exact h
  · exact okO_plain h hk h.kn.1 rfl h.sm.2.1 (by show (o.Data.drop 1).length ≤ _; have := h.sm.2.2.1; simp; omega) h.sm.2.2.2.1 h.sm.2.2.2.2.1 h.sm.2.2.2.2.2.1 rfl
theorem okO_pipeWrite {c : Int} (h : okO I D o) (h2 : (pipeWrite o c).2 = 0) : okO I D (pipeWrite o c).1 := by
  unfold pipeWrite at h2 ⊢
  split
  · rename_i g; rw [if_pos g] at h2; simp at h2
  rename_i g
  rw [if_neg g] at h2
  have hk : o.Kind ≠ 1 := by simp [pipeOk] at g; omega
  have hl : o.Data.length ≤ 64 := pipeOk_len (by simpa using g)
  split
  · rename_i g2; rw [if_pos g2] at h2; simp at h2
  rename_i g2
  rw [if_neg g2] at h2
  split
  · rename_i g3; rw [if_pos g3] at h2; simp at h2
  exact okO_plain h hk h.kn.1 rfl h.sm.2.1 (by show (o.Data ++ [c]).length ≤ _; simp; omega) h.sm.2.2.2.1 h.sm.2.2.2.2.1 h.sm.2.2.2.2.2.1 rfl
theorem okO_putQ {k : Int} {d : List Int} (h : okO I D o) (hk : o.Kind ≠ 1) (hd : d.length ≤ 1000000) : okO I D (putQ o k d) := by
  unfold putQ
  split
  · exact okO_plain h hk h.kn.1 rfl h.sm.2.1 h.sm.2.2.1 h.sm.2.2.2.1 hd h.sm.2.2.2.2.2.1 rfl
  · exact okO_plain h hk h.kn.1 rfl h.sm.2.1 h.sm.2.2.1 h.sm.2.2.2.1 h.sm.2.2.2.2.1 hd rfl
theorem qOf_len {k : Int} (h : okO I D o) : (qOf o k).length ≤ 1000000 := by
  unfold qOf
  split
  · exact h.sm.2.2.2.2.1
  · exact h.sm.2.2.2.2.2.1
theorem okO_chanRead {k : Int} (h : okO I D o) (h2 : (chanRead o k).2.2 = 0) : okO I D (chanRead o k).2.1 := by
  unfold chanRead at h2 ⊢
  split
  · rename_i g; rw [if_pos g] at h2; simp at h2
  rename_i g
  rw [if_neg g] at h2
  have hk : o.Kind ≠ 1 := by simp [chanOk] at g; omega
  split
  · rename_i g2; rw [if_pos g2] at h2; simp at h2
  split
  · exact h
  · exact okO_putQ h hk (by have := qOf_len (k := 1 - k) h; simp; omega)
theorem okO_chanWrite {k c : Int} (h : okO I D o) (h2 : (chanWrite o k c).2 = 0) : okO I D (chanWrite o k c).1 := by
  unfold chanWrite at h2 ⊢
  split
  · rename_i g; rw [if_pos g] at h2; simp at h2
  rename_i g
  rw [if_neg g] at h2
  have hk : o.Kind ≠ 1 := by simp [chanOk] at g; omega
  have hl : (qOf o k).length ≤ 64 := by
    have := chanOk_len (o := o) (by simp at g ⊢; exact g.1)
    unfold qOf; split
    · exact this.1
    · exact this.2
  split
  · rename_i g2; rw [if_pos g2] at h2; simp at h2
  rename_i g2
  rw [if_neg g2] at h2
  split
  · rename_i g3; rw [if_pos g3] at h2; simp at h2
  exact okO_putQ h hk (by simp; omega)
theorem okO_portCall {k : Int} (h : okO I D o) (h2 : (portCall o k).2 = 0) : okO I D (portCall o k).1 := by
  unfold portCall at h2 ⊢
  split
  · rename_i g; rw [if_pos g] at h2; simp at h2
  rename_i g
  rw [if_neg g] at h2
  have hk : o.Kind ≠ 1 := by simp [portOk, portHd] at g; omega
  have hl : o.Backlog.length ≤ 8 := portOk_len (by simp at g ⊢; exact g.1.1)
  split
  · rename_i g2; rw [if_pos g2] at h2; simp at h2
  rename_i g2
  rw [if_neg g2] at h2
  split
  · rename_i g3; rw [if_pos g3] at h2; simp at h2
  exact okO_plain h hk h.kn.1 rfl h.sm.2.1 h.sm.2.2.1 (by show (o.Backlog ++ [k]).length ≤ _; simp; omega) h.sm.2.2.2.2.1 h.sm.2.2.2.2.2.1 rfl
theorem okO_portTake (h : okO I D o) (h2 : (portTake o).2.2 = 0) : okO I D (portTake o).2.1 := by
  unfold portTake at h2 ⊢
  split
  · rename_i g; rw [if_pos g] at h2; simp at h2
  rename_i g
  rw [if_neg g] at h2
  have hk : o.Kind ≠ 1 := by simp [portOk, portHd] at g; omega
  have hl : o.Backlog.length ≤ 8 := portOk_len (by simpa using g)
  split
  · rename_i g2; rw [if_pos g2] at h2; simp at h2
  exact okO_plain h hk h.kn.1 rfl h.sm.2.1 h.sm.2.2.1 (by show (o.Backlog.drop 1).length ≤ _; simp; omega) h.sm.2.2.2.2.1 h.sm.2.2.2.2.2.1 rfl
theorem okO_semDown (h : okO I D o) (h2 : (semDown o).2 = 0) : okO I D (semDown o).1 := by
  unfold semDown at h2 ⊢
  split
  · rename_i g; rw [if_pos g] at h2; simp at h2
  rename_i g
  rw [if_neg g] at h2
  have hk : o.Kind ≠ 1 := by simp [semOk] at g; omega
  split
  · rename_i g2; rw [if_pos g2] at h2; simp at h2
  exact okO_plain h hk h.kn.1 rfl h.sm.2.1 h.sm.2.2.1 h.sm.2.2.2.1 h.sm.2.2.2.2.1 h.sm.2.2.2.2.2.1 rfl
theorem okO_semUp (h : okO I D o) (h2 : (semUp o).2 = 0) : okO I D (semUp o).1 := by
  unfold semUp at h2 ⊢
  split
  · rename_i g; rw [if_pos g] at h2; simp at h2
  rename_i g
  rw [if_neg g] at h2
  have hk : o.Kind ≠ 1 := by simp [semOk] at g; omega
  split
  · rename_i g2; rw [if_pos g2] at h2; simp at h2
  exact okO_plain h hk h.kn.1 rfl h.sm.2.1 h.sm.2.2.1 h.sm.2.2.2.1 h.sm.2.2.2.2.1 h.sm.2.2.2.2.2.1 rfl
theorem okO_semNew {id n : Int} (h0 : I 0) (hi : I id) : okO I D (semNew id n).1 := by
  unfold semNew
  repeat' split
  · exact okO_def h0
  · exact okO_def h0
  · exact okO_new h0 (by show (8 : Int) ≠ 1; decide) hi rfl (Nat.zero_le _) rfl rfl rfl rfl
theorem okO_devDo {v : Int} (h : okO I D o) (h2 : (devDo o v).2.2 = 0) : okO I D (devDo o v).2.1 := by
  unfold devDo at h2 ⊢
  split
  · rename_i g
    have hk : o.Kind ≠ 1 := by simp [devOk] at g; omega
    exact okO_plain h hk h.kn.1 rfl h.sm.2.1 h.sm.2.2.1 h.sm.2.2.2.1 h.sm.2.2.2.2.1 h.sm.2.2.2.2.2.1 rfl
  · rename_i g; rw [if_neg g] at h2; simp at h2
theorem okO_end {st : Int} (h : okO I D o) (h0 : I 0) (h2 : (endO o st).2.2 = 0) : okO I D (endO o st).1 := by
  unfold endO at h2 ⊢
  split
  · exact okO_def h0
  rename_i g
  rw [if_neg g] at h2
  split
  · exact okO_def h0
  rename_i g2
  rw [if_neg g2] at h2
  split
  · exact okO_def h0
  rename_i g3
  have hv := (prB_iff o).1 (by simpa using g)
  have hf := (famB_iff o).1 hv.1.2.2.2
  refine ⟨small_def, pend_def, fun _ => ?_, ⟨h.kn.1, fun c hc => (nomatch hc), fun c hc => (nomatch hc), fun c hc => (nomatch hc)⟩, fun c hc => (nomatch hc), fun _ => ⟨(h.ds hv.1.1).1, fun c hc => (nomatch hc)⟩⟩
  refine (prB_iff _).2 ⟨⟨rfl, hv.1.2.1, ?_, (famB_iff _).2 ⟨rfl, hf.2.1, Nat.zero_le _⟩⟩, .inl ⟨rfl, by simpa using g3, rfl⟩⟩
  rw [only2 { (default : GObject) with ID := o.ID, Kind := 1 } _]
  rfl
theorem okO_orph (h : okO I D o) (h0 : I 0) : okO I D (orphO o).1 := by
  unfold orphO
  split
  · exact okO_def h0
  split
  · exact okO_def h0
  split
  · exact okO_def h0
  rename_i g g2 g3
  have hl := Liv.of (o := o) (by simpa using g) (by simpa using g3)
  have hl2 : Liv { o with Process := { o.Process with Parent := 0 } } := ⟨hl.k, hl.id, hl.on' _, hl.fam, fun e => hl.id e.symm, hl.cl, hl.st, hl.chk, hl.sp, hl.tb, hl.sg, hl.al, hl.ss⟩
  exact ⟨h.sm, h.pd, fun _ => hl2.pr, h.kn, h.nm, h.ds⟩
end
def jm (I : Int → Prop) (m : GStep) (x : Int) : Prop := I x ∨ x ∈ m.fresh.take m.out.Used.toNat
structure okM (I D : Int → Prop) (L : Nat) (m : GStep) : Prop where
  i0 : I 0
  st : okS (jm I m) D m.s
  ln : m.s.Objects.length ≤ L
  ob : okP (jm I m) D m.o
  us : 0 ≤ m.out.Used ∧ m.out.Used ≤ m.fresh.length
  fl : m.fresh.length ≤ 64
  nz : ∀ x ∈ m.fresh, x ≠ 0
  nf : ∀ x ∈ m.fresh, ¬ I x
  nd : m.fresh.Nodup
  dk : ∀ x, D x → jm I m x
section
variable {I D : Int → Prop} {L : Nat} {m : GStep}
theorem okM.j0 (h : okM I D L m) : jm I m 0 := .inl h.i0
theorem okM.le (h : okM I D L m) {L' : Nat} (hl : L ≤ L') : okM I D L' m := ⟨h.i0, h.st, Nat.le_trans h.ln hl, h.ob, h.us, h.fl, h.nz, h.nf, h.nd, h.dk⟩
theorem okM.get (h : okM I D L m) (id : Int) : okO (jm I m) D (getS m.s id).1 := h.st.get h.j0
theorem okM.put (h : okM I D L m) {o : GObject} (ho : okO (jm I m) D o) : okM I D (L + 1) (putM m o) :=
  ⟨h.i0, h.st.put ho, Nat.le_trans (putS_len _ _) (Nat.succ_le_succ h.ln), h.ob, h.us, h.fl, h.nz, h.nf, h.nd, h.dk⟩
theorem okM.rem (h : okM I D L m) (id : Int) : okM I D L { m with s := (remS m.s id).1 } := ⟨h.i0, h.st.rem, Nat.le_trans (remS_len _ _) h.ln, h.ob, h.us, h.fl, h.nz, h.nf, h.nd, h.dk⟩
theorem okM.put2 (h : okM I D L m) {o : GObject} {g : Bool} {id : Int} (ho : okO (jm I m) D o) : okM I D (L + 1) (put2M m o g id) := by
  unfold put2M
  split
  · exact (h.rem id).le (Nat.le_succ _)
  · exact h.put ho
theorem okM.drop (h : okM I D L m) (s : GSlot) : okM I D (L + 1) (dropM m s) := by
  unfold dropM
  split
  · exact h.le (Nat.le_succ _)
  split
  · rename_i g; exact h.put2 (okO_drop (h.get _) (by simpa using g))
  · exact h.le (Nat.le_succ _)
theorem okM.hold (h : okM I D L m) (s : GSlot) : okM I D (L + 1) (holdM m s) := by
  unfold holdM
  split
  · exact h.le (Nat.le_succ _)
  split
  · rename_i g; exact h.put (okO_change (h.get _) (by simpa using g))
  · exact h.le (Nat.le_succ _)
theorem dropM_same (m : GStep) (s : GSlot) : (dropM m s).o = m.o ∧ (dropM m s).fresh = m.fresh ∧ (dropM m s).out = m.out := by
  unfold dropM put2M putM
  repeat' split
  all_goals exact ⟨rfl, rfl, rfl⟩
theorem holdM_same (m : GStep) (s : GSlot) : (holdM m s).o = m.o ∧ (holdM m s).fresh = m.fresh ∧ (holdM m s).out = m.out := by
  unfold holdM putM
  repeat' split
  all_goals exact ⟨rfl, rfl, rfl⟩
theorem put2M_same (m : GStep) (o : GObject) (g : Bool) (id : Int) : (put2M m o g id).o = m.o ∧ (put2M m o g id).fresh = m.fresh ∧ (put2M m o g id).out = m.out := by
  unfold put2M putM
  repeat' split
  all_goals exact ⟨rfl, rfl, rfl⟩
theorem okM.take (h : okM I D L m) (hu : m.out.Used < m.fresh.length) : okM I D L (takeM m) := by
  have hj : ∀ x, jm I m x → jm I (takeM m) x := fun x hx => hx.elim .inl fun hx => .inr (by
    show x ∈ m.fresh.take (m.out.Used + 1).toNat
    have := h.us
    rw [show (m.out.Used + 1).toNat = m.out.Used.toNat + 1 by omega]
    exact (List.take_prefix_take_left (by omega)).subset hx)
  exact ⟨h.i0, h.st.mono hj, h.ln, h.ob.mono hj, (show 0 ≤ m.out.Used + 1 ∧ m.out.Used + 1 ≤ (m.fresh.length : Int) by have := h.us; omega), h.fl, h.nz, h.nf, h.nd, fun x hx => hj x (h.dk x hx)⟩
theorem okM.taken (h : okM I D L m) (hu : m.out.Used < m.fresh.length) : jm I (takeM m) (m.fresh.getD m.out.Used.toNat default) := by
  have := h.us
  have hl : m.out.Used.toNat < m.fresh.length := by omega
  refine .inr ?_
  show _ ∈ m.fresh.take (m.out.Used + 1).toNat
  rw [show (m.out.Used + 1).toNat = m.out.Used.toNat + 1 by omega, List.mem_take_iff_getElem]
  exact ⟨m.out.Used.toNat, by omega, by simp [List.getD, hl]⟩
theorem okM.takenz (h : okM I D L m) (hu : m.out.Used < m.fresh.length) : m.fresh.getD m.out.Used.toNat default ≠ 0 := by
  have := h.us
  exact h.nz _ (getD_mem (by omega))
theorem okM.ofO (h : okM I D L m) {o : GObject} (ho : okP (jm I m) D o) : okM I D L { m with o := o } := ⟨h.i0, h.st, h.ln, ho, h.us, h.fl, h.nz, h.nf, h.nd, h.dk⟩
theorem tbOk_put {t : List GSlot} {s : GSlot} : tbOk (tbPut t s).1 = true := by
  unfold tbPut
  split
  · rfl
  split
  · rfl
  rename_i g g2
  simp only [Bool.or_eq_true, Bool.not_eq_true', beq_iff_eq, not_or, Bool.not_eq_false] at g
  obtain ⟨⟨g1, g3⟩, g4⟩ := g
  have hl := tbOk_len g1
  simp only [tbOk, Bool.and_eq_true, decide_eq_true_eq] at g1 ⊢
  obtain ⟨⟨h1, h2⟩, h3⟩ := g1
  unfold putAt
  split
  · rename_i hf
    refine ⟨⟨?_, by rw [List.length_set]; exact h2⟩, ?_⟩
    · rw [List.all_eq_true] at h1 ⊢
      intro x hx
      rcases List.mem_or_eq_of_mem_set hx with hx | rfl
      · exact h1 x hx
      · exact g3
    · rw [List.length_set]
      have hlen : t.length - 1 < t.length := by omega
      simp only [Bool.or_eq_true, beq_iff_eq, bne_iff_ne, ne_eq] at h3 ⊢
      right
      by_cases e : fz t = t.length - 1
      · simpa [List.getD, List.getElem?_set, e, hlen] using g4
      · have h5 := h3.resolve_left (by omega)
        simpa [List.getD, List.getElem?_set, e, hlen] using h5
  · rename_i hf
    have hfz : fz t ≤ t.length := List.findIdx_le_length
    refine ⟨⟨?_, by simp; omega⟩, ?_⟩
    · rw [List.all_append, h1]; simp [g3]
    · simp [List.getD, g4]
theorem tbOk_set {t : List GSlot} {s : GSlot} {n : Nat} (ht : tbOk t = true) (hs : slOk s = true) (hk : s.Kind ≠ 0) : tbOk (t.set n s) = true := by
  simp only [tbOk, Bool.and_eq_true, decide_eq_true_eq] at ht ⊢
  obtain ⟨⟨h1, h2⟩, h3⟩ := ht
  refine ⟨⟨?_, by rw [List.length_set]; exact h2⟩, ?_⟩
  · rw [List.all_eq_true] at h1 ⊢
    intro x hx
    rcases List.mem_or_eq_of_mem_set hx with hx | rfl
    · exact h1 x hx
    · exact hs
  · rw [List.length_set]
    simp only [Bool.or_eq_true, beq_iff_eq, bne_iff_ne, ne_eq] at h3 ⊢
    rcases h3 with h3 | h3
    · exact .inl h3
    · right
      by_cases hl : t.length - 1 < t.length
      · by_cases e : n = t.length - 1
        · simpa [List.getD, List.getElem?_set, e, hl] using hk
        · simpa [List.getD, List.getElem?_set, e, hl] using h3
      · have : t = [] := by cases t <;> simp at hl ⊢
        subst this
        exact h3
theorem strip_ok {t : List GSlot} (h1 : t.all slOk = true) (h2 : (t.length : Int) ≤ 16) : tbOk (strip t) = true := by
  have hle := stripN_le t t.length
  simp only [tbOk, Bool.and_eq_true, decide_eq_true_eq]
  refine ⟨⟨?_, by unfold strip; simp; omega⟩, ?_⟩
  · rw [List.all_eq_true] at h1 ⊢
    intro x hx
    exact h1 x (List.mem_of_mem_take hx)
  · have key : ∀ n, n ≤ t.length → stripN t n = 0 ∨ ¬ (t.getD (stripN t n - 1) default).Kind = 0 := by
      intro n
      induction n with
      | zero => intro _; exact .inl rfl
      | succ n ih =>
        intro hn
        rw [stripN]
        split
        · exact ih (by omega)
        · rename_i g; right; simpa using g
    have hl : (strip t).length = stripN t t.length := by unfold strip; simp; omega
    rw [hl]
    simp only [Bool.or_eq_true, beq_iff_eq, bne_iff_ne, ne_eq]
    rcases key t.length (Nat.le_refl _) with h | h
    · left; omega
    · by_cases h0 : stripN t t.length = 0
      · left; omega
      · right
        have : (strip t).getD (stripN t t.length - 1) default = t.getD (stripN t t.length - 1) default := by
          unfold strip
          simp [List.getD, List.getElem?_take, show stripN t t.length - 1 < stripN t t.length by omega]
        rw [this]; exact h
theorem tbOk_clear {t : List GSlot} {i : Int} : tbOk (tbClear t i).1 = true := by
  unfold tbClear
  split
  · rfl
  split
  · rfl
  rename_i g _
  have ht : tbOk t = true := by simpa using g
  have h1 := tbOk_len ht
  refine strip_ok ?_ (by rw [List.length_set]; have := h1.1; omega)
  rw [List.all_eq_true]
  intro x hx
  rcases List.mem_or_eq_of_mem_set hx with hx | rfl
  · exact List.all_eq_true.1 h1.2 x hx
  · rfl
theorem okM.table (h : okM I D L m) {t : List GSlot} (ht : tbOk t = true) (hd : ∀ s ∈ t, s.Kind = 1 → D s.Description) : okM I D L { m with o := { m.o with Process := { m.o.Process with Table := t } } } := h.ofO (okP_table h.ob ht hd)
theorem tbPut_mem {t : List GSlot} {s x : GSlot} (h : x ∈ (tbPut t s).1) : x ∈ t ∨ x = s := by
  unfold tbPut at h
  split at h
  · cases h
  split at h
  · cases h
  unfold putAt at h
  split at h
  · exact List.mem_or_eq_of_mem_set h
  · simpa using h
theorem tbClear_mem {t : List GSlot} {i : Int} {x : GSlot} (h : x ∈ (tbClear t i).1) : x ∈ t ∨ x = default := by
  unfold tbClear at h
  split at h
  · cases h
  split at h
  · cases h
  exact List.mem_or_eq_of_mem_set (List.mem_of_mem_take h)
theorem okM.dsc (h : okM I D L m) {s : GSlot} (hs : s ∈ m.o.Process.Table) (hk : s.Kind = 1) : D s.Description := (h.ob.ds h.ob.lv.k).2 s hs hk
theorem okM.slot (h : okM I D L m) {s : GSlot} (hs : s.Kind = 1 → D s.Description) : okM I D L { m with o := { m.o with Process := { m.o.Process with Table := (tbPut m.o.Process.Table s).1 } } } :=
  h.table tbOk_put fun x hx hk => (tbPut_mem hx).elim (fun hm => h.dsc hm hk) (fun e => by subst e; exact hs hk)
theorem okM.clear (h : okM I D L m) {i : Int} : okM I D L { m with o := { m.o with Process := { m.o.Process with Table := (tbClear m.o.Process.Table i).1 } } } :=
  h.table tbOk_clear fun x hx hk => (tbClear_mem hx).elim (fun hm => h.dsc hm hk) (fun e => by subst e; exact absurd hk (by decide))
theorem okM.set (h : okM I D L m) {n : Nat} {s : GSlot} (hs : slOk s = true) (h0 : s.Kind ≠ 0) (h1 : s.Kind ≠ 1) : okM I D L { m with o := { m.o with Process := { m.o.Process with Table := m.o.Process.Table.set n s } } } :=
  h.table (tbOk_set h.ob.lv.tb hs h0) fun x hx hk => (List.mem_or_eq_of_mem_set hx).elim (fun hm => h.dsc hm hk) (fun e => by subst e; exact absurd hk h1)
theorem okM.noP (h : okM I D L m) {d : Int} (hd : D d) (hf : (getS m.s d).2 = true) : (getS m.s d).1.Kind ≠ 1 := fun e => by
  have hid : (getS m.s d).1.ID = d := by
    unfold getS at hf ⊢
    split
    · rename_i hx; simpa using List.find?_some hx
    · rename_i hx; rw [hx] at hf; simp at hf
  exact ((h.get d).ds e).1 (by rw [hid]; exact hd)
theorem okM.noP' (h : okM I D L m) {d : Int} (hd : D d) : (getS m.s d).1.Kind ≠ 1 := by
  by_cases hf : (getS m.s d).2 = true
  · exact h.noP hd hf
  · unfold getS at hf ⊢
    split
    · rename_i hx; rw [hx] at hf; simp at hf
    · decide
theorem okM.off (h : okM I D L m) {d n : Int} (hd : D d) : okO (jm I m) D { (getS m.s d).1 with Offset := n } :=
  okO_plain (h.get d) (h.noP' hd) (h.get d).kn.1 rfl (h.get d).sm.2.1 (h.get d).sm.2.2.1 (h.get d).sm.2.2.2.1 (h.get d).sm.2.2.2.2.1 (h.get d).sm.2.2.2.2.2.1 rfl
end
end Go.Proofs.YtfmldmafigpblaaGreatDoor
end
section
namespace Go.Proofs.YtfmldmafigpblaaGreatDoor
open Go.Lift
set_option linter.unusedSimpArgs false
set_option linter.unusedVariables false
set_option maxRecDepth 10000
set_option maxHeartbeats 1000000
attribute [push_cast] r2p rp2 r3alm r2i r2o r3f r2f r3p r2w r3c r2c r2q r3q r2s r3o r3s r3t ob2 ob3 sl3 sl2t
section
variable {I D : Int → Prop} {L : Nat} {m : GStep}
theorem okM.sl (h : okM I D L m) (hL : L ≤ 900000) : m.s.Objects.length ≤ 1000000 := by have := h.ln; omega
def kpM (I D : Int → Prop) (L : Nat) (m m' : GStep) : Prop := okM I D L m' ∧ m'.fresh = m.fresh ∧ m'.out = m.out
theorem kpM.refl (h : okM I D L m) {L' : Nat} (hl : L ≤ L') : kpM I D L' m m := ⟨h.le hl, rfl, rfl⟩
theorem kpM.put (h : okM I D L m) {o : GObject} (ho : okO (jm I m) D o) : kpM I D (L + 1) m (putM m o) := ⟨h.put ho, rfl, rfl⟩
theorem textM_len (h : okM I D L m) {n : Int} : (textM m n).1.length ≤ 1000000 := by
  unfold textM
  split
  · exact Nat.zero_le _
  · rename_i g
    simp at g
    have hs : ∀ s ∈ m.o.Process.Program.Strings, s.length ≤ 128 := by
      have hc := h.ob.lv.chk
      unfold chkE at hc
      split at hc
      · simp at hc
      · rename_i g2
        simp at g2
        intro s hs
        have := g2.2 s hs
        omega
    have := hs _ (getD_mem (l := m.o.Process.Program.Strings) (i := n.toNat) (by omega))
    show (m.o.Process.Program.Strings.getD n.toNat default).length ≤ _
    omega
theorem eq_of_bne {a b : Int} (h : (a != b) = false) : a = b := by simpa using h
theorem putM_len (h : okM I D L m) (hL : L ≤ 900000) {o : GObject} : (putM m o).s.Objects.length ≤ 1000000 := by
  have := putS_len m.s o
  have := h.ln
  unfold putM
  show (putS m.s o).1.Objects.length ≤ _
  omega
theorem kpM.ofO (h : okM I D L m) {o : GObject} (ho : okP (jm I m) D o) {L' : Nat} (hl : L ≤ L') : kpM I D L' m { m with o := o } := ⟨(h.ofO ho).le hl, rfl, rfl⟩
theorem kpM.puts {m m' : GStep} {L' : Nat} (h : kpM I D L m m') (hl : L + 1 ≤ L') {o : GObject} (ho : okO (jm I m) D o) : kpM I D L' m (putM m' o) := by
  obtain ⟨h1, h2, h3⟩ := id h
  have e : jm I m' = jm I m := by funext x; unfold jm; rw [h2, h3]
  exact ⟨(h1.put (by rw [e]; exact ho)).le hl, h2, h3⟩
theorem kpM.ln {m m' : GStep} (h : kpM I D L m m') : m'.s.Objects.length ≤ L := h.1.ln
attribute [local irreducible] EC EV fileRead fileWrite pipeRead pipeWrite chanRead chanWrite portCall portTake semDown semUp semNew devDo tbChange tbDrop sigRaise getS putS remS pageSet pageGet pageCopy putM kpM
theorem ec_st_kill (h : RowH) (m : GStep) (a : GAction) (hm : okM I D L m) (hL : L ≤ 900000) : EC Tryz.prog 141 [.rptr 0 h 41 0 0, .agg a.c] [sRow h m] fun r N => ∃ x : Int × GStep, kpM I D (L + 1) m x.2 ∧ r = .int .i64 x.1 ∧ N = [sRow h x.2] := by
  refine EC.finKE ?_
  (refine nK E_ok call_141 Tryz.func141 Tryz.ntmps141 Tryz.results141 ?_)
  (repeat' (first | (with_reducible intro hh; (first | subst hh | (revert hh; with_reducible intro _))) | with_reducible apply And.intro | refine eK E_ok ?_ | refine EC.use (ec_ref14_Raise _ _) ?_ | refine EC.use (ec_ref03_HasS _ _ hm.ob.sm.1.1) ?_ | refine aX 0 (ec_st_get h m _ (hm.sl hL)) rfl ?_ | refine aX 0 (ec_st_put h m _ (hm.sl hL)) rfl ?_ | refine dM E_ok 9 [0, 1, 2, 3, 4, 5, 6, 7, 8, 9, 10, 11, 12, 13] [0, 1, 2, 3, 5, 6] fol fun R hR => ?_ | refine ed3 E_ok 4 7 12 ?_ ?_ ?_ | refine ed2 E_ok 7 12 ?_ ?_ | refine ed2 E_ok 4 12 ?_ ?_ | refine ed2 E_ok 4 7 ?_ ?_ | refine ed2 E_ok 8 12 ?_ ?_ | refine ed1 E_ok 7 ?_ | refine ed1 E_ok 4 ?_ | refine dR E_ok [9, 10, 11, 12, 13, 14] ?_ | refine dR E_ok [8, 9, 10, 11, 13, 14] ?_ | refine dR E_ok [9, 10, 11, 13, 14] ?_ | (refine hR _ _ ?_; refine sA ?_) | exact trivial | contradiction)) <;> (first | (refine ⟨(_, _), ?_, Lk.int rfl, rfl⟩; first | exact kpM.refl hm (Nat.le_succ _) | exact kpM.ofO hm (okP_raise hm.ob (eq_of_beq ‹_›)) (Nat.le_succ _) | exact kpM.put hm (okO_raise (hm.get _) (eq_of_bne ‹_›))) | assumption | (simp_all; done) | skip)
theorem ec_st_rename (h : RowH) (m : GStep) (a : GAction) (hm : okM I D L m) (hL : L ≤ 900000) : EC Tryz.prog 151 [.rptr 0 h 41 0 0, .agg a.c] [sRow h m] fun r N => ∃ x : Int × GStep, kpM I D (L + 1) m x.2 ∧ r = .int .i64 x.1 ∧ N = [sRow h x.2] := by
  refine EC.finKE ?_
  (refine nK E_ok call_151 Tryz.func151 Tryz.ntmps151 Tryz.results151 ?_)
  (repeat' (first | (with_reducible intro hh; (first | subst hh | (revert hh; with_reducible intro _))) | with_reducible apply And.intro | refine eK E_ok ?_ | refine aX 0 (ec_st_text h m _ hm.ob.sm.1.2.2.1) rfl ?_ | refine aX 0 (ec_st_get h m _ (hm.sl hL)) rfl ?_ | refine aX 0 (ec_st_put h m _ (hm.sl hL)) rfl ?_ | (refine EC.useP (ec_ref09_RenameK _ _ _ (hm.get 1) hm.j0 (textM_len hm) (textM_len hm)) ?_; rintro ⟨_, _⟩ _) | exact trivial | contradiction)) <;> (first | (refine ⟨(_, _), ?_, Lk.int rfl, rfl⟩; first | exact kpM.refl hm (Nat.le_succ _) | exact kpM.put hm ‹okO _ _ _›) | skip)
theorem ec_st_read (h : RowH) (m : GStep) (s : GSlot) (hm : okM I D L m) (hL : L ≤ 900000) (hd : s.Kind = 1 → D s.Description) : EC Tryz.prog 171 [.rptr 0 h 41 0 0, .agg s.c] [sRow h m] fun r N => ∃ x : (Int × Int) × GStep, kpM I D (L + 1) m x.2 ∧ r = .tup [.int .i64 x.1.1, .int .i64 x.1.2] ∧ N = [sRow h x.2] := by
  refine EC.finKE ?_
  (refine nK E_ok call_171 Tryz.func171 Tryz.ntmps171 Tryz.results171 ?_)
  (repeat' (first | (with_reducible intro hh; (first | subst hh | (revert hh; with_reducible intro _))) | with_reducible apply And.intro | refine eK E_ok ?_ | refine aX 0 (ec_st_get h m _ (hm.sl hL)) rfl ?_ | refine aX 0 (ec_st_put h m _ (hm.sl hL)) rfl ?_ | refine EC.use (ec_ref08_Read _ _ (hm.get _).sm) ?_ | refine EC.use (ec_ref11_Read _ (hm.get _).sm) ?_ | refine EC.use (ec_ref12_Read _ _ (hm.get _).sm) ?_ | refine dN E_ok [] [0] [0, 1, 2, 4, 5, 3, 6, 7, 8, 9, 10, 11, 12, 13] fol fun R hR => ?_ | refine dR E_ok [6, 7, 8, 9, 10, 11, 12, 13] ?_ | refine dR E_ok [7, 8, 9, 10, 11, 12, 13] ?_ | (refine hR _ _ ?_; refine sA ?_) | exact trivial | contradiction)) <;> (first | (refine ⟨((_, _), _), ?_, Lk.t2 (FkA.int rfl) (FkA.int rfl), rfl⟩; first | exact kpM.refl hm (by omega) | exact kpM.put hm (okO_chanRead (hm.get _) (eq_of_beq ‹_›)) | exact kpM.put hm (okO_pipeRead (hm.get _) (eq_of_beq ‹_›)) | exact kpM.put hm (hm.off (hd (eq_of_beq ‹(s.Kind == 1) = true›)))) | skip)
theorem ec_st_write (h : RowH) (m : GStep) (s : GSlot) (c : Int) (hm : okM I D L m) (hL : L ≤ 800000) (hd : s.Kind = 1 → D s.Description) : EC Tryz.prog 172 [.rptr 0 h 41 0 0, .agg s.c, .int .u8 c] [sRow h m] fun r N => ∃ x : (Int × Int) × GStep, kpM I D (L + 2) m x.2 ∧ r = .tup [.int .i64 x.1.1, .int .i64 x.1.2] ∧ N = [sRow h x.2] := by
  refine EC.finKE ?_
  (refine nK E_ok call_172 Tryz.func172 Tryz.ntmps172 Tryz.results172 ?_)
  (repeat' (first | (with_reducible intro hh; (first | subst hh | (revert hh; with_reducible intro _))) | with_reducible apply And.intro | refine eK E_ok ?_ | refine aX 0 (ec_st_get h m _ (hm.sl (by omega))) rfl ?_ | refine aX 0 (ec_st_put h m _ (hm.sl (by omega))) rfl ?_ | refine aX 0 (ec_st_put h (putM m _) _ (putM_len hm (by omega))) rfl ?_ | refine EC.use (ec_ref08_Write _ _ _ (hm.get _).sm) ?_ | refine EC.use (ec_ref11_Write _ _ (hm.get _).sm) ?_ | refine EC.use (ec_ref12_Write _ _ _ (hm.get _).sm) ?_ | exact trivial | contradiction)) <;> (first | (exfalso; simp_all; done) | (refine ⟨((_, _), _), ?_, Lk.t2 (FkA.int rfl) (FkA.int rfl), rfl⟩; first | exact kpM.refl hm (by omega) | exact (kpM.refl hm (Nat.le_refl _)).puts (by omega) (okO_chanWrite (hm.get _) (eq_of_bne ‹_›)) | exact (kpM.refl hm (Nat.le_refl _)).puts (by omega) (okO_pipeWrite (hm.get _) (eq_of_bne ‹_›)) | exact (kpM.put hm (hm.off (hd (eq_of_beq ‹(s.Kind == 1) = true›)))).puts (Nat.le_refl _) (okO_fileWrite (hm.get _) (eq_of_bne ‹_›))) | skip)
end
end Go.Proofs.YtfmldmafigpblaaGreatDoor
end
section
namespace Go.Proofs.YtfmldmafigpblaaGreatDoor
open Go.Lift
set_option linter.unusedSimpArgs false
set_option linter.unusedVariables false
set_option maxRecDepth 10000
set_option maxHeartbeats 1000000
section
variable {I D : Int → Prop} {L : Nat} {m : GStep}
structure endM (I D : Int → Prop) (L : Nat) (m m' : GStep) : Prop where
  st : okS (jm I m) D m'.s
  ln : m'.s.Objects.length ≤ L
  fr : m'.fresh = m.fresh
  us : m'.out.Used = m.out.Used
  wt : m'.out.Waits = m.out.Waits
theorem kpM.trans {m1 m2 : GStep} {L1 L2 : Nat} (h1 : kpM I D L1 m m1) (h2 : kpM I D L2 m1 m2) : kpM I D L2 m m2 := ⟨h2.1, h2.2.1.trans h1.2.1, h2.2.2.trans h1.2.2⟩
theorem kpM.le {m1 : GStep} {L1 L2 : Nat} (h1 : kpM I D L1 m m1) (hl : L1 ≤ L2) : kpM I D L2 m m1 := ⟨h1.1.le hl, h1.2⟩
theorem kpM.put2 (hm : okM I D L m) {o : GObject} {g : Bool} {id : Int} (ho : okO (jm I m) D o) : kpM I D (L + 1) m (put2M m o g id) := ⟨hm.put2 ho, (put2M_same ..).2⟩
theorem kpM.drop (hm : okM I D L m) (s : GSlot) : kpM I D (L + 1) m (dropM m s) := ⟨hm.drop s, (dropM_same ..).2⟩
theorem kpM.hold (hm : okM I D L m) (s : GSlot) : kpM I D (L + 1) m (holdM m s) := ⟨hm.hold s, (holdM_same ..).2⟩
theorem kpM.rem (hm : okM I D L m) (id : Int) : kpM I D L m { m with s := (remS m.s id).1 } := ⟨hm.rem id, rfl, rfl⟩
theorem kpM.ok {m1 : GStep} (h : kpM I D L m m1) : okM I D L m1 := h.1
theorem kpM.jeq {m1 : GStep} (h : kpM I D L m m1) : jm I m1 = jm I m := by funext x; unfold jm; rw [h.2.1, h.2.2]
theorem kpM.cpu {m1 : GStep} (h : kpM I D L m m1) (c : GCPU) : kpM I D (L + 1) m (putM { m1 with o := { m1.o with Process := { m1.o.Process with CPU := c } } } { m1.o with Process := { m1.o.Process with CPU := c } }) := by
  have h2 : kpM I D L m1 { m1 with o := { m1.o with Process := { m1.o.Process with CPU := c } } } := kpM.ofO h.1 (okP_cpu c h.1.ob) (Nat.le_refl _)
  exact (h.trans h2).puts (Nat.le_refl _) (by rw [← h.jeq]; exact (okP_cpu c h.1.ob).tookO)
theorem okO_pageSet' {o : GObject} {w v : Int} (h : okO I D o) (h0 : I 0) : okO I D (pageSet o w v).1 := by
  by_cases e : (pageSet o w v).2 = 0
  · exact okO_pageSet h e
  · unfold pageSet at e ⊢
    split
    · exact okO_def h0
    · rename_i g; rw [if_neg g] at e; exact absurd rfl e
theorem endM.mk' {m1 : GStep} {s : GStore} {L' : Nat} (h : kpM I D L m m1) (hs : okS (jm I m1) D s) (hl : s.Objects.length ≤ L') {o : GObject} {e : Bool} : endM I D L' m { m1 with s := s, o := o, out := { m1.out with Ended := e } } :=
  ⟨by rw [← h.jeq]; exact hs, hl, h.2.1, by show m1.out.Used = _; rw [h.2.2], by show m1.out.Waits = _; rw [h.2.2]⟩
theorem endM.fin {m1 : GStep} {L' : Nat} {e : Bool} (h : kpM I D L m m1) (hl : L ≤ L') : endM I D L' m { m1 with out := { m1.out with Ended := e } } := ⟨by rw [← h.jeq]; exact h.1.st, Nat.le_trans h.1.ln hl, h.2.1, by show m1.out.Used = _; rw [h.2.2], by show m1.out.Waits = _; rw [h.2.2]⟩
theorem endM.of {m1 : GStep} {L' : Nat} (h : kpM I D L m m1) (hl : L ≤ L') : endM I D L' m m1 := ⟨by rw [← h.jeq]; exact h.1.st, Nat.le_trans h.1.ln hl, h.2.1, by rw [h.2.2], by rw [h.2.2]⟩
attribute [local irreducible] EC EV fileRead fileWrite pipeRead pipeWrite chanRead chanWrite portCall portTake semDown semUp semNew devDo tbChange tbDrop sigRaise getS putS remS pageSet pageGet pageCopy putM put2M dropM holdM kpM orphO endO spPriv
theorem ec_st_end (h : RowH) (m : GStep) (st : Int) (hm : okM I D L m) (hL : L ≤ 800000) : EC Tryz.prog 117 [.rptr 0 h 41 0 0, .int .i64 st] [sRow h m] fun r N => ∃ x : Unit × GStep, endM I D (L + 60) m x.2 ∧ r = .tup [] ∧ N = [sRow h x.2] := by
  refine EC.finKE ?_
  (refine nK E_ok call_117 Tryz.func117 Tryz.ntmps117 Tryz.results117 ?_)
  intro fr
  have hcl := hm.ob.lv.cl
  have htl := (tbOk_len hm.ob.lv.tb).1
  have hpl := hm.ob.sm.1.2.2.2.1
  refine EV_loopK E_ok [0, 1, 4, 23, 24] (fun x : Nat × GStep => [(25, .int .i64 x.1)]) (fun B x => updX B 0 [x.2.c]) (fun x => x.1 ≤ m.o.Process.Children.length ∧ kpM I D (L + x.1) m x.2 ∧ x.2.o = m.o) (fun x => m.o.Process.Children.length - x.1) (0, m) ⟨Nat.zero_le _, kpM.refl hm (Nat.le_refl _), rfl⟩ ?_
  rintro ⟨i, m1⟩ ⟨hi, hk, ho⟩
  replace hi : i ≤ m.o.Process.Children.length := hi
  replace hk : kpM I D (L + i) m m1 := hk
  replace ho : m1.o = m.o := ho
  have hm1 := hk.ok
  have hl1 : m1.s.Objects.length ≤ 1000000 := hm1.sl (by omega)
  have hw : IntKind.i64.wrap ((i : Int) + 1) = ((i + 1 : Nat) : Int) := by rw [i64_in' (by omega)]; omega
  simp only [hw, push_cast, simprocAttr]
  refine ⟨fun hc => ⟨⟨by omega, hc⟩, ?_⟩, fun hc => ?_⟩
  · (repeat' (first | (with_reducible intro hh; (first | subst hh | (revert hh; with_reducible intro _))) | with_reducible apply And.intro | refine eK E_ok ?_ | refine aX 0 (ec_st_get h m1 _ hl1) rfl ?_ | refine EC.use (ec_ref16_Orphan _ (hm1.get _).sm (hm1.get _).pd) ?_ | refine aX 0 (ec_st_put2 h m1 _ _ _ hl1) rfl ?_ | refine dM E_ok 3 [0, 1, 2, 3, 4, 5, 6, 7, 8, 9, 10, 11, 12, 13] [0, 2, 3, 4, 5, 6] fol fun R hR => ?_ | refine ed2 E_ok 1 7 ?_ ?_ | refine ed1 E_ok 7 ?_ | refine ed1 E_ok 1 ?_ | refine dR E_ok [8] ?_ | refine dR E_ok [] ?_ | (refine hR _ _ ?_; refine sA ?_) | exact trivial | contradiction))
    all_goals simp only [hw]
    · refine NX_mk (i + 1, put2M m1 _ _ _) ⟨by show i + 1 ≤ _; omega, hk.trans (kpM.put2 hm1 (okO_orph (hm1.get _) hm1.j0)), (put2M_same ..).1.trans ho⟩
    · exact NX_mk (i + 1, m1) ⟨by show i + 1 ≤ _; omega, hk.le (by show L + i ≤ L + (i + 1); omega), ho⟩
  have hi2 : i ≤ 32 := by omega
  clear hc hw
  refine EV_loopK E_ok [0, 1, 4, 46, 47] (fun x : Nat × GStep => [(48, .int .i64 x.1)]) (fun B x => updX B 0 [x.2.c]) (fun x => x.1 ≤ m.o.Process.Table.length ∧ kpM I D (L + 32 + x.1) m x.2 ∧ x.2.o = m.o) (fun x => m.o.Process.Table.length - x.1) (0, m1) ⟨Nat.zero_le _, hk.le (by show L + i ≤ L + 32 + 0; omega), ho⟩ ?_
  clear hk ho hm1 hl1 hi hi2
  rintro ⟨i, m1⟩ ⟨hi, hk, ho⟩
  replace hi : i ≤ m.o.Process.Table.length := hi
  replace hk : kpM I D (L + 32 + i) m m1 := hk
  replace ho : m1.o = m.o := ho
  have hm1 := hk.ok
  have hl1 : m1.s.Objects.length ≤ 1000000 := hm1.sl (by omega)
  have hw : IntKind.i64.wrap ((i : Int) + 1) = ((i + 1 : Nat) : Int) := by rw [i64_in' (by omega)]; omega
  simp only [hw, push_cast, simprocAttr]
  refine ⟨fun hc fr2 => ⟨⟨by omega, hc⟩, ?_⟩, fun hc => ?_⟩
  · refine EC.useAtX E_ok 0 (ec_st_drop h m1 _ hl1) rfl (by (repeat (first | exact LLe.nil | refine LLe.cons (SLe.refl _) ?_ | refine LLe.cons SLe.rptr ?_))) ?_
    simp only [hw, push_cast, simprocAttr]
    exact NX_mk (i + 1, dropM m1 _) ⟨by show i + 1 ≤ _; omega, hk.trans (kpM.drop hm1 _), (dropM_same ..).1.trans ho⟩
  (refine EC.use (ec_ref07_Private _ hpl) ?_; refine eK E_ok ?_)
  have hi2 : i ≤ 16 := by omega
  have hpr := spPriv_16 m.o.Process.Pages
  clear hc hw
  refine EV_loopK E_ok [0, 1, 4, 58, 59] (fun x : Nat × GStep => [(60, .int .i64 x.1)]) (fun B x => updX B 0 [x.2.c]) (fun x => x.1 ≤ (spPriv m.o.Process.Pages).length ∧ kpM I D (L + 48) m x.2 ∧ x.2.o = m.o) (fun x => (spPriv m.o.Process.Pages).length - x.1) (0, m1) ⟨Nat.zero_le _, hk.le (by omega), ho⟩ ?_
  clear hk ho hm1 hl1 hi hi2
  rintro ⟨i, m1⟩ ⟨hi, hk, ho⟩
  replace hi : i ≤ (spPriv m.o.Process.Pages).length := hi
  replace hk : kpM I D (L + 48) m m1 := hk
  replace ho : m1.o = m.o := ho
  have hm1 := hk.ok
  have hl1 : m1.s.Objects.length ≤ 1000000 := hm1.sl (by omega)
  have hw : IntKind.i64.wrap ((i : Int) + 1) = ((i + 1 : Nat) : Int) := by rw [i64_in' (by omega)]; omega
  simp only [hw, push_cast, simprocAttr]
  refine ⟨fun hc => ⟨⟨by omega, hc⟩, ?_⟩, fun hc => ?_⟩
  · (refine EC.use (ec_ref18_Remove m1.s _ hl1) ?_; refine EOK_run (m := 0) E_ok ?_; simp only [hw, push_cast, simprocAttr])
    (try intro fr3)
    (try simp only [hw])
    exact NX_mk (i + 1, { m1 with s := (remS m1.s _).1 }) ⟨by show i + 1 ≤ _; omega, hk.trans (kpM.rem hm1 _), ho⟩
  · (repeat' (first | (with_reducible intro hh; (first | subst hh | (revert hh; with_reducible intro _))) | with_reducible apply And.intro | refine eK E_ok ?_ | refine EC.use (ec_ref16_End _ _ hm1.ob.sm hm1.ob.pd) ?_ | refine aX 0 (ec_st_put2 h m1 _ _ _ hl1) rfl ?_ | refine dM E_ok 3 [0, 1, 2, 3, 4, 5, 6, 7, 8, 9, 10, 11, 12, 13] [0, 2, 3, 4, 5, 6] fol fun R hR => ?_ | refine ed2 E_ok 1 7 ?_ ?_ | refine ed1 E_ok 7 ?_ | refine ed1 E_ok 1 ?_ | refine dR E_ok [8] ?_ | refine dR E_ok [] ?_ | (refine hR _ _ ?_; refine sA ?_) | exact trivial | contradiction))
    all_goals first | (refine ⟨((), _), ?_, Lk.t0, rfl⟩; exact endM.fin (hk.trans (kpM.put2 hm1 (okO_end hm1.ob.tookO hm1.j0 (eq_of_beq ‹_›)))) (by omega)) | (refine ⟨((), _), ?_, Lk.t0, rfl⟩; exact endM.fin hk (by omega))
theorem ec_st_memory (h : RowH) (m : GStep) (c : GCPU) (a : GAction) (hm : okM I D L m) (hL : L ≤ 700000) (ha : -9223372036854775808 ≤ a.Address ∧ a.Address ≤ 9223372036854775807) : EC Tryz.prog 120 [.rptr 0 h 41 0 0, .agg c.c, .agg a.c] [sRow h m] fun r N => ∃ x : Unit × GStep, endM I D (L + 60) m x.2 ∧ r = .tup [] ∧ N = [sRow h x.2] := by
  refine EC.finKE ?_
  (refine nK E_ok call_120 Tryz.func120 Tryz.ntmps120 Tryz.results120 ?_)
  (repeat' (first | (with_reducible intro hh; (first | subst hh | (revert hh; with_reducible intro _))) | with_reducible apply And.intro | refine eK E_ok ?_ | refine EC.use (ec_ref07_Find _ _ hm.ob.sm.1.2.2.2.1 ha) ?_ | refine aX 0 (ec_st_get h m _ (hm.sl (by omega))) rfl ?_ | refine EC.use (ec_ref06_Get _ _ (hm.get _).sm) ?_ | (refine aE 0 (ec_st_end h m _ hm (by omega)) rfl ?_; rintro ⟨_, _⟩ _) | refine EC.use (ec_ref05_Loaded _ _ _) ?_ | refine EC.use (ec_ref05_Stored _) ?_ | refine EC.use (ec_ref06_Set _ _ _ (hm.get _).sm) ?_ | refine aX 0 (ec_st_put h _ _ (by exact hm.sl (by omega))) rfl ?_ | refine aX 0 (ec_st_put h _ _ (by exact putM_len hm (by omega))) rfl ?_ | refine dN E_ok [] [] [0, 1, 2, 3, 4, 5, 6, 7, 8, 9, 10, 11, 12, 13, 14, 15] fol fun R hR => ?_ | refine dR E_ok [9, 10, 11, 12, 13, 14, 15] ?_ | (refine hR _ _ ?_; refine sA ?_) | exact trivial | contradiction)) <;> (first | (exact ⟨((), _), ‹endM _ _ _ _ _›, Lk.t0, rfl⟩) | (refine ⟨((), _), ?_, Lk.t0, rfl⟩; first | exact endM.of ((kpM.refl hm (Nat.le_refl _)).cpu _) (by omega) | exact endM.of ((kpM.put hm (okO_pageSet' (hm.get _) hm.j0)).cpu _) (by omega)) | skip)
end
end Go.Proofs.YtfmldmafigpblaaGreatDoor
end
section
namespace Go.Proofs.YtfmldmafigpblaaGreatDoor
open Go.Lift
set_option linter.unusedSimpArgs false
set_option linter.unusedVariables false
set_option maxRecDepth 10000
set_option maxHeartbeats 1000000
section
variable {I D : Int → Prop} {L : Nat} {m : GStep}
def cpM (I D : Int → Prop) (L : Nat) (m m' : GStep) : Prop := ∃ D' : Int → Prop, okM I D' L m' ∧ (∀ y, D y → D' y) ∧ m'.fresh = m.fresh ∧ m'.out.Waits = m.out.Waits
theorem cpM.of {m1 : GStep} {L' : Nat} (h : kpM I D L m m1) (hl : L ≤ L') : cpM I D L' m m1 := ⟨D, h.1.le hl, fun _ h => h, h.2.1, by rw [h.2.2]⟩
theorem okP_reap {o c : GObject} (h : okP I D o) (h2 : (reapR o c).2.2 = 0) : okP I D (reapR o c).1 := by
  unfold reapR at h2 ⊢
  split
  · rename_i g; rw [if_pos g] at h2; simp at h2
  rename_i g
  rw [if_neg g] at h2
  split
  · rename_i g2; rw [if_pos g2] at h2; simp at h2
  rename_i g2
  rw [if_neg g2] at h2
  split
  · rename_i g3; rw [if_pos g3] at h2; simp at h2
  exact okP_children h (famL_without h.lv.fam) (Nat.le_trans (List.length_filter_le ..) h.lv.cl) fun c hc => h.kn.2.1 c (List.mem_filter.1 hc).1
theorem kpM.reap {c : GObject} {id : Int} (hm : okM I D L m) (h2 : (reapR m.o c).2.2 = 0) : kpM I D L m { m with s := (remS m.s id).1, o := (reapR m.o c).1 } :=
  ⟨(hm.rem id).ofO (okP_reap hm.ob h2), rfl, rfl⟩
theorem replL_mem {x : GPageRef} : ∀ {l : List GPageRef} {r : List Int}, x ∈ replL l r → x ∈ l ∨ x.ID ∈ r ∨ x.ID = 0
  | [], _, h => nomatch h
  | p :: t, r, h => by
    rw [replL] at h
    rcases List.mem_cons.1 h with h | h
    · unfold newP at h
      split at h
      · exact .inl (by rw [h]; exact List.mem_cons_self)
      · subst h
        cases r with
        | nil => exact .inr (.inr rfl)
        | cons a r => exact .inr (.inl List.mem_cons_self)
    · rcases replL_mem h with h | h | h
      · exact .inl (List.mem_cons_of_mem _ h)
      · refine .inr (.inl ?_)
        split at h
        · exact h
        · exact List.mem_of_mem_drop h
      · exact .inr (.inr h)
def allM (m : GStep) : GStep := { m with out := { m.out with Used := (m.fresh.length : Int) } }
theorem jm_all {m : GStep} {x : Int} : jm I (allM m) x ↔ I x ∨ x ∈ m.fresh := by
  unfold jm allM
  simp
theorem okM.all (h : okM I D L m) : okM I D L (allM m) := by
  have hj : ∀ x, jm I m x → jm I (allM m) x := fun x hx => jm_all.2 (hx.imp_right fun h => List.mem_of_mem_take h)
  exact ⟨h.i0, h.st.mono hj, h.ln, h.ob.mono hj, ⟨Int.natCast_nonneg _, Int.le_refl _⟩, h.fl, h.nz, h.nf, h.nd, fun x hx => hj x (h.dk x hx)⟩
theorem fork_ok (hm : okM I D L m) (hu : m.out.Used = 0) (hf : 1 ≤ m.fresh.length) {P C : GObject} (hfk : forkR m.o (m.fresh.getD 0 default) (m.fresh.drop 1) = (P, C, 0)) :
    okP (jm I (allM m)) D P ∧ okP (jm I (allM m)) D C := by
  have hj : ∀ x, jm I m x → jm I (allM m) x := fun x hx => jm_all.2 (hx.imp_right fun h => List.mem_of_mem_take h)
  have ho := hm.ob.mono hj
  have hid : m.fresh.getD 0 default ∈ m.fresh := getD_mem (by omega)
  have hjI : ∀ x, jm I m x → I x := fun x hx => hx.elim id fun h => by rw [hu] at h; simp at h
  have htl : ∀ x ∈ m.fresh.drop 1, x ∈ m.fresh := fun x hx => List.mem_of_mem_drop hx
  generalize m.fresh.getD 0 default = id0 at hfk hid
  generalize m.fresh.drop 1 = tl at hfk htl
  have hall : ∀ x ∈ m.fresh, jm I (allM m) x := fun x hx => jm_all.2 (.inr hx)
  unfold forkR at hfk
  split at hfk
  · simp at hfk
  split at hfk
  · simp at hfk
  split at hfk
  · simp at hfk
  split at hfk
  · simp at hfk
  split at hfk
  · simp at hfk
  split at hfk
  · simp at hfk
  rename_i g1 g2 g3 g4 g5 g6
  simp only [Prod.mk.injEq, and_true] at hfk
  obtain ⟨rfl, rfl⟩ := hfk
  simp at g2 g3 g4 g5 g6
  have hsp : (spRepl m.o.Process.Pages tl).2 = 0 := g6.1
  have hpg : (spRepl m.o.Process.Pages tl).1 = replL m.o.Process.Pages tl := by
    unfold spRepl at hsp ⊢
    split
    · rename_i g; rw [if_pos g] at hsp; simp at hsp
    rename_i g
    rw [if_neg g] at hsp
    split
    · rename_i g7; rw [if_pos g7] at hsp; simp at hsp
    rename_i g7
    rw [if_neg g7] at hsp
    split
    · rename_i g8; rw [if_pos g8] at hsp; simp at hsp
    rfl
  refine ⟨okP_children ho (famL_snoc hm.ob.lv.fam g4.1.1 g4.1.2 g4.2) (by simp; omega) fun c hc => ?_, ?_⟩
  · rcases List.mem_append.1 hc with hc | hc
    · exact ho.kn.2.1 c hc
    · rw [List.mem_singleton.1 hc]; exact jm_all.2 (.inr hid)
  · have hv : prB (chR m.o id0 (spRepl m.o.Process.Pages tl).1) = true := g6.2
    have hl : Liv (chR m.o id0 (spRepl m.o.Process.Pages tl).1) := Liv.of hv (by show m.o.Process.State ≠ 3; rw [g2]; decide)
    refine ⟨⟨⟨⟨Nat.zero_le _, hm.ob.sm.1.2.1, hm.ob.sm.1.2.2.1, ?_, hm.ob.sm.1.2.2.2.2⟩, Nat.zero_le _, Nat.zero_le _, Nat.zero_le _, Nat.zero_le _, Nat.zero_le _, Nat.zero_le _, fun n hn => (nomatch hn)⟩, pend_def, fun _ => hv, ⟨jm_all.2 (.inr hid), fun c hc => (nomatch hc), fun p hp => ?_, fun n hn => (nomatch hn)⟩, fun n hn => (nomatch hn), fun _ => ⟨fun hd => ?_, fun s hs hk => hm.dsc hs hk⟩⟩, hl⟩
    · exact spRepl_len hm.ob.sm.1.2.2.2.1
    · have hp' : p ∈ replL m.o.Process.Pages tl := by rw [← hpg]; exact hp
      rcases replL_mem hp' with h | h | h
      · exact ho.kn.2.2.1 p h
      · exact hall _ (htl _ h)
      · rw [h]; exact .inl hm.i0
    · exact hm.nf _ hid (hjI _ (hm.dk _ hd))
theorem kpM.same {m1 : GStep} (h : kpM I D L m m1) : m1.fresh = m.fresh ∧ m1.out = m.out := h.2
theorem cpM.fork {m1 m2 : GStep} {L' L2 : Nat} {P C : GObject} (hk : kpM I D L' (allM m1) m2) (hfr : m1.fresh = m.fresh) (hwt : m1.out.Waits = m.out.Waits) (hP : okP (jm I (allM m1)) D P) (hC : okP (jm I (allM m1)) D C) (c : GCPU) (hl : L' + 1 ≤ L2) :
    cpM I D L2 m { putM m2 { C with Process := { C.Process with CPU := c } } with o := P } := by
  have h1 : okM I D (L' + 1) (putM m2 { C with Process := { C.Process with CPU := c } }) := hk.1.put (by rw [hk.jeq]; exact (okP_cpu c hC).tookO)
  refine ⟨D, (h1.ofO (by show okP (jm I m2) D P; rw [hk.jeq]; exact hP)).le hl, fun _ h => h, ?_, ?_⟩
  · show m2.fresh = _; rw [hk.2.1]; exact hfr
  · show m2.out.Waits = _; rw [hk.2.2]; exact hwt
attribute [local irreducible] EC EV fileRead fileWrite pipeRead pipeWrite chanRead chanWrite portCall portTake semDown semUp semNew devDo tbChange tbDrop sigRaise getS putS remS pageSet pageGet pageCopy putM put2M dropM holdM kpM orphO endO spPriv reapR forkR cpM
theorem ec_st_wait (h : RowH) (m : GStep) (hm : okM I D L m) (hL : L ≤ 800000) : EC Tryz.prog 140 [.rptr 0 h 41 0 0] [sRow h m] fun r N => ∃ x : (Int × Int × Int) × GStep, cpM I D (L + 60) m x.2 ∧ r = .tup [.int .i64 x.1.1, .int .i64 x.1.2.1, .int .i64 x.1.2.2] ∧ N = [sRow h x.2] := by
  refine EC.finKE ?_
  (refine nK E_ok call_140 Tryz.func140 Tryz.ntmps140 Tryz.results140 ?_)
  (repeat' (first | (with_reducible intro hh; (first | subst hh | (revert hh; with_reducible intro _))) | with_reducible apply And.intro | refine eK E_ok ?_ | refine dM E_ok 11 [0, 1, 2, 3, 4, 5, 6, 7, 8, 9, 10, 11, 12, 13] [0, 1, 2, 4, 5] fol fun R hR => ?_ | refine ed3 E_ok 3 6 12 ?_ ?_ ?_ | refine ed2 E_ok 6 12 ?_ ?_ | refine ed2 E_ok 3 12 ?_ ?_ | refine ed2 E_ok 3 6 ?_ ?_ | refine ed2 E_ok 7 12 ?_ ?_ | refine dR E_ok [6, 7, 8, 9, 10, 11, 13, 14, 15] ?_ | refine dR E_ok [7, 8, 9, 10, 11, 13, 14, 15] ?_ | refine dR E_ok [8, 9, 10, 11, 13, 14, 15] ?_ | refine ed1 E_ok 3 ?_ | refine dR E_ok [8, 9, 10, 11, 12, 13, 14, 15] ?_ | (refine hR _ _ ?_; refine sA ?_) | exact trivial | contradiction)) <;> (first | (refine ⟨((_, _, _), _), ?_, Lk.t3 (FkA.int rfl) (FkA.int rfl) (FkA.int rfl), rfl⟩; exact cpM.of (kpM.refl hm (Nat.le_refl _)) (by omega)) | skip)
  have hcl := hm.ob.lv.cl
  have hl := hm.sl (by omega)
  refine EV_loopK E_ok [0, 2, 3, 4, 23, 24] (fun i : Nat => [(25, .int .i64 i)]) (fun B _ => B) (fun i => i ≤ m.o.Process.Children.length) (fun i => m.o.Process.Children.length - i) 0 (Nat.zero_le _) ?_
  rintro i hi
  replace hi : i ≤ m.o.Process.Children.length := hi
  have hw : IntKind.i64.wrap ((i : Int) + 1) = ((i + 1 : Nat) : Int) := by rw [i64_in' (by omega)]; omega
  simp only [hw, push_cast, simprocAttr]
  refine ⟨fun hc => ⟨⟨by omega, hc⟩, ?_⟩, fun hc => ⟨((_, _, _), _), cpM.of (kpM.refl hm (Nat.le_refl _)) (by omega), Lk.t3 (FkA.int rfl) (FkA.int rfl) (FkA.int rfl), rfl⟩⟩
  (repeat' (first | (with_reducible intro hh; (first | subst hh | (revert hh; with_reducible intro _))) | with_reducible apply And.intro | refine eK E_ok ?_ | refine aX 0 (ec_st_get h m _ hl) rfl ?_ | refine EC.use (ec_ref16_Reap _ _ hm.ob.sm hm.ob.pd (hm.get _).sm (hm.get _).pd) ?_ | refine EC.use (ec_ref18_Remove _ _ hl) ?_ | refine dM E_ok 11 [0, 1, 2, 3, 4, 5, 6, 7, 8, 9, 10, 11, 12, 13] [0, 1, 2, 4, 5] fol fun R hR => ?_ | refine ed3 E_ok 3 6 12 ?_ ?_ ?_ | refine ed2 E_ok 6 12 ?_ ?_ | refine ed2 E_ok 3 12 ?_ ?_ | refine ed2 E_ok 3 6 ?_ ?_ | refine ed2 E_ok 7 12 ?_ ?_ | refine dR E_ok [6, 7, 8, 9, 10, 11, 13, 14, 15] ?_ | refine dR E_ok [7, 8, 9, 10, 11, 13, 14, 15] ?_ | refine dR E_ok [8, 9, 10, 11, 13, 14, 15] ?_ | refine ed1 E_ok 3 ?_ | refine dR E_ok [8, 9, 10, 11, 12, 13, 14, 15] ?_ | (refine hR _ _ ?_; refine sA ?_) | exact trivial | contradiction)) <;> (first | (simp only [hw]; exact NX_mk (i + 1) (by show i + 1 ≤ _; omega)) | skip)
  all_goals (refine ⟨((_, _, (0 : Int)), _), ?_, Lk.t3 (FkA.int rfl) (FkA.int rfl) (FkA.int rfl), rfl⟩; exact cpM.of (kpM.reap hm (eq_of_beq ‹_›)) (by omega))
end
end Go.Proofs.YtfmldmafigpblaaGreatDoor
end
section
namespace Go.Proofs.YtfmldmafigpblaaGreatDoor
open Go.Lift
set_option linter.unusedSimpArgs false
set_option linter.unusedVariables false
set_option maxRecDepth 10000
set_option maxHeartbeats 1000000
section
variable {I D : Int → Prop} {L : Nat} {m : GStep}
attribute [local irreducible] EC EV fileRead fileWrite pipeRead pipeWrite chanRead chanWrite portCall portTake semDown semUp semNew devDo tbChange tbDrop sigRaise getS putS remS pageSet pageGet pageCopy putM put2M dropM holdM kpM orphO endO spPriv reapR forkR cpM
theorem ec_st_fork (h : RowH) (m : GStep) (hm : okM I D L m) (hL : L ≤ 800000) (hu : m.out.Used = 0) (hf : m.fresh.length = 1 + (spPriv m.o.Process.Pages).length) : EC Tryz.prog 139 [.rptr 0 h 41 0 0] [sRow h m] fun r N => ∃ x : (Int × Int) × GStep, cpM I D (L + 60) m x.2 ∧ r = .tup [.int .i64 x.1.1, .int .i64 x.1.2] ∧ N = [sRow h x.2] := by
  refine EC.finKE ?_
  (refine nW E_ok call_139 Tryz.func139 Tryz.ntmps139 Tryz.results139 ?_)
  have hfl := hm.fl
  have hpr := spPriv_16 m.o.Process.Pages
  have hF : EC Tryz.prog 18 [.agg m.o.c, .int .u64 (m.fresh.getD 0 default), .sl false 1 (m.fresh.length - 1) (elt (intC .u64) default (m.fresh.drop 1))] [] fun r N => N = [] ∧ r = r3k (forkR m.o (m.fresh.getD 0 default) (m.fresh.drop 1)) := by
    have := ec_ref16_Fork m.o (m.fresh.getD 0 default) (m.fresh.drop 1) hm.ob.sm hm.ob.pd (by simp; omega)
    rwa [show slL 1 (intC .u64) default (m.fresh.drop 1) = .sl false 1 (m.fresh.length - 1) (elt (intC .u64) default (m.fresh.drop 1)) by rw [← List.length_drop]; rfl] at this
  generalize hfk : forkR m.o (m.fresh.getD 0 default) (m.fresh.drop 1) = F at hF
  obtain ⟨P, C, e⟩ := F
  intro fr
  (refine EC.use (ec_ref07_Private _ hm.ob.sm.1.2.2.2.1) ?_; refine eK E_ok ?_)
  refine EV_meetW (σ := Bool × RowH × RowH) [0, 2, 3, 4, 5] (fun s => [(6, .rptr (bif s.1 then 2 else 3) s.2.1 36 0 0), (7, .rptr (bif s.1 then 3 else 2) s.2.2 36 0 0), (8, .int .i64 e)]) (fun B s => B ++ [bif s.1 then .row s.2.1 41 36 [P.c] else .row s.2.2 41 36 [C.c], bif s.1 then .row s.2.2 41 36 [C.c] else .row s.2.1 41 36 [P.c]]) (fun _ => True) ?_ ?_
  rotate_left 1
  · (repeat' (first | (with_reducible intro hh; (first | subst hh | (revert hh; with_reducible intro _))) | with_reducible apply And.intro | refine eK E_ok ?_ | refine EC.use (hF) ?_ | refine dM E_ok 10 [] [0, 1, 2, 3, 4, 5, 6, 7, 8, 9, 10, 11, 12, 13, 14] fol fun R hR => ?_ | refine ed3 E_ok 15 20 21 ?_ ?_ ?_ | refine dP E_ok 5 [16, 17, 18, 19] ?_ | refine ed2 E_ok 20 21 ?_ ?_ | refine ed2 E_ok 15 21 ?_ ?_ | refine ed2 E_ok 15 20 ?_ ?_ | refine dR E_ok [21, 22, 23, 24] ?_ | refine dR E_ok [20, 22, 23, 24] ?_ | refine dR E_ok [16, 17, 18, 19, 21, 22, 23, 24] ?_ | refine dR E_ok [15, 16, 17, 18, 19, 22, 23, 24] ?_ | refine dR E_ok [16, 17, 18, 19, 22, 23, 24] ?_ | refine dR E_ok [16, 17, 18, 19, 20, 22, 23, 24] ?_ | (refine hR _ _ ?_; refine sA ?_) | refine wA E_ok ?_ | exact trivial | contradiction)) <;> (first | omega | (exact MT_mk (true, _, _) trivial) | (exact MT_mk (false, _, _) trivial) | skip)
  rintro ⟨b, h1, h2⟩ -
  simp only [keepS, lkp, push_cast, simprocAttr]
  (repeat' (first | (with_reducible intro hh; (first | subst hh | (revert hh; with_reducible intro _))) | with_reducible apply And.intro | refine eK E_ok ?_ | refine wA E_ok ?_ | exact trivial | contradiction)) <;> (first | (refine ⟨((0, _), _), ?_, Lk.t2 (FkA.int rfl) (FkA.int rfl), rfl⟩; exact cpM.of (kpM.refl hm (Nat.le_refl _)) (by omega)) | skip)
  rename_i he
  have he0 : e = 0 := by simpa using he
  subst he0
  obtain ⟨hP, hC⟩ := fork_ok hm hu (by omega) hfk
  have htl := (tbOk_len hm.ob.lv.tb).1
  refine EV_loopW E_ok [0, 2, 3, 4, 5, 6, 7, 8, 47, 48] (fun x : Nat × GStep => [(49, .int .i64 x.1)]) (fun B x => updX B 0 [x.2.c]) (fun x => x.1 ≤ m.o.Process.Table.length ∧ kpM I D (L + x.1) m x.2) (fun x => m.o.Process.Table.length - x.1) (0, m) ⟨Nat.zero_le _, kpM.refl hm (Nat.le_refl _)⟩ ?_
  rintro ⟨i, m1⟩ ⟨hi, hk⟩
  replace hi : i ≤ m.o.Process.Table.length := hi
  replace hk : kpM I D (L + i) m m1 := hk
  have hm1 := hk.ok
  have hl1 : m1.s.Objects.length ≤ 1000000 := hm1.sl (by omega)
  have hw : IntKind.i64.wrap ((i : Int) + 1) = ((i + 1 : Nat) : Int) := by rw [i64_in' (by omega)]; omega
  simp only [hw, push_cast, simprocAttr]
  refine ⟨fun hc fr2 => ⟨⟨by omega, hc⟩, ?_⟩, fun hc => ?_⟩
  · refine EC.useAtK E_ok 0 (ec_st_hold h m1 _ hl1) rfl (by (repeat (first | exact LLe.nil | refine LLe.cons (SLe.refl _) ?_ | refine LLe.cons SLe.rptr ?_))) ?_
    rintro ⟨x, m2⟩ hx
    simp only at hx
    subst hx
    simp only [hw, push_cast, simprocAttr]
    exact NX_mk (i + 1, holdM m1 _) ⟨by show i + 1 ≤ _; omega, hk.trans (kpM.hold hm1 _)⟩
  · have hi2 : i ≤ 16 := by omega
    have hA : kpM I D (L + 16) (allM m1) (allM m1) := kpM.refl (hm1.all.le (by omega)) (Nat.le_refl _)
    have hfr : m1.fresh = m.fresh := hk.same.1
    have hwt : m1.out.Waits = m.out.Waits := by rw [hk.same.2]
    have hje : jm I (allM m1) = jm I (allM m) := by funext x; exact propext (by rw [jm_all, jm_all, hfr])
    rw [← hje] at hP hC
    refine EV_loopW E_ok [0, 2, 3, 6, 7, 66, 67] (fun x : Nat × GStep => [(68, .int .i64 x.1)]) (fun B x => updX B 0 [x.2.c]) (fun x => x.1 ≤ (spPriv m.o.Process.Pages).length ∧ kpM I D (L + 16 + x.1) (allM m1) x.2) (fun x => (spPriv m.o.Process.Pages).length - x.1) (0, allM m1) ⟨Nat.zero_le _, hA⟩ ?_
    clear hw hc
    rintro ⟨j, m2⟩ ⟨hj, hk2⟩
    replace hj : j ≤ (spPriv m.o.Process.Pages).length := hj
    replace hk2 : kpM I D (L + 16 + j) (allM m1) m2 := hk2
    have hm2 := hk2.ok
    have hl2 : m2.s.Objects.length ≤ 1000000 := hm2.sl (by omega)
    have hw : IntKind.i64.wrap ((j : Int) + 1) = ((j + 1 : Nat) : Int) := by rw [i64_in' (by omega)]; omega
    have hw2 : IntKind.i64.wrap (1 + (j : Int)) = ((1 + j : Nat) : Int) := by rw [i64_in' (by omega)]; omega
    have hf2 : m2.fresh.length = 1 + (spPriv m.o.Process.Pages).length := by rw [hk2.same.1]; show m1.fresh.length = _; rw [hfr]; exact hf
    simp only [hw, push_cast, simprocAttr]
    have hid : j < (spPriv m.o.Process.Pages).length → jm I m2 (m2.fresh.getD (1 + j) default) := fun hc => by
      rw [hk2.jeq, jm_all]
      refine .inr ?_
      rw [show m2.fresh = m1.fresh from hk2.same.1]
      exact getD_mem (by rw [hfr, hf]; omega)
    refine ⟨fun hc => ⟨⟨by omega, hc⟩, ?_⟩, fun hc => ?_⟩
    · replace hid := hid (by omega)
      refine EV_meetW (σ := RowH) [0, 2, 3, 6, 7, 66, 67, 68] (fun s => [(13, .rptr 4 s 36 0 0), (14, .int .i64 (pageCopy (getS m2.s ((spPriv m.o.Process.Pages).getD j default)).1 (m2.fresh.getD (1 + j) default)).2)]) (fun B s => B ++ [.row s 41 36 [(pageCopy (getS m2.s ((spPriv m.o.Process.Pages).getD j default)).1 (m2.fresh.getD (1 + j) default)).1.c]]) (fun _ => True) ?_ ?_
      rotate_left 1
      · (repeat' (first | (with_reducible intro hh; (first | subst hh | (revert hh; with_reducible intro _))) | with_reducible apply And.intro | refine eK E_ok ?_ | refine aX 0 (ec_st_get h m2 _ hl2) rfl ?_ | refine EC.use (ec_ref06_Copy _ _ (hm2.get _).sm) ?_ | refine dM E_ok 11 [0, 1, 2, 3, 4, 5, 6, 7, 8, 9, 10, 11, 12, 13] [0, 1, 3, 4, 5, 7, 8] fol fun R hR => ?_ | refine ed3 E_ok 2 6 15 ?_ ?_ ?_ | refine ed2 E_ok 6 15 ?_ ?_ | refine dP E_ok 8 [9, 10] ?_ | refine ed2 E_ok 2 15 ?_ ?_ | refine ed2 E_ok 2 6 ?_ ?_ | refine dP E_ok 7 [9, 10] ?_ | refine ed2 E_ok 11 15 ?_ ?_ | refine ed1 E_ok 6 ?_ | refine dR E_ok [2, 11, 12, 13, 14, 16, 17] ?_ | refine dR E_ok [11, 12, 13, 14, 16, 17] ?_ | refine dR E_ok [12, 13, 14, 16, 17] ?_ | refine dR E_ok [9, 10, 2, 11, 12, 13, 14, 16, 17] ?_ | refine dR E_ok [12, 13, 14, 15, 16, 17] ?_ | refine dR E_ok [9, 10, 11, 12, 13, 14, 16, 17] ?_ | (refine hR _ _ ?_; refine sA ?_) | refine wA E_ok ?_ | exact trivial | contradiction)) <;> (first | omega | (rw [hw2]; omega) | (simp only [hw2, Int.toNat_natCast]; exact MT_mk _ trivial) | skip)
  
      rintro h3 -
      simp only [keepS, lkp, push_cast, simprocAttr]
      (repeat' (first | (with_reducible intro hh; (first | subst hh | (revert hh; with_reducible intro _))) | with_reducible apply And.intro | refine eK E_ok ?_ | refine aX 0 (ec_st_put h m2 _ hl2) rfl ?_ | refine wA E_ok ?_ | exact trivial | contradiction))
      · simp only [hw]
        refine NX_mk (j + 1, putM m2 _) ⟨by show j + 1 ≤ _; omega, hk2.puts (by show L + 16 + j + 1 ≤ L + 16 + (j + 1); omega) ?_⟩
        rw [← hk2.jeq]
        exact okO_pageCopy (hm2.get _) hid (eq_of_beq ‹_›)
      · simp only [hw]
        exact NX_mk (j + 1, m2) ⟨by show j + 1 ≤ _; omega, hk2.le (by show L + 16 + j ≤ L + 16 + (j + 1); omega)⟩
    · cases b
      all_goals
        simp only [cond_true, cond_false, push_cast, simprocAttr]
        (repeat' (first | (with_reducible intro hh; (first | subst hh | (revert hh; with_reducible intro _))) | with_reducible apply And.intro | refine eK E_ok ?_ | refine EC.use (ec_ref05_Returned _ _) ?_ | refine aX 0 (ec_st_put h m2 _ hl2) rfl ?_ | refine wA E_ok ?_ | exact trivial | contradiction)) <;> (first | (exact ⟨((_, (0 : Int)), _), cpM.fork hk2 hfr hwt hP hC _ (by omega), Lk.t2 (FkA.int rfl) (FkA.int rfl), rfl⟩) | skip)
end
end Go.Proofs.YtfmldmafigpblaaGreatDoor
end
section
namespace Go.Proofs.YtfmldmafigpblaaGreatDoor
open Go.Lift
set_option linter.unusedSimpArgs false
set_option linter.unusedVariables false
set_option maxRecDepth 10000
set_option maxHeartbeats 1000000
section
variable {I D : Int → Prop} {L : Nat} {m : GStep}
def slotM (m : GStep) (s : GSlot) : GStep := { m with o := { m.o with Process := { m.o.Process with Table := (tbPut m.o.Process.Table s).1 } } }
def opn (id t : Int) : GObject := { (default : GObject) with ID := id, Kind := 4, Refs := 1, Target := t }
theorem kpM.slot (hm : okM I D L m) {s : GSlot} (hs : s.Kind = 1 → D s.Description) : kpM I D L m (slotM m s) := ⟨hm.slot hs, rfl, rfl⟩
def npM (m : GStep) : Prop := (∀ o ∈ m.s.Objects, o.Kind = 1 → o.ID ∉ m.fresh) ∧ m.o.ID ∉ m.fresh
theorem npM.of (hm : okM I D L m) (hu : m.out.Used = 0) : npM m := by
  have hj : ∀ x, jm I m x → x ∉ m.fresh := fun x hx hf => hm.nf x hf (hx.elim id fun h => by rw [hu] at h; simp at h)
  exact ⟨fun o ho _ => hj _ (hm.st o ho).kn.1, hj _ hm.ob.kn.1⟩
theorem npM.put (h : npM m) {o : GObject} (hk : o.Kind ≠ 1) : npM (putM m o) := by
  refine ⟨fun y hy hy1 => ?_, h.2⟩
  have hy' : y ∈ (putS m.s o).1.Objects := hy
  unfold putS at hy'
  split at hy'
  · cases hy'
  · rcases insO_mem hy' with hy' | rfl
    · exact h.1 y hy' hy1
    · exact absurd hy1 hk
theorem takeM_fr (m : GStep) : (takeM m).fresh = m.fresh := rfl
theorem takeM_us (m : GStep) : (takeM m).out.Used = m.out.Used + 1 := rfl
theorem takeM_wt (m : GStep) : (takeM m).out.Waits = m.out.Waits := rfl
theorem putM_fr (m : GStep) (o : GObject) : (putM (takeM m) o).fresh = m.fresh := rfl
theorem putM_out (m : GStep) (o : GObject) : (putM m o).out = m.out := rfl
theorem cpM.mk' {m1 : GStep} (h : okM I D L m1) (hf : m1.fresh = m.fresh) (hw : m1.out.Waits = m.out.Waits) {L2 : Nat} (hl : L ≤ L2) : cpM I D L2 m m1 := ⟨D, h.le hl, fun _ h => h, hf, hw⟩
theorem nmK_q (n : GName) (p : List UInt8) (k : Int) (l : List Int) (q : SV) : putL n.c 0 (putL (GName.mk p k l).c 2 [q]) = [.str p, .int .i64 k, q] := by cases n; rfl
attribute [push_cast] nmK_q
theorem putM_o (m : GStep) (o : GObject) : (putM m o).o = m.o := rfl
theorem takeM_o (m : GStep) : (takeM m).o = m.o := rfl
theorem putM_f (m : GStep) (o : GObject) : (putM m o).fresh = m.fresh := rfl
theorem okM.filN (h : okM I D L m) {id : Int} (hi : jm I m id) : okM I D (L + 1) (putM m { (default : GObject) with ID := id, Kind := 3 }) := h.put (okO_new h.j0 (by show (3 : Int) ≠ 1; decide) hi rfl (Nat.zero_le _) rfl rfl rfl rfl)
theorem npM.filN (h : npM m) {id : Int} : npM (putM m { (default : GObject) with ID := id, Kind := 3 }) := h.put (by show (3 : Int) ≠ 1; decide)
theorem npM.take (h : npM m) : npM (takeM m) := h
theorem okM.addD (hm : okM I D L m) {id : Int} (hid : jm I m id) (hf : id ∈ m.fresh) (np : npM m) : okM I (fun x => D x ∨ x = id) L m := by
  have hn : ∀ o : GObject, (o.Kind = 1 → o.ID ∉ m.fresh) → okO (jm I m) D o → okO (jm I m) (fun x => D x ∨ x = id) o := fun o h1 h2 => h2.monoD (fun x hx => .inl hx) fun hk => by
    rintro (h3 | h3)
    · exact (h2.ds hk).1 h3
    · exact h1 hk (h3 ▸ hf)
  exact ⟨hm.i0, fun o ho => hn o (np.1 o ho) (hm.st o ho), hm.ln, ⟨hn _ (fun _ => np.2) hm.ob.tookO, hm.ob.lv⟩, hm.us, hm.fl, hm.nz, hm.nf, hm.nd, fun x hx => hx.elim (hm.dk x) fun e => e ▸ hid⟩
theorem cpM.opened {m1 : GStep} {L' L2 : Nat} (h : okM I D L' m1) (np : npM m1) (hu : m1.out.Used < m1.fresh.length) (hfr : m1.fresh = m.fresh) (hw : m1.out.Waits = m.out.Waits) (t : Int) (hl : L' + 1 ≤ L2) :
    cpM I D L2 m (slotM (putM (takeM m1) (opn (m1.fresh.getD m1.out.Used.toNat default) t)) { (default : GSlot) with Kind := 1, Description := m1.fresh.getD m1.out.Used.toNat default, Target := t }) := by
  have ht := h.take hu
  have hid := h.taken hu
  have hus := h.us
  have hf : m1.fresh.getD m1.out.Used.toNat default ∈ m1.fresh := getD_mem (by omega)
  have h1 := ht.addD hid hf np.take
  have h2 := h1.put (o := opn (m1.fresh.getD m1.out.Used.toNat default) t) (okO_new h1.j0 (by show (4 : Int) ≠ 1; decide) hid rfl (Nat.zero_le _) rfl rfl rfl rfl)
  have h3 := h2.slot (s := { (default : GSlot) with Kind := 1, Description := m1.fresh.getD m1.out.Used.toNat default, Target := t }) (fun _ => .inr rfl)
  exact ⟨_, h3.le hl, fun y hy => .inl hy, hfr, hw⟩
def filN (id : Int) : GObject := { (default : GObject) with ID := id, Kind := 3 }
attribute [local irreducible] EC EV getS putS remS putM cpM kpM takeM textM
theorem ec_st_roomE (h : RowH) (m : GStep) (n : Int) (hl : m.o.Process.Table.length ≤ 1000000) : EC Tryz.prog 144 [.rptr 0 h 41 0 0, .int .i64 n] [sRow h m] fun r N => ∃ x : Bool × GStep, m = x.2 ∧ r = .bool x.1 ∧ N = [sRow h x.2] :=
  (ec_st_room h m n hl).mono fun r N ⟨x, h1, h2, h3⟩ => ⟨x, h1.symm, h2, h3⟩
theorem ec_st_entryE (h : RowH) (m : GStep) (path : List UInt8) (hs : okS I D m.s) (h0 : I 0) (hl : m.s.Objects.length ≤ 1000000) : EC Tryz.prog 160 [.rptr 0 h 41 0 0, .str path] [sRow h m] fun r N => ∃ x : (GName × Bool) × GStep, ((x.1.2 = true → okN I x.1.1) ∧ m = x.2) ∧ r = .tup [.agg x.1.1.c, .bool x.1.2] ∧ N = [sRow h x.2] :=
  (ec_st_entry h m path hs h0 hl).mono fun r N ⟨x, h1, h2, h3⟩ => ⟨x, ⟨h1.1, h1.2.symm⟩, h2, h3⟩
theorem ec_st_slotE (h : RowH) (m : GStep) (s : GSlot) (hl : m.o.Process.Table.length ≤ 1000000) : EC Tryz.prog 147 [.rptr 0 h 41 0 0, .agg s.c] [sRow h m] fun r N => ∃ x : Int × GStep, slotM m s = x.2 ∧ r = .int .i64 x.1 ∧ N = [sRow h x.2] :=
  (ec_st_slot h m s hl).mono fun r N ⟨x, h1, h2, h3⟩ => ⟨x, h1.symm, h2, h3⟩
attribute [local irreducible] slotM
theorem textM_len' (h : okM I D L m) {n : Int} : (textM m n).1.length ≤ 1000000 := textM_len h
theorem ec_st_open (h : RowH) (m : GStep) (a : GAction) (hm : okM I D L m) (hL : L ≤ 700000) (hu : m.out.Used = 0) (hf : (if a.Args.x1 = 1 then 2 else 1) ≤ m.fresh.length) : EC Tryz.prog 143 [.rptr 0 h 41 0 0, .agg a.c] [sRow h m] fun r N => ∃ x : (Int × Int) × GStep, cpM I D (L + 60) m x.2 ∧ r = .tup [.int .i64 x.1.1, .int .i64 x.1.2] ∧ N = [sRow h x.2] := by
  refine EC.finKE ?_
  (refine nW E_ok call_143 Tryz.func143 Tryz.ntmps143 Tryz.results143 ?_)
  have hl := hm.sl (by omega)
  have hfl := hm.fl
  have hu1 : m.out.Used < m.fresh.length := by split at hf <;> omega
  have htk := hm.take hu1
  have hid := hm.taken hu1
  have hnz := hm.takenz hu1
  have np := npM.of hm hu
  (repeat' (first | (with_reducible intro hh; (first | subst hh | (revert hh; with_reducible intro _))) | with_reducible apply And.intro | refine eK E_ok ?_ | refine aX 0 (ec_st_text h m _ hm.ob.sm.1.2.2.1) rfl ?_ | (refine aE 0 (ec_st_roomE h m _ hm.ob.sm.1.2.2.2.2) rfl ?_; rintro ⟨_, _⟩ rfl) | (refine aE 0 (ec_st_entryE h m _ hm.st hm.j0 hl) rfl ?_; rintro ⟨⟨_, _⟩, _⟩ ⟨_, rfl⟩) | refine aX 0 (ec_st_take h m ⟨by omega, hu1⟩ (by omega)) rfl ?_ | (refine aE 0 (ec_st_slotE h m _ hm.ob.sm.1.2.2.2.2) rfl ?_; rintro ⟨_, _⟩ rfl) | refine wA E_ok ?_ | exact trivial | contradiction)) <;> (first | (refine ⟨((0, _), _), ?_, Lk.t2 (FkA.int rfl) (FkA.int rfl), rfl⟩; first | exact cpM.of (kpM.refl hm (Nat.le_refl _)) (by omega) ) | (refine ⟨((_, (0 : Int)), _), ?_, Lk.t2 (FkA.int rfl) (FkA.int rfl), rfl⟩; exact cpM.of (kpM.slot hm (fun e => by simp at e)) (by omega)) | (have h5 := ‹((_, _), _).fst.snd = true → okN (jm I m) ((_, _), _).fst.fst› (by simp_all; done); have h6 := h5.2.1; simp only at h6; omega) | skip)
  · rename_i fr1 g1 r g2 n fr2 hn g3 fr3
    have hu2 : m.out.Used + 1 < m.fresh.length := by
      have g4 : a.Args.x1 = 1 := by simpa using g3
      rw [if_pos g4] at hf; omega
    refine EC.give 3 (LFz.cons (by simp [frzKT, frzKA, frzKC, fromM]) (by simp [frzT, frzA, frzC, fromM]; exact SLe.refl _) (LFz.cons trivial (SLe.refl _) (LFz.cons trivial (SLe.refl _) (LFz.rowM (i := 3) (cells := intC .u64) (d := default) (l := [m.fresh.getD m.out.Used.toNat default]) (Nat.le_refl _) rfl rfl rfl .nil)))) ?_
    simp only [List.take_succ_cons, List.take_zero]
    refine EC.useAtK E_ok 0 (ec_st_name (I := jm I (takeM m)) h (takeM m) _ 3 [m.fresh.getD m.out.Used.toNat default] htk.st htk.j0 (htk.sl (by omega)) (textM_len' hm) (by simp) (by simpa using hid)) rfl (by (repeat (first | exact LLe.nil | refine LLe.cons (SLe.refl _) ?_ | refine LLe.cons SLe.rptr ?_))) ?_
    rintro ⟨e2, m1⟩ hx
    simp only at hx
    obtain ⟨hm1, np1, fr4, us1⟩ : okM I D (L + 1) m1 ∧ npM m1 ∧ m1.fresh = m.fresh ∧ m1.out = (takeM m).out := by
      rcases hx with h | ⟨o, ho, hk, h⟩
      · subst h; exact ⟨htk.le (by omega), np.take, takeM_fr m, rfl⟩
      · subst h; exact ⟨htk.put ho, np.take.put hk, putM_fr _ _, putM_out _ _⟩
    have hl1 := hm1.sl (by omega)
    simp only [push_cast, simprocAttr]
    (repeat' (first | (with_reducible intro hh; (first | subst hh | (revert hh; with_reducible intro _))) | with_reducible apply And.intro | refine eK E_ok ?_ | refine EC.use (ec_ref08_New _) ?_ | refine aX 0 (ec_st_put h m1 _ hl1) rfl ?_ | refine wA E_ok ?_ | exact trivial | contradiction)) <;> (first | (refine ⟨((0, _), _), ?_, Lk.t2 (FkA.int rfl) (FkA.int rfl), rfl⟩; exact cpM.mk' hm1 fr4 (by rw [us1]; exact takeM_wt m) (by omega)) | skip)
    generalize hq : putM m1 _ = m2
    obtain ⟨hm2, np2, hfr2, hus2, hwt2⟩ : okM I D (L + 2) m2 ∧ npM m2 ∧ m2.fresh = m.fresh ∧ m2.out.Used = m.out.Used + 1 ∧ m2.out.Waits = m.out.Waits := by
      subst hq
      have hid1 : jm I m1 (m.fresh.getD m.out.Used.toNat default) := by
        have e : jm I m1 = jm I (takeM m) := by funext x; unfold jm; rw [fr4, us1, takeM_fr]
        rw [e]; exact hid
      exact ⟨hm1.filN hid1, np1.filN, (putM_f _ _).trans fr4, by rw [putM_out, us1, takeM_us], by rw [putM_out, us1, takeM_wt]⟩
    have hfl2 : m2.fresh.length = m.fresh.length := by rw [hfr2]
    (repeat' (first | (with_reducible intro hh; (first | subst hh | (revert hh; with_reducible intro _))) | with_reducible apply And.intro | refine eK E_ok ?_ | refine aX 0 (ec_st_take h m2 ⟨by omega, by omega⟩ (by omega)) rfl ?_ | refine EC.use (ec_ref08_Opened _ _) ?_ | refine dM E_ok 4 [0] [0, 2, 3, 4, 5] fol fun R hR => ?_ | refine ed2 E_ok 1 7 ?_ ?_ | refine ed2 E_ok 6 7 ?_ ?_ | refine dR E_ok [1, 6, 8] ?_ | refine dR E_ok [6, 8] ?_ | refine dR E_ok [8] ?_ | refine dR E_ok [7, 8] ?_ | (refine hR _ _ ?_; refine sA ?_) | refine wA E_ok ?_ | exact trivial | contradiction)) <;> (first | omega | skip)
    all_goals
      refine EC.useAtX E_ok 0 (ec_st_put h (takeM m2) _ ((hm2.take (by omega)).sl (by omega))) rfl (by (repeat (first | exact LLe.nil | refine LLe.cons (SLe.refl _) ?_ | refine LLe.cons SLe.rptr ?_))) ?_
      simp only [push_cast, simprocAttr]
      generalize hq3 : putM (takeM m2) _ = m3
      have ho3 : m3.o.Process.Table.length ≤ 1000000 := by rw [← hq3, putM_o, takeM_o]; exact hm2.ob.sm.1.2.2.2.2
      (repeat' (first | (with_reducible intro hh; (first | subst hh | (revert hh; with_reducible intro _))) | with_reducible apply And.intro | refine eK E_ok ?_ | (refine aE 0 (ec_st_slotE h m3 _ ho3) rfl ?_; rintro ⟨_, _⟩ rfl) | refine dN E_ok [] [0] [0, 1, 2, 3, 4, 5, 6, 7, 8, 9, 10] fol fun R hR => ?_ | refine dR E_ok [9, 10] ?_ | (refine hR _ _ ?_; refine sA ?_) | refine wA E_ok ?_ | exact trivial | contradiction)) <;> (first | omega | skip)
      subst hq3
      exact ⟨((_, (0 : Int)), _), cpM.opened hm2 np2 (by omega) hfr2 hwt2 _ (by omega), Lk.t2 (FkA.int rfl) (FkA.int rfl), rfl⟩
  · rename_i fr1 g1 r g2 n b hn fr2 g3 g4
    have hb : b = true := by simpa using g3
    have hnl : 1 ≤ n.IDs.length := (hn hb).2.1
    (repeat' (first | (with_reducible intro hh; (first | subst hh | (revert hh; with_reducible intro _))) | with_reducible apply And.intro | refine eK E_ok ?_ | refine aX 0 (ec_st_take h m ⟨by omega, by omega⟩ (by omega)) rfl ?_ | refine EC.use (ec_ref08_Opened _ _) ?_ | refine dM E_ok 4 [0] [0, 2, 3, 4, 5] fol fun R hR => ?_ | refine ed2 E_ok 1 7 ?_ ?_ | refine ed2 E_ok 6 7 ?_ ?_ | refine dR E_ok [1, 6, 8] ?_ | refine dR E_ok [6, 8] ?_ | refine dR E_ok [8] ?_ | refine dR E_ok [7, 8] ?_ | (refine hR _ _ ?_; refine sA ?_) | refine wA E_ok ?_ | exact trivial | contradiction)) <;> (first | omega | skip)
    all_goals
      refine EC.useAtX E_ok 0 (ec_st_put h (takeM m) _ ((hm.take (by omega)).sl (by omega))) rfl (by (repeat (first | exact LLe.nil | refine LLe.cons (SLe.refl _) ?_ | refine LLe.cons SLe.rptr ?_))) ?_
      simp only [push_cast, simprocAttr]
      generalize hq3 : putM (takeM m) _ = m3
      have ho3 : m3.o.Process.Table.length ≤ 1000000 := by rw [← hq3, putM_o, takeM_o]; exact hm.ob.sm.1.2.2.2.2
      (repeat' (first | (with_reducible intro hh; (first | subst hh | (revert hh; with_reducible intro _))) | with_reducible apply And.intro | refine eK E_ok ?_ | (refine aE 0 (ec_st_slotE h m3 _ ho3) rfl ?_; rintro ⟨_, _⟩ rfl) | refine dN E_ok [] [0] [0, 1, 2, 3, 4, 5, 6, 7, 8, 9, 10] fol fun R hR => ?_ | refine dR E_ok [9, 10] ?_ | (refine hR _ _ ?_; refine sA ?_) | refine wA E_ok ?_ | exact trivial | contradiction)) <;> (first | omega | skip)
      subst hq3
      exact ⟨((_, (0 : Int)), _), cpM.opened hm np (by omega) rfl rfl _ (by omega), Lk.t2 (FkA.int rfl) (FkA.int rfl), rfl⟩
end
end Go.Proofs.YtfmldmafigpblaaGreatDoor
end
section
namespace Go.Proofs.YtfmldmafigpblaaGreatDoor
open Go.Lift
set_option linter.unusedSimpArgs false
set_option linter.unusedVariables false
set_option maxRecDepth 10000
set_option maxHeartbeats 1000000
section
variable {I D : Int → Prop} {L : Nat} {m : GStep}
theorem okM.newO (h : okM I D L m) {o : GObject} (hk : o.Kind ≠ 1) (hid : jm I m o.ID) (hp : o.Process = default) (hw : o.Words = []) (hd : o.Data = []) (hb : o.Backlog = []) (hq : o.Queues = default) (hn : o.Names = []) : okM I D (L + 1) (putM m o) :=
  h.put (okO_new h.j0 hk hid hp (by rw [hw]; exact Nat.zero_le _) hd hb hq hn)
theorem cpM.slot {m1 : GStep} (h : okM I D L m1) (hf : m1.fresh = m.fresh) (hw : m1.out.Waits = m.out.Waits) {s : GSlot} (hs : s.Kind ≠ 1) {L2 : Nat} (hl : L ≤ L2) : cpM I D L2 m (slotM m1 s) := ⟨D, (h.slot (fun e => absurd e hs)).le hl, fun _ h => h, hf, hw⟩
theorem nm_ok (htk : okM I D L (takeM m)) {m1 : GStep} (hx : m1 = takeM m ∨ ∃ o, okO (jm I (takeM m)) D o ∧ o.Kind ≠ 1 ∧ m1 = putM (takeM m) o) : okM I D (L + 1) m1 ∧ m1.fresh = m.fresh ∧ m1.out = (takeM m).out ∧ jm I m1 = jm I (takeM m) := by
  rcases hx with rfl | ⟨o, ho, hk, rfl⟩
  · exact ⟨htk.le (Nat.le_succ _), rfl, rfl, rfl⟩
  · exact ⟨htk.put ho, rfl, rfl, rfl⟩
theorem LFz.rp {n : Nat} {B : List Own} {h : RowH} {e k o : Nat} {r r' : List SV} (hn : 0 < n) (hr : LFz n B r r') : LFz n B (.rptr 0 h e k o :: r) (.rptr 0 h e k o :: r') := by
  have : fromM n 0 = false := by simp [fromM]; omega
  exact .cons (by simp [frzKT, frzKA, frzKC, this]) (by simp only [frzT, frzA, frzC, this]; exact SLe.refl _) hr
attribute [local irreducible] EC EV getS putS remS putM cpM kpM takeM textM slotM semNew
set_option maxHeartbeats 3000000 in
theorem ec_st_named (h : RowH) (m : GStep) (a : GAction) (hm : okM I D L m) (hL : L ≤ 700000) (hu : m.out.Used = 0) (hf : 1 ≤ m.fresh.length) : EC Tryz.prog 149 [.rptr 0 h 41 0 0, .agg a.c] [sRow h m] fun r N => ∃ x : (Int × Int) × GStep, cpM I D (L + 60) m x.2 ∧ r = .tup [.int .i64 x.1.1, .int .i64 x.1.2] ∧ N = [sRow h x.2] := by
  refine EC.finKE ?_
  (refine nW E_ok call_149 Tryz.func149 Tryz.ntmps149 Tryz.results149 ?_)
  have hl := hm.sl (by omega)
  have hfl := hm.fl
  have hu1 : m.out.Used < m.fresh.length := by omega
  have htk := hm.take hu1
  have hid := hm.taken hu1
  have hnz := hm.takenz hu1
  (repeat' (first | (with_reducible intro hh; (first | subst hh | (revert hh; with_reducible intro _))) | with_reducible apply And.intro | refine eK E_ok ?_ | refine aX 0 (ec_st_text h m _ hm.ob.sm.1.2.2.1) rfl ?_ | (refine aE 0 (ec_st_roomE h m _ hm.ob.sm.1.2.2.2.2) rfl ?_; rintro ⟨_, _⟩ rfl) | (refine aE 0 (ec_st_entryE h m _ hm.st hm.j0 hl) rfl ?_; rintro ⟨⟨_, _⟩, _⟩ ⟨_, rfl⟩) | refine aX 0 (ec_st_take h m ⟨by omega, hu1⟩ (by omega)) rfl ?_ | refine EC.use (ec_ref12_NewPort _) ?_ | (refine aE 0 (ec_st_slotE h m _ hm.ob.sm.1.2.2.2.2) rfl ?_; rintro ⟨_, _⟩ rfl) | refine wA E_ok ?_ | exact trivial | contradiction))
  · exact ⟨((0, _), _), cpM.of (kpM.refl hm (Nat.le_refl _)) (by omega), Lk.t2 (FkA.int rfl) (FkA.int rfl), rfl⟩
  · exact ⟨((0, _), _), cpM.of (kpM.refl hm (Nat.le_refl _)) (by omega), Lk.t2 (FkA.int rfl) (FkA.int rfl), rfl⟩
  · rename_i fr1 g1 r g2 g3 fr2 fr3
    refine EC.give 3 (LFz.rp (by decide) (LFz.cons trivial (SLe.refl _) (LFz.cons trivial (SLe.refl _) (LFz.rowM (i := 3) (cells := intC .u64) (d := default) (l := [m.fresh.getD m.out.Used.toNat default]) (Nat.le_refl _) rfl rfl rfl .nil)))) ?_
    simp only [List.take_succ_cons, List.take_zero]
    refine EC.useAtK E_ok 0 (ec_st_name (I := jm I (takeM m)) h (takeM m) _ _ [m.fresh.getD m.out.Used.toNat default] htk.st htk.j0 (htk.sl (by omega)) (textM_len hm) (by simp) (by simpa using hid)) rfl (by (repeat (first | exact LLe.nil | refine LLe.cons (SLe.refl _) ?_ | refine LLe.cons SLe.rptr ?_))) ?_
    rintro ⟨e2, m1⟩ hx
    obtain ⟨hm1, fr4, us1, je⟩ := nm_ok htk hx
    have hl1 := hm1.sl (by omega)
    have hid1 : jm I m1 (m.fresh.getD m.out.Used.toNat default) := by rw [je]; exact hid
    have ht1 : ∀ o : GObject, (putM m1 o).o.Process.Table.length ≤ 1000000 := fun o => by rw [putM_o]; exact hm1.ob.sm.1.2.2.2.2
    simp only [push_cast, simprocAttr]
    (repeat' (first | (with_reducible intro hh; (first | subst hh | (revert hh; with_reducible intro _))) | with_reducible apply And.intro | refine eK E_ok ?_ | refine aX 0 (ec_st_put h m1 _ hl1) rfl ?_ | (refine aE 0 (ec_st_slotE h _ _ (ht1 _)) rfl ?_; rintro ⟨_, _⟩ rfl) | refine wA E_ok ?_ | exact trivial | contradiction))
    · exact ⟨((0, _), _), cpM.mk' hm1 fr4 (by rw [us1]; exact takeM_wt m) (by omega), Lk.t2 (FkA.int rfl) (FkA.int rfl), rfl⟩
    · exact ⟨((_, (0 : Int)), _), cpM.slot (hm1.newO (by show (6 : Int) ≠ 1; decide) hid1 rfl rfl rfl rfl rfl rfl) ((putM_f _ _).trans fr4) (by rw [putM_out, us1]; exact takeM_wt m) (by show (5 : Int) ≠ 1; decide) (by omega), Lk.t2 (FkA.int rfl) (FkA.int rfl), rfl⟩
  · exact ⟨((0, _), _), cpM.of (kpM.refl hm (Nat.le_refl _)) (by omega), Lk.t2 (FkA.int rfl) (FkA.int rfl), rfl⟩
  · have h5 := ‹((_, _), _).fst.snd = true → okN (jm I m) ((_, _), _).fst.fst› rfl
    have h6 := h5.2.1
    simp only at h6; omega
  · exact ⟨((_, (0 : Int)), _), cpM.of (kpM.slot hm (fun e => by simp at e)) (by omega), Lk.t2 (FkA.int rfl) (FkA.int rfl), rfl⟩
  · rename_i fr1 g1 r g2 g3 n fr2 hn
    have hso : okO (jm I (takeM m)) D (semNew (m.fresh.getD m.out.Used.toNat default) a.Args.x1).1 := okO_semNew htk.j0 hid
    (repeat' (first | (with_reducible intro hh; (first | subst hh | (revert hh; with_reducible intro _))) | with_reducible apply And.intro | refine eK E_ok ?_ | refine aX 0 (ec_st_take h m ⟨by omega, hu1⟩ (by omega)) rfl ?_ | refine EC.use (ec_ref13_New _ _) ?_ | refine dM E_ok 8 [0] [0, 2, 3, 4] fol fun R hR => ?_ | refine ed2 E_ok 1 9 ?_ ?_ | refine ed2 E_ok 5 9 ?_ ?_ | refine dR E_ok [1, 5, 6, 7, 8, 10, 11] ?_ | refine dR E_ok [5, 6, 7, 8, 10, 11] ?_ | refine dR E_ok [6, 7, 8, 10, 11] ?_ | refine dR E_ok [6, 7, 8, 9, 10, 11] ?_ | (refine hR _ _ ?_; refine sA ?_) | refine wA E_ok ?_ | exact trivial | contradiction))
    all_goals try exact ⟨((0, _), _), cpM.mk' htk (takeM_fr m) (takeM_wt m) (by omega), Lk.t2 (FkA.int rfl) (FkA.int rfl), rfl⟩
    all_goals
      generalize semNew (m.fresh.getD m.out.Used.toNat default) a.Args.x1 = q at hso
      refine EC.give 4 (LFz.rp (by decide) (LFz.cons trivial (SLe.refl _) (LFz.cons trivial (SLe.refl _) (LFz.rowM (i := 4) (cells := intC .u64) (d := default) (l := [q.1.ID]) (Nat.le_refl _) rfl rfl rfl .nil)))) ?_
      simp only [List.take_succ_cons, List.take_zero]
      refine EC.useAtK E_ok 0 (ec_st_name (I := jm I (takeM m)) h (takeM m) _ _ [q.1.ID] htk.st htk.j0 (htk.sl (by omega)) (textM_len hm) (by simp) (by simpa using hso.kn.1)) rfl (by (repeat (first | exact LLe.nil | refine LLe.cons (SLe.refl _) ?_ | refine LLe.cons SLe.rptr ?_))) ?_
      rintro ⟨e2, m1⟩ hx
      obtain ⟨hm1, fr4, us1, je⟩ := nm_ok htk hx
      have hl1 := hm1.sl (by omega)
      rw [← je] at hso
      have ht1 : ∀ o : GObject, (putM m1 o).o.Process.Table.length ≤ 1000000 := fun o => by rw [putM_o]; exact hm1.ob.sm.1.2.2.2.2
      simp only [push_cast, simprocAttr]
      (repeat' (first | (with_reducible intro hh; (first | subst hh | (revert hh; with_reducible intro _))) | with_reducible apply And.intro | refine eK E_ok ?_ | refine aX 0 (ec_st_put h m1 _ hl1) rfl ?_ | (refine aE 0 (ec_st_slotE h _ _ (ht1 _)) rfl ?_; rintro ⟨_, _⟩ rfl) | refine wA E_ok ?_ | exact trivial | contradiction))
      · exact ⟨((0, _), _), cpM.mk' hm1 fr4 (by rw [us1]; exact takeM_wt m) (by omega), Lk.t2 (FkA.int rfl) (FkA.int rfl), rfl⟩
      · exact ⟨((_, (0 : Int)), _), cpM.slot (hm1.put hso) ((putM_f _ _).trans fr4) (by rw [putM_out, us1]; exact takeM_wt m) (by show (7 : Int) ≠ 1; decide) (by omega), Lk.t2 (FkA.int rfl) (FkA.int rfl), rfl⟩
end
end Go.Proofs.YtfmldmafigpblaaGreatDoor
end
section
namespace Go.Proofs.YtfmldmafigpblaaGreatDoor
open Go.Lift
set_option linter.unusedSimpArgs false
set_option linter.unusedVariables false
set_option maxRecDepth 10000
set_option maxHeartbeats 1000000
section
variable {I D : Int → Prop} {L : Nat} {m : GStep}
def FRm (m : Nat) (B : List Own) (xs ys : List (List SV)) : Prop := xs.length = ys.length ∧ ∀ (k : Nat) (cs ds : List SV), xs[k]? = some cs → ys[k]? = some ds → cs.length ≠ 2 ∧ frzKL (fromM m) B cs ∧ LLe (frzL (fromM m) B cs) ds
theorem FRm.one {m : Nat} {B : List Own} {cs ds : List SV} (h2 : cs.length ≠ 2) (hk : frzKL (fromM m) B cs) (h : LLe (frzL (fromM m) B cs) ds) : FRm m B [cs] [ds] := by
  refine ⟨rfl, fun k a b ha hb => ?_⟩
  cases k with
  | zero => simp at ha hb; subst ha hb; exact ⟨h2, hk, h⟩
  | succ k => simp at ha
theorem Own.ok_frzm {m j : Nat} {X : Nat → Prop} {w : World} {B : List Own} (hs : Sat X w B) {h : RowH} {E e : Nat} {xs ys : List (List SV)} (hB : getD' B j = .row h E e xs) (hf : FRm m B xs ys) : Own.ok (withSel X B (fromM m)) w (.row h E e ys) := by
  have hok := hs.ok j
  rw [hB] at hok
  cases h with
  | void a =>
    simp only [Own.ok] at hok ⊢
    subst hok
    exact List.length_eq_zero_iff.1 hf.1.symm
  | mp b =>
    obtain ⟨arr, clock, h1, h2⟩ := hok
    cases xs with
    | nil => rw [List.length_eq_zero_iff.1 hf.1.symm]; exact ⟨arr, clock, h1, h2⟩
    | cons x xs =>
      exfalso
      cases ys with
      | nil => simp [FRm] at hf
      | cons y ys =>
        have := (hf.2 0 x y rfl rfl).1
        cases hl : arr.toList with
        | nil => rw [hl] at h2; exact h2
        | cons m ms =>
          rw [hl] at h2
          obtain ⟨⟨k1, k2, a, v, _, _, rfl⟩, _⟩ := h2
          simp at this
  | «at» b cap =>
    obtain ⟨vs, k1, k2, k3, k4, k5⟩ := hok
    have hget : ∀ {k : Nat} {ds : List SV}, ys[k]? = some ds → ∃ cs, xs[k]? = some cs ∧ frzKL (fromM m) B cs ∧ LLe (frzL (fromM m) B cs) ds := fun {k ds} hy => by
      have hk : k < ys.length := (List.getElem?_eq_some_iff.1 hy).1
      have hx : xs[k]? = some (xs[k]'(by rw [hf.1]; exact hk)) := List.getElem?_eq_getElem (by rw [hf.1]; exact hk)
      exact ⟨_, hx, (hf.2 k _ _ hx hy).2⟩
    refine ⟨vs, k1, k2, by rw [← hf.1]; exact k3, fun k ds hy => ?_, fun k j ds c hy hc => ?_⟩
    · obtain ⟨cs, h1, h2, h3⟩ := hget hy
      rw [← k4 k cs h1, ← (frzL_sound hs h2).1]
      exact h3.spec.1.symm
    · obtain ⟨cs, h1, h2, h3⟩ := hget hy
      obtain ⟨d, h4, h5⟩ := h3.spec.2 j c hc
      have hjl : j < cs.length := by
        have := (List.getElem?_eq_some_iff.1 h4).1
        rwa [(frzL_sound hs h2).1] at this
      let ws : Array Value := ((List.range cs.length).map fun j => vs.getD (k * e + j) undef).toArray
      have hws : ∀ j, j < cs.length → ws.getD j undef = vs.getD (k * e + j) undef := fun j hj => by
        simp [ws, Array.getD, hj]
      have h6 := (frzL_sound hs h2).2 ws (fun i a ha => by
        have hi : i < cs.length := (List.getElem?_eq_some_iff.1 ha).1
        rw [hws i hi]; exact k5 k i cs a h1 ha) j d h4
      rw [hws j hjl] at h6
      exact h5 _ _ _ h6
theorem EV_frzB {P : Program} {n : Nat} {c : Code} {t : Slots} {B : List Own} {Q : Post} (m j : Nat) {h0 : RowH} {E e : Nat} {xs ys : List (List SV)} (hj : j < m) (hB : getD' B j = .row h0 E e xs) (hf : FRm m B xs ys) (t' : Slots) (ht : wkF m B t t')
    (h : EV P n c t' ((B.take m).set j (.row h0 E e ys)) Q) : EV P n c t B Q := by
  have hjl : j < B.length := getD'_lt hB
  have hjl2 : j < (B.take m).length := by rw [List.length_take]; omega
  have hb : ∀ i, getD' (B.take m) i = if fromM m i then .gone else getD' B i := fun i => by
    rw [getD'_take]
    by_cases hi : i < m
    · have : fromM m i = false := by simp [fromM]; omega
      simp [hi, this]
    · have : fromM m i = true := by simp [fromM]; omega
      simp [hi, this]
  have hBt : getD' (B.take m) j = .row h0 E e xs := by rw [getD'_take, if_pos hj, hB]
  intro X0 w0 B0 X w a he hs
  have hs1 := hs.sat.drop_sel hb
  have hbl : ∀ i, (getD' ((B.take m).set j (.row h0 E e ys)) i).blocks = (getD' (B.take m) i).blocks := fun i => by
    rw [getD'_set hjl2]
    split
    · rename_i e'; subst e'; rw [hBt]; cases h0 <;> rfl
    · rfl
  have hown : ∀ b, owns ((B.take m).set j (.row h0 E e ys)) b ↔ owns (B.take m) b := fun b => ⟨fun ⟨i, h'⟩ => ⟨i, by rwa [hbl] at h'⟩, fun ⟨i, h'⟩ => ⟨i, by rwa [hbl]⟩⟩
  have hs2 : Sat (withSel X B (fromM m)) w ((B.take m).set j (.row h0 E e ys)) := ⟨fun a b' c h2 h3 => hs1.inj a b' c (by rwa [hbl] at h2) (by rwa [hbl] at h3), fun a b' h2 => hs1.lt a b' (by rwa [hbl] at h2), hs1.xg, fun b' hx' ho => hs1.apart b' hx' ((hown b').1 ho), fun a => by
    rw [getD'_set hjl2]
    split
    · exact Own.ok_frzm hs.sat hB hf
    · exact hs1.ok a⟩
  have hx2 : Ext X w B (withSel X B (fromM m)) w ((B.take m).set j (.row h0 E e ys)) := by
    have := Ext.drop_sel (X := X) (w := w) hb
    exact ⟨rfl, rfl, rfl, Nat.le_refl _, fun _ _ _ => rfl, this.xin, this.xout, fun b hb => this.own b ((hown b).1 hb)⟩
  refine h X0 w0 B0 _ w a (he.trans hx2) ⟨hs.defers, hs2, hs.den.1, fun i => ?_⟩
  rcases wkF_spec ht i with h1 | ⟨h1, h2⟩
  · rw [h1]; exact .any _
  · exact h2 _ _ _ (frzT_sound hs.sat (hs.den.2 i) h1)
theorem att_good {l : List GPageRef} {ids : List Int} (h : ((spAtt l ids).2.2 != 0) = false) : (spAtt l ids).1 = l ++ ids.map shr ∧ spOk (l ++ ids.map shr) = true := by
  unfold spAtt at h ⊢
  split at h
  · simp at h
  rename_i g1
  rw [if_neg g1]
  split at h
  · simp at h
  rename_i g2
  rw [if_neg g2]
  split at h
  · simp at h
  rename_i g3
  rw [if_neg g3]
  split at h
  · simp at h
  rename_i g4
  rw [if_neg g4]
  exact ⟨rfl, by simpa using g4⟩
theorem okM.pages (h : okM I D L m) {l : List GPageRef} (ht : spOk l = true) (hk : ∀ p ∈ l, jm I m p.ID) : okM I D L { m with o := { m.o with Process := { m.o.Process with Pages := l } } } := h.ofO (okP_pages h.ob ht hk)
def zrNm : List SV := [.str [], .int .i64 0, .sl true 0 0 fun _ => []]
def nmZ (x : GName × Bool) : List SV := if x.2 then x.1.c else zrNm
theorem fzNil {B : List Own} : FzA B (.agg zrNm) (.agg (nmZ (default, false))) := FzA.agg (cs := zrNm) (ds := zrNm) ⟨⟨trivial, trivial, trivial, trivial⟩, LLe.refl _⟩
namespace NilName
def E2 : Env := { E with zr := fun T => if T = 70 then zrNm else E.zr T }
theorem E2_ok : EnvOK Tryz.prog E2 := ⟨E_ok.ty, fun T h => by
  simp only [E2] at h ⊢
  split
  · rename_i e; subst e; kernel_rfl
  · rename_i e; simp only [e, if_false] at h; exact E_ok.zr T h, E_ok.lv⟩
theorem E2_ty (T : Nat) : E2.ty T = E.ty T := rfl
theorem E2_lv (T : Nat) : E2.lv T = E.lv T := rfl
theorem E2_zr : E2.zr 70 = zrNm := rfl
theorem zrNm_len : zrNm.length = 3 := rfl
theorem zrNm_sol : solids zrNm = true := rfl
theorem zrNm_t : zrNm.take 3 = zrNm := rfl
theorem zrNm_q (x : GName) : putL zrNm 0 x.c = x.c := by cases x; rfl
attribute [push_cast] E2_ty E2_lv E2_zr zrNm_q zrNm_len zrNm_sol zrNm_t
theorem ec_ref09_FindN (o : GObject) (s : List UInt8) (ho : smallO o) : EC Tryz.prog 111 [.agg o.c, .str s] [] fun r N => N = [] ∧ ∃ x : GName × Bool, ((x.2 = true → x.1 ∈ o.Names) ∧ (x.2 = false → x.1 = default)) ∧ r = .tup [.agg (nmZ x), .bool x.2] := by
  refine EC.finKP ?_
  (refine nK E2_ok call_111 Tryz.func111 Tryz.ntmps111 Tryz.results111 ?_)
  intro fr
  (refine EC.useP (ec_ref09_ValidK o ho) ?_; rintro b -; refine eK E2_ok ?_)
  refine ⟨fun h => ⟨(default, false), ⟨by simp, fun _ => rfl⟩, Lt.t2 fzNil FzA.bool⟩, fun h => ?_⟩
  have hl := ho.2.2.2.2.2.2.1
  refine EV_loopK E2_ok [1, 4, 5, 13, 14] (fun i : Nat => [(15, .int .i64 i)]) (fun B _ => B) (fun i => i ≤ o.Names.length) (fun i => o.Names.length - i) 0 (Nat.zero_le _) ?_
  rintro i hi
  replace hi : i ≤ o.Names.length := hi
  have hw : IntKind.i64.wrap ((i : Int) + 1) = ((i + 1 : Nat) : Int) := by rw [i64_in' (by omega)]; omega
  simp only [hw, push_cast, simprocAttr]
  refine ⟨fun h fr2 => ⟨⟨by omega, h⟩, fun g => ?_, fun g => NX_mk (i + 1) (by show i + 1 ≤ _; omega)⟩, fun h => ⟨(default, false), ⟨by simp, fun _ => rfl⟩, Lt.t2 fzNil FzA.bool⟩⟩
  have hlt : i < o.Names.length := by omega
  have hm : o.Names.getD i default ∈ o.Names := getD_mem hlt
  (refine EC.use (ec_ref09_copied _ (ho.2.2.2.2.2.2.2 _ hm)) ?_; refine eK E2_ok ?_)
  exact ⟨(o.Names.getD i default, true), ⟨fun _ => hm, fun e => by simp at e⟩, Lt.t2 (FzA.aggN rfl) FzA.bool⟩
end NilName
theorem nmZ_sol (x : GName × Bool) : solids (nmZ x) = true := by
  rcases x with ⟨⟨p, k, l⟩, b⟩
  cases b <;> rfl
theorem nmZ_len (x : GName × Bool) : (nmZ x).length = 3 := by
  rcases x with ⟨⟨p, k, l⟩, b⟩
  cases b <;> rfl
theorem nmZ_p (x : GName × Bool) : putL (default : GName).c 0 (nmZ x) = nmZ x := by
  rcases x with ⟨⟨p, k, l⟩, b⟩
  cases b <;> rfl
theorem nmZ_t (x : GName × Bool) : (nmZ x).take 3 = nmZ x := by
  rcases x with ⟨⟨p, k, l⟩, b⟩
  cases b <;> rfl
theorem nmZ_k (x : GName × Bool) (d : SV) : (nmZ x).getD 1 d = .int .i64 (if x.2 then x.1.Kind else 0) := by
  rcases x with ⟨⟨p, k, l⟩, b⟩
  cases b <;> rfl
attribute [push_cast] nmZ_sol nmZ_len nmZ_p nmZ_t nmZ_k
theorem fkNil {m : Nat} {B : List Own} {n : GName} {b : Bool} (h : b = false → n = default) : FkA m B (.agg (nmZ (n, b))) (.agg (nmZ (n, b))) := by
  cases b with
  | true => exact FkA.aggN rfl
  | false => exact FkA.agg (cs := zrNm) (ds := zrNm) ⟨trivial, trivial, trivial, trivial⟩ (LLe.refl _)
theorem ec_st_entryN (h : RowH) (m : GStep) (path : List UInt8) (hs : okS I D m.s) (h0 : I 0) (hl : m.s.Objects.length ≤ 1000000) : EC Tryz.prog 160 [.rptr 0 h 41 0 0, .str path] [sRow h m] fun r N => ∃ x : (GName × Bool) × GStep, (((x.1.2 = true → okN I x.1.1) ∧ (x.1.2 = false → x.1.1 = default)) ∧ m = x.2) ∧ r = .tup [.agg (nmZ x.1), .bool x.1.2] ∧ N = [sRow h x.2] := by
  refine EC.finKE ?_
  (refine nK E_ok call_160 Tryz.func160 Tryz.ntmps160 Tryz.results160 ?_)
  (repeat' (first | (with_reducible intro hh; (first | subst hh | (revert hh; with_reducible intro _))) | with_reducible apply And.intro | refine eK E_ok ?_ | refine aX 0 (ec_st_get h m _ hl) rfl ?_ | (refine EC.useP (NilName.ec_ref09_FindN _ path (hs.get h0).sm) ?_; rintro ⟨_, _⟩ _) | exact trivial | contradiction))
  rename_i fr n b hb
  exact ⟨((n, b), m), ⟨⟨fun e => (hs.get h0).names (hb.1 e), hb.2⟩, rfl⟩, Lk.t2 (fkNil hb.2) (FkA.bool rfl), rfl⟩
theorem nm3 (p : List UInt8) (k : Int) (q r : SV) : putL [.str p, .int .i64 k, q] 2 [r] = [.str p, .int .i64 k, r] := rfl
theorem jm_take {m : GStep} (hu : 0 ≤ m.out.Used) {x : Int} (hx : jm I m x) : jm I (takeM m) x := hx.elim .inl fun hx => .inr (by
  show x ∈ m.fresh.take (m.out.Used + 1).toNat
  rw [show (m.out.Used + 1).toNat = m.out.Used.toNat + 1 by omega]
  exact List.take_subset_take_left _ (Nat.le_succ _) hx)
end
end Go.Proofs.YtfmldmafigpblaaGreatDoor
end
section
namespace Go.Proofs.YtfmldmafigpblaaGreatDoor
open Go.Lift
set_option linter.unusedSimpArgs false
set_option linter.unusedVariables false
set_option maxRecDepth 10000
set_option maxHeartbeats 1000000
section
variable {I D : Int → Prop} {L : Nat} {m : GStep}
theorem nm_okG (hm : okM I D L m) {m1 : GStep} (hx : m1 = m ∨ ∃ o, okO (jm I m) D o ∧ o.Kind ≠ 1 ∧ m1 = putM m o) : okM I D (L + 1) m1 ∧ m1.fresh = m.fresh ∧ m1.out = m.out ∧ jm I m1 = jm I m := by
  rcases hx with rfl | ⟨o, ho, hk, rfl⟩
  · exact ⟨hm.le (Nat.le_succ _), rfl, rfl, rfl⟩
  · exact ⟨hm.put ho, rfl, rfl, rfl⟩
theorem kpM.mk'' {m1 : GStep} {L' : Nat} (h : okM I D L' m1) (hf : m1.fresh = m.fresh) (ho : m1.out = m.out) : kpM I D L' m m1 := ⟨h, hf, ho⟩
theorem okO_page {id : Int} (h0 : I 0) (hi : I id) : okO I D { (default : GObject) with ID := id, Kind := 2, Words := List.replicate 16 0 } :=
  okO_new h0 (by show (2 : Int) ≠ 1; decide) hi rfl (by show (List.replicate 16 (0 : Int)).length ≤ _; simp) rfl rfl rfl rfl
theorem cpM.pages {m1 m2 : GStep} {L' L2 : Nat} (h1 : okM I D L m1) (h2 : kpM I D L' m1 m2) (hf : m1.fresh = m.fresh) (hw : m1.out.Waits = m.out.Waits) {ids : List Int} (hids : ∀ y ∈ ids, jm I m1 y) (he : ((spAtt m1.o.Process.Pages ids).2.2 != 0) = false) (hl : L' ≤ L2) :
    cpM I D L2 m { m2 with o := { m2.o with Process := { m2.o.Process with Pages := (spAtt m1.o.Process.Pages ids).1 } } } := by
  obtain ⟨e1, e2⟩ := att_good he
  rw [e1]
  refine cpM.mk' ((h2.ok.pages e2 fun p hp => ?_).le hl) (h2.2.1.trans hf) (by show m2.out.Waits = _; rw [h2.2.2]; exact hw) (Nat.le_refl _)
  rw [h2.jeq]
  rcases List.mem_append.1 hp with hp | hp
  · exact h1.ob.kn.2.2.1 p hp
  · obtain ⟨y, hy, rfl⟩ := List.mem_map.1 hp
    exact hids y hy
attribute [local irreducible] EC EV getS putS remS putM cpM kpM takeM textM slotM semNew
theorem ec_st_share (h : RowH) (m : GStep) (a : GAction) (hm : okM I D L m) (hL : L ≤ 700000) (hu : m.out.Used = 0) (hf : 1 ≤ a.Args.x1 ∧ a.Args.x1 ≤ 16 → a.Args.x1.toNat ≤ m.fresh.length) : EC Tryz.prog 148 [.rptr 0 h 41 0 0, .agg a.c] [sRow h m] fun r N => ∃ x : (Int × Int) × GStep, cpM I D (L + 60) m x.2 ∧ r = .tup [.int .i64 x.1.1, .int .i64 x.1.2] ∧ N = [sRow h x.2] := by
  refine EC.finKE ?_
  (refine nW E_ok call_148 Tryz.func148 Tryz.ntmps148 Tryz.results148 ?_)
  have hl := hm.sl (by omega)
  have hfl := hm.fl
  (repeat' (first | (with_reducible intro hh; (first | subst hh | (revert hh; with_reducible intro _))) | with_reducible apply And.intro | refine eK E_ok ?_ | refine aX 0 (ec_st_text h m _ hm.ob.sm.1.2.2.1) rfl ?_ | (refine aE 0 (ec_st_entryN h m _ hm.st hm.j0 hl) rfl ?_; rintro ⟨⟨_, _⟩, _⟩ ⟨_, rfl⟩) | refine wA E_ok ?_ | exact trivial | contradiction))
  all_goals try exact ⟨((0, _), _), cpM.of (kpM.refl hm (Nat.le_refl _)) (by omega), Lk.t2 (FkA.int rfl) (FkA.int rfl), rfl⟩
  · rename_i fr1 g1 g2 n fr2 hn g3 g4
    have hn0 := hn.2 rfl
    simp only at hn0
    subst hn0
    have h1 : 0 ≤ a.Args.x1 ∧ a.Args.x1 ≤ 16 := by simp at g2; omega
    replace hf : a.Args.x1.toNat ≤ m.fresh.length := by
      by_cases h5 : 1 ≤ a.Args.x1
      · exact hf ⟨h5, h1.2⟩
      · omega
    refine EV_loopW E_ok [0, 3, 6, 8, 9] (fun x : Nat × GStep × List Int × RowH × RowH × Int => [(10, .int .i64 x.1)]) (fun B x => if x.1 = 0 then B else updX (updX B 0 [x.2.1.c]) 2 [[.str [], .int .i64 0, .row 4 x.2.2.2.1 1 0 x.2.2.1.length]] ++ [.row x.2.2.2.2.1 22 1 [[.int .u64 x.2.2.2.2.2]], .row x.2.2.2.1 22 1 (x.2.2.1.map (intC .u64))])
      (fun x => (x.1 : Int) ≤ a.Args.x1 ∧ x.2.2.1.length = x.1 ∧ (x.1 = 0 → x.2.1 = m) ∧ okM I D L x.2.1 ∧ x.2.1.fresh = m.fresh ∧ x.2.1.out.Waits = m.out.Waits ∧ x.2.1.out.Used = x.1 ∧ ∀ y ∈ x.2.2.1, jm I x.2.1 y) (fun x => a.Args.x1.toNat - x.1) (0, m, [], h, h, 0) ⟨h1.1, rfl, fun _ => rfl, hm, rfl, rfl, hu, by simp⟩ ?_
    rintro ⟨i, m1, ids, hr, hs, x0⟩ ⟨hi, hln, hi0, hm1, hfr, hwt, hus, hids⟩
    simp only at hi hln hi0 hm1 hfr hwt hus hids
    have hw : IntKind.i64.wrap ((i : Int) + 1) = ((i + 1 : Nat) : Int) := by rw [i64_in' (by omega)]; omega
    have hl1 := hm1.sl (by omega)
    cases i with
    | zero =>
      have e0 := hi0 rfl
      subst e0
      simp only [if_true, hw, push_cast, simprocAttr, show nmZ (default, false) = zrNm from rfl, zrNm]
      refine ⟨fun hc => ?_, fun hc => ?_⟩
      · have hu1 : m1.out.Used < m1.fresh.length := by omega
        have htk := hm1.take hu1
        have hid := hm1.taken hu1
        (repeat' (first | (with_reducible intro hh; (first | subst hh | (revert hh; with_reducible intro _))) | with_reducible apply And.intro | refine eK E_ok ?_ | refine aX 0 (ec_st_take h m1 ⟨by omega, hu1⟩ (by omega)) rfl ?_ | refine dM E_ok 6 [0, 1, 2, 3, 4, 5, 6, 7, 8, 9, 10, 11, 12, 13] [0, 2] fol fun R hR => ?_ | refine ed2 E_ok 1 3 ?_ ?_ | refine dR E_ok [3, 4, 5, 6, 7] ?_ | refine dR E_ok [4, 5, 6, 7] ?_ | refine ed2 E_ok 1 4 ?_ ?_ | refine ed1 E_ok 1 ?_ | refine dR E_ok [5, 6, 7] ?_ | (refine hR _ _ ?_; refine sA ?_) | refine wA E_ok ?_ | exact trivial | contradiction))
        all_goals try omega
        all_goals
          rename_i r1 r2
          have hI : ∀ r1 r2 : RowH, (fun x : Nat × GStep × List Int × RowH × RowH × Int => (x.1 : Int) ≤ a.Args.x1 ∧ x.2.2.1.length = x.1 ∧ (x.1 = 0 → x.2.1 = m1) ∧ okM I D L x.2.1 ∧ x.2.1.fresh = m1.fresh ∧ x.2.1.out.Waits = m1.out.Waits ∧ x.2.1.out.Used = x.1 ∧ ∀ y ∈ x.2.2.1, jm I x.2.1 y) (1, takeM m1, [m1.fresh.getD m1.out.Used.toNat default], r2, r1, m1.fresh.getD m1.out.Used.toNat default) := by
            intro r1 r2
            refine ⟨by show ((1 : Nat) : Int) ≤ _; omega, rfl, fun e => absurd e (Nat.succ_ne_zero 0), htk, takeM_fr m1, takeM_wt m1, by show (takeM m1).out.Used = _; rw [takeM_us, hu]; rfl, fun y hy => ?_⟩
            rw [List.mem_singleton.1 hy]; exact hid
          simp only [nm3]
          exact NX_mk (1, takeM m1, [m1.fresh.getD m1.out.Used.toNat default], r2, r1, m1.fresh.getD m1.out.Used.toNat default) (hI r1 r2) (by show a.Args.x1.toNat - 1 < a.Args.x1.toNat - 0; omega) (hb := rfl)
      · have h5 : ¬ 0 < a.Args.x1 := by simpa using hc
        have h6 : a.Args.x1 ≠ 0 := by simpa using g3
        omega
    | succ i =>
      simp only [Nat.succ_ne_zero, if_false, hw, push_cast, simprocAttr]
      refine ⟨fun hc => ?_, fun hc => ?_⟩
      · have hu1 : m1.out.Used < m1.fresh.length := by rw [hfr]; omega
        have htk := hm1.take hu1
        have hid := hm1.taken hu1
        have hfl1 := hm1.fl
        (repeat' (first | (with_reducible intro hh; (first | subst hh | (revert hh; with_reducible intro _))) | with_reducible apply And.intro | refine eK E_ok ?_ | refine aX 0 (ec_st_take h m1 ⟨by omega, hu1⟩ (by omega)) rfl ?_ | refine dM E_ok 6 [0, 1, 2, 3, 4, 5, 6, 7, 8, 9, 10, 11, 12, 13] [0, 2] fol fun R hR => ?_ | refine ed2 E_ok 1 3 ?_ ?_ | refine dR E_ok [3, 4, 5, 6, 7] ?_ | refine dR E_ok [4, 5, 6, 7] ?_ | refine ed2 E_ok 1 4 ?_ ?_ | refine ed1 E_ok 1 ?_ | refine dR E_ok [5, 6, 7] ?_ | (refine hR _ _ ?_; refine sA ?_) | refine wA E_ok ?_ | exact trivial | contradiction))
        all_goals try omega
        all_goals
          rename_i r1 r2
          have hw2 : IntKind.i64.wrap ((i : Int) + 1 + 1) = (i : Int) + 2 := by rw [i64_in' (by omega)]; omega
          simp only [nm3, hw2]
          have hI : (fun x : Nat × GStep × List Int × RowH × RowH × Int => (x.1 : Int) ≤ a.Args.x1 ∧ x.2.2.1.length = x.1 ∧ (x.1 = 0 → x.2.1 = m) ∧ okM I D L x.2.1 ∧ x.2.1.fresh = m.fresh ∧ x.2.1.out.Waits = m.out.Waits ∧ x.2.1.out.Used = x.1 ∧ ∀ y ∈ x.2.2.1, jm I x.2.1 y) (i + 2, takeM m1, ids ++ [m1.fresh.getD m1.out.Used.toNat default], r2, hs, x0) := by
            refine ⟨by show ((i + 2 : Nat) : Int) ≤ _; omega, by simp [hln], fun e => absurd e (Nat.succ_ne_zero _), htk, (takeM_fr m1).trans hfr, (takeM_wt m1).trans hwt, by show (takeM m1).out.Used = _; rw [takeM_us, hus]; rfl, fun y hy => ?_⟩
            rcases List.mem_append.1 hy with hy | hy
            · exact jm_take (by omega) (hids y hy)
            · rw [List.mem_singleton.1 hy]; exact hid
          exact NX_mk (i + 2, takeM m1, ids ++ [m1.fresh.getD m1.out.Used.toNat default], r2, hs, x0) hI (by show a.Args.x1.toNat - (i + 2) < a.Args.x1.toNat - (i + 1); omega)
      · have hul : ids.length ≤ 16 := by omega
        have hn1 : 1 ≤ ids.length := by omega
        have hB : getD' [sRow h m1, Own.row (fr1 0) 184 8 [a.c], Own.row (fr2 3) 70 3 [[SV.str [], SV.int IntKind.i64 0, SV.row 4 hr 1 0 ids.length]], Own.row hs 22 1 [[SV.int IntKind.u64 x0]], Own.row hr 22 1 (List.map (intC IntKind.u64) ids)] 4 = Own.row hr 22 1 (List.map (intC IntKind.u64) ids) := rfl
        refine EV_frzB 3 2 (ys := [[.str [], .int .i64 0, slL 1 (intC .u64) default ids]]) (by decide) rfl (FRm.one (by simp) ⟨trivial, trivial, by simp only [frzKC, fromM, hB]; simp, trivial⟩ ?_) [(0, .rptr 0 h 41 0 0), (3, .rptr 1 (fr1 0) 8 0 0), (6, .str (textM m a.Args.x0).1), (8, .rptr 2 (fr2 3) 3 0 0), (9, .bool false)] ?_ ?_
        · refine .cons (SLe.refl _) (.cons (SLe.refl _) (.cons ?_ .nil))
          simp only [frzC, fromM, hB]
          exact SLe.sl (fun h => h) (.inr rfl) fun k hk => by simp [List.getD, hk, elt]
        · simp [wkF, lkp, frzKT, frzKA, frzKC, frzT, frzA, frzC, fromM, SLe.refl]
        clear hB hc hus hw hi hln hi0
        simp only [List.take_succ_cons, List.take_zero, List.set_cons_zero, List.set_cons_succ]
        have hpl1 := hm1.ob.sm.1.2.2.2.1
        (repeat' (first | (with_reducible intro hh; (first | subst hh | (revert hh; with_reducible intro _))) | with_reducible apply And.intro | refine eK E_ok ?_ | refine EC.use (ec_ref07_Attach m1.o.Process.Pages ids hpl1 (by omega)) ?_ | refine dN E_ok [] [] [0, 1, 2, 3, 4, 5, 6, 7, 8, 9, 10, 11, 12, 13, 14, 15] fol fun R hR => ?_ | refine dR E_ok [9, 10, 11, 12, 13, 14, 15] ?_ | (refine hR _ _ ?_; refine sA ?_) | refine wA E_ok ?_ | exact trivial | contradiction)) <;> (first | (exact ⟨((0, _), _), cpM.mk' hm1 hfr hwt (by omega), Lk.t2 (FkA.int rfl) (FkA.int rfl), rfl⟩) | skip)
        rename_i ge
        have htl : (textM m a.Args.x0).1.length ≤ 1000000 := textM_len hm
        refine EC.useAtK E_ok 0 (ec_st_name (I := jm I m1) h m1 _ 2 ids hm1.st hm1.j0 hl1 htl (by omega) hids) rfl (by (repeat (first | exact LLe.nil | refine LLe.cons (SLe.refl _) ?_ | refine LLe.cons SLe.rptr ?_))) ?_
        rintro ⟨e2, m2⟩ hx
        obtain ⟨hm2, fr4, us1, je⟩ := nm_okG hm1 hx
        simp only at hm2 fr4 us1 je
        have hk2 : kpM I D (L + 1) m1 m2 := kpM.mk'' hm2 fr4 us1
        have hl2 := hm2.sl (by omega)
        simp only [push_cast, simprocAttr]
        (repeat' (first | (with_reducible intro hh; (first | subst hh | (revert hh; with_reducible intro _))) | with_reducible apply And.intro | refine eK E_ok ?_ | refine wA E_ok ?_ | exact trivial | contradiction)) <;> (first | (exact ⟨((0, _), _), cpM.mk' hm2 (fr4.trans hfr) (by rw [us1]; exact hwt) (by omega), Lk.t2 (FkA.int rfl) (FkA.int rfl), rfl⟩) | skip)
        refine EV_loopW E_ok [0, 11, 12, 100, 101] (fun x : Nat × GStep => [(102, .int .i64 x.1)]) (fun B x => updX B 0 [x.2.c]) (fun x => x.1 ≤ ids.length ∧ kpM I D (L + 1 + x.1) m1 x.2) (fun x => ids.length - x.1) (0, m2) ⟨Nat.zero_le _, hk2⟩ ?_
        rintro ⟨j, m3⟩ ⟨hj, hk3⟩
        replace hj : j ≤ ids.length := hj
        replace hk3 : kpM I D (L + 1 + j) m1 m3 := hk3
        have hm3 := hk3.ok
        have hl3 : m3.s.Objects.length ≤ 1000000 := hm3.sl (by omega)
        have hw : IntKind.i64.wrap ((j : Int) + 1) = ((j + 1 : Nat) : Int) := by rw [i64_in' (by omega)]; omega
        simp only [hw, push_cast, simprocAttr]
        refine ⟨fun hc => ⟨⟨by omega, hc⟩, ?_⟩, fun hc => ?_⟩
        · have hy : jm I m1 (ids.getD j default) := hids _ (getD_mem (by omega))
          (repeat' (first | (with_reducible intro hh; (first | subst hh | (revert hh; with_reducible intro _))) | with_reducible apply And.intro | refine eK E_ok ?_ | refine EC.use (ec_ref06_NewP _) ?_ | refine aX 0 (ec_st_put h m3 _ hl3) rfl ?_ | refine wA E_ok ?_ | exact trivial | contradiction)) <;> (first | (simp only [hw]; exact NX_mk (j + 1, putM m3 _) ⟨by show j + 1 ≤ _; omega, hk3.puts (by show L + 1 + j + 1 ≤ L + 1 + (j + 1); omega) (okO_page hm1.j0 hy)⟩) | skip)
        · (repeat' (first | (with_reducible intro hh; (first | subst hh | (revert hh; with_reducible intro _))) | with_reducible apply And.intro | refine eK E_ok ?_ | refine wA E_ok ?_ | exact trivial | contradiction)) <;> (first | (exact ⟨((_, (0 : Int)), { m3 with o := { m3.o with Process := { m3.o.Process with Pages := (spAtt m1.o.Process.Pages ids).1 } } }), cpM.pages hm1 hk3 hfr hwt hids ge (by omega), Lk.t2 (FkA.int rfl) (FkA.int rfl), rfl⟩) | skip)
  · rename_i n b hn _ _ _ hb
    have hbt : b = true := by simpa using hb
    subst hbt
    obtain ⟨p, k, ids⟩ := n
    have hN := hn.1 rfl
    have hids : ∀ y ∈ ids, jm I m y := hN.2.2
    have hil : ids.length ≤ 1000000 := hN.1.1
    have hpl := hm.ob.sm.1.2.2.2.1
    simp only [nmZ, if_true]
    (repeat' (first | (with_reducible intro hh; (first | subst hh | (revert hh; with_reducible intro _))) | with_reducible apply And.intro | refine eK E_ok ?_ | refine EC.use (ec_ref07_Attach m.o.Process.Pages ids hpl hil) ?_ | refine dN E_ok [] [] [0, 1, 2, 3, 4, 5, 6, 7, 8, 9, 10, 11, 12, 13, 14, 15] fol fun R hR => ?_ | refine dR E_ok [9, 10, 11, 12, 13, 14, 15] ?_ | (refine hR _ _ ?_; refine sA ?_) | refine wA E_ok ?_ | exact trivial | contradiction))
    all_goals try exact ⟨((0, _), _), cpM.of (kpM.refl hm (Nat.le_refl _)) (by omega), Lk.t2 (FkA.int rfl) (FkA.int rfl), rfl⟩
    exact ⟨((_, (0 : Int)), { m with o := { m.o with Process := { m.o.Process with Pages := (spAtt m.o.Process.Pages ids).1 } } }), cpM.pages hm (kpM.refl hm (Nat.le_refl _)) rfl rfl hids ‹_› (by omega), Lk.t2 (FkA.int rfl) (FkA.int rfl), rfl⟩
end
end Go.Proofs.YtfmldmafigpblaaGreatDoor
end
