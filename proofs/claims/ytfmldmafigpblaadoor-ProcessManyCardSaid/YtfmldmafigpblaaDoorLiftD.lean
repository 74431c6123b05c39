/-
  Loads, stores, addresses: the operations' soundness.
-/
import Derived.Test.YtfmldmafigpblaaDoorLiftC
namespace Go.Lift
section
variable {P : Program} {T : TypeId} {ti : TyI} {X : Nat → Prop} {w : World} {B : List Own}

theorem size_of_not_agg (ha : ti.agg = false) (hb : ti ≠ .bad) : ti.size = 1 := by
  cases ti
  case bad => exact absurd rfl hb
  case struct => cases ha
  case array => cases ha
  all_goals rfl

theorem loadVar_run (ht : tyB P T ti = true) (hb : ti ≠ .bad) (b off : Nat) (g : Nat → Value) (h : ∀ j, j < ti.size → w.cell? ⟨b, off + j, none⟩ = some (g j)) :
    (loadVar T ⟨b, off, none⟩).run P w = .ok (if ti.agg = true then .agg ((List.range ti.size).map g).toArray else g 0) w := by
  unfold loadVar
  rw [Sem.run_bind, tyB_run_agg ht hb]
  simp only [Result.andThen_ok]
  by_cases ha : ti.agg = true
  · simp only [ha, if_true, Sem.run_bind, tyB_run_size ht hb, Result.andThen_ok]
    rw [run_loadCells w ⟨b, off, none⟩ ti.size g fun j hj => by rw [add_none]; exact h j hj]
    rfl
  · have ha' : ti.agg = false := by simpa using ha
    have h1 := size_of_not_agg ha' hb
    have h0 := h 0 (by omega)
    simp only [Nat.add_zero] at h0
    simp only [ha', Bool.false_eq_true, if_false]
    rw [run_load]
    simp [h0]

theorem den_take {cs : List SV} {g : Nat → Value} {n o : Nat} (hn : o + n ≤ cs.length) (h : ∀ (j : Nat) (c : SV), cs[j]? = some c → Den X w c (g j)) :
    Den X w (.agg ((cs.drop o).take n)) (.agg ((List.range n).map fun j => g (o + j)).toArray) := by
  refine .agg (by simp; omega) fun i c hc => ?_
  have hi : i < n := by
    rcases Nat.lt_or_ge i n with h1 | h1
    · exact h1
    · rw [List.getElem?_eq_none (by simp; omega)] at hc; cases hc
  rw [List.getElem?_take_of_lt hi, List.getElem?_drop] at hc
  have := h _ _ hc
  simpa [hi] using this

theorem load_uni (ht : tyB P T ti = true) (hb : ti ≠ .bad) (hs : Sat X w B) {p : SV} {v : Value} (hp : Den X w p v) (hc : (evLoad ti.agg ti.size B p).vc) :
    ∃ u, (∀ w' : World, (∀ b, X b ∨ owns B b → w'.heap[b]? = w.heap[b]?) → (Instr.loadAt T v).run P w' = .ok u w') ∧ Den X w (evLoad ti.agg ti.size B p).v u ∧ (evLoad ti.agg ti.size B p).B = B := by
  cases hp <;> try (simp only [evLoad, bad] at hc)
  case xp cs b off g hX hw h =>
    cases ha : ti.agg
    · simp only [ha] at hc
      have h1 := size_of_not_agg ha hb
      refine ⟨g 0, fun w' hw' => ?_, ?_, ?_⟩
      · simp only [Instr.loadAt, Instr.sureAddr, Sem.run_bind, Sem.run_pure, Result.andThen_ok]
        rw [loadVar_run ht hb b off g fun j hj => by rw [World.cell?_of_block (w := w) (hw' b (.inl hX))]; exact hw j (by omega)]
        simp [ha]
      · simp only [evLoad]
        exact h 0 _ (get?_of_lt _ hc)
      · simp only [evLoad]
    · simp only [ha] at hc
      refine ⟨.agg ((List.range ti.size).map g).toArray, fun w' hw' => ?_, ?_, ?_⟩
      · simp only [Instr.loadAt, Instr.sureAddr, Sem.run_bind, Sem.run_pure, Result.andThen_ok]
        rw [loadVar_run ht hb b off g fun j hj => by rw [World.cell?_of_block (w := w) (hw' b (.inl hX))]; exact hw j (by omega)]
        simp [ha]
      · simp only [evLoad]
        have := den_take (X := X) (w := w) (o := 0) (n := ti.size) (by omega) h
        simpa using this
      · simp only [evLoad]
  case rptr i b cap esz k off =>
    cases hg : getD' B i with
    | gone => simp [hg] at hc
    | row h' E esz' xs =>
      simp only [hg] at hc
      cases ha : ti.agg
      all_goals
        simp only [ha] at hc
        obtain ⟨rfl, rfl, hk, ho⟩ := hc
        obtain ⟨vs, h1, h2, h3, h4, h5⟩ := hs.row hg
        have hx := get?_of_lt (α := List SV) [] hk
        have hl := h4 k _ hx
      · have h1' := size_of_not_agg ha hb
        refine ⟨vs.getD (k * esz' + off) undef, fun w' hw' => ?_, ?_, ?_⟩
        · simp only [Instr.loadAt, Instr.sureAddr, Sem.run_bind, Sem.run_pure, Result.andThen_ok]
          rw [loadVar_run ht hb b (k * esz' + off) (fun j => vs.getD (k * esz' + off + j) undef) fun j hj => cell_of_heap (by rw [hw' b (.inr ⟨i, by simp [hg, Own.blocks]⟩)]; exact h1) (by have := idx_lt (m := cap) (esz := esz') (show k < cap by omega) ho; omega)]
          simp [ha]
        · simp only [evLoad, hg]
          exact h5 k off _ _ hx (get?_of_lt _ (by omega))
        · simp only [evLoad, hg]
      · refine ⟨.agg ((List.range ti.size).map fun j => vs.getD (k * esz' + (off + j)) undef).toArray, fun w' hw' => ?_, ?_, ?_⟩
        · simp only [Instr.loadAt, Instr.sureAddr, Sem.run_bind, Sem.run_pure, Result.andThen_ok]
          rw [loadVar_run ht hb b (k * esz' + off) (fun j => vs.getD (k * esz' + (off + j)) undef) fun j hj => by
            rw [Nat.add_assoc]
            exact cell_of_heap (by rw [hw' b (.inr ⟨i, by simp [hg, Own.blocks]⟩)]; exact h1) (by have := idx_lt (m := cap) (esz := esz') (show k < cap by omega) (show off + j < esz' by omega); omega)]
          simp [ha]
        · simp only [evLoad, hg]
          exact den_take (g := fun j => vs.getD (k * esz' + j) undef) (by omega) (fun j c hc => h5 k j _ _ hx hc)
        · simp only [evLoad, hg]

theorem load_sound (ht : tyB P T ti = true) (hb : ti ≠ .bad) (hs : Sat X w B) {p : SV} {v : Value} (hp : Den X w p v) (hc : (evLoad ti.agg ti.size B p).vc) :
    ∃ u, (Instr.loadAt T v).run P w = .ok u w ∧ Den X w (evLoad ti.agg ti.size B p).v u ∧ (evLoad ti.agg ti.size B p).B = B := by
  obtain ⟨u, h1, h2, h3⟩ := load_uni ht hb hs hp hc
  exact ⟨u, h1 w fun _ _ => rfl, h2, h3⟩
theorem solid_one {s : SV} {v : Value} (hs : s.solid = true) (hd : Den X w s v) : v.oneCell' = true := by
  cases hd <;> simp_all [SV.solid, Value.oneCell']
theorem solids_mem {cs : List SV} (h : solids cs = true) : ∀ (i : Nat) (c : SV), cs[i]? = some c → c.solid = true := by
  induction cs with
  | nil => simp
  | cons x r ih =>
    simp only [solids, Bool.and_eq_true] at h
    intro i c hc
    cases i with
    | zero => simp at hc; exact hc ▸ h.1
    | succ i => exact ih h.2 i c (by simpa using hc)
theorem den_cells {s : SV} {v : Value} (hd : Den X w s v) (hs : solids s.cells = true) :
    v.cells.size = s.cells.length ∧ (∀ (i : Nat) (c : SV), s.cells[i]? = some c → Den X w c (v.cells.getD i undef)) ∧ ∀ x ∈ v.cells.toList, x.oneCell' = true := by
  by_cases ha : ∃ cs, s = .agg cs
  · obtain ⟨cs, rfl⟩ := ha
    cases hd with
    | agg hsz h =>
      refine ⟨hsz, h, fun x hx => ?_⟩
      rename_i vs
      obtain ⟨i, hi⟩ := List.mem_iff_getElem?.1 hx
      simp only [Value.cells] at hi
      have hlt : i < cs.length := by
        rcases Nat.lt_or_ge i cs.length with h1 | h1
        · exact h1
        · rw [List.getElem?_eq_none (by simp; omega)] at hi; cases hi
      have hd := h i _ (get?_of_lt .any hlt)
      have : vs.getD i undef = x := by simp at hi; simp [hi]
      rw [this] at hd
      exact solid_one (solids_mem hs i _ (by simpa [SV.cells] using get?_of_lt .any hlt)) hd
  · have hc : s.cells = [s] := by cases s <;> simp [SV.cells] at ha ⊢
    rw [hc] at hs ⊢
    simp only [solids, Bool.and_true] at hs
    have h1 := solid_one hs hd
    have hv : v.cells = #[v] := by cases v <;> simp [Value.cells, Value.oneCell'] at h1 ⊢
    rw [hv]
    refine ⟨rfl, fun i c h => ?_, fun x hx => ?_⟩
    · cases i with
      | zero => simp at h; subst h; simpa using hd
      | succ i => simp at h
    · simp at hx; subst hx; exact h1

theorem heap_setRow (w : World) (b : Nat) (cs vs : Array Value) (E : TypeId) (hb : w.heap[b]? = some (.cells vs E (0, 0))) (c : Nat) :
    (w.setRow b cs).heap[c]? = if c = b then some (.cells cs E (0, 0)) else w.heap[c]? := by
  simp only [World.setRow, Array.getElem?_modify]
  by_cases h : b = c
  · subst h; simp [hb]
  · have : ¬ c = b := fun e => h e.symm
    simp [h, this]
theorem size_setRow (w : World) (b : Nat) (cs : Array Value) : (w.setRow b cs).heap.size = w.heap.size := by simp [World.setRow]

/-- What 'putL' holds. -/
theorem putL_length : ∀ (ys cs : List SV) (off : Nat), (putL cs off ys).length = cs.length
  | [], _, _ => rfl
  | y :: r, cs, off => by simp [putL, putL_length r]
theorem putL_get : ∀ (ys cs : List SV) (off : Nat) (j : Nat) (c : SV), off + ys.length ≤ cs.length → (putL cs off ys)[j]? = some c →
    (off ≤ j ∧ j < off + ys.length ∧ ys[j - off]? = some c) ∨ ((j < off ∨ off + ys.length ≤ j) ∧ cs[j]? = some c)
  | [], cs, off, j, c, _, h => .inr ⟨by simp; omega, h⟩
  | y :: r, cs, off, j, c, hl, h => by
    simp only [List.length_cons] at hl
    rcases putL_get r (cs.set off y) (off + 1) j c (by simp; omega) h with ⟨h1, h2, h3⟩ | ⟨h1, h2⟩
    · refine .inl ⟨by omega, by simp; omega, ?_⟩
      have : j - off = (j - (off + 1)) + 1 := by omega
      rw [this]; simpa using h3
    · by_cases e : j = off
      · subst e
        rw [List.getElem?_set_self (by omega)] at h2
        exact .inl ⟨Nat.le_refl _, by simp, by simpa using h2⟩
      · rw [List.getElem?_set_ne (by omega)] at h2
        exact .inr ⟨by simp; omega, h2⟩

theorem getD_splice (cur new : List Value) (o j : Nat) (h : o + new.length ≤ cur.length) :
    (cur.take o ++ new ++ cur.drop (o + new.length)).toArray.getD j undef = if o ≤ j ∧ j < o + new.length then new.getD (j - o) undef else cur.getD j undef := by
  simp only [Array.getD_eq_getD_getElem?, List.getElem?_toArray, List.getD_eq_getElem?_getD]
  congr 1
  rw [List.append_assoc]
  by_cases h1 : j < o
  · rw [List.getElem?_append_left (by simp; omega), List.getElem?_take_of_lt h1, if_neg (by omega)]
  · rw [List.getElem?_append_right (by simp; omega)]
    have hl : (List.take o cur).length = o := by simp; omega
    rw [hl]
    by_cases h2 : j < o + new.length
    · rw [List.getElem?_append_left (by omega), if_pos (by omega)]
    · rw [List.getElem?_append_right (by omega), List.getElem?_drop, if_neg (by omega)]
      congr 2; omega

theorem store_sound (ht : tyB P T ti = true) (hb : ti ≠ .bad) (hs : Sat X w B) {p s : SV} {v u : Value} (hp : Den X w p v) (hu : Den X w s u) (hc : (evStore ti.size B p s).vc) :
    ∃ w', (Instr.storeAt T v u).run P w = .ok () w' ∧ Sat X w' (evStore ti.size B p s).B ∧ Ext X w B X w' (evStore ti.size B p s).B := by
  cases hp <;> try (simp only [evStore, bad] at hc)
  case rptr i b cap esz k off =>
    cases hg : getD' B i with
    | gone => simp [hg] at hc
    | row h' E esz' xs =>
      simp only [hg] at hc
      obtain ⟨rfl, rfl, hk, ho, hl, hsol⟩ := hc
      obtain ⟨vs, h1, h2, h3, h4, h5⟩ := hs.row hg
      obtain ⟨c1, c2, c3⟩ := den_cells hu hsol
      have hx := get?_of_lt (α := List SV) [] hk
      have hxl := h4 k _ hx
      have hn0 : ti.size = u.cells.toList.length := by simp; omega
      have hle : k * esz' + esz' ≤ cap * esz' := by
        rw [← Nat.succ_mul]; exact Nat.mul_le_mul_right _ (by omega)
      have hi := getD'_lt hg
      let new := (vs.toList.take (k * esz' + off) ++ u.cells.toList ++ vs.toList.drop (k * esz' + off + u.cells.toList.length)).toArray
      have hnew : new.size = vs.size := by simp [new]; omega
      have hrun : (storeCells ⟨b, k * esz' + off, none⟩ u.cells.toList).run P w = .ok () (w.setRow b new) := by
        have := run_storeCells_at (P := P) b (k * esz' + off) E u.cells.toList 0 vs w h1 (by omega) c3
        simpa [new] using this
      have hblk : ∀ c, c < w.heap.size → c ∉ (getD' B i).blocks → (w.setRow b new).heap[c]? = w.heap[c]? := fun c _ hcn => by
        rw [heap_setRow w b new vs E h1, if_neg]
        rw [hg] at hcn; simpa [Own.blocks] using hcn
      refine ⟨w.setRow b new, ?_, ?_, ?_⟩
      · simp only [Instr.storeAt, Instr.sureAddr, Sem.run_bind, Sem.run_pure, Result.andThen_ok, storeVar, tyB_run_size ht hb]
        rw [Sem.run_ite, if_neg (by simp; omega), hrun]
      · simp only [evStore, hg]
        refine hs.replace hi (by simp) hblk (fun c hc => .inl (by rw [hg]; simpa [Own.blocks] using hc)) ?_
        refine ⟨new, by rw [heap_setRow w b new vs E h1, if_pos rfl], by rw [hnew, h2], by simpa using h3, fun k' x hx' => ?_, fun k' j x c hx' hc' => ?_⟩
        · rw [List.getElem?_set] at hx'
          by_cases e : k = k'
          · subst e; simp only [hk, if_true, Option.some.injEq] at hx'; subst hx'; rw [putL_length]; exact hxl
          · simp only [e, if_false] at hx'; exact h4 _ _ hx'
        · rw [show new.getD (k' * esz' + j) undef = _ from getD_splice vs.toList u.cells.toList (k * esz' + off) (k' * esz' + j) (by simp; omega)]
          have hdm : ∀ {s' u'}, Den X w s' u' → Den X (w.setRow b new) s' u' := fun hd => hd.mono (fun _ h => h) fun c hc => hblk c (hs.xlt c hc) fun hm => hs.apart c hc ⟨i, hm⟩
          rw [List.getElem?_set] at hx'
          by_cases e : k = k'
          · subst e
            simp only [hk, if_true, Option.some.injEq] at hx'
            subst hx'
            rcases putL_get s.cells _ off j c (by omega) hc' with ⟨a1, a2, a3⟩ | ⟨a1, a2⟩
            · rw [if_pos (by simp; omega)]
              have hj : k * esz' + j - (k * esz' + off) = j - off := by omega
              rw [hj]
              have := hdm (c2 _ _ a3)
              simpa using this
            · rw [if_neg (by simp; omega)]
              have := hdm (h5 k j _ _ hx a2)
              simpa using this
          · simp only [e, if_false] at hx'
            have hj : j < esz' := by
              have := h4 _ _ hx'
              rcases Nat.lt_or_ge j x.length with h' | h'
              · omega
              · rw [List.getElem?_eq_none h'] at hc'; cases hc'
            have hne : ¬ (k * esz' + off ≤ k' * esz' + j ∧ k' * esz' + j < k * esz' + off + u.cells.toList.length) := by
              intro ⟨a1, a2⟩
              rcases Nat.lt_or_gt_of_ne e with h' | h'
              · have : (k + 1) * esz' ≤ k' * esz' := Nat.mul_le_mul_right _ h'
                rw [Nat.succ_mul] at this; omega
              · have : (k' + 1) * esz' ≤ k * esz' := Nat.mul_le_mul_right _ h'
                rw [Nat.succ_mul] at this; omega
            rw [if_neg hne]
            have := hdm (h5 k' j _ _ hx' hc')
            simpa using this
      · simp only [evStore, hg]
        exact Ext.replace hi rfl rfl rfl (by simp) hblk (fun c hc => .inl (by rw [hg]; simpa [Own.blocks] using hc))
end
end Go.Lift
