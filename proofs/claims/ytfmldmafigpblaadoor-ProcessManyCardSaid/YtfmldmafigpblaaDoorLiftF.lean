/-
  Slices that grow: append, copy.
-/
import Derived.Test.YtfmldmafigpblaaDoorLiftE
namespace Go.Lift
section
variable {P : Program} {T : TypeId} {ti : TyI} {X : Nat → Prop} {w : World} {B : List Own}

theorem div_idx {k j esz : Nat} (hj : j < esz) : (k * esz + j) / esz = k ∧ (k * esz + j) % esz = j := by
  have h0 : 0 < esz := by omega
  constructor
  · rw [Nat.mul_comm, Nat.mul_add_div h0, Nat.div_eq_of_lt hj, Nat.add_zero]
  · rw [Nat.mul_comm, Nat.mul_add_mod, Nat.mod_eq_of_lt hj]

/-- The cells of elements, one behind the other. -/
structure Cells (X : Nat → Prop) (w : World) (esz : Nat) (ys : List (List SV)) (cs : List Value) : Prop where
  len : cs.length = ys.length * esz
  each : ∀ (k : Nat) (x : List SV), ys[k]? = some x → x.length = esz
  den : ∀ (k j : Nat) (x : List SV) (c : SV), ys[k]? = some x → x[j]? = some c → Den X w c (cs.getD (k * esz + j) undef)

theorem cells_of_fun {esz m : Nat} {ys : List (List SV)} (hm : m = ys.length) (g : Nat → Value) (hl : ∀ (k : Nat) (x : List SV), ys[k]? = some x → x.length = esz)
    (h : ∀ (k j : Nat) (x : List SV) (c : SV), ys[k]? = some x → x[j]? = some c → Den X w c (g (k * esz + j))) : Cells X w esz ys ((List.range (m * esz)).map g) := by
  subst hm
  refine ⟨by simp, hl, fun k j x c hx hc => ?_⟩
  have hj : j < esz := by
    have := hl k x hx
    rcases Nat.lt_or_ge j x.length with h' | h'
    · omega
    · rw [List.getElem?_eq_none h'] at hc; cases hc
  have hk : k < ys.length := by
    rcases Nat.lt_or_ge k ys.length with h' | h'
    · exact h'
    · rw [List.getElem?_eq_none h'] at hx; cases hx
  have := idx_lt hk hj
  have h2 := h k j x c hx hc
  simpa [this] using h2

theorem Cells.mono {X' : Nat → Prop} {w' : World} {esz : Nat} {ys : List (List SV)} {cs : List Value} (h : Cells X w esz ys cs) (hX : ∀ b, X b → X' b) (hw : ∀ b, X b → w'.heap[b]? = w.heap[b]?) : Cells X' w' esz ys cs :=
  ⟨h.len, h.each, fun k j x c hx hc => (h.den k j x c hx hc).mono hX hw⟩
theorem Cells.append {esz : Nat} {ys zs : List (List SV)} {cs ds : List Value} (h : Cells X w esz ys cs) (k : Cells X w esz zs ds) : Cells X w esz (ys ++ zs) (cs ++ ds) := by
  refine ⟨by simp [h.len, k.len, Nat.add_mul], fun i x hx => ?_, fun i j x c hx hc => ?_⟩
  · rw [List.getElem?_append] at hx
    split at hx
    · exact h.each _ _ hx
    · exact k.each _ _ hx
  · rw [List.getElem?_append] at hx
    split at hx
    · rename_i hi
      have hd := h.den i j x c hx hc
      have hj : j < esz := by
        have := h.each _ _ hx
        rcases Nat.lt_or_ge j x.length with h' | h'
        · omega
        · rw [List.getElem?_eq_none h'] at hc; cases hc
      have := idx_lt hi hj
      simp only [List.getD_eq_getElem?_getD] at hd ⊢
      rw [List.getElem?_append_left (by rw [h.len]; exact this)]
      exact hd
    · rename_i hi
      have hd := k.den _ j x c hx hc
      have e : i * esz + j - cs.length = (i - ys.length) * esz + j := by
        rw [h.len]
        have : i = ys.length + (i - ys.length) := by omega
        rw [this, Nat.add_mul]; simp; omega
      have hge : cs.length ≤ i * esz + j := by
        rw [h.len]
        have : ys.length * esz ≤ i * esz := Nat.mul_le_mul_right _ (by omega)
        omega
      simp only [List.getD_eq_getElem?_getD] at hd ⊢
      rw [List.getElem?_append_right hge, e]
      exact hd
theorem Cells.take {esz : Nat} {ys : List (List SV)} {cs : List Value} (h : Cells X w esz ys cs) (n : Nat) : Cells X w esz (ys.take n) (cs.take (n * esz)) := by
  refine ⟨?_, fun i x hx => h.each i x ?_, fun i j x c hx hc => ?_⟩
  · simp only [List.length_take, h.len]
    rcases Nat.le_total n ys.length with h1 | h1
    · have := Nat.mul_le_mul_right esz h1; rw [Nat.min_eq_left h1, Nat.min_eq_left this]
    · have := Nat.mul_le_mul_right esz h1; rw [Nat.min_eq_right h1, Nat.min_eq_right this]
  · rw [List.getElem?_take] at hx; split at hx
    · exact hx
    · cases hx
  · rw [List.getElem?_take] at hx
    split at hx
    · rename_i hi
      have hj : j < esz := by
        have := h.each _ _ hx
        rcases Nat.lt_or_ge j x.length with h' | h'
        · omega
        · rw [List.getElem?_eq_none h'] at hc; cases hc
      have hd := h.den i j x c hx hc
      have := idx_lt hi hj
      simp only [List.getD_eq_getElem?_getD, List.getElem?_take, this, if_true] at hd ⊢
      exact hd
    · cases hx
theorem Cells.drop {esz : Nat} {ys : List (List SV)} {cs : List Value} (h : Cells X w esz ys cs) (n : Nat) : Cells X w esz (ys.drop n) (cs.drop (n * esz)) := by
  refine ⟨?_, fun i x hx => h.each (n + i) x (by simpa using hx), fun i j x c hx hc => ?_⟩
  · simp only [List.length_drop, h.len, Nat.sub_mul]
  · have hd := h.den (n + i) j x c (by simpa using hx) hc
    have e : n * esz + (i * esz + j) = (n + i) * esz + j := by rw [Nat.add_mul]; omega
    simp only [List.getD_eq_getElem?_getD, List.getElem?_drop, e] at hd ⊢
    exact hd

theorem ones_of {esz : Nat} (he : 0 < esz) {ys : List (List SV)} {cs : List Value} (h : Cells X w esz ys cs) (hs : ∀ y ∈ ys, solids y = true) : ∀ v ∈ cs, v.oneCell' = true := by
  intro v hv
  obtain ⟨i, hi⟩ := List.mem_iff_getElem?.1 hv
  have hlt : i < cs.length := by
    rcases Nat.lt_or_ge i cs.length with h' | h'
    · exact h'
    · rw [List.getElem?_eq_none h'] at hi; cases hi
  have hm : i % esz < esz := Nat.mod_lt _ he
  have hk : i / esz < ys.length := by
    rw [h.len] at hlt
    exact Nat.div_lt_of_lt_mul (by rw [Nat.mul_comm]; exact hlt)
  have hx := get?_of_lt (α := List SV) [] hk
  have hxl := h.each _ _ hx
  have hc := get?_of_lt (α := SV) .any (show i % esz < (ys.getD (i / esz) []).length by omega)
  have hd := h.den _ _ _ _ hx hc
  have e : i / esz * esz + i % esz = i := by rw [Nat.mul_comm]; exact Nat.div_add_mod i esz
  rw [e, getD_of_get? hi] at hd
  exact solid_one (solids_mem (hs _ (List.mem_of_getElem? hx)) _ _ hc) hd

/-- Where a row's cells lie. -/
theorem row_cells (hs : Sat X w B) {i b cap E esz xs} (hg : getD' B i = .row (.at b cap) E esz xs) :
    ∃ vs : Array Value, w.heap[b]? = some (.cells vs E (0, 0)) ∧ vs.size = cap * esz ∧ xs.length ≤ cap ∧ Cells X w esz xs (vs.toList.take (xs.length * esz)) := by
  obtain ⟨vs, h1, h2, h3, h4, h5⟩ := hs.row hg
  refine ⟨vs, h1, h2, h3, ?_, h4, fun k j x c hx hc => ?_⟩
  · have := Nat.mul_le_mul_right esz h3
    simp; omega
  · have hj : j < esz := by
      have := h4 _ _ hx
      rcases Nat.lt_or_ge j x.length with h' | h'
      · omega
      · rw [List.getElem?_eq_none h'] at hc; cases hc
    have hk : k < xs.length := by
      rcases Nat.lt_or_ge k xs.length with h' | h'
      · exact h'
      · rw [List.getElem?_eq_none h'] at hx; cases hx
    have := idx_lt hk hj
    have hd := h5 k j x c hx hc
    simp only [List.getD_eq_getElem?_getD, List.getElem?_take, this, if_true]
    simpa using hd

theorem cell_list {b E : Nat} {vs : Array Value} {fz} (hb : w.heap[b]? = some (.cells vs E fz)) (o n : Nat) (ho : o + n ≤ vs.size) :
    (loadCells ⟨b, o, none⟩ n).run P w = .ok ((vs.toList.drop o).take n).toArray w := by
  have := run_loadCells_list (P := P) w ⟨b, o, none⟩ ((vs.toList.drop o).take n) fun j v hv => by
    rw [add_none]
    have hj : j < n := by
      rcases Nat.lt_or_ge j n with h' | h'
      · exact h'
      · rw [List.getElem?_eq_none (by simp; omega)] at hv; cases hv
    rw [cell_of_heap hb (by omega)]
    rw [List.getElem?_take_of_lt hj, List.getElem?_drop] at hv
    simp at hv
    simp [hv]
  have hl : ((vs.toList.drop o).take n).length = n := by simp; omega
  rwa [hl] at this

/-- What is appended or copied. -/
theorem src_sound {esz : Nat} (he : 0 < esz) (hs : Sat X w B) {s : SV} {v : Value} (hd : Den X w s v) (hc : (srcOf esz B s).2) :
    (Builtin.lenOf v).run P w = .ok (srcOf esz B s).1.length w ∧
    ∀ m, m ≤ (srcOf esz B s).1.length → ∃ cs : List Value, (Builtin.firstCells esz m v).run P w = .ok cs.toArray w ∧ Cells X w esz ((srcOf esz B s).1.take m) cs := by
  have nilC : Cells X w esz [] [] := ⟨by simp, by simp, by simp⟩
  cases hd <;> simp only [srcOf] at hc
  case str l =>
    subst hc
    refine ⟨by simp [Builtin.lenOf, srcOf, ByteArray.size], fun m hm => ?_⟩
    · simp only [srcOf, List.length_map] at hm
      refine ⟨(l.take m).map fun b => .int .u8 (b.toNat : Int), ?_, ?_, ?_, ?_⟩
      · simp only [Builtin.firstCells, Sem.run_pure]
        congr 1
        apply Array.ext'
        simp [ByteArray.data_extract]
      · simp [srcOf]
      · intro k x hx
        simp only [srcOf, List.getElem?_take, List.getElem?_map] at hx
        split at hx
        · cases h : l[k]? <;> simp [h] at hx; subst hx; rfl
        · cases hx
      · intro k j x c hx hcc
        simp only [srcOf, List.getElem?_take, List.getElem?_map] at hx
        split at hx
        · rename_i hk
          cases h : l[k]? with
          | none => simp [h] at hx
          | some b =>
            simp [h] at hx; subst hx
            cases j with
            | zero =>
              simp at hcc; subst hcc
              simp [List.getD_eq_getElem?_getD, List.getElem?_map, hk, h]
              exact .int ..
            | succ j => simp at hcc
        · cases hx
  case slNil full e f a cap hf =>
    refine ⟨by simp [Builtin.lenOf, srcOf], fun m hm => ?_⟩
    simp only [srcOf, List.range_zero, List.map_nil, List.length_nil, Nat.le_zero] at hm
    subst hm
    refine ⟨[], ?_, by simpa [srcOf] using nilC⟩
    cases a <;> simp [Builtin.firstCells, loadCells, loadCellsFrom]
  case slAt full e n f b off cap g hn hcap hf hX hl hw h =>
    have h1 : e = esz := by omega
    subst h1
    refine ⟨by simp [Builtin.lenOf, srcOf], fun m hm => ?_⟩
    · simp only [srcOf, List.length_map, List.length_range] at hm
      refine ⟨(List.range (m * e)).map fun i => g (i / e) (i % e), ?_, ?_⟩
      · simp only [Builtin.firstCells]
        rw [run_loadCells w ⟨b, off, none⟩ (m * e) (fun i => g (i / e) (i % e)) fun j hj => ?_]
        rw [add_none]
        have hk : j / e < n := Nat.lt_of_lt_of_le (Nat.div_lt_of_lt_mul (by rw [Nat.mul_comm]; exact hj)) hm
        have := hw (j / e) (j % e) hk (Nat.mod_lt _ he)
        rw [Nat.mul_comm (j / e) e, Nat.div_add_mod] at this
        exact this
      · have hl' : ∀ (k : Nat) (x : List SV), (((List.range n).map f).take m)[k]? = some x → k < n ∧ x = f k := by
          intro k x hx
          rw [List.getElem?_take] at hx
          split at hx
          · simp only [List.getElem?_map] at hx
            rcases Nat.lt_or_ge k n with h' | h'
            · simp [h'] at hx; exact ⟨h', hx.symm⟩
            · rw [List.getElem?_eq_none (by simpa using h')] at hx; cases hx
          · cases hx
        refine cells_of_fun (by simp [srcOf]; omega) _ ?_ ?_
        · intro k x hx
          obtain ⟨hk, rfl⟩ := hl' k x (by simpa [srcOf] using hx)
          exact hl k hk
        · intro k j x c hx hcc
          obtain ⟨hk, rfl⟩ := hl' k x (by simpa [srcOf] using hx)
          have hj : j < e := by
            have := hl k hk
            rcases Nat.lt_or_ge j (f k).length with h' | h'
            · omega
            · rw [List.getElem?_eq_none h'] at hcc; cases hcc
          obtain ⟨e1, e2⟩ := div_idx (k := k) hj
          simp only [e1, e2]
          exact h k j c hk hcc
  case rowVoid i a e lo =>
    cases hg : getD' B i with
    | gone => simp [hg] at hc
    | row h2 E e2 xs =>
      simp only [hg] at hc
      obtain ⟨rfl, rfl, rfl, h4⟩ := hc
      have hx := hs.rowVoid hg
      subst hx
      refine ⟨by simp [Builtin.lenOf, srcOf, hg], fun m hm => ?_⟩
      simp only [srcOf, hg, List.drop_nil, List.take_nil, List.length_nil, Nat.le_zero] at hm
      subst hm
      refine ⟨[], ?_, by simpa [srcOf, hg] using nilC⟩
      cases a <;> simp [Builtin.firstCells, loadCells, loadCellsFrom]
  case rowAt i b cap e n hncap =>
    cases hg : getD' B i with
    | gone => simp [hg] at hc
    | row h2 E e2 xs =>
      simp only [hg] at hc
      obtain ⟨rfl, rfl, rfl, h4⟩ := hc
      obtain ⟨vs, a1, a2, a3, a4⟩ := row_cells hs hg
      refine ⟨by simp [Builtin.lenOf, srcOf, hg]; omega, fun m hm => ?_⟩
      · simp only [srcOf, hg, List.length_take, List.length_drop] at hm
        have hb : m * e2 ≤ vs.size := by rw [a2]; exact Nat.mul_le_mul_right _ (by omega)
        refine ⟨(vs.toList.drop 0).take (m * e2), ?_, ?_⟩
        · simp only [Builtin.firstCells]
          exact cell_list a1 0 (m * e2) (by omega)
        · have := a4.take m
          simp only [srcOf, hg, List.drop_zero, List.take_take]
          rw [Nat.min_eq_left (by omega : m ≤ n)]
          have e : min (m * e2) (xs.length * e2) = m * e2 := Nat.min_eq_left (Nat.mul_le_mul_right _ (by omega))
          rw [List.take_take, e] at this
          exact this
  case rowLo i b cap e lo n c hn hnc =>
    cases hg : getD' B i with
    | gone => simp [hg] at hc
    | row h2 E e2 xs =>
      simp only [hg] at hc
      obtain ⟨rfl, rfl, rfl, h4⟩ := hc
      obtain ⟨vs, a1, a2, a3, a4⟩ := row_cells hs hg
      refine ⟨by simp [Builtin.lenOf, srcOf, hg]; omega, fun m hm => ?_⟩
      · simp only [srcOf, hg, List.length_take, List.length_drop] at hm
        have hb : (lo + 1) * e2 + m * e2 ≤ vs.size := by rw [a2, ← Nat.add_mul]; exact Nat.mul_le_mul_right _ (by omega)
        refine ⟨(vs.toList.drop ((lo + 1) * e2)).take (m * e2), ?_, ?_⟩
        · simp only [Builtin.firstCells]
          exact cell_list a1 _ (m * e2) hb
        · have := (a4.drop (lo + 1)).take m
          simp only [srcOf, hg, List.take_take]
          rw [Nat.min_eq_left (by omega : m ≤ n)]
          have e : (List.take (m * e2) (List.drop ((lo + 1) * e2) (List.take (xs.length * e2) vs.toList))) = List.take (m * e2) (List.drop ((lo + 1) * e2) vs.toList) := by
            rw [List.drop_take, List.take_take, Nat.min_eq_left]
            have : (lo + 1) * e2 + m * e2 ≤ xs.length * e2 := by rw [← Nat.add_mul]; exact Nat.mul_le_mul_right _ (by omega)
            omega
          rw [e] at this
          exact this
  case rowLo0 i b cap e lo c a =>
    cases hg : getD' B i with
    | gone => simp [hg] at hc
    | row h2 E e2 xs =>
      refine ⟨by simp [Builtin.lenOf, srcOf, hg], fun m hm => ?_⟩
      simp only [srcOf, hg, List.take_zero, List.length_nil, Nat.le_zero] at hm
      subst hm
      refine ⟨[], ?_, by simpa [srcOf, hg] using nilC⟩
      cases a <;> simp [Builtin.firstCells, loadCells, loadCellsFrom]

theorem src_solid {esz : Nat} {s : SV} (hc : (srcOf esz B s).2) (h : srcSolid B s) : ∀ y ∈ (srcOf esz B s).1, solids y = true := by
  unfold srcOf at *
  cases s <;> simp only at hc ⊢
  case str l => simp [solids, SV.solid]
  case sl full e m f =>
    intro y hy
    simp only [List.mem_map, List.mem_range] at hy
    obtain ⟨k, hk, rfl⟩ := hy
    exact h k hk
  case row i h' e lo m =>
    cases hg : getD' B i with
    | gone => simp [hg] at hc
    | row h2 E e2 xs =>
      simp only [srcSolid, hg] at h ⊢
      exact fun y hy => h y (List.mem_of_mem_drop (List.mem_of_mem_take hy))

theorem Sat.drew (hs : Sat X w B) : Sat X w.drew B := ⟨hs.inj, hs.lt, hs.xg.mono (w' := w.drew) (fun _ h => h) (fun _ _ => rfl) hs.xlt, hs.apart, fun i => (Own.ok_mono (w' := w.drew) (hs.ok i) (fun _ h => h) (fun _ _ => rfl) (fun _ _ => rfl))⟩
theorem Ext.drew : Ext X w B X w.drew B := ⟨rfl, rfl, rfl, Nat.le_refl _, fun _ _ _ => rfl, fun _ h => h, fun _ h => .inl h, fun _ h => .inl h⟩
theorem Den.drew {s v} (h : Den X w s v) : Den X w.drew s v := h.mono (fun _ h => h) fun _ _ => rfl

theorem heap_alloc (w : World) (o : Obj) (c : Nat) (h : c < w.heap.size) : (w.alloc o).heap[c]? = w.heap[c]? := RowKit.Below.heap_alloc w o c h
theorem heap_alloc_new (w : World) (o : Obj) : (w.alloc o).heap[w.heap.size]? = some o := by
  show (w.heap.push o)[w.heap.size]? = some o
  simp
theorem size_zeroCells (z : Array Value) (n : Nat) : (Builtin.zeroCells z n).size = n * z.size := by simp [Builtin.zeroCells]

theorem append_grow {E esz eb : Nat} {T2 : TypeId} {d2 : TypeDesc} (ht : tyB P T (.slice E esz eb) = true) (h2 : P.underlying T2 = some d2) (hd2 : ∀ k, d2 ≠ .int k) {ty : TypeId}
    {base : Option Addr} {n cap m : Nat} {x : Value} (hm : (Builtin.lenOf x).run P w = .ok m w) (hg : cap < n + m) (hsz : (n + m) * eb ≤ 140737488355328) (heb : 0 < eb)
    {olds news : List Value} (ho : (Builtin.firstCells esz n (.slice base n cap)).run P w.drew = .ok olds.toArray w.drew) (hn : (Builtin.firstCells esz m x).run P w.drew = .ok news.toArray w.drew) :
    ∃ c r, n + m ≤ c ∧ r.length = (c - (n + m)) * esz ∧
      (Builtin.append_ #[T, T2] ty #[.slice base n cap, x]).run P w = .ok (.slice (some ⟨w.heap.size, 0, none⟩) (n + m) c) (w.drew.alloc (.cells (olds ++ news ++ r).toArray E)) := by
  obtain ⟨hu, i, z, hi, h3, h4, h5, h6⟩ := tyB_slice ht
  subst h3 h4
  let q : Question := .appendCap (n + m) cap E
  refine ⟨q.cut (w.tape w.drawn q), (Builtin.zeroCells z.cells (q.cut (w.tape w.drawn q) - (n + m))).toList, ?_, by simp [size_zeroCells, h6], ?_⟩
  · simp only [q, Question.cut]; omega
  · have hfit := growslice_fits hg hsz
    have hmul : n + m ≤ (n + m) * i.bytes := Nat.le_mul_of_pos_right _ heb
    have h63 : ¬ (((n + m : Nat) : Int) > IntKind.i64.max ∧ (False ∨ i.bytes = 0)) := by rintro ⟨_, h | h⟩ <;> omega
    have hnf : Question.forced q = false := rfl
    simp only [Builtin.append_]
    simp only [List.getElem?_toArray, List.getElem?_cons_zero, List.getElem?_cons_succ, Sem.run_bind, run_underlying hu, run_underlying h2, Result.andThen_ok, sizeOf, typeInfo, run_program, hi, Sem.run_pure, Bool.false_eq_true, if_false, hm, Sem.run_ite]
    rw [if_neg (by omega), if_neg (by simpa using h63), if_neg (by omega)]
    simp only [Result.andThen_ok, run_choose, run_askRoom]
    simp only [q] at *
    simp only [hnf, ho, hn, zeroValue, typeInfo, hi, h5, newRow, World.drew_eq, Bool.false_eq_true, if_false, Result.andThen_ok, Sem.run_bind, run_program, Sem.run_pure, run_newObj, World.alloc_eq, Bool.not_false, if_true, World.size_drew]
    congr 3
    apply Array.ext'
    simp

theorem append_room {E esz eb : Nat} {T2 : TypeId} {d2 : TypeDesc} (ht : tyB P T (.slice E esz eb) = true) (h2 : P.underlying T2 = some d2) (hd2 : ∀ k, d2 ≠ .int k) {ty : TypeId}
    {base : Option Addr} {n cap m : Nat} {x : Value} (hm : (Builtin.lenOf x).run P w = .ok m w) (hg : n + m ≤ cap) {news : List Value} (hn : (Builtin.firstCells esz m x).run P w = .ok news.toArray w) :
    (Builtin.append_ #[T, T2] ty #[.slice base n cap, x]).run P w = (match base with
      | some a => ((storeCells (a.add (n * esz)) news).run P w).andThen fun _ w' => .ok (.slice base (n + m) cap) w'
      | none => .ok (.slice base (n + m) cap) w) := by
  obtain ⟨hu, i, z, hi, h3, h4, h5, h6⟩ := tyB_slice ht
  subst h3 h4
  simp only [Builtin.append_]
  simp only [List.getElem?_toArray, List.getElem?_cons_zero, List.getElem?_cons_succ, Sem.run_bind, run_underlying hu, run_underlying h2, Result.andThen_ok, sizeOf, typeInfo, run_program, hi, Sem.run_pure, Bool.false_eq_true, if_false, hm, Sem.run_ite]
  rw [if_pos hg]
  simp only [Bool.not_false, if_true, hn, Result.andThen_ok]
  cases base <;> simp

theorem srcTy_und {T2 : TypeId} {ti2 : TyI} (ht2 : tyB P T2 ti2 = true) (h : srcTy ti2 = true) : ∃ d2, P.underlying T2 = some d2 ∧ ∀ k, d2 ≠ .int k := by
  cases ti2 <;> simp only [srcTy, Bool.false_eq_true] at h
  case string => exact ⟨_, tyB_string ht2, fun k => by simp⟩
  case slice E esz eb => exact ⟨_, (tyB_slice ht2).1, fun k => by simp⟩

theorem fresh_row {E esz c : Nat} {xs : List (List SV)} {cs r : List Value} {w' : World} (hc : Cells X w esz xs cs) (hr : r.length = (c - xs.length) * esz) (hle : xs.length ≤ c)
    (hX : ∀ b, X b → w'.heap[b]? = w.heap[b]?) (hb : w'.heap[w.heap.size]? = some (.cells (cs ++ r).toArray E (0, 0))) : Own.ok X w' (.row (.at w.heap.size c) E esz xs) := by
  refine ⟨_, hb, ?_, hle, hc.each, fun k j x s hx hs => ?_⟩
  · simp only [List.size_toArray, List.length_append, hc.len, hr, ← Nat.add_mul]
    congr 1; omega
  · have hd := (hc.den k j x s hx hs).mono (X' := X) (w' := w') (fun _ h => h) hX
    have hk : k < xs.length := by
      rcases Nat.lt_or_ge k xs.length with h' | h'
      · exact h'
      · rw [List.getElem?_eq_none h'] at hx; cases hx
    have hj : j < esz := by
      have := hc.each _ _ hx
      rcases Nat.lt_or_ge j x.length with h' | h'
      · omega
      · rw [List.getElem?_eq_none h'] at hs; cases hs
    have := idx_lt hk hj
    simp only [Array.getD_eq_getD_getElem?, List.getElem?_toArray]
    rw [List.getElem?_append_left (by rw [hc.len]; exact this)]
    simpa [List.getD_eq_getElem?_getD] using hd

theorem append_sound {kp : Bool} {ti2 : TyI} {T2 : TypeId} {ty : TypeId} (ht : tyB P T ti = true) (ht2 : tyB P T2 ti2 = true) (hs : Sat X w B) {s sx : SV} {v x : Value} (hd : Den X w s v) (hx : Den X w sx x) :
    ∃ h', (evAppend kp ti ti2 h' B s sx).vc → ∃ u w', (Builtin.append_ #[T, T2] ty #[v, x]).run P w = .ok u w' ∧ Sat X w' (evAppend kp ti ti2 h' B s sx).B ∧
      Den X w' (evAppend kp ti ti2 h' B s sx).v u ∧ Ext X w B X w' (evAppend kp ti ti2 h' B s sx).B := by
  by_cases hti : ∃ E esz eb, ti = .slice E esz eb
  case neg =>
    refine ⟨.void none, fun hc => ?_⟩
    exfalso
    cases ti <;> simp [evAppend, bad] at hc hti
  obtain ⟨E, esz, eb, rfl⟩ := hti
  simp only [evAppend]
  have hsrc := fun he hcc => src_sound (P := P) (esz := esz) he hs hx hcc
  have hsrcD := fun he hcc => src_sound (P := P) (esz := esz) he hs.drew hx.drew hcc
  have hsol := fun hcc hss => src_solid (B := B) (esz := esz) (s := sx) hcc hss
  generalize srcOf esz B sx = yc at *
  obtain ⟨ys, c⟩ := yc
  simp only at *
  -- what happens when a new block is made
  have grow : ∀ (cap n : Nat) (base : Option Addr) (olds : List (List SV)), c ∧ srcSolid B sx ∧ 0 < esz ∧ 0 < eb ∧ srcTy ti2 = true → (n + ys.length) * eb ≤ 140737488355328 → cap < n + ys.length → olds.length = n →
      (∃ cs : List Value, (Builtin.firstCells esz n (.slice base n cap)).run P w.drew = .ok cs.toArray w.drew ∧ Cells X w.drew esz olds cs) →
      ∃ (cp : Nat) (r : List Value), n + ys.length ≤ cp ∧ r.length = (cp - (n + ys.length)) * esz ∧ ∃ w', (Builtin.append_ #[T, T2] ty #[.slice base n cap, x]).run P w = .ok (.slice (some ⟨w.heap.size, 0, none⟩) (n + ys.length) cp) w' ∧
        w'.heap.size = w.heap.size + 1 ∧ (∀ b, b < w.heap.size → w'.heap[b]? = w.heap[b]?) ∧ w'.os = w.os ∧ w'.tape = w.tape ∧ w'.output = w.output ∧ Own.ok X w' (.row (.at w.heap.size cp) E esz (olds ++ ys)) := by
    intro cap n base olds ⟨hc1, hc2, he, heb, hc3⟩ hsz hg holds ⟨cs, ho1, ho2⟩
    obtain ⟨d2, h21, h22⟩ := srcTy_und ht2 hc3
    obtain ⟨hl, _⟩ := hsrc he hc1
    obtain ⟨_, hf⟩ := hsrcD he hc1
    obtain ⟨ns, hn1, hn2⟩ := hf ys.length (Nat.le_refl _)
    rw [List.take_length] at hn2
    obtain ⟨cp, r, g1, g2, g3⟩ := append_grow (ty := ty) ht h21 h22 hl hg hsz heb ho1 hn1
    have hlen : (olds ++ ys).length = n + ys.length := by simp [holds]
    refine ⟨cp, r, g1, g2, _, g3, by simp, fun b hb => by rw [heap_alloc _ _ _ (by simpa using hb)]; rfl, rfl, rfl, rfl, ?_⟩
    refine fresh_row (cs := cs ++ ns) (r := r) ((ho2.append hn2).mono (fun _ h => h) fun _ _ => rfl) (by rw [hlen]; exact g2) (by omega) (fun b hb => ?_) ?_
    · rw [heap_alloc _ _ _ (by simpa using hs.xlt b hb)]; rfl
    · have := heap_alloc_new w.drew (.cells (cs ++ ns ++ r).toArray E)
      simpa using this
  cases hd
  all_goals try (refine ⟨.void none, fun hc => ?_⟩; simp only [evAppendL, bad] at hc; done)
  case slNil full e f a cap hf =>
    by_cases hy : ys.length = 0
    · have hy' : ys = [] := List.length_eq_zero_iff.1 hy
      subst hy'
      refine ⟨.void a, fun hc => ?_⟩
      simp only [evAppendL] at hc ⊢
      obtain ⟨hfull, _, ⟨hc1, hc2, he, heb, hc3⟩, hsz⟩ := hc
      have hcap := hf hfull
      subst hcap
      obtain ⟨d2, h21, h22⟩ := srcTy_und ht2 hc3
      obtain ⟨hl, hff⟩ := hsrc he hc1
      obtain ⟨ns, hn1, hn2⟩ := hff 0 (Nat.zero_le _)
      have hns : ns = [] := by have := hn2.len; simpa using this
      subst hns
      have hrun := append_room (ty := ty) (base := a) (n := 0) (cap := 0) ht h21 h22 hl (by simp) hn1
      have hrun' : (Builtin.append_ #[T, T2] ty #[.slice a 0 0, x]).run P w = .ok (.slice a 0 0) w := by
        rw [hrun]; cases a <;> simp [storeCells]
      refine ⟨_, w, hrun', ?_, ?_, ?_⟩
      · exact hs.push (Nat.le_refl _) (fun _ _ => rfl) (by simp [Own.blocks]) (by simp [Own.ok])
      · exact .rowVoid ..
      · exact Ext.push rfl rfl rfl (Nat.le_refl _) (fun _ _ => rfl) (by simp [Own.blocks])
    · by_cases hvc : full = true ∧ (c ∧ srcSolid B sx ∧ 0 < esz ∧ 0 < eb ∧ srcTy ti2 = true) ∧ (0 + ys.length) * eb ≤ 140737488355328
      · obtain ⟨hfull, hcc, hsz⟩ := hvc
        have hcap := hf hfull
        subst hcap
        obtain ⟨cp, r, g1, g2, w', g3, g4, g5, g6, g7, g8, g9⟩ := grow 0 0 a [] hcc hsz (by omega) rfl ⟨[], by cases a <;> simp [Builtin.firstCells, loadCells, loadCellsFrom], by simp, by simp, by simp⟩
        refine ⟨.at w.heap.size cp, fun _ => ⟨_, w', g3, ?_, ?_, ?_⟩⟩
        · simp only [evAppendL]
          exact hs.push (by omega) g5 (by simp [Own.blocks, g4]) (by simpa using g9)
        · simp only [evAppendL]
          exact .rowAt _ _ _ _ _ g1
        · simp only [evAppendL]
          exact Ext.push g6 g7 g8 (by omega) g5 (by simp [Own.blocks, g4])
      · refine ⟨.void none, fun hc => ?_⟩
        simp only [evAppendL] at hc
        exact absurd ⟨hc.1, hc.2.2.1, hc.2.2.2⟩ hvc
  case slAt full e n f b off cap g hn hcap hf hX hl hw h =>
    by_cases hvc : full = true ∧ (e = esz ∧ 0 < ys.length) ∧ (c ∧ srcSolid B sx ∧ 0 < esz ∧ 0 < eb ∧ srcTy ti2 = true) ∧ (n + ys.length) * eb ≤ 140737488355328
    · obtain ⟨hfull, ⟨rfl, hy⟩, hcc, hsz⟩ := hvc
      have hcap' := hf hfull
      subst hcap'
      have hden : Den X w (.sl full e cap f) (.slice (some ⟨b, off, none⟩) cap cap) := .slAt g hn hcap hf hX hl hw h
      obtain ⟨_, hff⟩ := src_sound (P := P) (esz := e) hcc.2.2.1 hs.drew hden.drew (by simp [srcOf])
      obtain ⟨cs, hc1, hc2⟩ := hff cap (by simp [srcOf])
      obtain ⟨cp, r, g1, g2, w', g3, g4, g5, g6, g7, g8, g9⟩ := grow cap cap (some ⟨b, off, none⟩) ((List.range cap).map f) hcc hsz (by omega) (by simp) ⟨cs, hc1, by
        have : List.take cap (srcOf e B (SV.sl full e cap f)).fst = (List.range cap).map f := by simp [srcOf, ← List.map_take]
        rwa [this] at hc2⟩
      refine ⟨.at w.heap.size cp, fun _ => ⟨_, w', g3, ?_, ?_, ?_⟩⟩
      · simp only [evAppendL]
        exact hs.push (by omega) g5 (by simp [Own.blocks, g4]) g9
      · simp only [evAppendL]
        exact .rowAt _ _ _ _ _ g1
      · simp only [evAppendL]
        exact Ext.push g6 g7 g8 (by omega) g5 (by simp [Own.blocks, g4])
    · refine ⟨.void none, fun hc => ?_⟩
      simp only [evAppendL] at hc
      exact absurd ⟨hc.1, hc.2.1.resolve_left (by omega), hc.2.2.1, hc.2.2.2⟩ hvc
  case rowVoid i a e lo =>
    cases lo with
    | succ lo => exact ⟨.void none, fun hc => by simp [evAppendL, bad] at hc⟩
    | zero =>
    cases hg : getD' B i with
    | gone => exact ⟨.void none, fun hc => by simp [evAppendL, hg, bad] at hc⟩
    | row h2 E2 e2 xs =>
      have hi := getD'_lt hg
      by_cases hvc : h2 = .void a ∧ e2 = e ∧ e = esz ∧ E2 = E ∧ 0 ≤ xs.length ∧ (c ∧ srcSolid B sx ∧ 0 < esz ∧ 0 < eb ∧ srcTy ti2 = true) ∧ (0 + ys.length) * eb ≤ 140737488355328
      case neg =>
        refine ⟨.void none, fun hc => ?_⟩
        simp only [evAppendL, hg] at hc
        exact absurd hc hvc
      obtain ⟨rfl, rfl, rfl, rfl, _, hcc, hsz⟩ := hvc
      have hxs := hs.rowVoid hg
      subst hxs
      by_cases hy : ys.length = 0
      · have hy' : ys = [] := List.length_eq_zero_iff.1 hy
        subst hy'
        obtain ⟨hc1, hc2, he, heb, hc3⟩ := hcc
        obtain ⟨d2, h21, h22⟩ := srcTy_und ht2 hc3
        obtain ⟨hl, hff⟩ := hsrc he hc1
        obtain ⟨ns, hn1, hn2⟩ := hff 0 (Nat.zero_le _)
        have hns : ns = [] := by have := hn2.len; simpa using this
        subst hns
        have hrun := append_room (ty := ty) (base := a) (n := 0) (cap := 0) ht h21 h22 hl (by simp) hn1
        have hrun' : (Builtin.append_ #[T, T2] ty #[.slice a 0 0, x]).run P w = .ok (.slice a 0 0) w := by
          rw [hrun]; cases a <;> simp [storeCells]
        refine ⟨.void a, fun _ => ⟨_, w, hrun', ?_, ?_, ?_⟩⟩
        · simp only [evAppendL, hg]
          exact hs.replace hi (Nat.le_refl _) (fun _ _ _ => rfl) (by simp [Own.blocks]) (by cases kp <;> simp [Own.ok, tailK])
        · simp only [evAppendL, hg]
          exact .rowVoid ..
        · simp only [evAppendL, hg]
          exact Ext.replace hi rfl rfl rfl (Nat.le_refl _) (fun _ _ _ => rfl) (by simp [Own.blocks])
      · obtain ⟨cp, r, g1, g2, w', g3, g4, g5, g6, g7, g8, g9⟩ := grow 0 0 a [] hcc hsz (by omega) rfl ⟨[], by cases a <;> simp [Builtin.firstCells, loadCells, loadCellsFrom], by simp, by simp, by simp⟩
        refine ⟨.at w.heap.size cp, fun _ => ⟨_, w', g3, ?_, ?_, ?_⟩⟩
        · simp only [evAppendL, hg]
          exact hs.replace hi (by omega) (fun c hc _ => g5 c hc) (by simp [Own.blocks, g4]) (by cases kp <;> simpa [tailK] using g9)
        · simp only [evAppendL, hg]
          exact .rowAt _ _ _ _ _ g1
        · simp only [evAppendL, hg]
          exact Ext.replace hi g6 g7 g8 (by omega) (fun c hc _ => g5 c hc) (by simp [Own.blocks, g4])
  case rowAt i b cap e n hncap =>
    cases hg : getD' B i with
    | gone => exact ⟨.void none, fun hc => by simp [evAppendL, hg, bad] at hc⟩
    | row h2 E2 e2 xs =>
      have hi := getD'_lt hg
      by_cases hvc : h2 = .at b cap ∧ e2 = e ∧ e = esz ∧ E2 = E ∧ n ≤ xs.length ∧ (c ∧ srcSolid B sx ∧ 0 < esz ∧ 0 < eb ∧ srcTy ti2 = true) ∧ (n + ys.length) * eb ≤ 140737488355328
      case neg =>
        refine ⟨.void none, fun hc => ?_⟩
        simp only [evAppendL, hg] at hc
        exact absurd hc hvc
      obtain ⟨rfl, rfl, rfl, rfl, hnx, hcc, hsz⟩ := hvc
      have hden : Den X w (.row i (.at b cap) e2 0 n) (.slice (some ⟨b, 0, none⟩) n cap) := .rowAt i b cap e2 n hncap
      have hsc : (srcOf e2 B (.row i (.at b cap) e2 0 n)).2 := by simp [srcOf, hg, hnx]
      by_cases hroom : n + ys.length ≤ cap
      · obtain ⟨hc1, hc2, he, heb, hc3⟩ := hcc
        obtain ⟨d2, h21, h22⟩ := srcTy_und ht2 hc3
        obtain ⟨hl, hff⟩ := hsrc he hc1
        obtain ⟨ns, hn1, hn2⟩ := hff ys.length (Nat.le_refl _)
        rw [List.take_length] at hn2
        have hones := ones_of he hn2 (hsol hc1 hc2)
        obtain ⟨vs, a1, a2, a3, a4⟩ := row_cells hs hg
        have hrun := append_room (ty := ty) (base := some ⟨b, 0, none⟩) (n := n) (cap := cap) ht h21 h22 hl hroom hn1
        have hbound : n * e2 + ys.length * e2 ≤ vs.size := by rw [a2, ← Nat.add_mul]; exact Nat.mul_le_mul_right _ hroom
        let new := (vs.toList.take (n * e2) ++ ns ++ vs.toList.drop (n * e2 + ns.length)).toArray
        have hst : (storeCells ⟨b, n * e2, none⟩ ns).run P w = .ok () (w.setRow b new) := by
          have := run_storeCells_at (P := P) b (n * e2) E2 ns 0 vs w a1 (by rw [hn2.len]; omega) hones
          simpa [new] using this
        have hrun' : (Builtin.append_ #[T, T2] ty #[.slice (some ⟨b, 0, none⟩) n cap, x]).run P w = .ok (.slice (some ⟨b, 0, none⟩) (n + ys.length) cap) (w.setRow b new) := by
          rw [hrun]; simp only [add_none, Nat.zero_add, hst, Result.andThen_ok]
        have hblk : ∀ c, c < w.heap.size → c ∉ (getD' B i).blocks → (w.setRow b new).heap[c]? = w.heap[c]? := fun c _ hcn => by
          rw [heap_setRow w b new vs E2 a1, if_neg]
          rw [hg] at hcn; simpa [Own.blocks] using hcn
        have hnew : new.size = vs.size := by simp [new, hn2.len]; omega
        refine ⟨.at b cap, fun _ => ⟨_, _, hrun', ?_, ?_, ?_⟩⟩
        · simp only [evAppendL, hg]
          refine hs.replace hi (by simp) hblk (fun c hc => .inl (by rw [hg]; simpa [Own.blocks] using hc)) ?_
          have hcl : ∃ tl, Cells X (w.setRow b new) e2 (xs.take n ++ ys ++ tailK kp xs (n + ys.length)) (vs.toList.take (n * e2) ++ ns ++ tl) ∧ ∀ k, k < tl.length → tl[k]? = (vs.toList.drop (n * e2 + ns.length))[k]? := by
            have h1 := a4.take n
            have e1 : min (n * e2) (xs.length * e2) = n * e2 := Nat.min_eq_left (Nat.mul_le_mul_right _ hnx)
            rw [List.take_take, e1] at h1
            cases kp with
            | false => exact ⟨[], by simpa [tailK] using (h1.append hn2).mono (fun _ h => h) fun c hc => hblk c (hs.xlt c hc) fun hm => hs.apart c hc ⟨i, hm⟩, by simp⟩
            | true =>
              have h3 := a4.drop (n + ys.length)
              refine ⟨_, ((h1.append hn2).append h3).mono (fun _ h => h) fun c hc => hblk c (hs.xlt c hc) fun hm => hs.apart c hc ⟨i, hm⟩, fun k hk => ?_⟩
              rw [hn2.len, ← Nat.add_mul]
              simp only [List.length_drop, List.length_take] at hk
              simp only [List.getElem?_drop, List.getElem?_take]
              rw [if_pos (by omega)]
          obtain ⟨tl, hcl, htl⟩ := hcl
          refine ⟨new, by rw [heap_setRow w b new vs E2 a1, if_pos rfl], by rw [hnew, a2], by cases kp <;> simp [tailK] <;> omega, hcl.each, fun k j x' s hx' hs' => ?_⟩
          have hd' := hcl.den k j x' s hx' hs'
          have hk : k < (xs.take n ++ ys ++ tailK kp xs (n + ys.length)).length := by
            rcases Nat.lt_or_ge k (xs.take n ++ ys ++ tailK kp xs (n + ys.length)).length with h' | h'
            · exact h'
            · rw [List.getElem?_eq_none h'] at hx'; cases hx'
          have hj : j < e2 := by
            have := hcl.each _ _ hx'
            rcases Nat.lt_or_ge j x'.length with h' | h'
            · omega
            · rw [List.getElem?_eq_none h'] at hs'; cases hs'
          have hlt := idx_lt hk hj
          rw [← hcl.len] at hlt
          simp only [List.getD_eq_getElem?_getD] at hd'
          simp only [new, Array.getD_eq_getD_getElem?, List.getElem?_toArray]
          rcases Nat.lt_or_ge (k * e2 + j) (vs.toList.take (n * e2) ++ ns).length with h6 | h6
          · rw [List.getElem?_append_left h6] at hd' ⊢
            exact hd'
          · rw [List.getElem?_append_right h6] at hd' ⊢
            rwa [htl _ (by simp only [List.length_append] at hlt h6 ⊢; omega)] at hd'
        · simp only [evAppendL, hg]
          exact .rowAt _ _ _ _ _ hroom
        · simp only [evAppendL, hg]
          exact Ext.replace hi rfl rfl rfl (by simp) hblk (fun c hc => .inl (by rw [hg]; simpa [Own.blocks] using hc))
      · obtain ⟨_, hff⟩ := src_sound (P := P) (esz := e2) hcc.2.2.1 hs.drew hden.drew hsc
        obtain ⟨cs, hc1, hc2⟩ := hff n (by simp [srcOf, hg]; omega)
        obtain ⟨cp, r, g1, g2, w', g3, g4, g5, g6, g7, g8, g9⟩ := grow cap n (some ⟨b, 0, none⟩) (xs.take n) hcc hsz (by omega) (by simp; omega) ⟨cs, hc1, by
          have : List.take n (srcOf e2 B (SV.row i (.at b cap) e2 0 n)).fst = xs.take n := by simp [srcOf, hg, List.take_take]
          rwa [this] at hc2⟩
        refine ⟨.at w.heap.size cp, fun _ => ⟨_, w', g3, ?_, ?_, ?_⟩⟩
        · simp only [evAppendL, hg]
          have e9 : tailK kp xs (n + ys.length) = [] := by
            cases kp
            · rfl
            · have := (row_cells hs hg).choose_spec.2.2.1
              exact List.drop_of_length_le (by omega)
          rw [e9, List.append_nil]
          exact hs.replace hi (by omega) (fun c hc _ => g5 c hc) (by simp [Own.blocks, g4]) g9
        · simp only [evAppendL, hg]
          exact .rowAt _ _ _ _ _ g1
        · simp only [evAppendL, hg]
          exact Ext.replace hi g6 g7 g8 (by omega) (fun c hc _ => g5 c hc) (by simp [Own.blocks, g4])
end
end Go.Lift
