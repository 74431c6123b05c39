/-
  Types; small facts on Den, Sat, Ext; loads and stores.
-/
import Derived.Test.YtfmldmafigpblaaDoorLiftB
namespace Go.Lift

def aggB (P : Program) (T : TypeId) : Bool := match P.underlying T with
  | some (.struct _) => true
  | some (.array _ _) => true
  | _ => false
def sizeB (P : Program) (T n : Nat) : Bool := match P.info? T with
  | some i => i.size == n
  | none => false
/-- 'ti' describes type T. -/
def tyB (P : Program) (T : TypeId) (ti : TyI) : Bool :=
  match ti with
  | .bad => true
  | ti => sizeB P T ti.size && (P.underlying T).isSome && aggB P T == ti.agg && match ti with
    | .bool => (match P.underlying T with | some .bool => true | _ => false)
    | .int k => (match P.underlying T with | some (.int k') => k == k' | _ => false)
    | .string => (match P.underlying T with | some .string => true | _ => false)
    | .ptr => (match P.underlying T with | some (.pointer _) => true | _ => false)
    | .slice E esz eb => (match P.underlying T with
      | some (.slice E') => E == E' && (match P.info? E with | some i => i.size == esz && i.bytes == eb && (match i.zero with | some z => z.cells.size == esz | none => false) | none => false)
      | _ => false)
    | .struct fs _ => (match P.underlying T with
      | some (.struct F) => F.size == fs.length && (List.range fs.length).all fun j => match F[j]?, fs[j]? with
        | some fl, some (o, a, m) => fl.offset == o && sizeB P fl.type m && aggB P fl.type == a && (P.underlying fl.type).isSome
        | _, _ => false
      | _ => false)
    | .array len a e => (match P.underlying T with
      | some (.array len' E) => len == len' && sizeB P E e && aggB P E == a && (P.underlying E).isSome
      | _ => false)
    | .mapI k1 k2 => (match P.underlying T with
      | some (.map A E) => (match P.underlying A with | some (.int k) => k == k1 | _ => false) && (match P.info? E with | some i => (match i.zero with | some (.int k n) => k == k2 && n == 0 | _ => false) | none => false)
      | _ => false)
    | _ => true

section
variable {P : Program} {T : TypeId} {ti : TyI}

theorem sizeB_spec {n : Nat} (h : sizeB P T n = true) (w : World) : (sizeOf T).run P w = .ok n w := by
  unfold sizeB at h
  cases hi : P.info? T with
  | none => simp [hi] at h
  | some i =>
    simp only [hi, beq_iff_eq] at h
    subst h
    simp [sizeOf, typeInfo, hi]

theorem isAgg_spec (h : (P.underlying T).isSome = true) (w : World) : (isAgg T).run P w = .ok (aggB P T) w := by
  obtain ⟨d, hd⟩ := Option.isSome_iff_exists.1 h
  unfold aggB isAgg
  simp only [Sem.run_bind, run_underlying hd, Result.andThen_ok, hd]
  cases d <;> rfl

theorem tyB_size (h : tyB P T ti = true) (hb : ti ≠ .bad) : sizeB P T ti.size = true := by
  cases ti <;> first | exact absurd rfl hb | (simp only [tyB, Bool.and_eq_true] at h; exact h.1.1.1)
theorem tyB_und (h : tyB P T ti = true) (hb : ti ≠ .bad) : (P.underlying T).isSome = true := by
  cases ti <;> first | exact absurd rfl hb | (simp only [tyB, Bool.and_eq_true] at h; exact h.1.1.2)
theorem tyB_agg (h : tyB P T ti = true) (hb : ti ≠ .bad) : aggB P T = ti.agg := by
  cases ti <;> first | exact absurd rfl hb | (simp only [tyB, Bool.and_eq_true, beq_iff_eq] at h; exact h.1.2)
theorem tyB_run_agg (h : tyB P T ti = true) (hb : ti ≠ .bad) (w : World) : (isAgg T).run P w = .ok ti.agg w := by
  rw [isAgg_spec (tyB_und h hb), tyB_agg h hb]
theorem tyB_run_size (h : tyB P T ti = true) (hb : ti ≠ .bad) (w : World) : (sizeOf T).run P w = .ok ti.size w := sizeB_spec (tyB_size h hb) w
theorem tyB_slice {E esz eb : Nat} (h : tyB P T (.slice E esz eb) = true) : P.underlying T = some (.slice E) ∧ ∃ i z, P.info? E = some i ∧ i.size = esz ∧ i.bytes = eb ∧ i.zero = some z ∧ z.cells.size = esz := by
  simp only [tyB, Bool.and_eq_true] at h
  have h := h.2
  cases hu : P.underlying T with
  | none => simp [hu] at h
  | some d =>
    cases d <;> simp only [hu, Bool.false_eq_true] at h
    case slice E' =>
      simp only [Bool.and_eq_true, beq_iff_eq] at h
      obtain ⟨rfl, h⟩ := h
      cases hi : P.info? E with
      | none => simp [hi] at h
      | some i =>
        simp only [hi, Bool.and_eq_true, beq_iff_eq] at h
        cases hz : i.zero with
        | none => simp [hz] at h
        | some z =>
          simp only [hz, beq_iff_eq] at h
          exact ⟨rfl, i, z, rfl, h.1.1, h.1.2, hz, h.2⟩
theorem tyB_string (h : tyB P T .string = true) : P.underlying T = some .string := by
  simp only [tyB, Bool.and_eq_true] at h
  have h := h.2
  cases hu : P.underlying T with
  | none => simp [hu] at h
  | some d => cases d <;> simp [hu] at h ⊢
theorem tyB_ptr (h : tyB P T .ptr = true) : ∃ e, P.underlying T = some (.pointer e) := by
  simp only [tyB, Bool.and_eq_true] at h
  have := h.2
  split at this
  · exact ⟨_, by assumption⟩
  · cases this
theorem tyB_bool (h : tyB P T .bool = true) : P.underlying T = some .bool := by
  simp only [tyB, Bool.and_eq_true] at h
  have h := h.2
  cases hu : P.underlying T with
  | none => simp [hu] at h
  | some d => cases d <;> simp [hu] at h ⊢
theorem tyB_int {k : IntKind} (h : tyB P T (.int k) = true) : P.underlying T = some (.int k) := by
  simp only [tyB, Bool.and_eq_true] at h
  have h := h.2
  cases hu : P.underlying T with
  | none => simp [hu] at h
  | some d => cases d <;> simp [hu] at h ⊢; exact h.symm
theorem tyB_struct {fs : List (Nat × Bool × Nat)} {n : Nat} (h : tyB P T (.struct fs n) = true) :
    ∃ F, P.underlying T = some (.struct F) ∧ F.size = fs.length ∧ ∀ (j o : Nat) (a : Bool) (m : Nat), fs[j]? = some (o, a, m) →
      ∃ fl : Field, F[j]? = some fl ∧ fl.offset = o ∧ sizeB P fl.type m = true ∧ (∀ w, (isAgg fl.type).run P w = .ok a w) := by
  simp only [tyB, Bool.and_eq_true] at h
  have h := h.2
  cases hu : P.underlying T with
  | none => simp [hu] at h
  | some d =>
    cases d <;> simp only [hu, Bool.false_eq_true] at h
    case struct F =>
      simp only [Bool.and_eq_true, beq_iff_eq, List.all_eq_true, List.mem_range] at h
      refine ⟨F, rfl, h.1, fun j o a m hj => ?_⟩
      have hlt : j < fs.length := by
        rcases Nat.lt_or_ge j fs.length with h' | h'
        · exact h'
        · simp [List.getElem?_eq_none h'] at hj
      have h2 := h.2 j hlt
      rw [hj] at h2
      cases hF : F[j]? with
      | none => simp [hF] at h2
      | some fl =>
        simp only [hF, Bool.and_eq_true, beq_iff_eq] at h2
        obtain ⟨⟨⟨h3, h4⟩, h5⟩, h6⟩ := h2
        exact ⟨fl, rfl, h3, h4, fun w => by rw [isAgg_spec h6, h5]⟩
theorem tyB_array {len : Nat} {a : Bool} {e : Nat} (h : tyB P T (.array len a e) = true) :
    ∃ E, P.underlying T = some (.array len E) ∧ sizeB P E e = true ∧ (∀ w, (isAgg E).run P w = .ok a w) := by
  simp only [tyB, Bool.and_eq_true] at h
  have h := h.2
  cases hu : P.underlying T with
  | none => simp [hu] at h
  | some d =>
    cases d <;> simp only [hu, Bool.false_eq_true] at h
    case array len' E =>
      simp only [Bool.and_eq_true, beq_iff_eq] at h
      obtain ⟨⟨⟨rfl, h4⟩, h5⟩, h6⟩ := h
      exact ⟨E, rfl, h4, fun w => by rw [isAgg_spec h6, h5]⟩
end

/-- The slots' operands. -/
def ev (t : List (Nat × SV)) : Operand → SV
  | .tmp i => lkp t i
  | .const v => .ofVal v
  | .func f => .fn f []
  | .global g => match GV g with
    | [] => .any
    | cs => .xp cs

section
variable {X : Nat → Prop} {w : World} {B : List Own}

theorem den_ofCell (v : Value) : Den X w (SV.ofCell v) v := by
  unfold SV.ofCell
  split
  · exact .int ..
  · exact .bool ..
  · rename_i s
    have : Value.string s = .string ⟨s.data.toList.toArray⟩ := by simp
    rw [this]; exact .str _
  · exact .slNil (fun _ => rfl)
  · exact .val _
theorem den_ofCells : ∀ (vs : List Value) (i : Nat) (c : SV), (SV.ofCells vs)[i]? = some c → Den X w c (vs.getD i undef)
  | [], i, c, h => by simp [SV.ofCells] at h
  | v :: r, 0, c, h => by simp [SV.ofCells] at h; subst h; simpa using den_ofCell v
  | v :: r, i + 1, c, h => by simpa using den_ofCells r i c (by simpa [SV.ofCells] using h)
theorem length_ofCells : ∀ (vs : List Value), (SV.ofCells vs).length = vs.length
  | [] => rfl
  | v :: r => by simp [SV.ofCells, length_ofCells r]
theorem den_ofVal (v : Value) : Den X w (SV.ofVal v) v := by
  unfold SV.ofVal
  split
  · rename_i cs
    exact .agg (by simp [length_ofCells]) fun i c h => by
      have := den_ofCells (X := X) (w := w) cs.toList i c h
      simpa using this
  · exact den_ofCell _

theorem den_ev {t : List (Nat × SV)} {n : Nat} {a : Act} (hg : XG X w) (h : DenT X w t n a.tmps) (x : Operand) : Den X w (ev t x) (a.eval x) := by
  cases x with
  | tmp i => exact h.2 i
  | const v => exact den_ofVal v
  | func f => exact .fn (by simp) (by simp)
  | global g =>
    show Den X w (match GV g with | [] => .any | cs => .xp cs) _
    cases e : GV g with
    | nil => exact .any _
    | cons c cs => have := hg.2 g (by rw [e]; simp); rw [e] at this; exact this

theorem getD'_lt {i : Nat} {h E esz xs} (hg : getD' B i = .row h E esz xs) : i < B.length := by
  unfold getD' at hg
  rcases Nat.lt_or_ge i B.length with hi | hi
  · rw [List.getD_eq_getElem?_getD, List.getElem?_eq_getElem hi] at hg
    simp at hg
    exact hi
  · rw [List.getD_eq_getElem?_getD, List.getElem?_eq_none hi] at hg
    simp at hg

/-- The cells of an owned row, in the world. -/
theorem Sat.row (hs : Sat X w B) {i b cap E esz xs} (hg : getD' B i = .row (.at b cap) E esz xs) :
    ∃ vs : Array Value, w.heap[b]? = some (.cells vs E (0, 0)) ∧ vs.size = cap * esz ∧ xs.length ≤ cap ∧ (∀ (k : Nat) (x : List SV), xs[k]? = some x → x.length = esz) ∧
      ∀ (k j : Nat) (x : List SV) (c : SV), xs[k]? = some x → x[j]? = some c → Den X w c (vs.getD (k * esz + j) undef) := by
  have := hs.ok i
  rw [hg] at this
  exact this
theorem Sat.rowVoid (hs : Sat X w B) {i a E esz xs} (hg : getD' B i = .row (.void a) E esz xs) : xs = [] := by
  have := hs.ok i
  rw [hg] at this
  exact this

theorem getD_of_get? {α : Type} {l : List α} {i : Nat} {d c : α} (h : l[i]? = some c) : l.getD i d = c := by simp [List.getD, h]
theorem get?_of_lt {α : Type} {l : List α} {i : Nat} (d : α) (h : i < l.length) : l[i]? = some (l.getD i d) := by simp [List.getD, List.getElem?_eq_getElem h]
theorem agetD_of_lt {vs : Array Value} {i : Nat} (h : i < vs.size) : vs[i]? = some (vs.getD i undef) := by simp [h]

theorem idx_lt {k j esz m : Nat} (hk : k < m) (hj : j < esz) : k * esz + j < m * esz := by
  have : (k + 1) * esz ≤ m * esz := Nat.mul_le_mul_right _ hk
  rw [Nat.succ_mul] at this
  omega

theorem cell_of_heap {b E off : Nat} {vs : Array Value} {fz} (hb : w.heap[b]? = some (.cells vs E fz)) (ho : off < vs.size) : w.cell? ⟨b, off, none⟩ = some (vs.getD off undef) := by
  unfold World.cell?
  simp [hb, ho]

theorem add_none (b off n : Nat) : (⟨b, off, none⟩ : Addr).add n = ⟨b, off + n, none⟩ := by
  unfold Addr.add
  split
  · simp_all
  · rfl

theorem getD'_set {i j : Nat} {o : Own} (hi : i < B.length) : getD' (B.set i o) j = if j = i then o else getD' B j := by
  unfold getD'
  simp only [List.getD, List.getElem?_set]
  by_cases h : j = i
  · subst h; simp [hi]
  · have : i ≠ j := fun e => h e.symm
    simp [h, this]
theorem getD'_push {j : Nat} {o : Own} : getD' (B ++ [o]) j = if j = B.length then o else getD' B j := by
  unfold getD'
  simp only [List.getD]
  by_cases h : j = B.length
  · subst h; simp
  · rcases Nat.lt_or_ge j B.length with h1 | h1
    · simp [h, List.getElem?_append_left h1]
    · have h2 : B.length + 1 ≤ j := by omega
      rw [List.getElem?_eq_none (by simp; omega), List.getElem?_eq_none h1]; simp [h]

theorem Own.ok_mono {X' : Nat → Prop} {w' : World} {o : Own} (h : o.ok X w) (hX : ∀ b, X b → X' b) (hw : ∀ b, X b → w'.heap[b]? = w.heap[b]?) (hb : ∀ b ∈ o.blocks, w'.heap[b]? = w.heap[b]?) : o.ok X' w' := by
  cases o with
  | gone => trivial
  | row h' E esz xs =>
    cases h' with
    | void a => exact h
    | mp b =>
      obtain ⟨arr, clock, h1, h2⟩ := h
      exact ⟨arr, clock, by rw [hb b (by simp [Own.blocks])]; exact h1, h2⟩
    | «at» b cap =>
      obtain ⟨vs, h1, h2, h3, h4, h5⟩ := h
      exact ⟨vs, by rw [hb b (by simp [Own.blocks])]; exact h1, h2, h3, h4, fun k j x c hx hc => (h5 k j x c hx hc).mono hX hw⟩

/-- One owned row is replaced: by itself with other contents, by one that lies in new memory, or by nothing. -/
theorem Sat.replace {w' : World} {i : Nat} {o' : Own} (hs : Sat X w B) (hi : i < B.length) (hsize : w.heap.size ≤ w'.heap.size)
    (hblk : ∀ c, c < w.heap.size → c ∉ (getD' B i).blocks → w'.heap[c]? = w.heap[c]?)
    (hnew : ∀ c ∈ o'.blocks, c ∈ (getD' B i).blocks ∨ (w.heap.size ≤ c ∧ c < w'.heap.size)) (hok : Own.ok X w' o') : Sat X w' (B.set i o') := by
  have hX : ∀ b, X b → w'.heap[b]? = w.heap[b]? := fun b hb => hblk b (hs.xlt b hb) fun hm => hs.apart b hb ⟨i, hm⟩
  refine ⟨fun j k b hj hk => ?_, fun j b hj => ?_, hs.xg.mono (fun _ h => h) hX fun b hb => Nat.lt_of_lt_of_le (hs.xlt b hb) hsize, fun b hb ⟨j, hj⟩ => ?_, fun j => ?_⟩
  · rw [getD'_set hi] at hj hk
    by_cases e1 : j = i <;> by_cases e2 : k = i
    · omega
    · simp only [e1, e2, if_true, if_false] at hj hk
      rcases hnew b hj with h | h
      · exact absurd (hs.inj _ _ _ h hk).symm e2
      · have := hs.lt _ _ hk; omega
    · simp only [e1, e2, if_true, if_false] at hj hk
      rcases hnew b hk with h | h
      · exact absurd (hs.inj _ _ _ h hj).symm e1
      · have := hs.lt _ _ hj; omega
    · simp only [e1, e2, if_false] at hj hk
      exact hs.inj _ _ _ hj hk
  · rw [getD'_set hi] at hj
    by_cases e1 : j = i
    · simp only [e1, if_true] at hj
      rcases hnew b hj with h | h
      · exact Nat.lt_of_lt_of_le (hs.lt _ _ h) hsize
      · exact h.2
    · simp only [e1, if_false] at hj
      exact Nat.lt_of_lt_of_le (hs.lt _ _ hj) hsize
  · rw [getD'_set hi] at hj
    by_cases e1 : j = i
    · simp only [e1, if_true] at hj
      rcases hnew b hj with h | h
      · exact hs.apart b hb ⟨i, h⟩
      · have := hs.xlt b hb; omega
    · simp only [e1, if_false] at hj
      exact hs.apart b hb ⟨j, hj⟩
  · rw [getD'_set hi]
    by_cases e1 : j = i
    · simp only [e1, if_true]; exact hok
    · simp only [e1, if_false]
      exact Own.ok_mono (hs.ok j) (fun _ h => h) hX fun b hb => hblk b (hs.lt _ _ hb) fun hm => e1 (hs.inj _ _ _ hb hm)
theorem Ext.replace {w' : World} {i : Nat} {o' : Own} (hi : i < B.length) (ho : w'.os = w.os) (ht : w'.tape = w.tape) (hu : w'.output = w.output) (hsize : w.heap.size ≤ w'.heap.size)
    (hblk : ∀ c, c < w.heap.size → c ∉ (getD' B i).blocks → w'.heap[c]? = w.heap[c]?)
    (hnew : ∀ c ∈ o'.blocks, c ∈ (getD' B i).blocks ∨ (w.heap.size ≤ c ∧ c < w'.heap.size)) : Ext X w B X w' (B.set i o') := by
  refine ⟨ho, ht, hu, hsize, fun b hb hn => hblk b hb fun hm => hn ⟨i, hm⟩, fun _ h => h, fun _ h => .inl h, fun b ⟨j, hj⟩ => ?_⟩
  rw [getD'_set hi] at hj
  by_cases e1 : j = i
  · simp only [e1, if_true] at hj
    rcases hnew b hj with h | h
    · exact .inl ⟨i, h⟩
    · exact .inr h.1
  · simp only [e1, if_false] at hj
    exact .inl ⟨j, hj⟩
/-- A new owned row. -/
theorem Sat.push {w' : World} {o' : Own} (hs : Sat X w B) (hsize : w.heap.size ≤ w'.heap.size) (hblk : ∀ c, c < w.heap.size → w'.heap[c]? = w.heap[c]?)
    (hnew : ∀ c ∈ o'.blocks, w.heap.size ≤ c ∧ c < w'.heap.size) (hok : Own.ok X w' o') : Sat X w' (B ++ [o']) := by
  have hX : ∀ b, X b → w'.heap[b]? = w.heap[b]? := fun b hb => hblk b (hs.xlt b hb)
  refine ⟨fun j k b hj hk => ?_, fun j b hj => ?_, hs.xg.mono (fun _ h => h) hX fun b hb => Nat.lt_of_lt_of_le (hs.xlt b hb) hsize, fun b hb ⟨j, hj⟩ => ?_, fun j => ?_⟩
  · rw [getD'_push] at hj hk
    by_cases e1 : j = B.length <;> by_cases e2 : k = B.length
    · omega
    · simp only [e1, e2, if_true, if_false] at hj hk
      have := hs.lt _ _ hk; have := hnew _ hj; omega
    · simp only [e1, e2, if_true, if_false] at hj hk
      have := hs.lt _ _ hj; have := hnew _ hk; omega
    · simp only [e1, e2, if_false] at hj hk
      exact hs.inj _ _ _ hj hk
  · rw [getD'_push] at hj
    by_cases e1 : j = B.length
    · simp only [e1, if_true] at hj; exact (hnew _ hj).2
    · simp only [e1, if_false] at hj
      exact Nat.lt_of_lt_of_le (hs.lt _ _ hj) hsize
  · rw [getD'_push] at hj
    by_cases e1 : j = B.length
    · simp only [e1, if_true] at hj
      have := hs.xlt b hb; have := hnew _ hj; omega
    · simp only [e1, if_false] at hj
      exact hs.apart b hb ⟨j, hj⟩
  · rw [getD'_push]
    by_cases e1 : j = B.length
    · simp only [e1, if_true]; exact hok
    · simp only [e1, if_false]
      exact Own.ok_mono (hs.ok j) (fun _ h => h) hX fun b hb => hblk b (hs.lt _ _ hb)
theorem Ext.push {w' : World} {o' : Own} (ho : w'.os = w.os) (ht : w'.tape = w.tape) (hu : w'.output = w.output) (hsize : w.heap.size ≤ w'.heap.size)
    (hblk : ∀ c, c < w.heap.size → w'.heap[c]? = w.heap[c]?) (hnew : ∀ c ∈ o'.blocks, w.heap.size ≤ c ∧ c < w'.heap.size) : Ext X w B X w' (B ++ [o']) := by
  refine ⟨ho, ht, hu, hsize, fun b hb _ => hblk b hb, fun _ h => h, fun _ h => .inl h, fun b ⟨j, hj⟩ => ?_⟩
  rw [getD'_push] at hj
  by_cases e1 : j = B.length
  · simp only [e1, if_true] at hj; exact .inr (hnew _ hj).1
  · simp only [e1, if_false] at hj
    exact .inl ⟨j, hj⟩
end
end Go.Lift
