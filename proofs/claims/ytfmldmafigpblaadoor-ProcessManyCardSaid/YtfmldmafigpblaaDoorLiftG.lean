/-
  New memory, literals, conversions, arithmetic.
-/
import Derived.Test.YtfmldmafigpblaaDoorLiftF
namespace Go.Lift
section
variable {P : Program} {T : TypeId} {ti : TyI} {X : Nat → Prop} {w : World} {B : List Own}

/-- A new row in the next block. -/
theorem new_row (hs : Sat X w B) {E esz cap : Nat} {xs : List (List SV)} {cs r : List Value} (hc : Cells X w esz xs cs) (hr : r.length = (cap - xs.length) * esz) (hle : xs.length ≤ cap) :
    let w' := w.alloc (.cells (cs ++ r).toArray E)
    Sat X w' (B ++ [.row (.at w.heap.size cap) E esz xs]) ∧ Ext X w B X w' (B ++ [.row (.at w.heap.size cap) E esz xs]) := by
  have h1 : ∀ c, c < w.heap.size → (w.alloc (.cells (cs ++ r).toArray E)).heap[c]? = w.heap[c]? := fun c hc => heap_alloc _ _ _ hc
  exact ⟨hs.push (by simp) h1 (by simp [Own.blocks]) (fresh_row hc hr hle (fun b hb => h1 b (hs.xlt b hb)) (heap_alloc_new _ _)),
    Ext.push rfl rfl rfl (by simp) h1 (by simp [Own.blocks])⟩

theorem cells_one {esz : Nat} {x : List SV} {cs : List Value} (h1 : x.length = esz) (h2 : cs.length = esz) (h : ∀ (i : Nat) (c : SV), x[i]? = some c → Den X w c (cs.getD i undef)) : Cells X w esz [x] cs := by
  refine ⟨by simp [h2], fun k y hy => ?_, fun k j y c hy hc => ?_⟩
  · cases k with
    | zero => simp at hy; exact hy ▸ h1
    | succ k => simp at hy
  · cases k with
    | zero => simp at hy; subst hy; simpa using h j c hc
    | succ k => simp at hy

/-- The zero value of a type, as cells. -/
def cellIs : SV → Value → Bool
  | .int k n, .int k' n' => k == k' && n == n'
  | .bool b, .bool b' => b == b'
  | .str l, .string s => s.data.toList == l
  | .sl _ _ 0 _, .slice none 0 0 => true
  | .val (.pointer none), .pointer none => true
  | .val .nilFunc, .nilFunc => true
  | .val (.map none), .map none => true
  | .val .nilIface, .nilIface => true
  | _, _ => false
theorem cellIs_den {s : SV} {v : Value} (h : cellIs s v = true) : Den X w s v := by
  unfold cellIs at h
  split at h <;> try (cases h; done)
  · simp only [Bool.and_eq_true, beq_iff_eq] at h; obtain ⟨rfl, rfl⟩ := h; exact .int ..
  · simp only [beq_iff_eq] at h; subst h; exact .bool ..
  · rename_i l s'
    simp only [beq_iff_eq] at h; subst h
    have : Value.string s' = .string ⟨s'.data.toList.toArray⟩ := by simp
    rw [this]; exact .str _
  · exact .slNil fun _ => rfl
  · exact .val _
  · exact .val _
  · exact .val _
  · exact .val _
def cellsAre : List SV → List Value → Bool
  | [], [] => true
  | s :: r, v :: q => cellIs s v && cellsAre r q
  | _, _ => false
theorem cellsAre_den : ∀ {ss : List SV} {vs : List Value}, cellsAre ss vs = true → vs.length = ss.length ∧ ∀ (i : Nat) (c : SV), ss[i]? = some c → Den X w c (vs.getD i undef)
  | [], [], _ => ⟨rfl, by simp⟩
  | s :: r, v :: q, h => by
    simp only [cellsAre, Bool.and_eq_true] at h
    obtain ⟨h1, h2⟩ := cellsAre_den h.2
    refine ⟨by simp [h1], fun i c hc => ?_⟩
    cases i with
    | zero => simp at hc; subst hc; simpa using cellIs_den h.1
    | succ i => simpa using h2 i c (by simpa using hc)
def zeroB (P : Program) (T : Nat) (z : List SV) : Bool := match P.info? T with
  | some i => (match i.zero with
    | some v => cellsAre z v.cells.toList && (aggB P T == match v with | .agg _ => true | _ => false)
    | none => false)
  | none => false
theorem zeroB_spec {z : List SV} (h : zeroB P T z = true) : ∃ v, (∀ w, (zeroValue T).run P w = .ok v w) ∧ cellsAre z v.cells.toList = true := by
  unfold zeroB at h
  cases hi : P.info? T with
  | none => simp [hi] at h
  | some i =>
    simp only [hi] at h
    cases hz : i.zero with
    | none => simp [hz] at h
    | some v =>
      simp only [hz, Bool.and_eq_true] at h
      exact ⟨v, fun w => by simp [zeroValue, typeInfo, hi, hz], h.1⟩

theorem alloc_sound (hs : Sat X w B) {z : List SV} (hz : zeroB P T z = true) : ∃ h' u w', (Instr.alloc T true (.tuple #[])).run P w = .ok u w' ∧
    Sat X w' (B ++ [.row h' T z.length [z]]) ∧ Den X w' (.rptr B.length h' z.length 0 0) u ∧ Ext X w B X w' (B ++ [.row h' T z.length [z]]) := by
  obtain ⟨v, h1, h2⟩ := zeroB_spec hz
  obtain ⟨h3, h4⟩ := cellsAre_den (X := X) (w := w) h2
  have hc : Cells X w z.length [z] v.cells.toList := cells_one rfl h3 h4
  obtain ⟨h5, h6⟩ := new_row hs (E := T) (cap := 1) (r := []) hc (by simp) (by simp)
  refine ⟨.at w.heap.size 1, .pointer (some ⟨w.heap.size, 0 * z.length + 0, none⟩), _, ?_, h5, .rptr .., h6⟩
  simp [Instr.alloc, h1, newVar, newRow]

theorem box_sound (hs : Sat X w B) {s : SV} {v : Value} (hd : Den X w s v) (hc : solids s.cells = true) : ∃ h' u w', (Instr.box T v).run P w = .ok u w' ∧
    Sat X w' (B ++ [.row h' T s.cells.length [s.cells]]) ∧ Den X w' (.rptr B.length h' s.cells.length 0 0) u ∧ Ext X w B X w' (B ++ [.row h' T s.cells.length [s.cells]]) := by
  obtain ⟨h1, h2, h3⟩ := den_cells hd hc
  have hcl : Cells X w s.cells.length [s.cells] v.cells.toList := cells_one rfl (by simpa using h1) (by simpa using h2)
  obtain ⟨h5, h6⟩ := new_row hs (E := T) (cap := 1) (r := []) hcl (by simp) (by simp)
  refine ⟨.at w.heap.size 1, .pointer (some ⟨w.heap.size, 0 * s.cells.length + 0, none⟩), _, ?_, h5, .rptr .., h6⟩
  simp [Instr.box, newVar, newRow]

theorem cells_replicate {esz n : Nat} {x : List SV} {v : List Value} (h : Cells X w esz [x] v) : Cells X w esz (List.replicate n x) (List.replicate n v).flatten := by
  induction n with
  | zero => exact ⟨by simp, by simp, by simp⟩
  | succ n ih =>
    have := h.append ih
    simpa [List.replicate_succ] using this
theorem range_mod {z : Array Value} {esz : Nat} (hz : z.size = esz) (n : Nat) : ((Array.range (n * esz)).map fun i => z[i % z.size]!) = ((List.replicate n z.toList).flatten).toArray := by
  apply Array.ext'
  simp only [Array.toList_map, Array.toList_range]
  induction n with
  | zero => simp
  | succ n ih =>
    rw [Nat.succ_mul, List.range_add, List.map_append, ih, List.replicate_succ', List.flatten_append]
    congr 1
    simp only [List.flatten_cons, List.flatten_nil, List.append_nil]
    apply List.ext_getElem
    · simp [hz]
    · intro i h1 h2
      simp at h1 h2
      have e : (n * esz + i) % z.size = i := by rw [hz, Nat.mul_comm, Nat.mul_add_mod, Nat.mod_eq_of_lt (by omega)]
      simp [e, getElem!_pos, h2]

theorem makeSlice_sound {zr : Nat → List SV} (ht : tyB P T ti = true) (hz : ∀ E esz eb, ti = .slice E esz eb → zeroB P E (zr E) = true) (hs : Sat X w B) {sl sc : SV} {vl vc : Value} (hl : Den X w sl vl) (hcp : Den X w sc vc) :
    ∃ h', (evMakeSlice ti zr h' B sl sc).vc → ∃ u w', (Instr.makeSlice T vl vc).run P w = .ok u w' ∧ Sat X w' (evMakeSlice ti zr h' B sl sc).B ∧
      Den X w' (evMakeSlice ti zr h' B sl sc).v u ∧ Ext X w B X w' (evMakeSlice ti zr h' B sl sc).B := by
  by_cases hti : ∃ E esz eb, ti = .slice E esz eb
  case neg =>
    refine ⟨.void none, fun hc => ?_⟩
    exfalso
    cases ti <;> simp [evMakeSlice, bad] at hc hti
  obtain ⟨E, esz, eb, rfl⟩ := hti
  cases hl
  all_goals try (refine ⟨.void none, fun hc => ?_⟩; simp only [evMakeSlice, bad] at hc; done)
  cases hcp
  all_goals try (refine ⟨.void none, fun hc => ?_⟩; simp only [evMakeSlice, bad] at hc; done)
  case int.int kl l kc c =>
    refine ⟨.at w.heap.size c.toNat, fun hc => ?_⟩
    simp only [evMakeSlice] at hc ⊢
    obtain ⟨h0, h1, h2, he, heb, hzl⟩ := hc
    obtain ⟨hu, i, z, hi, h3, h4, h5, h6⟩ := tyB_slice ht
    obtain ⟨z', hz1, hz2⟩ := zeroB_spec (hz E esz eb rfl)
    have hzz : z' = z := by
      have := hz1 w
      simp [zeroValue, typeInfo, hi, h5] at this; exact this.symm
    subst hzz
    obtain ⟨h7, h8⟩ := cellsAre_den (X := X) (w := w) hz2
    have hcl : Cells X w esz [zr E] z'.cells.toList := cells_one hzl (by rw [h7, hzl]) h8
    have hcl2 := cells_replicate (n := l.toNat) hcl
    have hr : ((List.replicate (c.toNat - l.toNat) z'.cells.toList).flatten).length = (c.toNat - l.toNat) * esz := by
      simp [h6]
    obtain ⟨a1, a2⟩ := new_row hs (E := E) (cap := c.toNat) (r := (List.replicate (c.toNat - l.toNat) z'.cells.toList).flatten) hcl2 (by simpa using hr) (by simp; omega)
    have hbound : c ≤ c * eb := by
      have : (1 : Int) ≤ eb := by omega
      calc c = c * 1 := by omega
        _ ≤ c * eb := Int.mul_le_mul_of_nonneg_left this (by omega)
    have wl : IntKind.i64.wrap l = l := IntWalk.i64_in _ (by omega)
    have wc : IntKind.i64.wrap c = c := IntWalk.i64_in _ (by omega)
    have hb2 : ¬ ((i.bytes : Int) * c > 2 ^ 48) := by rw [h4, Int.mul_comm]; omega
    refine ⟨_, _, ?_, a1, .rowAt B.length w.heap.size c.toNat esz l.toNat (by omega), a2⟩
    simp only [Instr.makeSlice, Sem.run_bind, run_underlying hu, Result.andThen_ok, asInt, asIntOf, Sem.run_pure, typeInfo, run_program, hi, wl, wc]
    rw [Sem.run_ite, if_neg (by simp; omega)]
    simp only [Sem.run_bind, run_askRoom, Result.andThen_ok, sizeOf, typeInfo, run_program, hi, Sem.run_pure, h3]
    by_cases hn : c.toNat * esz = 0
    · have hc0 : c.toNat = 0 := by
        rcases Nat.mul_eq_zero.1 hn with h | h <;> omega
      have hl0 : l.toNat = 0 := by omega
      simp only [hc0, hl0, Nat.zero_mul, if_true, Sem.run_pure, Result.andThen_ok, newRow, Sem.run_bind, run_newObj, Nat.sub_zero, List.replicate_zero, List.flatten_nil, List.append_nil]
      have e0 : (Array.map (fun x => (#[] : Array Value)[x % (#[] : Array Value).size]!) (Array.range 0)) = ([] : List Value).toArray := by apply Array.ext'; simp
      rw [e0]
      rfl
    · simp only [if_neg hn, Sem.run_bind, hz1, Result.andThen_ok, Sem.run_pure, newRow, run_newObj]
      rw [range_mod h6]
      have e : c.toNat = l.toNat + (c.toNat - l.toNat) := by omega
      have e2 : (List.replicate c.toNat z'.cells.toList).flatten = (List.replicate l.toNat z'.cells.toList).flatten ++ (List.replicate (c.toNat - l.toNat) z'.cells.toList).flatten := by
        rw [← List.flatten_append, List.replicate_append_replicate, ← e]
      rw [e2]
      rfl

theorem foldl_set (o : Nat) : ∀ (vs : List Value) (s : Nat) (cs : Array Value), o + s + vs.length ≤ cs.size →
    ((vs.zipIdx s).foldl (fun cs (c, j) => cs.setIfInBounds (o + j) c) cs).size = cs.size ∧
    ∀ k, ((vs.zipIdx s).foldl (fun cs (c, j) => cs.setIfInBounds (o + j) c) cs).getD k undef = if o + s ≤ k ∧ k < o + s + vs.length then vs.getD (k - (o + s)) undef else cs.getD k undef
  | [], s, cs, _ => ⟨rfl, fun k => by simp only [List.zipIdx_nil, List.foldl_nil, List.length_nil]; rw [if_neg (by omega)]⟩
  | v :: vs, s, cs, h => by
    simp only [List.length_cons] at h
    obtain ⟨h1, h2⟩ := foldl_set o vs (s + 1) (cs.setIfInBounds (o + s) v) (by simp; omega)
    simp only [List.zipIdx_cons, List.foldl_cons]
    refine ⟨by simpa using h1, fun k => ?_⟩
    rw [h2 k]
    simp only [List.length_cons]
    by_cases e : k = o + s
    · subst e
      rw [if_neg (by omega), if_pos (by omega)]
      simp [show o + s < cs.size by omega]
    · by_cases e2 : o + (s + 1) ≤ k ∧ k < o + (s + 1) + vs.length
      · rw [if_pos e2, if_pos (by omega)]
        have : k - (o + s) = (k - (o + (s + 1))) + 1 := by omega
        rw [this]; simp
      · rw [if_neg e2, if_neg (by omega)]
        have : ¬ o + s = k := fun h => e h.symm
        simp [Array.getD_eq_getD_getElem?, this]

theorem fill_sound {esz : Nat} : ∀ (ps : List (Nat × SV)) (vs : List (Nat × Value)) (xs : List (List SV)) (cs : Array Value), vs.length = ps.length →
    (∀ (i : Nat) (p : Nat × SV) (q : Nat × Value), ps[i]? = some p → vs[i]? = some q → p.1 = q.1 ∧ Den X w p.2 q.2) → fillC xs.length esz ps → Cells X w esz xs cs.toList →
    ∃ cs', Instr.fill (fun i => some (i * esz, esz)) cs vs = some cs' ∧ Cells X w esz (fillL xs ps) cs'.toList
  | [], [], xs, cs, _, _, _, h => ⟨cs, rfl, h⟩
  | [], _ :: _, _, _, h, _, _, _ => by simp at h
  | _ :: _, [], _, _, h, _, _, _ => by simp at h
  | (i, x) :: ps, (j, v) :: vs, xs, cs, hl, hd, hc, h => by
    obtain ⟨hij, hd0⟩ := hd 0 (i, x) (j, v) rfl rfl
    have hij : i = j := hij
    subst hij
    have hd0 : Den X w x v := hd0
    obtain ⟨hi, hxl, hsol, hc'⟩ := hc
    have hi : i < xs.length := hi
    obtain ⟨c1, c2, c3⟩ := den_cells hd0 hsol
    have hlen : v.cells.size = esz := by omega
    have hb : i * esz + esz ≤ cs.size := by
      have := h.len
      have h2 : (i + 1) * esz ≤ xs.length * esz := Nat.mul_le_mul_right _ hi
      rw [Nat.succ_mul] at h2; simp at this; omega
    let cs2 := v.cells.zipIdx.foldl (fun cs (c, j) => cs.setIfInBounds (i * esz + j) c) cs
    have hcs2 : cs2 = (v.cells.toList.zipIdx 0).foldl (fun cs (c, j) => cs.setIfInBounds (i * esz + j) c) cs := by
      simp only [cs2]
      rw [← Array.foldl_toList, Array.toList_zipIdx]
    obtain ⟨hsz2, hget0⟩ := foldl_set (i * esz) v.cells.toList 0 cs (by simp; omega)
    rw [← hcs2] at hsz2 hget0
    have hget : ∀ k, cs2.getD k undef = if i * esz ≤ k ∧ k < i * esz + esz then v.cells.getD (k - i * esz) undef else cs.getD k undef := fun k => by
      rw [hget0 k]
      simp [hlen]
    have hcl : Cells X w esz (xs.set i x.cells) cs2.toList := by
      refine ⟨by simpa [hsz2] using h.len, fun k y hy => ?_, fun k j y c hy hcc => ?_⟩
      · rw [List.getElem?_set] at hy
        by_cases e : i = k
        · subst e; simp only [hi, if_true, Option.some.injEq] at hy; subst hy; exact hxl
        · simp only [e, if_false] at hy; exact h.each _ _ hy
      · have hg := hget (k * esz + j)
        have e1 : cs2.toList.getD (k * esz + j) undef = cs2.getD (k * esz + j) undef := by simp
        rw [e1, hg]
        rw [List.getElem?_set] at hy
        by_cases e : i = k
        · subst e
          simp only [hi, if_true, Option.some.injEq] at hy
          subst hy
          have hj : j < esz := by
            rcases Nat.lt_or_ge j x.cells.length with h' | h'
            · omega
            · rw [List.getElem?_eq_none h'] at hcc; cases hcc
          rw [if_pos (by omega)]
          have := c2 j c hcc
          have e3 : i * esz + j - i * esz = j := by omega
          rw [e3]; exact this
        · simp only [e, if_false] at hy
          have hj : j < esz := by
            have := h.each _ _ hy
            rcases Nat.lt_or_ge j y.length with h' | h'
            · omega
            · rw [List.getElem?_eq_none h'] at hcc; cases hcc
          have hne : ¬ (i * esz ≤ k * esz + j ∧ k * esz + j < i * esz + esz) := by
            intro ⟨a1, a2⟩
            rcases Nat.lt_or_gt_of_ne e with h' | h'
            · have : (i + 1) * esz ≤ k * esz := Nat.mul_le_mul_right _ h'
              rw [Nat.succ_mul] at this; omega
            · have : (k + 1) * esz ≤ i * esz := Nat.mul_le_mul_right _ h'
              rw [Nat.succ_mul] at this; omega
          rw [if_neg hne]
          have := h.den k j y c hy hcc
          simpa using this
    obtain ⟨cs', h1, h2⟩ := fill_sound ps vs (xs.set i x.cells) cs2 (by simpa using hl) (fun k p q hp hq => hd (k + 1) p q (by simpa using hp) (by simpa using hq)) (by simpa using hc') hcl
    refine ⟨cs', ?_, h2⟩
    simp only [Instr.fill]
    rw [if_neg (by simp [hlen]; omega)]
    exact h1
end
end Go.Lift
