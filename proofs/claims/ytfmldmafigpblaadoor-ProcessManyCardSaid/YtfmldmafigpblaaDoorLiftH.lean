/-
  Literals of slices and structs, copy, slice expressions, conversions, arithmetic.
-/
import Derived.Test.YtfmldmafigpblaaDoorLiftG
namespace Go.Lift
section
variable {P : Program} {T : TypeId} {ti : TyI} {X : Nat → Prop} {w : World} {B : List Own}

theorem buildSlice_sound {zr : Nat → List SV} (ht : tyB P T ti = true) (hz : ∀ E esz eb, ti = .slice E esz eb → zeroB P E (zr E) = true) (hs : Sat X w B) {len : Nat} {ps : List (Nat × SV)} {vs : Array (Nat × Value)}
    (hl : vs.size = ps.length) (hd : ∀ (i : Nat) (p : Nat × SV) (q : Nat × Value), ps[i]? = some p → vs[i]? = some q → p.1 = q.1 ∧ Den X w p.2 q.2) :
    ∃ h', (evBuildSlice ti zr h' B len ps).vc → ∃ u w', (Instr.buildSlice T len vs).run P w = .ok u w' ∧ Sat X w' (evBuildSlice ti zr h' B len ps).B ∧
      Den X w' (evBuildSlice ti zr h' B len ps).v u ∧ Ext X w B X w' (evBuildSlice ti zr h' B len ps).B := by
  by_cases hti : ∃ E esz eb, ti = .slice E esz eb
  case neg =>
    refine ⟨.void none, fun hc => ?_⟩
    exfalso
    cases ti <;> simp [evBuildSlice, bad] at hc hti
  obtain ⟨E, esz, eb, rfl⟩ := hti
  refine ⟨.at w.heap.size len, fun hc => ?_⟩
  simp only [evBuildSlice] at hc ⊢
  obtain ⟨hf, he, hzl, hlim⟩ := hc
  obtain ⟨hu, i, z, hi, h3, h4, h5, h6⟩ := tyB_slice ht
  obtain ⟨z', hz1, hz2⟩ := zeroB_spec (hz E esz eb rfl)
  have hzz : z' = z := by
    have := hz1 w
    simp [zeroValue, typeInfo, hi, h5] at this; exact this.symm
  subst hzz
  obtain ⟨h7, h8⟩ := cellsAre_den (X := X) (w := w) hz2
  have hcl : Cells X w esz [zr E] z'.cells.toList := cells_one hzl (by rw [h7, hzl]) h8
  have hcl2 := cells_replicate (n := len) hcl
  obtain ⟨cs', f1, f2⟩ := fill_sound ps vs.toList (List.replicate len (zr E)) ((List.replicate len z'.cells.toList).flatten).toArray (by simpa using hl)
    (fun i p q hp hq => hd i p q hp (by simpa using hq)) (by simpa using hf) (by simpa using hcl2)
  have hlen' : (fillL (List.replicate len (zr E)) ps).length = len := by
    have : ∀ (ps : List (Nat × SV)) (xs : List (List SV)), (fillL xs ps).length = xs.length := by
      intro ps
      induction ps with
      | nil => intro xs; rfl
      | cons p ps ih => intro xs; obtain ⟨a, b⟩ := p; simp [fillL, ih]
    rw [this]; simp
  obtain ⟨a1, a2⟩ := new_row hs (E := E) (cap := len) (r := []) f2 (by simp [hlen']) (by omega)
  simp only [List.append_nil, Array.toArray_toList] at a1 a2
  refine ⟨_, _, ?_, a1, .rowAt B.length w.heap.size len esz len (Nat.le_refl _), a2⟩
  simp only [Instr.buildSlice, Sem.run_bind, run_underlying hu, Result.andThen_ok, sizeOf, typeInfo, run_program, hi, Sem.run_pure, h3, Sem.run_ite]
  rw [if_neg (by omega)]
  by_cases h0 : len * esz = 0
  · have : len = 0 := by rcases Nat.mul_eq_zero.1 h0 with h | h <;> omega
    subst this
    have e0 : (Array.map (fun x => (#[] : Array Value)[x % (#[] : Array Value).size]!) (Array.range 0)) = ([] : List Value).toArray := by apply Array.ext'; simp
    simp only [Nat.zero_mul, if_true]
    rw [e0]
    simp only [List.replicate_zero, List.flatten_nil] at f1
    simp [f1, newRow]
  · simp only [if_neg h0, hz1, Result.andThen_ok]
    rw [range_mod h6 len, f1]
    simp [newRow]

theorem putCells (cs : List SV) {vs : Array Value} (hs : vs.size = cs.length) (h : ∀ (i : Nat) (c : SV), cs[i]? = some c → Den X w c (vs.getD i undef)) {o : Nat} {s : SV} {v : Value} (hd : Den X w s v)
    (hsol : solids s.cells = true) (ho : o + s.cells.length ≤ cs.length) :
    let vs' := v.cells.zipIdx.foldl (fun cs (c, j) => cs.setIfInBounds (o + j) c) vs
    vs'.size = (putL cs o s.cells).length ∧ v.cells.size = s.cells.length ∧ ∀ (i : Nat) (c : SV), (putL cs o s.cells)[i]? = some c → Den X w c (vs'.getD i undef) := by
  obtain ⟨c1, c2, c3⟩ := den_cells hd hsol
  have he : v.cells.zipIdx.foldl (fun cs (c, j) => cs.setIfInBounds (o + j) c) vs = (v.cells.toList.zipIdx 0).foldl (fun cs (c, j) => cs.setIfInBounds (o + j) c) vs := by
    rw [← Array.foldl_toList, Array.toList_zipIdx]
  obtain ⟨f1, f2⟩ := foldl_set o v.cells.toList 0 vs (by simp; omega)
  simp only [he]
  refine ⟨by rw [f1, putL_length, hs], c1, fun i c hc => ?_⟩
  rw [f2 i]
  rcases putL_get s.cells cs o i c ho hc with ⟨a1, a2, a3⟩ | ⟨a1, a2⟩
  · rw [if_pos (by simp; omega)]
    have := c2 _ _ a3
    simpa using this
  · rw [if_neg (by simp; omega)]
    exact h _ _ a2

theorem fillS_sound {fs : List (Nat × Bool × Nat)} {n : Nat} {pl : Nat → Option (Nat × Nat)} (hp : ∀ (j o : Nat) (a : Bool) (m : Nat), fs[j]? = some (o, a, m) → pl j = some (o, m)) :
    ∀ (ps : List (Nat × SV)) (vs : List (Nat × Value)) (cs : List SV) (cv : Array Value), vs.length = ps.length →
    (∀ (i : Nat) (p : Nat × SV) (q : Nat × Value), ps[i]? = some p → vs[i]? = some q → p.1 = q.1 ∧ Den X w p.2 q.2) → (buildL (.struct fs n) cs ps).2 →
    cv.size = cs.length → (∀ (i : Nat) (c : SV), cs[i]? = some c → Den X w c (cv.getD i undef)) →
    ∃ cv', Instr.fill pl cv vs = some cv' ∧ cv'.size = (buildL (.struct fs n) cs ps).1.length ∧ ∀ (i : Nat) (c : SV), (buildL (.struct fs n) cs ps).1[i]? = some c → Den X w c (cv'.getD i undef)
  | [], [], cs, cv, _, _, _, hs, h => ⟨cv, rfl, hs, h⟩
  | [], _ :: _, _, _, h, _, _, _, _ => by simp at h
  | _ :: _, [], _, _, h, _, _, _, _ => by simp at h
  | (i, x) :: ps, (j, v) :: vs, cs, cv, hl, hd, hc, hs, h => by
    obtain ⟨hij, hd0⟩ := hd 0 (i, x) (j, v) rfl rfl
    have hij : i = j := hij
    subst hij
    have hd0 : Den X w x v := hd0
    simp only [buildL] at hc ⊢
    cases hf : fs[i]? with
    | none => simp [hf] at hc
    | some oam =>
      obtain ⟨o, a, m⟩ := oam
      simp only [hf] at hc ⊢
      obtain ⟨hxl, hb, hsol, hc'⟩ := hc
      obtain ⟨g1, g2, g3⟩ := putCells cs hs h hd0 hsol (o := o) (by omega)
      obtain ⟨cv', r1, r2, r3⟩ := fillS_sound hp ps vs (putL cs o x.cells) _ (by simpa using hl) (fun k p q hp hq => hd (k + 1) p q (by simpa using hp) (by simpa using hq)) hc' g1 g3
      refine ⟨cv', ?_, r2, r3⟩
      simp only [Instr.fill, hp i o a m hf]
      rw [if_neg (by simp [g2, hxl]; omega)]
      exact r1

theorem fillA_sound {len : Nat} {ag : Bool} {e : Nat} :
    ∀ (ps : List (Nat × SV)) (vs : List (Nat × Value)) (cs : List SV) (cv : Array Value), vs.length = ps.length →
    (∀ (i : Nat) (p : Nat × SV) (q : Nat × Value), ps[i]? = some p → vs[i]? = some q → p.1 = q.1 ∧ Den X w p.2 q.2) → (buildL (.array len ag e) cs ps).2 →
    cv.size = cs.length → (∀ (i : Nat) (c : SV), cs[i]? = some c → Den X w c (cv.getD i undef)) →
    ∃ cv', Instr.fill (fun i => some (i * e, e)) cv vs = some cv' ∧ cv'.size = (buildL (.array len ag e) cs ps).1.length ∧ ∀ (i : Nat) (c : SV), (buildL (.array len ag e) cs ps).1[i]? = some c → Den X w c (cv'.getD i undef)
  | [], [], cs, cv, _, _, _, hs, h => ⟨cv, rfl, hs, h⟩
  | [], _ :: _, _, _, h, _, _, _, _ => by simp at h
  | _ :: _, [], _, _, h, _, _, _, _ => by simp at h
  | (i, x) :: ps, (j, v) :: vs, cs, cv, hl, hd, hc, hs, h => by
    obtain ⟨hij, hd0⟩ := hd 0 (i, x) (j, v) rfl rfl
    have hij : i = j := hij
    subst hij
    have hd0 : Den X w x v := hd0
    simp only [buildL] at hc ⊢
    obtain ⟨hi, hxl, hb, hsol, hc'⟩ := hc
    obtain ⟨g1, g2, g3⟩ := putCells cs hs h hd0 hsol (o := i * e) (by omega)
    obtain ⟨cv', r1, r2, r3⟩ := fillA_sound ps vs (putL cs (i * e) x.cells) _ (by simpa using hl) (fun k p q hp hq => hd (k + 1) p q (by simpa using hp) (by simpa using hq)) hc' g1 g3
    refine ⟨cv', ?_, r2, r3⟩
    simp only [Instr.fill]
    rw [if_neg (by simp [g2, hxl]; omega)]
    exact r1

theorem places_eq : ∀ (F : List Field) (fs : List (Nat × Bool × Nat)), F.length = fs.length →
    (∀ (j o : Nat) (a : Bool) (m : Nat), fs[j]? = some (o, a, m) → ∃ fl : Field, F[j]? = some fl ∧ fl.offset = o ∧ sizeB P fl.type m = true) →
    F.mapM (fun f => (P.info? f.type).map fun i => (f.offset, i.size)) = some (fs.map fun x => (x.1, x.2.2))
  | [], [], _, _ => rfl
  | [], _ :: _, h, _ => by simp at h
  | _ :: _, [], h, _ => by simp at h
  | f :: F, (o, a, m) :: fs, hl, h => by
    obtain ⟨fl, h1, h2, h3⟩ := h 0 o a m rfl
    simp at h1
    subst h1
    have ih := places_eq F fs (by simpa using hl) fun j o a m hj => by simpa using h (j + 1) o a m (by simpa using hj)
    unfold sizeB at h3
    cases hi : P.info? f.type with
    | none => simp [hi] at h3
    | some i =>
      simp only [hi, beq_iff_eq] at h3
      simp only [List.mapM_cons, hi, Option.map_some, Option.bind_eq_bind, Option.bind_some, ih, Option.pure_def, h2, h3, List.map_cons]

theorem build_sound {z : List SV} (ht : tyB P T ti = true) (hz : zeroB P T z = true) {ps : List (Nat × SV)} {vs : Array (Nat × Value)} (hl : vs.size = ps.length)
    (hd : ∀ (i : Nat) (p : Nat × SV) (q : Nat × Value), ps[i]? = some p → vs[i]? = some q → p.1 = q.1 ∧ Den X w p.2 q.2) (hc : (evBuild ti z B ps).vc) :
    ∃ u, (∀ w, (Instr.build T vs).run P w = .ok u w) ∧ Den X w (evBuild ti z B ps).v u ∧ (evBuild ti z B ps).B = B := by
  simp only [evBuild] at hc ⊢
  obtain ⟨hc1, hc2, hc3⟩ := hc
  have hbad : ti ≠ .bad := by intro e; subst e; simp [TyI.agg] at hc3
  have hsz := tyB_size ht hbad
  obtain ⟨v, hz1, hz2⟩ := zeroB_spec hz
  obtain ⟨h7, h8⟩ := cellsAre_den (X := X) (w := w) hz2
  have hit : ∃ it, P.info? T = some it ∧ it.zero = some v := by
    have := hz1 w
    simp only [zeroValue, typeInfo] at this
    cases hi : P.info? T with
    | none => simp [hi] at this
    | some it =>
      cases hzz : it.zero with
      | none => simp [hi, hzz] at this
      | some v' => simp [hi, hzz] at this; subst this; exact ⟨it, rfl, hzz⟩
  obtain ⟨it, hi, hzz⟩ := hit
  cases ti <;> simp only [TyI.agg, Bool.false_eq_true] at hc3
  case struct fs n =>
    obtain ⟨F, hu, hF, hf⟩ := tyB_struct ht
    have hpl := places_eq (P := P) F.toList fs (by simpa using hF) fun j o a m hj => by
      obtain ⟨fl, h1, h2, h3, _⟩ := hf j o a m hj
      exact ⟨fl, by simpa using h1, h2, h3⟩
    obtain ⟨cv', r1, r2, r3⟩ := fillS_sound (n := n) (fs := fs) (pl := ((fs.map fun x => (x.1, x.2.2)).toArray[·]?)) (fun j o a m hj => by simp [hj]) ps vs.toList z v.cells (by simpa using hl) (fun i p q hp hq => hd i p q hp (by simpa using hq)) hc1 (by simpa using h7) (by simpa using h8)
    refine ⟨.agg cv', fun w' => run_build w' T vs cv' ?_, .agg r2 r3, trivial⟩
    simp only [Program.built, hi, hu, hzz, hpl]
    exact r1
  case array len ag e =>
    obtain ⟨E, hu, hsE, _⟩ := tyB_array ht
    obtain ⟨cv', r1, r2, r3⟩ := fillA_sound (len := len) (ag := ag) ps vs.toList z v.cells (by simpa using hl) (fun i p q hp hq => hd i p q hp (by simpa using hq)) hc1 (by simpa using h7) (by simpa using h8)
    refine ⟨.agg cv', fun w' => run_build w' T vs cv' ?_, .agg r2 r3, trivial⟩
    unfold sizeB at hsE
    cases hiE : P.info? E with
    | none => simp [hiE] at hsE
    | some ie =>
      simp only [hiE, beq_iff_eq] at hsE
      simp only [Program.built, hi, hu, hzz, hiE, hsE]
      exact r1

theorem copy_sound {T2 ty : TypeId} (ht : tyB P T ti = true) (hs : Sat X w B) {s sx : SV} {v x : Value} (hd : Den X w s v) (hx : Den X w sx x) (hc : (evCopy ti B s sx).vc) :
    ∃ u w', (Builtin.copy_ #[T, T2] ty #[v, x]).run P w = .ok u w' ∧ Sat X w' (evCopy ti B s sx).B ∧ Den X w' (evCopy ti B s sx).v u ∧ Ext X w B X w' (evCopy ti B s sx).B := by
  cases ti <;> simp only [evCopy, bad] at hc
  case slice E esz eb =>
  obtain ⟨hu, i0, z, hi, h3, h4, h5, h6⟩ := tyB_slice ht
  have hsize : (sizeOf E).run P w = .ok esz w := sizeB_spec (by simp [sizeB, hi, h3]) w
  simp only [evCopy] at hc ⊢
  have hsrc := fun he hcc => src_sound (P := P) (esz := esz) he hs hx hcc
  have hsol := fun hcc hss => src_solid (B := B) (esz := esz) (s := sx) hcc hss
  generalize srcOf esz B sx = yc at *
  obtain ⟨ys, c⟩ := yc
  simp only at *
  have main : ∀ (i b cap lo n : Nat) (cp : Nat) (ad : Addr) (E2 : TypeId) (xs : List (List SV)), getD' B i = .row (.at b cap) E2 esz xs → lo + n ≤ xs.length → c → srcSolid B sx → 0 < esz → (0 < n → ad = ⟨b, lo * esz, none⟩) →
      ∃ u w', (Builtin.copy_ #[T, T2] ty #[.slice (some ad) n cp, x]).run P w = .ok u w' ∧ Sat X w' (B.set i (.row (.at b cap) E2 esz (xs.take lo ++ ys.take (min n ys.length) ++ xs.drop (lo + min n ys.length)))) ∧
        Den X w' (.int .i64 (min n ys.length : Nat)) u ∧ Ext X w B X w' (B.set i (.row (.at b cap) E2 esz (xs.take lo ++ ys.take (min n ys.length) ++ xs.drop (lo + min n ys.length)))) := by
    intro i b cap lo n cp ad E2 xs hg hle hc1 hc2 he hadr
    have hi' := getD'_lt hg
    obtain ⟨hl, hff⟩ := hsrc he hc1
    obtain ⟨ns, hn1, hn2⟩ := hff (min n ys.length) (Nat.min_le_right _ _)
    have hones := ones_of he hn2 fun y hy => hsol hc1 hc2 y (List.mem_of_mem_take hy)
    obtain ⟨vs, a1, a2, a3, a4⟩ := row_cells hs hg
    obtain ⟨m, hm⟩ : ∃ m, m = min n ys.length := ⟨_, rfl⟩
    rw [← hm] at hn1 hn2 ⊢
    have hns : ns.length = m * esz := by rw [hn2.len]; simp; rw [hm]; congr 1; omega
    have hbound : lo * esz + m * esz ≤ vs.size := by rw [a2, ← Nat.add_mul]; exact Nat.mul_le_mul_right _ (by omega)
    let new := (vs.toList.take (lo * esz) ++ ns ++ vs.toList.drop (lo * esz + ns.length)).toArray
    have hnew : new.size = vs.size := by simp [new, hns]; omega
    have hself : m = 0 → w.setRow b new = w := by
      intro h0
      have : ns = [] := List.length_eq_zero_iff.1 (by rw [hns, h0]; simp)
      have e : new = vs := by apply Array.ext'; simp [new, this]
      rw [e]; exact setRow_self w b vs E2 (0, 0) a1
    have hst : (storeCells ad ns).run P w = .ok () (w.setRow b new) := by
      by_cases h0 : m = 0
      · have : ns = [] := List.length_eq_zero_iff.1 (by rw [hns, h0]; simp)
        rw [hself h0, this]; simp [storeCells]
      · rw [hadr (by omega)]
        have := run_storeCells_at (P := P) b (lo * esz) E2 ns 0 vs w a1 (by omega) hones
        simpa [new] using this
    have hblk : ∀ c, c < w.heap.size → c ∉ (getD' B i).blocks → (w.setRow b new).heap[c]? = w.heap[c]? := fun c _ hcn => by
      rw [heap_setRow w b new vs E2 a1, if_neg]
      rw [hg] at hcn; simpa [Own.blocks] using hcn
    have hrun : (Builtin.copy_ #[T, T2] ty #[.slice (some ad) n cp, x]).run P w = .ok (.int .i64 (m : Nat)) (w.setRow b new) := by
      have e1 : Nat.min ys.length n = m := by rw [hm]; exact Nat.min_comm _ _
      simp only [Builtin.copy_, List.getElem?_toArray, List.getElem?_cons_zero, List.getElem?_cons_succ, Sem.run_bind, run_underlying hu, Result.andThen_ok, hl, hsize, e1, hn1, hst, Sem.run_pure]
      rfl
    refine ⟨_, _, hrun, ?_, .int .., ?_⟩
    · refine hs.replace hi' (by simp) hblk (fun c hc => .inl (by rw [hg]; simpa [Own.blocks] using hc)) ?_
      have hcl : Cells X (w.setRow b new) esz (xs.take lo ++ ys.take m ++ xs.drop (lo + m)) ((vs.toList.take (xs.length * esz)).take (lo * esz) ++ ns ++ (vs.toList.take (xs.length * esz)).drop ((lo + m) * esz)) := by
        exact (((a4.take lo).append hn2).append (a4.drop (lo + m))).mono (fun _ h => h) fun c hc => hblk c (hs.xlt c hc) fun hm => hs.apart c hc ⟨i, hm⟩
      have hlen2 : (xs.take lo ++ ys.take m ++ xs.drop (lo + m)).length = xs.length := by simp; omega
      refine ⟨new, by rw [heap_setRow w b new vs E2 a1, if_pos rfl], by rw [hnew, a2], by omega, hcl.each, fun k j x' s hx' hs' => ?_⟩
      have hd' := hcl.den k j x' s hx' hs'
      have hk : k < xs.length := by
        rw [← hlen2]
        rcases Nat.lt_or_ge k (xs.take lo ++ ys.take m ++ xs.drop (lo + m)).length with h' | h'
        · exact h'
        · rw [List.getElem?_eq_none h'] at hx'; cases hx'
      have hj : j < esz := by
        have := hcl.each _ _ hx'
        rcases Nat.lt_or_ge j x'.length with h' | h'
        · omega
        · rw [List.getElem?_eq_none h'] at hs'; cases hs'
      have hlt := idx_lt hk hj
      have hxs : xs.length * esz ≤ vs.size := by rw [a2]; exact Nat.mul_le_mul_right _ a3
      have e2 : ((vs.toList.take (xs.length * esz)).take (lo * esz) ++ ns ++ (vs.toList.take (xs.length * esz)).drop ((lo + m) * esz)).getD (k * esz + j) undef = new.getD (k * esz + j) undef := by
        simp only [new, Array.getD_eq_getD_getElem?, List.getElem?_toArray, List.getD_eq_getElem?_getD]
        congr 1
        have hlo : lo * esz ≤ xs.length * esz := Nat.mul_le_mul_right _ (by omega)
        have hlm : (lo + m) * esz ≤ xs.length * esz := Nat.mul_le_mul_right _ (by omega)
        rw [Nat.add_mul] at hlm ⊢
        have ht1 : (vs.toList.take (xs.length * esz)).take (lo * esz) = vs.toList.take (lo * esz) := by rw [List.take_take, Nat.min_eq_left hlo]
        rw [ht1, hns]
        have hl1 : (List.take (lo * esz) vs.toList ++ ns).length = lo * esz + m * esz := by simp [hns]; omega
        by_cases hlt2 : k * esz + j < lo * esz + m * esz
        · rw [List.getElem?_append_left (l₁ := List.take (lo * esz) vs.toList ++ ns) (by omega), List.getElem?_append_left (l₁ := List.take (lo * esz) vs.toList ++ ns) (by omega)]
        · rw [List.getElem?_append_right (l₁ := List.take (lo * esz) vs.toList ++ ns) (by omega), List.getElem?_append_right (l₁ := List.take (lo * esz) vs.toList ++ ns) (by omega), hl1, List.getElem?_drop, List.getElem?_drop, List.getElem?_take_of_lt (by omega)]
      rw [e2] at hd'
      exact hd'
    · exact Ext.replace hi' rfl rfl rfl (by simp) hblk (fun c hc => .inl (by rw [hg]; simpa [Own.blocks] using hc))
  cases hd <;> simp only at hc
  case rowVoid i a e lo =>
    cases hg : getD' B i with
    | gone => simp [hg] at hc
    | row h2 E2 e2 xs =>
      simp only [hg] at hc ⊢
      obtain ⟨rfl, rfl, rfl, hle, hc1, hc2, he⟩ := hc
      have hxs := hs.rowVoid hg
      subst hxs
      have hlo : lo = 0 := by simpa using hle
      subst hlo
      have hi' := getD'_lt hg
      obtain ⟨hl, hff⟩ := hsrc he hc1
      obtain ⟨ns, hn1, hn2⟩ := hff 0 (Nat.zero_le _)
      have hns : ns = [] := by have := hn2.len; simpa using this
      subst hns
      refine ⟨.int .i64 ((min 0 ys.length : Nat) : Int), w, ?_, ?_, .int .., ?_⟩
      · have e1 : Nat.min ys.length 0 = 0 := Nat.min_zero _
        simp only [Builtin.copy_, List.getElem?_toArray, List.getElem?_cons_zero, List.getElem?_cons_succ, Sem.run_bind, run_underlying hu, Result.andThen_ok, hl, hsize, e1, hn1]
        cases a <;> simp [storeCells, goInt]
      · have : (List.take 0 ([] : List (List SV)) ++ List.take (min 0 ys.length) ys ++ List.drop (0 + min 0 ys.length) []) = [] := by simp
        rw [this]
        exact hs.replace hi' (Nat.le_refl _) (fun _ _ _ => rfl) (by simp [Own.blocks]) (by simp [Own.ok])
      · exact Ext.replace hi' rfl rfl rfl (Nat.le_refl _) (fun _ _ _ => rfl) (by simp [Own.blocks])
  case rowAt i b cap e n hncap =>
    cases hg : getD' B i with
    | gone => simp [hg] at hc
    | row h2 E2 e2 xs =>
      simp only [hg] at hc ⊢
      obtain ⟨rfl, rfl, rfl, hle, hc1, hc2, he⟩ := hc
      exact main i b cap 0 n cap ⟨b, 0, none⟩ E2 xs hg hle hc1 hc2 he (fun _ => by simp)
  case rowLo i b cap e lo n cp hn hnc =>
    cases hg : getD' B i with
    | gone => simp [hg] at hc
    | row h2 E2 e2 xs =>
      simp only [hg] at hc ⊢
      obtain ⟨rfl, rfl, rfl, hle, hc1, hc2, he⟩ := hc
      exact main i b cap (lo + 1) n cp _ E2 xs hg hle hc1 hc2 he (fun _ => rfl)
  case rowLo0 i b cap e lo cp a =>
    cases hg : getD' B i with
    | gone => simp [hg] at hc
    | row h2 E2 e2 xs =>
      simp only [hg] at hc ⊢
      obtain ⟨rfl, rfl, rfl, hle, hc1, hc2, he⟩ := hc
      cases a with
      | some ad => exact main i b cap (lo + 1) 0 cp ad E2 xs hg hle hc1 hc2 he (fun h => by omega)
      | none =>
        have hi' := getD'_lt hg
        obtain ⟨hl, hff⟩ := hsrc he hc1
        obtain ⟨ns, hn1, hn2⟩ := hff 0 (Nat.zero_le _)
        have hns : ns = [] := by have := hn2.len; simpa using this
        subst hns
        have hsame : (xs.take (lo + 1) ++ ys.take (min 0 ys.length) ++ xs.drop (lo + 1 + min 0 ys.length)) = xs := by simp
        refine ⟨.int .i64 ((min 0 ys.length : Nat) : Int), w, ?_, ?_, .int .., ?_⟩
        · have e1 : Nat.min ys.length 0 = 0 := Nat.min_zero _
          simp only [Builtin.copy_, List.getElem?_toArray, List.getElem?_cons_zero, List.getElem?_cons_succ, Sem.run_bind, run_underlying hu, Result.andThen_ok, hl, hsize, e1, hn1]
          simp [goInt]
        · rw [hsame, ← hg]
          have := hs.ok i
          exact hs.replace hi' (Nat.le_refl _) (fun _ _ _ => rfl) (fun c hc => .inl hc) this
        · rw [hsame, ← hg]
          exact Ext.replace hi' rfl rfl rfl (Nat.le_refl _) (fun _ _ _ => rfl) (fun c hc => .inl hc)
/-- Cells of an owned row are written anew. -/
theorem row_put (hs : Sat X w B) {i b cap lo esz : Nat} {ad : Addr} {E2 : TypeId} {xs ys : List (List SV)} {ns : List Value} (hg : getD' B i = .row (.at b cap) E2 esz xs) (hle : lo + ys.length ≤ xs.length) (hn2 : Cells X w esz ys ns)
    (hones : ∀ v ∈ ns, v.oneCell' = true) (hadr : 0 < ys.length → ad = ⟨b, lo * esz, none⟩) :
    ∃ w', (storeCells ad ns).run P w = .ok () w' ∧ Sat X w' (B.set i (.row (.at b cap) E2 esz (xs.take lo ++ ys ++ xs.drop (lo + ys.length)))) ∧ Ext X w B X w' (B.set i (.row (.at b cap) E2 esz (xs.take lo ++ ys ++ xs.drop (lo + ys.length)))) := by
  have hi' := getD'_lt hg
  obtain ⟨vs, a1, a2, a3, a4⟩ := row_cells hs hg
  obtain ⟨m, hm⟩ : ∃ m, m = ys.length := ⟨_, rfl⟩
  rw [← hm] at hle hadr ⊢
  have hns : ns.length = m * esz := by rw [hn2.len, hm]
  have hbound : lo * esz + m * esz ≤ vs.size := by rw [a2, ← Nat.add_mul]; exact Nat.mul_le_mul_right _ (by omega)
  let new := (vs.toList.take (lo * esz) ++ ns ++ vs.toList.drop (lo * esz + ns.length)).toArray
  have hnew : new.size = vs.size := by simp [new, hns]; omega
  have hself : m = 0 → w.setRow b new = w := by
    intro h0
    have : ns = [] := List.length_eq_zero_iff.1 (by rw [hns, h0]; simp)
    have e : new = vs := by apply Array.ext'; simp [new, this]
    rw [e]; exact setRow_self w b vs E2 (0, 0) a1
  have hst : (storeCells ad ns).run P w = .ok () (w.setRow b new) := by
    by_cases h0 : m = 0
    · have : ns = [] := List.length_eq_zero_iff.1 (by rw [hns, h0]; simp)
      rw [hself h0, this]; simp [storeCells]
    · rw [hadr (by omega)]
      have := run_storeCells_at (P := P) b (lo * esz) E2 ns 0 vs w a1 (by omega) hones
      simpa [new] using this
  have hblk : ∀ c, c < w.heap.size → c ∉ (getD' B i).blocks → (w.setRow b new).heap[c]? = w.heap[c]? := fun c _ hcn => by
    rw [heap_setRow w b new vs E2 a1, if_neg]
    rw [hg] at hcn; simpa [Own.blocks] using hcn
  refine ⟨_, hst, ?_, ?_⟩
  · refine hs.replace hi' (by simp) hblk (fun c hc => .inl (by rw [hg]; simpa [Own.blocks] using hc)) ?_
    have hcl : Cells X (w.setRow b new) esz (xs.take lo ++ ys ++ xs.drop (lo + m)) ((vs.toList.take (xs.length * esz)).take (lo * esz) ++ ns ++ (vs.toList.take (xs.length * esz)).drop ((lo + m) * esz)) := by
      exact (((a4.take lo).append hn2).append (a4.drop (lo + m))).mono (fun _ h => h) fun c hc => hblk c (hs.xlt c hc) fun hm => hs.apart c hc ⟨i, hm⟩
    have hlen2 : (xs.take lo ++ ys ++ xs.drop (lo + m)).length = xs.length := by simp; omega
    refine ⟨new, by rw [heap_setRow w b new vs E2 a1, if_pos rfl], by rw [hnew, a2], by omega, hcl.each, fun k j x' s hx' hs' => ?_⟩
    have hd' := hcl.den k j x' s hx' hs'
    have hk : k < xs.length := by
      rw [← hlen2]
      rcases Nat.lt_or_ge k (xs.take lo ++ ys ++ xs.drop (lo + m)).length with h' | h'
      · exact h'
      · rw [List.getElem?_eq_none h'] at hx'; cases hx'
    have hj : j < esz := by
      have := hcl.each _ _ hx'
      rcases Nat.lt_or_ge j x'.length with h' | h'
      · omega
      · rw [List.getElem?_eq_none h'] at hs'; cases hs'
    have hlt := idx_lt hk hj
    have hxs : xs.length * esz ≤ vs.size := by rw [a2]; exact Nat.mul_le_mul_right _ a3
    have e2 : ((vs.toList.take (xs.length * esz)).take (lo * esz) ++ ns ++ (vs.toList.take (xs.length * esz)).drop ((lo + m) * esz)).getD (k * esz + j) undef = new.getD (k * esz + j) undef := by
      simp only [new, Array.getD_eq_getD_getElem?, List.getElem?_toArray, List.getD_eq_getElem?_getD]
      congr 1
      have hlo : lo * esz ≤ xs.length * esz := Nat.mul_le_mul_right _ (by omega)
      have hlm : (lo + m) * esz ≤ xs.length * esz := Nat.mul_le_mul_right _ (by omega)
      rw [Nat.add_mul] at hlm ⊢
      have ht1 : (vs.toList.take (xs.length * esz)).take (lo * esz) = vs.toList.take (lo * esz) := by rw [List.take_take, Nat.min_eq_left hlo]
      rw [ht1, hns]
      have hl1 : (List.take (lo * esz) vs.toList ++ ns).length = lo * esz + m * esz := by simp [hns]; omega
      by_cases hlt2 : k * esz + j < lo * esz + m * esz
      · rw [List.getElem?_append_left (l₁ := List.take (lo * esz) vs.toList ++ ns) (by omega), List.getElem?_append_left (l₁ := List.take (lo * esz) vs.toList ++ ns) (by omega)]
      · rw [List.getElem?_append_right (l₁ := List.take (lo * esz) vs.toList ++ ns) (by omega), List.getElem?_append_right (l₁ := List.take (lo * esz) vs.toList ++ ns) (by omega), hl1, List.getElem?_drop, List.getElem?_drop, List.getElem?_take_of_lt (by omega)]
    rw [e2] at hd'
    exact hd'
  · exact Ext.replace hi' rfl rfl rfl (by simp) hblk (fun c hc => .inl (by rw [hg]; simpa [Own.blocks] using hc))
theorem zeroCells_flat (z : Array Value) (n : Nat) : (Builtin.zeroCells z n).toList = (List.replicate n z.toList).flatten := by
  have hr : ∀ n, ((List.range (n * z.size)).map fun i => z[i % z.size]!) = (List.replicate n z.toList).flatten := by
    intro n
    induction n with
    | zero => simp
    | succ n ih =>
      rw [List.replicate_succ', List.flatten_append, ← ih, Nat.succ_mul, List.range_add, List.map_append]
      congr 1
      rw [List.map_map]
      simp only [List.flatten_cons, List.flatten_nil, List.append_nil]
      apply List.ext_getElem
      · simp
      · intro k h1 h2
        simp only [List.length_map, List.length_range] at h1
        simp [Nat.mod_eq_of_lt h1, h1]
  rw [← hr]
  simp [Builtin.zeroCells]
theorem clear_sound {zr : Nat → List SV} {ty : TypeId} (ht : tyB P T ti = true) (hz : ∀ E, 0 < (zr E).length → zeroB P E (zr E) = true) (hs : Sat X w B) {s : SV} {v : Value} (hd : Den X w s v) (hc : (evClear ti zr B s).vc) :
    ∃ u w', (Builtin.clear_ #[T] ty #[v]).run P w = .ok u w' ∧ Sat X w' (evClear ti zr B s).B ∧ Den X w' (evClear ti zr B s).v u ∧ Ext X w B X w' (evClear ti zr B s).B := by
  cases ti <;> simp only [evClear, bad] at hc
  case slice E esz eb =>
  obtain ⟨hu, i0, z, hi, h3, h4, h5, h6⟩ := tyB_slice ht
  simp only [evClear] at hc ⊢
  have dn : Den X w (.tup []) (.tuple #[]) := .tup rfl fun i c h => by simp at h
  have main : ∀ (i b cap lo n cp : Nat) (ad : Addr) (E2 : TypeId) (xs : List (List SV)), getD' B i = .row (.at b cap) E2 esz xs → lo + n ≤ xs.length → 0 < esz → (zr E).length = esz → solids (zr E) = true → (0 < n → ad = ⟨b, lo * esz, none⟩) →
      ∃ u w', (Builtin.clear_ #[T] ty #[.slice (some ad) n cp]).run P w = .ok u w' ∧ Sat X w' (B.set i (.row (.at b cap) E2 esz (xs.take lo ++ List.replicate n (zr E) ++ xs.drop (lo + n)))) ∧
        Den X w' (.tup []) u ∧ Ext X w B X w' (B.set i (.row (.at b cap) E2 esz (xs.take lo ++ List.replicate n (zr E) ++ xs.drop (lo + n)))) := by
    intro i b cap lo n cp ad E2 xs hg hle he hzl hsol hadr
    obtain ⟨z', hz1, hz2⟩ := zeroB_spec (hz E (by omega))
    obtain ⟨h7, h8⟩ := cellsAre_den (X := X) (w := w) hz2
    have hsz : z'.cells.size = esz := by have := h7; simp at this; omega
    have hcl := cells_replicate (n := n) (cells_one (X := X) (w := w) hzl (by rw [h7, hzl]) h8)
    have hfl : (Builtin.zeroCells z'.cells n).toList = (List.replicate n z'.cells.toList).flatten := zeroCells_flat _ n
    rw [← hfl] at hcl
    have hones := ones_of he hcl fun y hy => by rw [(List.mem_replicate.1 hy).2]; exact hsol
    have hput := row_put (P := P) (ad := ad) hs hg (ys := List.replicate n (zr E)) (by simpa using hle) hcl hones (by simpa using hadr)
    simp only [List.length_replicate] at hput
    obtain ⟨w', g1, g2, g3⟩ := hput
    have hzero : n = 0 → w' = w := by
      intro h0
      subst h0
      have : (Builtin.zeroCells z'.cells 0).toList = [] := by rw [hfl]; simp
      rw [this] at g1
      simp [storeCells] at g1
      exact g1.symm
    refine ⟨.tuple #[], w', ?_, g2, .tup rfl (fun i c h => by simp at h), g3⟩
    cases n with
    | zero =>
      rw [hzero rfl]
      simp [Builtin.clear_, run_underlying hu]
    | succ n =>
      simp only [Builtin.clear_, List.getElem?_toArray, List.getElem?_cons_zero, Sem.run_bind, run_underlying hu, Result.andThen_ok, hz1, g1, Sem.run_pure]
  cases hd <;> simp only at hc
  case rowVoid i a e lo =>
    cases hg : getD' B i with
    | gone => simp [hg] at hc
    | row h2 E2 e2 xs =>
      simp only [hg] at hc ⊢
      obtain ⟨rfl, rfl, rfl, hle, he, hzl, hsol⟩ := hc
      have hxs := hs.rowVoid hg
      subst hxs
      have hlo : lo = 0 := by simpa using hle
      subst hlo
      have hi' := getD'_lt hg
      refine ⟨.tuple #[], w, ?_, ?_, .tup rfl (fun i c h => by simp at h), ?_⟩
      · cases a <;> simp [Builtin.clear_, run_underlying hu]
      · exact hs.replace hi' (Nat.le_refl _) (fun _ _ _ => rfl) (by simp [Own.blocks]) (by simp [Own.ok])
      · exact Ext.replace hi' rfl rfl rfl (Nat.le_refl _) (fun _ _ _ => rfl) (by simp [Own.blocks])
  case rowAt i b cap e n hncap =>
    cases hg : getD' B i with
    | gone => simp [hg] at hc
    | row h2 E2 e2 xs =>
      simp only [hg] at hc ⊢
      obtain ⟨rfl, rfl, rfl, hle, he, hzl, hsol⟩ := hc
      exact main i b cap 0 n cap ⟨b, 0, none⟩ E2 xs hg hle he hzl hsol (fun _ => by simp)
  case rowLo i b cap e lo n cp hn hnc =>
    cases hg : getD' B i with
    | gone => simp [hg] at hc
    | row h2 E2 e2 xs =>
      simp only [hg] at hc ⊢
      obtain ⟨rfl, rfl, rfl, hle, he, hzl, hsol⟩ := hc
      exact main i b cap (lo + 1) n cp _ E2 xs hg hle he hzl hsol (fun _ => rfl)
  case rowLo0 i b cap e lo cp a =>
    cases hg : getD' B i with
    | gone => simp [hg] at hc
    | row h2 E2 e2 xs =>
      simp only [hg] at hc ⊢
      obtain ⟨rfl, rfl, rfl, hle, he, hzl, hsol⟩ := hc
      cases a with
      | some ad => exact main i b cap (lo + 1) 0 cp ad E2 xs hg hle he hzl hsol (fun h => by omega)
      | none =>
        have hi' := getD'_lt hg
        have hsame : (xs.take (lo + 1) ++ List.replicate 0 (zr E) ++ xs.drop (lo + 1 + 0)) = xs := by simp
        refine ⟨.tuple #[], w, ?_, ?_, .tup rfl (fun i c h => by simp at h), ?_⟩
        · simp [Builtin.clear_, run_underlying hu]
        · rw [hsame, ← hg]
          have := hs.ok i
          exact hs.replace hi' (Nat.le_refl _) (fun _ _ _ => rfl) (fun c hc => .inl hc) this
        · rw [hsame, ← hg]
          exact Ext.replace hi' rfl rfl rfl (Nat.le_refl _) (fun _ _ _ => rfl) (fun c hc => .inl hc)
end
end Go.Lift
