/-
  Slice expressions, conversions, arithmetic.
-/
import Derived.Test.YtfmldmafigpblaaDoorLiftH
namespace Go.Lift
section
variable {P : Program} {T : TypeId} {ti : TyI} {X : Nat → Prop} {w : World} {B : List Own}

theorem elem_of {E : TypeId} (h : P.underlying T = some (.slice E)) : P.elem T = E := by simp [Program.elem, h]

theorem den_len {s : SV} {a : Option Addr} {n cap : Nat} (hd : Den X w s (.slice a n cap)) (h : (∃ f e m g, s = .sl f e m g) ∨ (∃ i h e l m, s = .row i h e l m)) : s.len = n := by
  rcases h with ⟨f, e, m, g, rfl⟩ | ⟨i, h, e, l, m, rfl⟩ <;> cases hd <;> rfl

theorem sliceB_sound {kp : Bool} {E esz eb : Nat} {lo hi : Nat} {mx : Option Nat} {s : SV} {a : Option Addr} {n cap : Nat} (hs : Sat X w B) (hd : Den X w s (.slice a n cap)) (hc : (evSliceB kp (.slice E esz eb) B s lo hi mx).vc) :
    lo ≤ hi ∧ hi ≤ cap ∧ n ≤ cap ∧ (∀ m, mx = some m → hi ≤ m ∧ m ≤ cap) ∧
    Den X w (evSliceB kp (.slice E esz eb) B s lo hi mx).v (sliced a lo hi (mx.getD cap) esz) ∧ (evSliceB kp (.slice E esz eb) B s lo hi mx).B = B := by
  cases hd <;> simp only [evSliceB, bad] at hc
  case slNil full e f hf =>
    cases mx with
    | none =>
      obtain ⟨h1, h2, _⟩ := hc
      have : lo = 0 := by omega
      have : hi = 0 := by omega
      subst lo hi
      refine ⟨h1, Nat.zero_le _, Nat.zero_le _, by simp, ?_, by simp [evSliceB]⟩
      simp only [evSliceB, sliced, Option.getD_none]
      exact .slNil (by simp)
    | some m =>
      obtain ⟨h1, h2, rfl, _⟩ := hc
      have : lo = 0 := by omega
      have : m = 0 := by omega
      subst lo m
      refine ⟨h1, Nat.zero_le _, Nat.zero_le _, by simp, ?_, by simp [evSliceB]⟩
      simp only [evSliceB, sliced, Option.getD_some]
      exact .slNil (by simp)
  case slAt full e f b off g hX hn hl hw h hcap hf =>
    have key : lo ≤ hi → hi ≤ n → e = esz → ∀ m, hi ≤ m → m ≤ cap → ∀ full', (full' = true → m = hi) → Den X w (.sl full' e (hi - lo) (sub f n lo (hi - lo))) (sliced (some ⟨b, off, none⟩) lo hi m esz) := by
      intro h1 h2 he m hm1 hm2 full' hfull
      subst he
      by_cases h0 : hi - lo = 0
      · rw [h0]
        simp only [sliced, h0]
        exact .slNil (fun hh => by have := hfull hh; omega)
      · simp only [sliced]
        rw [if_neg (by omega)]
        simp only [Option.map_some, add_none]
        refine .slAt (fun k j => g (lo + k) j) (by omega) (by omega) (fun hh => by have := hfull hh; omega) hX (fun k hk => by simp only [sub, if_pos hk]; exact hl _ (by omega)) (fun k j hk hj => ?_) (fun k j c hk hcc => by simp only [sub, if_pos hk] at hcc; exact h _ _ _ (by omega) hcc)
        have := hw (lo + k) j (by omega) hj
        rw [Nat.add_mul] at this
        rw [← this]; congr 2; omega
    cases mx with
    | none =>
      obtain ⟨h1, h2, h3⟩ := hc
      exact ⟨h1, by omega, hcap, by simp, by simpa [evSliceB] using key h1 h2 (by omega) cap (by omega) (Nat.le_refl _) false (by simp), by simp [evSliceB]⟩
    | some m =>
      obtain ⟨h1, h2, rfl, h3⟩ := hc
      exact ⟨h1, by omega, hcap, fun k hk => by cases hk; omega, by simpa [evSliceB] using key h1 h2 (by omega) m (Nat.le_refl _) (by omega) true (by simp), by simp [evSliceB]⟩
  case rowVoid i e l0 =>
    cases mx with
    | some m =>
      cases kp with
      | false => exact hc.elim
      | true =>
        obtain ⟨h1, h2, h3, _⟩ := hc
        exact ⟨h1, by omega, Nat.le_refl _, fun k hk => by cases hk; omega, .any _, by simp [evSliceB]⟩
    | none =>
      have hh : lo ≤ hi ∧ hi = 0 := by
        cases kp with
        | false => exact ⟨hc.1, by have := hc.2.1; omega⟩
        | true =>
          refine ⟨hc.1, ?_⟩
          rcases hc.2.1 with h | ⟨_, h⟩
          · omega
          · unfold rowHas at h
            split at h
            · rename_i hg
              obtain ⟨rfl, _, h⟩ := h
              rw [hs.rowVoid hg] at h
              simpa using h
            · exact h.elim
      obtain ⟨h1, rfl⟩ := hh
      obtain rfl : lo = 0 := by omega
      exact ⟨h1, Nat.zero_le _, Nat.le_refl _, by simp, by simpa [evSliceB, sliced] using Den.rowVoid (X := X) (w := w) i a e l0, by simp [evSliceB]⟩
  case rowAt i b e hncap =>
    cases mx with
    | some m =>
      cases kp with
      | false => exact hc.elim
      | true =>
        obtain ⟨h1, h2, h3, _⟩ := hc
        exact ⟨h1, by omega, hncap, fun k hk => by cases hk; omega, .any _, by simp [evSliceB]⟩
    | none =>
      have hh : hi ≤ cap := by
        cases kp with
        | false => have := hc.2.1; omega
        | true =>
          rcases hc.2.1 with h | ⟨_, h⟩
          · omega
          · unfold rowHas at h
            split at h
            · rename_i hg
              obtain ⟨rfl, _, h⟩ := h
              obtain ⟨_, _, _, h3, _⟩ := hs.row hg
              omega
            · exact h.elim
      obtain ⟨h1, _, rfl⟩ := hc
      refine ⟨h1, hh, hncap, by simp, ?_, by simp [evSliceB]⟩
      simp only [evSliceB, sliced, Option.getD_none, Nat.zero_add]
      cases lo with
      | zero =>
        have e1 : (if cap = 0 then (some ⟨b, 0, none⟩ : Option Addr) else Option.map (fun (x : Addr) => x.add (0 * e)) (some ⟨b, 0, none⟩)) = some ⟨b, 0, none⟩ := by
          split <;> simp [add_none]
        rw [e1]
        exact .rowAt _ _ _ _ _ (by omega)
      | succ lo =>
        by_cases h0 : hi - (lo + 1) = 0
        · rw [h0]; exact .rowLo0 ..
        · rw [if_neg (by omega)]
          simp only [Option.map_some, add_none, Nat.zero_add]
          exact .rowLo _ _ _ _ _ _ _ (by omega) (by omega)
  case rowLo i b cap' e l0 hn hnc =>
    cases mx with
    | some m =>
      cases kp with
      | false => exact hc.elim
      | true =>
        obtain ⟨h1, h2, h3, _⟩ := hc
        exact ⟨h1, by omega, hnc, fun k hk => by cases hk; omega, .any _, by simp [evSliceB]⟩
    | none =>
      have h2 : hi ≤ n := by
        cases kp with
        | false => exact hc.2.1
        | true =>
          rcases hc.2.1 with h | ⟨h, _⟩
          · exact h
          · omega
      obtain ⟨h1, _, rfl⟩ := hc
      refine ⟨h1, by omega, hnc, by simp, ?_, by simp [evSliceB]⟩
      simp only [evSliceB, sliced, Option.getD_none]
      have e2 : l0 + 1 + lo = (l0 + lo) + 1 := by omega
      rw [e2]
      by_cases h0 : hi - lo = 0
      · rw [h0]; exact .rowLo0 ..
      · rw [if_neg (by omega)]
        simp only [Option.map_some, add_none]
        have e3 : (l0 + 1) * e + lo * e = (l0 + lo + 1) * e := by rw [← Nat.add_mul, show l0 + 1 + lo = l0 + lo + 1 by omega]
        rw [e3]
        exact .rowLo _ _ _ _ _ _ _ (by omega) (by omega)
  case rowLo0 i b cap' e l0 =>
    cases mx with
    | some m =>
      cases kp with
      | false => exact hc.elim
      | true =>
        obtain ⟨h1, h2, h3, _⟩ := hc
        exact ⟨h1, by omega, Nat.zero_le _, fun k hk => by cases hk; omega, .any _, by simp [evSliceB]⟩
    | none =>
      have h2 : hi ≤ 0 := by
        cases kp with
        | false => exact hc.2.1
        | true =>
          rcases hc.2.1 with h | ⟨h, _⟩
          · exact h
          · omega
      obtain ⟨h1, _, rfl⟩ := hc
      obtain rfl : lo = 0 := by omega
      obtain rfl : hi = 0 := by omega
      refine ⟨h1, Nat.zero_le _, Nat.zero_le _, by simp, ?_, by simp [evSliceB]⟩
      simp only [evSliceB, sliced, Option.getD_none]
      exact .rowLo0 ..

/-- What a slice expression takes: a slice or a string. -/
theorem slice_kind {kp : Bool} {s : SV} {v : Value} {lo hi : Nat} {mx : Option Nat} (hd : Den X w s v) (hc : (evSliceB kp ti B s lo hi mx).vc) :
    (∃ E esz eb, ti = .slice E esz eb ∧ ∃ a n cap, v = .slice a n cap ∧ s.len = n) ∨ (ti = .string ∧ ∃ l, s = .str l ∧ v = .string ⟨l.toArray⟩) := by
  cases ti <;> simp only [evSliceB, bad] at hc
  case string =>
    cases hd <;> simp only at hc
    exact .inr ⟨rfl, _, rfl, rfl⟩
  case slice E esz eb =>
    refine .inl ⟨E, esz, eb, rfl, ?_⟩
    cases hd <;> first | exact ⟨_, _, _, rfl, rfl⟩ | (simp only at hc; done)

theorem slice_sound {kp : Bool} (ht : tyB P T ti = true) (hs : Sat X w B) {s : SV} {v : Value} (hd : Den X w s v) {lo hi mx : Option SV} {vlo vhi vmx : Option Value}
    (hlo : ∀ x, lo = some x → ∃ y, vlo = some y ∧ Den X w x y) (hlo' : lo = none → vlo = none) (hhi : ∀ x, hi = some x → ∃ y, vhi = some y ∧ Den X w x y) (hhi' : hi = none → vhi = none)
    (hmx : ∀ x, mx = some x → ∃ y, vmx = some y ∧ Den X w x y) (hmx' : mx = none → vmx = none) (hc : (evSlice kp ti B s lo hi mx).vc) :
    ∃ u, (∀ w, (Instr.sliceAt T v vlo vhi vmx).run P w = .ok u w) ∧ Den X w (evSlice kp ti B s lo hi mx).v u ∧ (evSlice kp ti B s lo hi mx).B = B := by
  have str : ∀ (l : List UInt8) (a b : Nat) (vl vh : Option Value), a ≤ b → b ≤ l.length → T = T → P.underlying T = some .string → ((vl = none ∧ a = 0) ∨ ∃ k i, vl = some (.int k i) ∧ 0 ≤ i ∧ i.toNat = a) → ((vh = none ∧ b = l.length) ∨ ∃ k i, vh = some (.int k i) ∧ 0 ≤ i ∧ i.toNat = b) →
      ∀ w : World, (Instr.sliceAt T (.string ⟨l.toArray⟩) vl vh none).run P w = .ok (.string ⟨((l.drop a).take (b - a)).toArray⟩) w := by
    intro l a b vl vh h1 h2 _ hu hl hh w
    have hsz : (⟨l.toArray⟩ : ByteArray).size = l.length := by simp [ByteArray.size]
    have hext : (ByteArray.mk l.toArray).extract a b = ⟨((l.drop a).take (b - a)).toArray⟩ := by
      apply ByteArray.ext
      apply Array.ext'
      simp [ByteArray.data_extract, List.extract_eq_take_drop]
    have hb : ∀ (hi2 : Nat), (Instr.sliceBounds false (ByteArray.mk l.toArray).size (ByteArray.mk l.toArray).size vl vh none).run P w = .ok (a, b, l.length) w := by
      intro _
      rw [hsz]
      simp only [Instr.sliceBounds, Sem.run_bind, Sem.run_pure, Result.andThen_ok]
      rcases hh with ⟨rfl, rfl⟩ | ⟨k, i, rfl, h0, rfl⟩
      · rcases hl with ⟨rfl, rfl⟩ | ⟨k', i', rfl, h0', rfl⟩
        · simp
        · simp only [Sem.run_bind, Sem.run_pure, Result.andThen_ok, run_sliceBound (P := P) (w := w) k' i' l.length _ h0' (by omega), Option.isSome_none, Bool.false_eq_true, if_false]
      · have hb1 := run_sliceBound (P := P) (w := w) k i l.length .sliceAlen h0 (by omega)
        simp only [Sem.run_bind, Bool.false_eq_true, if_false]
        rw [hb1]
        simp only [Result.andThen_ok]
        rcases hl with ⟨rfl, rfl⟩ | ⟨k', i', rfl, h0', rfl⟩
        · simp
        · have hb2 := run_sliceBound (P := P) (w := w) k' i' i.toNat .sliceB h0' (by omega)
          simp only [hb2, Option.isSome_none, Bool.false_eq_true, if_false, Result.andThen_ok, Sem.run_bind, Sem.run_pure]
    simp only [Instr.sliceAt, Sem.run_bind, run_underlying hu, Result.andThen_ok, Instr.slice, Option.isSome_none, Bool.false_eq_true, if_false, hb 0, Sem.run_pure, hext]
  have slc : ∀ (E esz eb : Nat) (a : Option Addr) (n cap l h : Nat) (m : Option Nat) (vl vh vm : Option Value), tyB P T (.slice E esz eb) = true → l ≤ h → h ≤ cap → n ≤ cap → (∀ x, m = some x → h ≤ x ∧ x ≤ cap) →
      ((vl = none ∧ l = 0) ∨ ∃ k i, vl = some (.int k i) ∧ 0 ≤ i ∧ i.toNat = l) → ((vh = none ∧ h = n ∧ m = none) ∨ ∃ k i, vh = some (.int k i) ∧ 0 ≤ i ∧ i.toNat = h) → ((vm = none ∧ m = none) ∨ ∃ k i, vm = some (.int k i) ∧ 0 ≤ i ∧ m = some i.toNat) →
      ∀ w : World, (Instr.sliceAt T (.slice a n cap) vl vh vm).run P w = .ok (sliced a l h (m.getD cap) esz) w := by
    intro E esz eb a n cap l h m vl vh vm ht h1 h2 h3 hm hl hh hmm w
    obtain ⟨hu, i0, z, hi0, hsz, _⟩ := tyB_slice ht
    have hsize : (sizeOf E).run P w = .ok esz w := sizeB_spec (by simp [sizeB, hi0, hsz]) w
    have hb : (Instr.sliceBounds true n cap vl vh vm).run P w = .ok (l, h, m.getD cap) w := by
      simp only [Instr.sliceBounds]
      rcases hmm with ⟨rfl, rfl⟩ | ⟨km, im, rfl, hm0, rfl⟩
      · rcases hh with ⟨rfl, rfl, _⟩ | ⟨k, i, rfl, h0, rfl⟩
        · rcases hl with ⟨rfl, rfl⟩ | ⟨k', i', rfl, h0', rfl⟩
          · simp
          · have hb2 := run_sliceBound (P := P) (w := w) k' i' h .sliceB h0' (by omega)
            simp only [Sem.run_bind, Sem.run_pure, Result.andThen_ok, hb2, Option.isSome_none, Bool.false_eq_true, if_false, Option.getD_none]
        · have hb1 := run_sliceBound (P := P) (w := w) k i cap .sliceAcap h0 (by omega)
          simp only [Sem.run_bind, if_true, Sem.run_pure, Result.andThen_ok]
          rw [hb1]
          simp only [Result.andThen_ok]
          rcases hl with ⟨rfl, rfl⟩ | ⟨k', i', rfl, h0', rfl⟩
          · simp
          · have hb2 := run_sliceBound (P := P) (w := w) k' i' i.toNat .sliceB h0' (by omega)
            simp only [hb2, Sem.run_bind, Sem.run_pure, Option.isSome_none, Bool.false_eq_true, if_false, Result.andThen_ok, Option.getD_none]
      · have hmh := hm _ rfl
        have hb0 := run_sliceBound (P := P) (w := w) km im cap .slice3Acap hm0 (by omega)
        simp only [if_true, Sem.run_bind]
        rw [hb0]
        simp only [Result.andThen_ok]
        rcases hh with ⟨_, _, h'⟩ | ⟨k, i, rfl, h0, rfl⟩
        · cases h'
        · have hb1 := run_sliceBound (P := P) (w := w) k i im.toNat .slice3B h0 (by omega)
          simp only [Sem.run_bind, hb1, Result.andThen_ok]
          rcases hl with ⟨rfl, rfl⟩ | ⟨k', i', rfl, h0', rfl⟩
          · simp
          · have hb2 := run_sliceBound (P := P) (w := w) k' i' i.toNat .slice3C h0' (by omega)
            simp only [Option.isSome_some, if_true, hb2, Result.andThen_ok, Sem.run_bind, Sem.run_pure, Option.getD_some]
    simp only [Instr.sliceAt, Sem.run_bind, run_underlying hu, Result.andThen_ok, Instr.slice, hb, hsize, Sem.run_pure, sliced]
  -- one theorem for all forms
  have main : ∀ (l h : Nat) (m : Option Nat), (evSliceB kp ti B s l h m).vc → ((vlo = none ∧ l = 0) ∨ ∃ k i, vlo = some (.int k i) ∧ 0 ≤ i ∧ i.toNat = l) →
      ((vhi = none ∧ h = s.len ∧ m = none) ∨ ∃ k i, vhi = some (.int k i) ∧ 0 ≤ i ∧ i.toNat = h) → ((vmx = none ∧ m = none) ∨ ∃ k i, vmx = some (.int k i) ∧ 0 ≤ i ∧ m = some i.toNat) →
      ∃ u, (∀ w, (Instr.sliceAt T v vlo vhi vmx).run P w = .ok u w) ∧ Den X w (evSliceB kp ti B s l h m).v u ∧ (evSliceB kp ti B s l h m).B = B := by
    intro l h m hc hl hh hm
    rcases slice_kind hd hc with ⟨E, esz, eb, rfl, a, n, cap, rfl, hlen⟩ | ⟨rfl, l0, rfl, rfl⟩
    · obtain ⟨h1, h2, h3, h4, h5, h6⟩ := sliceB_sound hs hd hc
      exact ⟨_, slc E esz eb a n cap l h m _ _ _ ht h1 h2 h3 h4 hl (by rw [hlen] at hh; exact hh) hm, h5, h6⟩
    · simp only [evSliceB] at hc ⊢
      obtain ⟨h1, h2, rfl⟩ := hc
      have hm' : vmx = none := by
        rcases hm with ⟨h, _⟩ | ⟨k, i, _, _, h⟩
        · exact h
        · cases h
      subst hm'
      refine ⟨_, str l0 l h _ _ h1 h2 rfl (tyB_string ht) hl ?_, .str _, trivial⟩
      rcases hh with ⟨a, b, _⟩ | hh
      · exact .inl ⟨a, b⟩
      · exact .inr hh
  have intD : ∀ {k i v}, Den X w (.int k i) v → v = .int k i := fun h => by cases h; rfl
  unfold evSlice at hc ⊢
  split at hc
  · exact main 0 s.len none hc (.inl ⟨hlo' rfl, rfl⟩) (.inl ⟨hhi' rfl, rfl, rfl⟩) (.inl ⟨hmx' rfl, rfl⟩)
  · rename_i k l
    obtain ⟨y, hy, hyd⟩ := hlo _ rfl
    have := intD hyd; subst this
    exact main l.toNat s.len none hc.2 (.inr ⟨k, l, hy, hc.1, rfl⟩) (.inl ⟨hhi' rfl, rfl, rfl⟩) (.inl ⟨hmx' rfl, rfl⟩)
  · rename_i k h
    obtain ⟨y, hy, hyd⟩ := hhi _ rfl
    have := intD hyd; subst this
    exact main 0 h.toNat none hc.2 (.inl ⟨hlo' rfl, rfl⟩) (.inr ⟨k, h, hy, hc.1, rfl⟩) (.inl ⟨hmx' rfl, rfl⟩)
  · rename_i k l k2 h
    obtain ⟨y, hy, hyd⟩ := hlo _ rfl
    have := intD hyd; subst this
    obtain ⟨y2, hy2, hyd2⟩ := hhi _ rfl
    have := intD hyd2; subst this
    exact main l.toNat h.toNat none hc.2.2 (.inr ⟨k, l, hy, hc.1, rfl⟩) (.inr ⟨k2, h, hy2, hc.2.1, rfl⟩) (.inl ⟨hmx' rfl, rfl⟩)
  · rename_i k h k2 m
    obtain ⟨y, hy, hyd⟩ := hhi _ rfl
    have := intD hyd; subst this
    obtain ⟨y2, hy2, hyd2⟩ := hmx _ rfl
    have := intD hyd2; subst this
    exact main 0 h.toNat (some m.toNat) hc.2.2 (.inl ⟨hlo' rfl, rfl⟩) (.inr ⟨k, h, hy, hc.1, rfl⟩) (.inr ⟨k2, m, hy2, hc.2.1, rfl⟩)
  · rename_i k l k2 h k3 m
    obtain ⟨y, hy, hyd⟩ := hlo _ rfl
    have := intD hyd; subst this
    obtain ⟨y2, hy2, hyd2⟩ := hhi _ rfl
    have := intD hyd2; subst this
    obtain ⟨y3, hy3, hyd3⟩ := hmx _ rfl
    have := intD hyd3; subst this
    exact main l.toNat h.toNat (some m.toNat) hc.2.2.2 (.inr ⟨k, l, hy, hc.1, rfl⟩) (.inr ⟨k2, h, hy2, hc.2.1, rfl⟩) (.inr ⟨k3, m, hy3, hc.2.2.1, rfl⟩)
  · exact hc.elim

/-- Bytes to a string. -/
theorem bytes_ints {ys : List (List SV)} {cs : List Value} (h : Cells X w 1 ys cs) (hb : ∀ y ∈ ys, isByte y = true) :
    ∃ ns : List Int, cs = ns.map (Value.int .u8) ∧ (ns.map fun n => UInt8.ofNat n.toNat) = bytesOf ys := by
  induction ys generalizing cs with
  | nil => have := h.len; simp at this; subst this; exact ⟨[], rfl, rfl⟩
  | cons y ys ih =>
    have hl := h.len
    simp only [List.length_cons, Nat.mul_one] at hl
    cases cs with
    | nil => simp at hl
    | cons v cs =>
      have hy := hb y (List.mem_cons_self ..)
      have h1 : Cells X w 1 ys cs := ⟨by simpa using hl, fun k x hx => h.each (k + 1) x (by simpa using hx), fun k j x c hx hc => by
        have := h.den (k + 1) j x c (by simpa using hx) hc
        have hj : j = 0 := by
          have := h.each (k + 1) x (by simpa using hx)
          rcases Nat.lt_or_ge j x.length with h' | h'
          · omega
          · rw [List.getElem?_eq_none h'] at hc; cases hc
        subst hj
        simpa using this⟩
      obtain ⟨ns, hn1, hn2⟩ := ih h1 fun z hz => hb z (List.mem_cons_of_mem _ hz)
      unfold isByte at hy
      split at hy
      · rename_i n
        have hd := h.den 0 0 _ _ rfl rfl
        simp at hd
        cases hd
        exact ⟨n :: ns, by rw [hn1]; rfl, by simp [bytesOf, byteOf] at hn2 ⊢; exact hn2⟩
      · cases hy

theorem convert_sound {T2 : TypeId} {ti2 te : TyI} (ht : tyB P T ti = true) (hte : ∀ E esz eb, ti = .slice E esz eb → tyB P E te = true) (ht2 : tyB P T2 ti2 = true) (hs : Sat X w B) {s : SV} {v : Value} (hd : Den X w s v) (hc : (evConvert ti te ti2 B s).vc) (hb : ti ≠ .bad) :
    ∃ u, (convert T T2 v).run P w = .ok u w ∧ Den X w (evConvert ti te ti2 B s).v u ∧ (evConvert ti te ti2 B s).B = B := by
  obtain ⟨d, hu⟩ := Option.isSome_iff_exists.1 (tyB_und ht hb)
  cases ti2 <;> simp only [evConvert, bad] at hc
  case int k =>
    have hu2 := tyB_int ht2
    cases hd <;> simp only at hc
    case int k' n =>
      refine ⟨.int k (k.wrap n), ?_, .int .., rfl⟩
      simp [convert, run_underlying hu, run_underlying hu2, Conv.intToInt]
  case string =>
    have hu2 := tyB_string ht2
    cases ti <;> try (simp only at hc; done)
    case string =>
      have hu1 := tyB_string ht
      have hcc : s.isStr = true := hc
      clear hc
      cases hd <;> try (simp only [SV.isStr, Bool.false_eq_true] at hcc; done)
      case str l =>
        refine ⟨.string ⟨l.toArray⟩, ?_, .str _, rfl⟩
        simp [convert, run_underlying hu1, run_underlying hu2]
    case slice E esz eb =>
      obtain ⟨hu1, _⟩ := tyB_slice ht
      have hte' := hte _ _ _ rfl
      by_cases h11 : esz = 1 ∧ eb = 1
      case neg => 
        exfalso
        split at hc
        · rename_i h; cases h
        · rename_i h; simp only [TyI.slice.injEq] at h; exact absurd h.2 h11
        · exact hc
      obtain ⟨rfl, rfl⟩ := h11
      cases te <;> try (simp only at hc; done)
      case int k =>
      cases k <;> try (simp only at hc; done)
      case u8 =>
      have hue := tyB_int hte'
      simp only [evConvert] at hc ⊢
      have hsrc := fun hcc => src_sound (P := P) (esz := 1) (by omega) hs hd hcc
      have hkind : (srcOf 1 B s).2 → s.isStr = false → ∃ a n cap, v = .slice a n cap := by
        intro h1 h2
        cases hd <;> first | exact ⟨_, _, _, rfl⟩ | (simp only [srcOf] at h1; done) | cases h2
      generalize srcOf 1 B s = yc at *
      obtain ⟨ys, c⟩ := yc
      simp only at *
      obtain ⟨hc1, hc2, hc3⟩ := hc
      obtain ⟨hl, hff⟩ := hsrc hc1
      obtain ⟨cs, hn1, hn2⟩ := hff ys.length (Nat.le_refl _)
      rw [List.take_length] at hn2
      obtain ⟨ns, rfl, hn3⟩ := bytes_ints hn2 hc2
      refine ⟨.string ⟨(bytesOf ys).toArray⟩, ?_, .str _, trivial⟩
      have hv := hkind hc1 hc3
      obtain ⟨a, n, cap, rfl⟩ := hv
      have hn : n = ys.length := by simpa [Builtin.lenOf] using hl
      subst hn
      rw [run_convert_bytes_string w T T2 E a _ cap hu1 hue hu2]
      cases a with
      | none =>
        have : ns = [] := by
          simp [Builtin.firstCells] at hn1
          cases ns
          · rfl
          · simp at hn1
        subst this
        rw [← hn3]
        simp [Conv.bytesToString]
        rfl
      | some ad =>
        have hld : (loadCells ad ys.length).run P w = .ok (ns.map (Value.int .u8)).toArray w := by simpa [Builtin.firstCells] using hn1
        rw [run_bytesToString w ad _ cap ns hld, foldl_push_bytes, hn3]
        simp [ByteArray.empty, ByteArray.emptyWithCapacity]
        rfl
end
end Go.Lift
