/-
  The other operations' soundness.
-/
import Derived.Test.YtfmldmafigpblaaDoorLiftD
namespace Go.Lift
section
variable {P : Program} {T : TypeId} {ti : TyI} {X : Nat → Prop} {w : World} {B : List Own}

theorem fieldAddr_sound (ht : tyB P T ti = true) {f : Nat} {s : SV} {v : Value} (hd : Den X w s v) (hc : (evFieldAddr ti B f s).vc) :
    ∃ u, (∀ w, (Instr.fieldAt T v f).run P w = .ok u w) ∧ Den X w (evFieldAddr ti B f s).v u ∧ (evFieldAddr ti B f s).B = B := by
  unfold evFieldAddr at *
  cases ti <;> simp only [bad] at hc
  case struct fs n =>
    obtain ⟨F, hu, hsz, hf⟩ := tyB_struct ht
    cases hj : fs[f]? with
    | none => simp [hj] at hc
    | some oam =>
      obtain ⟨o, a, m⟩ := oam
      obtain ⟨fl, h1, h2, h3', _⟩ := hf f o a m hj
      have h3 := fun w => sizeB_spec h3' w
      simp only [hj] at hc ⊢
      have hrun : ∀ (w : World) (ad : Addr), 0 < m → (fieldPlace ad fl).run P w = .ok (ad.add o) w := fun w ad hm => by
        simp only [fieldPlace, Sem.run_bind, h3, Result.andThen_ok, Sem.run_ite]
        rw [if_neg (by omega), h2]; rfl
      cases hd <;> simp only at hc
      case xp cs b off g hX hw h =>
        obtain ⟨hm, ho⟩ := hc
        refine ⟨.pointer (some ⟨b, off + o, none⟩), ?_, ?_, rfl⟩
        · intro w; simp only [Instr.fieldAt, Sem.run_bind, run_underlying hu, Result.andThen_ok, h1, Instr.sureAddr, Sem.run_pure, hrun _ _ hm, add_none]
        · exact .xp (fun j => g (o + j)) hX (fun j hj => by rw [Nat.add_assoc]; exact hw _ (by simp at hj; omega)) (fun j c hjc => h _ _ (by simpa using hjc))
      case rptr i b cap esz k off =>
        refine ⟨.pointer (some ⟨b, k * esz + (off + o), none⟩), ?_, .rptr .., rfl⟩
        intro w; simp only [Instr.fieldAt, Sem.run_bind, run_underlying hu, Result.andThen_ok, h1, Instr.sureAddr, Sem.run_pure, hrun _ _ hc, add_none, Nat.add_assoc]

theorem indexAddr_sound (ht : tyB P T ti = true) {s si : SV} {v vi : Value} (hd : Den X w s v) (hi : Den X w si vi) (hc : (evIndexAddr ti B s si).vc) :
    ∃ u, (∀ w, (Instr.indexAt T v vi).run P w = .ok u w) ∧ Den X w (evIndexAddr ti B s si).v u ∧ (evIndexAddr ti B s si).B = B := by
  unfold evIndexAddr at *
  cases hi <;> simp only [bad] at hc
  case int kk k =>
  cases ti <;> simp only at hc
  case slice E e eb =>
    obtain ⟨hu, ie, z, he, hes, _⟩ := tyB_slice ht
    have hsz : ∀ w, (sizeOf E).run P w = .ok e w := fun w => sizeB_spec (by simp [sizeB, he, hes]) w
    cases hd <;> simp only at hc
    case slNil => omega
    case slAt full esz n f b off cap g hn hcap hf hX hl hw h =>
      obtain ⟨h0, h1, rfl⟩ := hc
      have hkn : k.toNat < n := by omega
      refine ⟨.pointer (some ⟨b, off + k.toNat * esz, none⟩), ?_, ?_, rfl⟩
      · intro w; simp only [Instr.indexAt, asIntOf, Sem.run_bind, Sem.run_pure, Result.andThen_ok, run_underlying hu, Sem.run_ite, if_pos (And.intro h0 h1), hsz, add_none]
      · exact .xp (fun j => g k.toNat j) hX (fun j hj => by rw [Nat.add_assoc]; exact hw _ _ hkn (by rw [← hl _ hkn]; exact hj)) (fun j c hjc => h _ _ _ hkn hjc)
    case rowVoid => omega
    case rowLo0 => omega
    case rowAt i b cap esz n hn =>
      obtain ⟨h0, h1, rfl⟩ := hc
      refine ⟨.pointer (some ⟨b, (0 + k.toNat) * esz + 0, none⟩), ?_, .rptr .., rfl⟩
      intro w; simp only [Instr.indexAt, asIntOf, Sem.run_bind, Sem.run_pure, Result.andThen_ok, run_underlying hu, Sem.run_ite, if_pos (And.intro h0 h1), hsz, add_none]
      simp
    case rowLo i b cap esz lo n c hn hnc =>
      obtain ⟨h0, h1, rfl⟩ := hc
      refine ⟨.pointer (some ⟨b, (lo + 1 + k.toNat) * esz + 0, none⟩), ?_, .rptr .., rfl⟩
      intro w; simp only [Instr.indexAt, asIntOf, Sem.run_bind, Sem.run_pure, Result.andThen_ok, run_underlying hu, Sem.run_ite, if_pos (And.intro h0 h1), hsz, add_none, Nat.add_mul]
      simp
  case array len a e =>
    obtain ⟨E, hu, hsz', _⟩ := tyB_array ht
    have hsz := fun w => sizeB_spec hsz' w
    cases hd <;> simp only at hc
    case xp cs b off g hX hw h =>
      obtain ⟨h0, h1, h2⟩ := hc
      refine ⟨.pointer (some ⟨b, off + k.toNat * e, none⟩), ?_, ?_, rfl⟩
      · intro w; simp only [Instr.indexAt, asIntOf, Sem.run_bind, Sem.run_pure, Result.andThen_ok, run_underlying hu, Sem.run_ite, if_pos (And.intro h0 h1), hsz, add_none, Instr.sureAddr]
      · exact .xp (fun j => g (k.toNat * e + j)) hX (fun j hj => by rw [Nat.add_assoc]; exact hw _ (by simp at hj; omega)) (fun j c hjc => h _ _ (by simpa using hjc))
    case rptr i b cap esz k0 off =>
      refine ⟨.pointer (some ⟨b, k0 * esz + (off + k.toNat * e), none⟩), ?_, .rptr .., rfl⟩
      intro w; simp only [Instr.indexAt, asIntOf, Sem.run_bind, Sem.run_pure, Result.andThen_ok, run_underlying hu, Sem.run_ite, if_pos hc, hsz, add_none, Instr.sureAddr, Nat.add_assoc]

theorem part_one {E : TypeId} {o : Nat} (hag : ∀ w, (isAgg E).run P w = .ok false w) {cs : List SV} {vs : Array Value} (hs : vs.size = cs.length)
    (h : ∀ (i : Nat) (c : SV), cs[i]? = some c → Den X w c (vs.getD i undef)) (hc : o < cs.length) :
    ∃ u, (∀ w, (part E vs o).run P w = .ok u w) ∧ Den X w (cs.getD o .any) u := by
  refine ⟨vs.getD o undef, ?_, h o _ (get?_of_lt _ hc)⟩
  intro w; simp only [part, Sem.run_bind, hag, Result.andThen_ok, Bool.false_eq_true, if_false]
  rw [agetD_of_lt (show o < vs.size by omega)]
  rfl
theorem part_agg {E : TypeId} {m o : Nat} (hsz : ∀ w, (sizeOf E).run P w = .ok m w) (hag : ∀ w, (isAgg E).run P w = .ok true w) {cs : List SV} {vs : Array Value} (hs : vs.size = cs.length)
    (h : ∀ (i : Nat) (c : SV), cs[i]? = some c → Den X w c (vs.getD i undef)) (hc : o + m ≤ cs.length) :
    ∃ u, (∀ w, (part E vs o).run P w = .ok u w) ∧ Den X w (.agg ((cs.drop o).take m)) u := by
  refine ⟨.agg (vs.extract o (o + m)), ?_, ?_⟩
  · intro w; simp only [part, Sem.run_bind, hag, Result.andThen_ok, if_true, hsz, Sem.run_pure]
  · have := den_take (X := X) (w := w) (g := fun j => vs.getD j undef) hc h
    have e : vs.extract o (o + m) = ((List.range m).map fun j => vs.getD (o + j) undef).toArray := by
      apply Array.ext
      · simp; omega
      · intro i h1 h2
        simp at h1 h2
        have : o + i < vs.size := by omega
        simp [this]
    rw [e]; exact this

theorem field_sound (ht : tyB P T ti = true) {f : Nat} {s : SV} {v : Value} (hd : Den X w s v) (hc : (evField ti B f s).vc) :
    ∃ u, (∀ w, (Instr.field T v f).run P w = .ok u w) ∧ Den X w (evField ti B f s).v u ∧ (evField ti B f s).B = B := by
  unfold evField at *
  cases ti <;> simp only [bad] at hc
  case struct fs n =>
    obtain ⟨F, hu, hsz, hf⟩ := tyB_struct ht
    cases hj : fs[f]? with
    | none => simp [hj] at hc
    | some oam =>
      obtain ⟨o, a, m⟩ := oam
      obtain ⟨fl, h1, h2, h3', h4⟩ := hf f o a m hj
      have h3 := fun w => sizeB_spec h3' w
      simp only [hj] at hc ⊢
      cases hd <;> simp only at hc
      case agg cs vs hs h =>
        cases a
        case' true => obtain ⟨u, hu1, hu2⟩ := part_agg (X := X) (w := w) h3 h4 hs h hc
        case' false => obtain ⟨u, hu1, hu2⟩ := part_one (X := X) (w := w) h4 hs h hc
        all_goals
          refine ⟨u, ?_, hu2, rfl⟩
          intro w; simp only [Instr.field, Sem.run_bind, run_underlying hu, Result.andThen_ok, h1, asAgg, Sem.run_pure, h2, hu1]

theorem index_sound (ht : tyB P T ti = true) {s si : SV} {v vi : Value} (hd : Den X w s v) (hi : Den X w si vi) (hc : (evIndex ti B s si).vc) :
    ∃ u, (∀ w, (Instr.index T v vi).run P w = .ok u w) ∧ Den X w (evIndex ti B s si).v u ∧ (evIndex ti B s si).B = B := by
  unfold evIndex at *
  cases hi <;> simp only [bad] at hc
  case int kk k =>
  cases ti <;> simp only at hc
  case string =>
    have hu := tyB_string ht
    cases hd <;> simp only at hc
    case str l =>
      obtain ⟨h0, h1⟩ := hc
      have hk : k.toNat < l.length := by omega
      have hg : (ByteArray.mk l.toArray)[k.toNat]? = some (l.getD k.toNat 0) := by
        have h2 : k.toNat < (ByteArray.mk l.toArray).size := by simpa [ByteArray.size] using hk
        rw [getElem?_pos (ByteArray.mk l.toArray) k.toNat h2]
        simp [List.getD, hk]
        rfl
      refine ⟨.int .u8 ((l.getD k.toNat 0).toNat : Int), ?_, .int .., rfl⟩
      intro w; simp only [Instr.index, asIntOf, Sem.run_bind, Sem.run_pure, Result.andThen_ok, run_underlying hu, if_pos h0, hg]
  case array len a e =>
    obtain ⟨E, hu, hsz', hag⟩ := tyB_array ht
    have hsz := fun w => sizeB_spec hsz' w
    cases hd <;> simp only at hc
    case agg cs vs hs h =>
      cases a
      · obtain ⟨h0, h1, rfl, h3⟩ := hc
        obtain ⟨u, hu1, hu2⟩ := part_one (X := X) (w := w) (o := k.toNat) hag hs h h3
        refine ⟨u, ?_, hu2, rfl⟩
        intro w; simp only [Instr.index, asIntOf, Sem.run_bind, Sem.run_pure, Result.andThen_ok, run_underlying hu, Sem.run_ite, if_pos (And.intro h0 h1), hsz, Nat.mul_one, hu1]
      · obtain ⟨h0, h1, h3⟩ := hc
        obtain ⟨u, hu1, hu2⟩ := part_agg (X := X) (w := w) (o := k.toNat * e) hsz hag hs h h3
        refine ⟨u, ?_, hu2, rfl⟩
        intro w; simp only [Instr.index, asIntOf, Sem.run_bind, Sem.run_pure, Result.andThen_ok, run_underlying hu, Sem.run_ite, if_pos (And.intro h0 h1), hsz, hu1]
end
end Go.Lift
