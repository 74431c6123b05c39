/-
  Operators.
-/
import Derived.Test.YtnnabccfagojhaaLiftJ
import Derived.Laws.Cover3
namespace Go.Lift
section
variable {P : Program} {X : Nat → Prop} {w : World} {B : List Own} {T : TypeId}

theorem eqGuard_plain {op : BinOp} {x y : Operand} {u v : Value} (h : (∀ cs, u ≠ .agg cs) ∧ u ≠ .nilIface) : (eqGuard op T x y u v).run P w = .ok () w := by
  unfold eqGuard
  cases op <;> simp <;> cases u <;> simp at h ⊢ 

theorem bin_sound {op : BinOp} {ti : TyI} {lv : List Nat} (ht : tyB P T ti = true) (hlv : lvB P T lv = true) {x y : Operand} {s t : SV} {u v : Value} (hx : Den X w s u) (hy : Den X w t v) (hc : (evBin ti lv op B s t).vc) :
    ∃ r, ((do eqGuard op T x y u v; binOp op T u v) : Sem Value).run P w = .ok r w ∧ Den X w (evBin ti lv op B s t).v r ∧ (evBin ti lv op B s t).B = B := by
  cases hx <;> try (simp only [evBin, bad] at hc; done)
  case int k a =>
    cases hy <;> try (simp only [evBin, bad] at hc; done)
    case int k' b =>
      rw [Sem.run_bind, eqGuard_plain (by simp), Result.andThen_ok]
      simp only [evBin] at hc ⊢
      cases op <;> simp only [evInt] at hc ⊢
      case add => subst hc; exact ⟨_, by simp [binOp, Op.intArith], .int .., trivial⟩
      case sub => subst hc; exact ⟨_, by simp [binOp, Op.intArith], .int .., trivial⟩
      case mul => subst hc; exact ⟨_, by simp [binOp, Op.intArith], .int .., trivial⟩
      case quo => obtain ⟨rfl, hb⟩ := hc; exact ⟨_, by simp [binOp, Op.intDiv, hb], .int .., trivial⟩
      case rem => obtain ⟨rfl, hb⟩ := hc; exact ⟨_, by simp [binOp, Op.intDiv, hb], .int .., trivial⟩
      case shl => exact ⟨_, by simp [binOp, Op.shift, Int.not_lt.2 hc], .int .., trivial⟩
      case shr => exact ⟨_, by simp [binOp, Op.shift, Int.not_lt.2 hc], .int .., trivial⟩
      case and => subst hc; exact ⟨_, by simp only [binOp, ne_eq, not_true_eq_false, if_false, Op.intBits]; rfl, .int .., trivial⟩
      case or => subst hc; exact ⟨_, by simp only [binOp, ne_eq, not_true_eq_false, if_false, Op.intBits]; rfl, .int .., trivial⟩
      case xor => subst hc; exact ⟨_, by simp only [binOp, ne_eq, not_true_eq_false, if_false, Op.intBits]; rfl, .int .., trivial⟩
      case andNot => subst hc; exact ⟨_, by simp only [binOp, ne_eq, not_true_eq_false, if_false, Op.intBits]; rfl, .int .., trivial⟩
      case eql => subst hc; exact ⟨_, by simp [binOp, Op.intCmp], .bool .., trivial⟩
      case neq => subst hc; exact ⟨_, by simp [binOp, Op.intCmp], .bool .., trivial⟩
      case lss => subst hc; exact ⟨_, by simp [binOp, Op.intCmp], .bool .., trivial⟩
      case leq => subst hc; exact ⟨_, by simp [binOp, Op.intCmp], .bool .., trivial⟩
      case gtr => subst hc; exact ⟨_, by simp [binOp, Op.intCmp], .bool .., trivial⟩
      case geq => subst hc; exact ⟨_, by simp [binOp, Op.intCmp], .bool .., trivial⟩
  case bool a =>
    cases hy <;> try (simp only [evBin, bad] at hc; done)
    case bool b =>
      rw [Sem.run_bind, eqGuard_plain (by simp), Result.andThen_ok]
      cases ti <;> try (simp only [evBin, bad] at hc; done)
      have hu := tyB_bool ht
      simp only [evBin] at hc ⊢
      cases op <;> try (simp only [bad] at hc; done)
      case eql => exact ⟨_, by simp only [binOp, Sem.run_bind, run_equal_bool w T a b hu, Result.andThen_ok, Sem.run_pure], .bool .., rfl⟩
      case neq => exact ⟨_, by simp only [binOp, Sem.run_bind, run_equal_bool w T a b hu, Result.andThen_ok, Sem.run_pure]; rfl, .bool .., rfl⟩
  case str a =>
    cases hy <;> try (simp only [evBin, bad] at hc; done)
    case str b =>
      rw [Sem.run_bind, eqGuard_plain (by simp), Result.andThen_ok]
      simp only [evBin] at hc ⊢
      cases op <;> try (simp only [bad] at hc; done)
      case eql => exact ⟨_, by simp [binOp, Op.stringOp, ByteArray.toList_eq], .bool .., rfl⟩
      case neq => exact ⟨.bool (a != b), by simp [binOp, Op.stringOp, ByteArray.toList_eq, bne], .bool .., rfl⟩
      case lss => exact ⟨_, by simp [binOp, Op.stringOp, ByteArray.toList_eq], .bool .., rfl⟩
      case leq => exact ⟨_, by simp [binOp, Op.stringOp, ByteArray.toList_eq], .bool .., rfl⟩
      case gtr => exact ⟨_, by simp only [binOp, Op.stringOp, ByteArray.toList_eq, Sem.run_pure], .bool .., rfl⟩
      case geq => exact ⟨_, by simp [binOp, Op.stringOp, ByteArray.toList_eq], .bool .., rfl⟩
      case add =>
        refine ⟨.string ⟨(a ++ b).toArray⟩, ?_, .str .., rfl⟩
        have hle : ¬ (((ByteArray.mk a.toArray).size + (ByteArray.mk b.toArray).size : Nat) : Int) > IntKind.i64.max := by
          have h1 : (ByteArray.mk a.toArray).size = a.length := by simp [ByteArray.size]
          have h2 : (ByteArray.mk b.toArray).size = b.length := by simp [ByteArray.size]
          have h3 : IntKind.i64.max = 9223372036854775807 := rfl
          rw [h1, h2, h3]; simp only at hc; omega
        simp only [binOp, Op.stringOp]
        rw [if_neg hle]
        simp only [Sem.run_pure]
        congr 2
  case agg a xs hsx hdx =>
    cases hy <;> try (simp only [evBin, bad] at hc; done)
    case agg b ys hsy hdy =>
      simp only [evBin] at hc ⊢
      cases op <;> try (simp only [bad] at hc; done)
      case eql =>
        obtain ⟨h1, h2⟩ := eqAgg_sound hlv (.agg hsx hdx) (.agg hsy hdy) hc
        exact ⟨_, by rw [Sem.run_bind, run_eqGuard_agg w .eql T x y xs ys h2, Result.andThen_ok, run_eql_struct, h1]; rfl, .bool .., rfl⟩
      case neq =>
        obtain ⟨h1, h2⟩ := eqAgg_sound hlv (.agg hsx hdx) (.agg hsy hdy) hc
        exact ⟨_, by rw [Sem.run_bind, run_eqGuard_agg w .neq T x y xs ys h2, Result.andThen_ok, run_neq_struct, h1]; rfl, .bool .., rfl⟩

theorem un_sound {op : UnOp} {s : SV} {u : Value} (hx : Den X w s u) (hc : (evUn op B s).vc) :
    ∃ r, (Op.unary op u).run P w = .ok r w ∧ Den X w (evUn op B s).v r ∧ (evUn op B s).B = B := by
  cases hx <;> try (simp only [evUn, bad] at hc; done)
  case int k n =>
    cases op <;> simp only [evUn, bad] at hc
    case neg => exact ⟨_, by simp [Op.unary, Op.intArith], .int .., rfl⟩
    case xor => exact ⟨_, by simp only [Op.unary, Op.intBits]; rfl, .int .., rfl⟩
  case bool b =>
    cases op <;> simp only [evUn, bad] at hc
    case not => exact ⟨_, by simp [Op.unary], .bool .., rfl⟩

theorem boolOf_spec {s : SV} {v : Value} {g p : Bool} (h : boolOf s = some (g, p)) (hd : Den X w s v) (hg : g = true) : v = .bool p := by
  unfold boolOf at h
  split at h
  · cases h; cases hd; rfl
  · cases h
    cases hd with
    | opt h _ => have := h hg; cases this; rfl
  · cases h

theorem pick_sound {c a b : SV} {vc va vb : Value} (hc : Den X w c vc) (ha : Den X w a va) (hb : Den X w b vb) (h : (evPick B c a b).vc) :
    ∃ r, ((do pure (.value (if ← asBool vc then va else vb)) : Sem Next)).run P w = .ok (.value r) w ∧ Den X w (evPick B c a b).v r ∧ (evPick B c a b).B = B := by
  unfold evPick at h ⊢
  split at h
  · rename_i gc p h1
    obtain ⟨hg, hp, hq⟩ := h
    have := boolOf_spec h1 hc hg
    subst this
    have arm : ∀ {s : SV} {v : Value}, Den X w s v → (armOf s).1 = true → v = .bool (armOf s).2 := by
      intro s v hd ht
      unfold armOf at ht ⊢
      split at ht
      · cases hd; rfl
      · exact boolOf_spec (s := .opt _ (.bool _)) rfl hd ht
      · cases ht
    cases p
    · have := arm hb (hq rfl)
      subst this
      exact ⟨_, by simp [asBool], .bool .., rfl⟩
    · have := arm ha (hp rfl)
      subst this
      exact ⟨_, by simp [asBool], .bool .., rfl⟩
  · exact h.elim
theorem nil_sound {E : TypeId} (hT : P.underlying T = some (.slice E)) {s : SV} {v : Value} (hd : Den X w s v) : ∃ h, ∀ b, nilOf h s = some b → (Op.equal T v (.slice none 0 0)).run P w = .ok b w ∧ ∃ a n c, v = .slice a n c := by
  cases hd
  case slNil full e f a cap hf =>
    refine ⟨bif a.isNone then .void none else .at 0 0, fun b hb => ?_⟩
    rw [run_equal_slice_nil w T E a 0 cap hT]
    simp only [nilOf, beq_self_eq_true, cond_true, Option.some.injEq] at hb
    subst hb
    refine ⟨?_, _, _, _, rfl⟩
    cases a <;> rfl
  case slAt full e n f b off cap g hn hcap hf hX hl hw h =>
    refine ⟨.void none, fun b' hb => ?_⟩
    rw [run_equal_slice_nil w T E _ n cap hT]
    have : (n == 0) = false := by simpa using Nat.pos_iff_ne_zero.1 hn
    simp only [nilOf, this, cond_false, Option.some.injEq] at hb
    subst hb
    exact ⟨rfl, _, _, _, rfl⟩
  case rowAt i b cap e n hn =>
    refine ⟨.void none, fun b' hb => ?_⟩
    rw [run_equal_slice_nil w T E _ n cap hT]
    simp only [nilOf, Option.some.injEq] at hb
    subst hb
    exact ⟨rfl, _, _, _, rfl⟩
  all_goals exact ⟨.void none, fun b hb => by simp [nilOf] at hb⟩
theorem nilP_sound {E : TypeId} (hT : P.underlying T = some (.pointer E)) {s : SV} {v : Value} (hd : Den X w s v) {b : Bool} (hb : nilPOf s = some b) :
    (Op.equal T v (.pointer none)).run P w = .ok b w ∧ ∃ a, v = .pointer a := by
  have hp : P.underlying T = some (.pointer (P.pointee T)) := by simp [Program.pointee, hT]
  cases hd with
  | xp g hX hw h => simp only [nilPOf, Option.some.injEq] at hb; subst hb; exact ⟨by rw [run_equal_pointer_nil w T _ hp]; rfl, _, rfl⟩
  | rptr i b cap esz k off => simp only [nilPOf, Option.some.injEq] at hb; subst hb; exact ⟨by rw [run_equal_pointer_nil w T _ hp]; rfl, _, rfl⟩
  | val v =>
    unfold nilPOf at hb
    split at hb <;> simp only [Option.some.injEq, reduceCtorEq] at hb
    · rename_i h1; cases h1
    · rename_i h1; cases h1
    · rename_i h1
      cases h1
      subst hb
      exact ⟨by rw [run_equal_pointer_nil w T _ hp]; rfl, _, rfl⟩
  | _ => simp [nilPOf] at hb

end
end Go.Lift
