/-
  Operators.
-/
import Derived.Test.YtellbdohhnafnaaLiftJ
namespace Go.Lift
section
variable {P : Program} {X : Nat → Prop} {w : World} {B : List Own} {T : TypeId}

theorem eqGuard_plain {op : BinOp} {x y : Operand} {u v : Value} (h : (∀ cs, u ≠ .agg cs) ∧ u ≠ .nilIface) : (eqGuard op T x y u v).run P w = .ok () w := by
  unfold eqGuard
  cases op <;> simp <;> cases u <;> simp at h ⊢ 

theorem bin_sound {op : BinOp} {ti : TyI} {lv : List Nat} (ht : tyB P T ti = true) (hlv : lvB P T lv = true) {x y : Operand} {s t : SV} {u v : Value} (hx : Den X w s u) (hy : Den X w t v) (hc : (evBin ti lv op B s t).vc) :
    ∃ r, ((do eqGuard op T x y u v; binOp op T u v) : Sem Value).run P w = .ok r w ∧ Den X w (evBin ti lv op B s t).v r ∧ (evBin ti lv op B s t).B = B := by
  cases hx <;> try (simp only [evBin, bad] at hc; done)
  case int k a =>
    cases hy <;> try (simp only [evBin, bad] at hc; done)
    case int k' b =>
      rw [Sem.run_bind, eqGuard_plain (by simp), Result.andThen_ok]
      simp only [evBin] at hc ⊢
      cases op <;> simp only [evInt] at hc ⊢
      case add => subst hc; exact ⟨_, by simp [binOp, Op.intArith], .int .., trivial⟩
      case sub => subst hc; exact ⟨_, by simp [binOp, Op.intArith], .int .., trivial⟩
      case mul => subst hc; exact ⟨_, by simp [binOp, Op.intArith], .int .., trivial⟩
      case quo => obtain ⟨rfl, hb⟩ := hc; exact ⟨_, by simp [binOp, Op.intDiv, hb], .int .., trivial⟩
      case rem => obtain ⟨rfl, hb⟩ := hc; exact ⟨_, by simp [binOp, Op.intDiv, hb], .int .., trivial⟩
      case shl => exact ⟨_, by simp [binOp, Op.shift, Int.not_lt.2 hc], .int .., trivial⟩
      case shr => exact ⟨_, by simp [binOp, Op.shift, Int.not_lt.2 hc], .int .., trivial⟩
      case and => subst hc; exact ⟨_, by simp only [binOp, ne_eq, not_true_eq_false, if_false, Op.intBits]; rfl, .int .., trivial⟩
      case or => subst hc; exact ⟨_, by simp only [binOp, ne_eq, not_true_eq_false, if_false, Op.intBits]; rfl, .int .., trivial⟩
      case xor => subst hc; exact ⟨_, by simp only [binOp, ne_eq, not_true_eq_false, if_false, Op.intBits]; rfl, .int .., trivial⟩
      case andNot => subst hc; exact ⟨_, by simp only [binOp, ne_eq, not_true_eq_false, if_false, Op.intBits]; rfl, .int .., trivial⟩
      case eql => subst hc; exact ⟨_, by simp [binOp, Op.intCmp], .bool .., trivial⟩
      case neq => subst hc; exact ⟨_, by simp [binOp, Op.intCmp], .bool .., trivial⟩
      case lss => subst hc; exact ⟨_, by simp [binOp, Op.intCmp], .bool .., trivial⟩
      case leq => subst hc; exact ⟨_, by simp [binOp, Op.intCmp], .bool .., trivial⟩
      case gtr => subst hc; exact ⟨_, by simp [binOp, Op.intCmp], .bool .., trivial⟩
      case geq => subst hc; exact ⟨_, by simp [binOp, Op.intCmp], .bool .., trivial⟩
  case bool a =>
    cases hy <;> try (simp only [evBin, bad] at hc; done)
    case bool b =>
      rw [Sem.run_bind, eqGuard_plain (by simp), Result.andThen_ok]
      cases ti <;> try (simp only [evBin, bad] at hc; done)
      have hu := tyB_bool ht
      simp only [evBin] at hc ⊢
      cases op <;> try (simp only [bad] at hc; done)
      case eql => exact ⟨_, by simp only [binOp, Sem.run_bind, run_equal_bool w T a b hu, Result.andThen_ok, Sem.run_pure], .bool .., rfl⟩
      case neq => exact ⟨_, by simp only [binOp, Sem.run_bind, run_equal_bool w T a b hu, Result.andThen_ok, Sem.run_pure]; rfl, .bool .., rfl⟩
  case str a =>
    cases hy <;> try (simp only [evBin, bad] at hc; done)
    case str b =>
      rw [Sem.run_bind, eqGuard_plain (by simp), Result.andThen_ok]
      simp only [evBin] at hc ⊢
      cases op <;> try (simp only [bad] at hc; done)
      case eql => exact ⟨_, by simp [binOp, Op.stringOp, ByteArray.toList_eq], .bool .., rfl⟩
      case neq => exact ⟨.bool (a != b), by simp [binOp, Op.stringOp, ByteArray.toList_eq, bne], .bool .., rfl⟩
      case add =>
        refine ⟨.string ⟨(a ++ b).toArray⟩, ?_, .str .., rfl⟩
        have hle : ¬ (((ByteArray.mk a.toArray).size + (ByteArray.mk b.toArray).size : Nat) : Int) > IntKind.i64.max := by
          have h1 : (ByteArray.mk a.toArray).size = a.length := by simp [ByteArray.size]
          have h2 : (ByteArray.mk b.toArray).size = b.length := by simp [ByteArray.size]
          have h3 : IntKind.i64.max = 9223372036854775807 := rfl
          rw [h1, h2, h3]; simp only at hc; omega
        simp only [binOp, Op.stringOp]
        rw [if_neg hle]
        simp only [Sem.run_pure]
        congr 2
  case agg a xs hsx hdx =>
    cases hy <;> try (simp only [evBin, bad] at hc; done)
    case agg b ys hsy hdy =>
      simp only [evBin] at hc ⊢
      cases op <;> try (simp only [bad] at hc; done)
      case eql =>
        obtain ⟨h1, h2⟩ := eqAgg_sound hlv (.agg hsx hdx) (.agg hsy hdy) hc
        exact ⟨_, by rw [Sem.run_bind, run_eqGuard_agg w .eql T x y xs ys h2, Result.andThen_ok, run_eql_struct, h1]; rfl, .bool .., rfl⟩
      case neq =>
        obtain ⟨h1, h2⟩ := eqAgg_sound hlv (.agg hsx hdx) (.agg hsy hdy) hc
        exact ⟨_, by rw [Sem.run_bind, run_eqGuard_agg w .neq T x y xs ys h2, Result.andThen_ok, run_neq_struct, h1]; rfl, .bool .., rfl⟩

theorem un_sound {op : UnOp} {s : SV} {u : Value} (hx : Den X w s u) (hc : (evUn op B s).vc) :
    ∃ r, (Op.unary op u).run P w = .ok r w ∧ Den X w (evUn op B s).v r ∧ (evUn op B s).B = B := by
  cases hx <;> try (simp only [evUn, bad] at hc; done)
  case int k n =>
    cases op <;> simp only [evUn, bad] at hc
    case neg => exact ⟨_, by simp [Op.unary, Op.intArith], .int .., rfl⟩
    case xor => exact ⟨_, by simp only [Op.unary, Op.intBits]; rfl, .int .., rfl⟩
  case bool b =>
    cases op <;> simp only [evUn, bad] at hc
    case not => exact ⟨_, by simp [Op.unary], .bool .., rfl⟩

theorem boolOf_spec {s : SV} {v : Value} {g p : Bool} (h : boolOf s = some (g, p)) (hd : Den X w s v) (hg : g = true) : v = .bool p := by
  unfold boolOf at h
  split at h
  · cases h; cases hd; rfl
  · cases h
    cases hd with
    | opt h _ => have := h hg; cases this; rfl
  · cases h

theorem pick_sound {c a b : SV} {vc va vb : Value} (hc : Den X w c vc) (ha : Den X w a va) (hb : Den X w b vb) (h : (evPick B c a b).vc) :
    ∃ r, ((do pure (.value (if ← asBool vc then va else vb)) : Sem Next)).run P w = .ok (.value r) w ∧ Den X w (evPick B c a b).v r ∧ (evPick B c a b).B = B := by
  unfold evPick at h ⊢
  split at h
  · rename_i gc p ga q gb r h1 h2 h3
    obtain ⟨hg, hp, hq⟩ := h
    have := boolOf_spec h1 hc hg
    subst this
    cases p
    · have := boolOf_spec h3 hb (hq rfl)
      subst this
      exact ⟨_, by simp [asBool], .bool .., rfl⟩
    · have := boolOf_spec h2 ha (hp rfl)
      subst this
      exact ⟨_, by simp [asBool], .bool .., rfl⟩
  · exact h.elim
end
end Go.Lift
