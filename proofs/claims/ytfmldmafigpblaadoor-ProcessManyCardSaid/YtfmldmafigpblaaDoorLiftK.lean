/-
  Operators.
-/
import Derived.Test.YtfmldmafigpblaaDoorLiftJ
import Derived.Laws.Cover3
namespace Go.Lift
section
variable {P : Program} {X : Nat → Prop} {w : World} {B : List Own} {T : TypeId}

theorem eqGuard_plain {op : BinOp} {x y : Operand} {u v : Value} (h : (∀ cs, u ≠ .agg cs) ∧ u ≠ .nilIface) : (eqGuard op T x y u v).run P w = .ok () w := by
  unfold eqGuard
  cases op <;> simp <;> cases u <;> simp at h ⊢ 

theorem bin_sound {op : BinOp} {ti : TyI} {lv : List Nat} (ht : tyB P T ti = true) (hlv : lvB P T lv = true) {x y : Operand} {s t : SV} {u v : Value} (hx : Den X w s u) (hy : Den X w t v) (hc : (evBin ti lv op B s t).vc) :
    ∃ r, ((do eqGuard op T x y u v; binOp op T u v) : Sem Value).run P w = .ok r w ∧ Den X w (evBin ti lv op B s t).v r ∧ (evBin ti lv op B s t).B = B := by
  cases hx <;> try (simp only [evBin, bad] at hc; done)
  case int k a =>
    cases hy <;> try (simp only [evBin, bad] at hc; done)
    case int k' b =>
      rw [Sem.run_bind, eqGuard_plain (by simp), Result.andThen_ok]
      simp only [evBin] at hc ⊢
      cases op <;> simp only [evInt] at hc ⊢
      case add => subst hc; exact ⟨_, by simp [binOp, Op.intArith], .int .., trivial⟩
      case sub => subst hc; exact ⟨_, by simp [binOp, Op.intArith], .int .., trivial⟩
      case mul => subst hc; exact ⟨_, by simp [binOp, Op.intArith], .int .., trivial⟩
      case quo => obtain ⟨rfl, hb⟩ := hc; exact ⟨_, by simp [binOp, Op.intDiv, hb], .int .., trivial⟩
      case rem => obtain ⟨rfl, hb⟩ := hc; exact ⟨_, by simp [binOp, Op.intDiv, hb], .int .., trivial⟩
      case shl => exact ⟨_, by simp [binOp, Op.shift, Int.not_lt.2 hc], .int .., trivial⟩
      case shr => exact ⟨_, by simp [binOp, Op.shift, Int.not_lt.2 hc], .int .., trivial⟩
      case and => subst hc; exact ⟨_, by simp only [binOp, ne_eq, not_true_eq_false, if_false, Op.intBits]; rfl, .int .., trivial⟩
      case or => subst hc; exact ⟨_, by simp only [binOp, ne_eq, not_true_eq_false, if_false, Op.intBits]; rfl, .int .., trivial⟩
      case xor => subst hc; exact ⟨_, by simp only [binOp, ne_eq, not_true_eq_false, if_false, Op.intBits]; rfl, .int .., trivial⟩
      case andNot => subst hc; exact ⟨_, by simp only [binOp, ne_eq, not_true_eq_false, if_false, Op.intBits]; rfl, .int .., trivial⟩
      case eql => subst hc; exact ⟨_, by simp [binOp, Op.intCmp], .bool .., trivial⟩
      case neq => subst hc; exact ⟨_, by simp [binOp, Op.intCmp], .bool .., trivial⟩
      case lss => subst hc; exact ⟨_, by simp [binOp, Op.intCmp], .bool .., trivial⟩
      case leq => subst hc; exact ⟨_, by simp [binOp, Op.intCmp], .bool .., trivial⟩
      case gtr => subst hc; exact ⟨_, by simp [binOp, Op.intCmp], .bool .., trivial⟩
      case geq => subst hc; exact ⟨_, by simp [binOp, Op.intCmp], .bool .., trivial⟩
  case bool a =>
    cases hy <;> try (simp only [evBin, bad] at hc; done)
    case bool b =>
      rw [Sem.run_bind, eqGuard_plain (by simp), Result.andThen_ok]
      cases ti <;> try (simp only [evBin, bad] at hc; done)
      have hu := tyB_bool ht
      simp only [evBin] at hc ⊢
      cases op <;> try (simp only [bad] at hc; done)
      case eql => exact ⟨_, by simp only [binOp, Sem.run_bind, run_equal_bool w T a b hu, Result.andThen_ok, Sem.run_pure], .bool .., rfl⟩
      case neq => exact ⟨_, by simp only [binOp, Sem.run_bind, run_equal_bool w T a b hu, Result.andThen_ok, Sem.run_pure]; rfl, .bool .., rfl⟩
  case str a =>
    cases hy <;> try (simp only [evBin, bad] at hc; done)
    case str b =>
      rw [Sem.run_bind, eqGuard_plain (by simp), Result.andThen_ok]
      simp only [evBin] at hc ⊢
      cases op <;> try (simp only [bad] at hc; done)
      case eql => exact ⟨_, by simp [binOp, Op.stringOp, ByteArray.toList_eq], .bool .., rfl⟩
      case neq => exact ⟨.bool (a != b), by simp [binOp, Op.stringOp, ByteArray.toList_eq, bne], .bool .., rfl⟩
      case lss => exact ⟨_, by simp [binOp, Op.stringOp, ByteArray.toList_eq], .bool .., rfl⟩
      case leq => exact ⟨_, by simp [binOp, Op.stringOp, ByteArray.toList_eq], .bool .., rfl⟩
      case gtr => exact ⟨_, by simp only [binOp, Op.stringOp, ByteArray.toList_eq, Sem.run_pure], .bool .., rfl⟩
      case geq => exact ⟨_, by simp [binOp, Op.stringOp, ByteArray.toList_eq], .bool .., rfl⟩
      case add =>
        refine ⟨.string ⟨(a ++ b).toArray⟩, ?_, .str .., rfl⟩
        have hle : ¬ (((ByteArray.mk a.toArray).size + (ByteArray.mk b.toArray).size : Nat) : Int) > IntKind.i64.max := by
          have h1 : (ByteArray.mk a.toArray).size = a.length := by simp [ByteArray.size]
          have h2 : (ByteArray.mk b.toArray).size = b.length := by simp [ByteArray.size]
          have h3 : IntKind.i64.max = 9223372036854775807 := rfl
          rw [h1, h2, h3]; simp only at hc; omega
        simp only [binOp, Op.stringOp]
        rw [if_neg hle]
        simp only [Sem.run_pure]
        congr 2
  case agg a xs hsx hdx =>
    cases hy <;> try (simp only [evBin, bad] at hc; done)
    case agg b ys hsy hdy =>
      simp only [evBin] at hc ⊢
      cases op <;> try (simp only [bad] at hc; done)
      case eql =>
        obtain ⟨h1, h2⟩ := eqAgg_sound hlv (.agg hsx hdx) (.agg hsy hdy) hc
        exact ⟨_, by rw [Sem.run_bind, run_eqGuard_agg w .eql T x y xs ys h2, Result.andThen_ok, run_eql_struct, h1]; rfl, .bool .., rfl⟩
      case neq =>
        obtain ⟨h1, h2⟩ := eqAgg_sound hlv (.agg hsx hdx) (.agg hsy hdy) hc
        exact ⟨_, by rw [Sem.run_bind, run_eqGuard_agg w .neq T x y xs ys h2, Result.andThen_ok, run_neq_struct, h1]; rfl, .bool .., rfl⟩

theorem un_sound {op : UnOp} {s : SV} {u : Value} (hx : Den X w s u) (hc : (evUn op B s).vc) :
    ∃ r, (Op.unary op u).run P w = .ok r w ∧ Den X w (evUn op B s).v r ∧ (evUn op B s).B = B := by
  cases hx <;> try (simp only [evUn, bad] at hc; done)
  case int k n =>
    cases op <;> simp only [evUn, bad] at hc
    case neg => exact ⟨_, by simp [Op.unary, Op.intArith], .int .., rfl⟩
    case xor => exact ⟨_, by simp only [Op.unary, Op.intBits]; rfl, .int .., rfl⟩
  case bool b =>
    cases op <;> simp only [evUn, bad] at hc
    case not => exact ⟨_, by simp [Op.unary], .bool .., rfl⟩

theorem boolOf_spec {s : SV} {v : Value} {g p : Bool} (h : boolOf s = some (g, p)) (hd : Den X w s v) (hg : g = true) : v = .bool p := by
  unfold boolOf at h
  split at h
  · cases h; cases hd; rfl
  · cases h
    cases hd with
    | opt h _ => have := h hg; cases this; rfl
  · cases h

theorem pick_sound {c a b : SV} {vc va vb : Value} (hc : Den X w c vc) (ha : Den X w a va) (hb : Den X w b vb) (h : (evPick B c a b).vc) :
    ∃ r, ((do pure (.value (if ← asBool vc then va else vb)) : Sem Next)).run P w = .ok (.value r) w ∧ Den X w (evPick B c a b).v r ∧ (evPick B c a b).B = B := by
  unfold evPick at h ⊢
  split at h
  · rename_i gc p h1
    obtain ⟨hg, hp, hq⟩ := h
    have := boolOf_spec h1 hc hg
    subst this
    have arm : ∀ {s : SV} {v : Value}, Den X w s v → (armOf s).1 = true → v = .bool (armOf s).2 := by
      intro s v hd ht
      unfold armOf at ht ⊢
      split at ht
      · cases hd; rfl
      · exact boolOf_spec (s := .opt _ (.bool _)) rfl hd ht
      · cases ht
    cases p
    · have := arm hb (hq rfl)
      subst this
      exact ⟨_, by simp [asBool], .bool .., rfl⟩
    · have := arm ha (hp rfl)
      subst this
      exact ⟨_, by simp [asBool], .bool .., rfl⟩
  · exact h.elim
theorem nil_sound {E : TypeId} (hT : P.underlying T = some (.slice E)) {s : SV} {v : Value} (hd : Den X w s v) : ∃ h, ∀ b, nilOf h s = some b → (Op.equal T v (.slice none 0 0)).run P w = .ok b w ∧ ∃ a n c, v = .slice a n c := by
  cases hd
  case slNil full e f a cap hf =>
    refine ⟨bif a.isNone then .void none else .at 0 0, fun b hb => ?_⟩
    rw [run_equal_slice_nil w T E a 0 cap hT]
    simp only [nilOf, beq_self_eq_true, cond_true, Option.some.injEq] at hb
    subst hb
    refine ⟨?_, _, _, _, rfl⟩
    cases a <;> rfl
  case slAt full e n f b off cap g hn hcap hf hX hl hw h =>
    refine ⟨.void none, fun b' hb => ?_⟩
    rw [run_equal_slice_nil w T E _ n cap hT]
    have : (n == 0) = false := by simpa using Nat.pos_iff_ne_zero.1 hn
    simp only [nilOf, this, cond_false, Option.some.injEq] at hb
    subst hb
    exact ⟨rfl, _, _, _, rfl⟩
  case rowAt i b cap e n hn =>
    refine ⟨.void none, fun b' hb => ?_⟩
    rw [run_equal_slice_nil w T E _ n cap hT]
    simp only [nilOf, Option.some.injEq] at hb
    subst hb
    exact ⟨rfl, _, _, _, rfl⟩
  all_goals exact ⟨.void none, fun b hb => by simp [nilOf] at hb⟩
theorem nilP_sound {E : TypeId} (hT : P.underlying T = some (.pointer E)) {s : SV} {v : Value} (hd : Den X w s v) {b : Bool} (hb : nilPOf s = some b) :
    (Op.equal T v (.pointer none)).run P w = .ok b w ∧ ∃ a, v = .pointer a := by
  have hp : P.underlying T = some (.pointer (P.pointee T)) := by simp [Program.pointee, hT]
  cases hd with
  | xp g hX hw h => simp only [nilPOf, Option.some.injEq] at hb; subst hb; exact ⟨by rw [run_equal_pointer_nil w T _ hp]; rfl, _, rfl⟩
  | rptr i b cap esz k off => simp only [nilPOf, Option.some.injEq] at hb; subst hb; exact ⟨by rw [run_equal_pointer_nil w T _ hp]; rfl, _, rfl⟩
  | val v =>
    unfold nilPOf at hb
    split at hb <;> simp only [Option.some.injEq, reduceCtorEq] at hb
    · rename_i h1; cases h1
    · rename_i h1; cases h1
    · rename_i h1
      cases h1
      subst hb
      exact ⟨by rw [run_equal_pointer_nil w T _ hp]; rfl, _, rfl⟩
  | _ => simp [nilPOf] at hb

end
/-! ### Maps -/
section
open Go.MapKept (IsKey)
variable {P : Program} {X : Nat → Prop} {w : World} {B : List Own} {T : TypeId} {ti : TyI} {k1 k2 : IntKind}
theorem tyB_map (h : tyB P T (.mapI k1 k2) = true) : ∃ A F, P.underlying T = some (.map A F) ∧ P.underlying A = some (.int k1) ∧ ∀ w, (zeroValue F).run P w = .ok (.int k2 0) w := by
  simp only [tyB, Bool.and_eq_true] at h
  replace h := h.2
  split at h
  · rename_i A F hu
    rw [Bool.and_eq_true] at h
    obtain ⟨h1, h2⟩ := h
    refine ⟨A, F, hu, ?_, fun w => ?_⟩
    · split at h1
      · rename_i k hk
        rw [beq_iff_eq] at h1
        rw [hk, h1]
      · cases h1
    · split at h2
      · rename_i i hi
        split at h2
        · rename_i k n hz
          simp only [Bool.and_eq_true, beq_iff_eq] at h2
          obtain ⟨rfl, rfl⟩ := h2
          simp [zeroValue, typeInfo, hi, hz]
        · cases h2
      · cases h2
  · cases h
theorem entX_keys : ∀ {l : List MapEntry} {es : List (Int × Int)}, entX l (es.map (mC k1 k2)) → ∀ x ∈ l, IsKey (.int k1) x.key
  | [], _, _, x, hx => by cases hx
  | e :: l, [], h, x, hx => h.elim
  | e :: l, y :: es, h, x, hx => by
    obtain ⟨⟨j1, j2, a, v, h1, h2, h3⟩, h4⟩ := h
    rcases List.mem_cons.1 hx with rfl | hx
    · rw [h1]
      simp only [mC, List.cons.injEq, SV.int.injEq, and_true] at h3
      exact h3.1.1.symm
    · exact entX_keys h4 x hx
theorem ent_find (a : Int) : ∀ {l : List MapEntry} {es : List (Int × Int)}, entX l (es.map (mC k1 k2)) → ∀ i,
    (Instr.findNow (.int k1) (.int k1 a) l i = some none ∧ aget a es = none ∧ ∀ v b, entX (l ++ [{ key := .int k1 a, val := .int k2 v, born := b }]) ((aput a v es).map (mC k1 k2))) ∨
    ∃ j u, Instr.findNow (.int k1) (.int k1 a) l i = some (some (i + j, .int k2 u)) ∧ aget a es = some u ∧ (l[j]?.map (·.key)) = some (.int k1 a) ∧
      ∀ v, entX (l.modify j fun e => { e with key := .int k1 a, val := .int k2 v }) ((aput a v es).map (mC k1 k2))
  | [], [], _, i => .inl ⟨rfl, rfl, fun v b => ⟨⟨k1, k2, a, v, rfl, rfl, rfl⟩, trivial⟩⟩
  | [], _ :: _, h, _ => h.elim
  | e :: l, [], h, i => h.elim
  | e :: l, y :: es, h, i => by
    obtain ⟨⟨j1, j2, c, u, h1, h2, h3⟩, h4⟩ := h
    simp only [mC, List.cons.injEq, SV.int.injEq, and_true] at h3
    obtain ⟨⟨rfl, rfl⟩, rfl, rfl⟩ := h3
    obtain ⟨c, u⟩ := y
    have hs : Instr.sameNow (.int k1) (.int k1 a) e.key = some (a == c) := by rw [h1]; simp [Instr.sameNow]
    by_cases hac : c = a
    · subst hac
      refine .inr ⟨0, u, ?_, ?_, ?_, fun v => ?_⟩
      · simp [Instr.findNow, hs, h2]
      · simp [aget]
      · simp [h1]
      · simp only [aput, if_true, List.map_cons, List.modify_zero_cons]
        exact ⟨⟨k1, k2, c, v, rfl, rfl, rfl⟩, h4⟩
    · have hf : (a == c) = false := by simpa using fun e => hac e.symm
      rw [hf] at hs
      have hg : aget a ((c, u) :: es) = aget a es := by simp [aget, hac]
      have hp : ∀ v, aput a v ((c, u) :: es) = (c, u) :: aput a v es := fun v => by simp [aput, hac]
      rcases ent_find a h4 (i + 1) with ⟨g1, g2, g3⟩ | ⟨j, u', g1, g2, g3, g4⟩
      · refine .inl ⟨by simp [Instr.findNow, hs, g1], by rw [hg, g2], fun v b => ?_⟩
        rw [hp, List.map_cons, List.cons_append]
        exact ⟨⟨k1, k2, c, u, h1, h2, rfl⟩, g3 v b⟩
      · refine .inr ⟨j + 1, u', by simp [Instr.findNow, hs, g1]; omega, by rw [hg, g2], by simpa using g3, fun v => ?_⟩
        rw [hp, List.map_cons, List.modify_succ_cons]
        exact ⟨⟨k1, k2, c, u, h1, h2, rfl⟩, g4 v⟩
variable {A F : TypeId} {b clock : Nat} {arr : Array MapEntry} {es : List (Int × Int)}
theorem lookup_run (hu : P.underlying T = some (.map A F)) (hA : P.underlying A = some (.int k1)) (hz : ∀ w, (zeroValue F).run P w = .ok (.int k2 0) w) (hb : w.heap[b]? = some (.map arr clock)) (he : entX arr.toList (es.map (mC k1 k2))) (a : Int) (ok : Bool) :
    (Instr.lookup T (.map (some b)) (.int k1 a) ok).run P w = .ok (if ok = true then .tuple #[.int k2 ((aget a es).getD 0), .bool (aget a es).isSome] else .int k2 ((aget a es).getD 0)) w := by
  have hk : IsKey (.int k1) (.int k1 a) := rfl
  rcases ent_find a he 0 with ⟨g1, g2, _⟩ | ⟨j, u, g1, g2, _, _⟩
  · simp only [Instr.lookup, Sem.run_bind, run_underlying hu, Result.andThen_ok, Go.MapKept.run_getObj_map hb, Sem.run_pure, Go.MapKept.run_checkKey hA hk, Go.MapKept.run_findKey hA g1, hz, g2]
    cases ok <;> rfl
  · simp only [Instr.lookup, Sem.run_bind, run_underlying hu, Result.andThen_ok, Go.MapKept.run_getObj_map hb, Sem.run_pure, Go.MapKept.run_checkKey hA hk, Go.MapKept.run_findKey hA g1, g2]
    cases ok <;> rfl
theorem update_run (hu : P.underlying T = some (.map A F)) (hA : P.underlying A = some (.int k1)) (hb : w.heap[b]? = some (.map arr clock)) (he : entX arr.toList (es.map (mC k1 k2))) (a v : Int) :
    ∃ arr' clock', (Instr.mapUpdate T (.map (some b)) (.int k1 a) (.int k2 v)).run P w = .ok () { w with heap := w.heap.setIfInBounds b (.map arr' clock') } ∧ entX arr'.toList ((aput a v es).map (mC k1 k2)) := by
  have hk : IsKey (.int k1) (.int k1 a) := rfl
  rcases ent_find a he 0 with ⟨g1, _, g3⟩ | ⟨j, u, g1, _, g3, g4⟩
  · refine ⟨arr.push { key := .int k1 a, val := .int k2 v, born := clock }, clock + 1, ?_, by simpa using g3 v clock⟩
    simp only [Instr.mapUpdate, Sem.run_bind, run_underlying hu, Result.andThen_ok, Go.MapKept.run_getObj_map hb, Go.MapKept.run_checkKey hA hk, Go.MapKept.run_findKey hA g1, Go.MapKept.run_setObj_map _ hb]
  · have hj : arr[j]?.map (·.key) = some (.int k1 a) := by simpa using g3
    refine ⟨arr.modify j fun e => { e with key := .int k1 a, val := .int k2 v }, clock, ?_, by simpa using g4 v⟩
    simp only [Instr.mapUpdate, Sem.run_bind, run_underlying hu, Result.andThen_ok, Go.MapKept.run_getObj_map hb, Go.MapKept.run_checkKey hA hk, Go.MapKept.run_findKey hA g1, hj, Option.getD_some, Go.MapKept.run_keyThatStays hk, Go.MapKept.run_setObj_map _ hb, Nat.zero_add]
theorem Sat.mrow (hs : Sat X w B) {i E esz xs} (hg : getD' B i = .row (.mp b) E esz xs) : ∃ arr clock, w.heap[b]? = some (.map arr clock) ∧ entX arr.toList xs := by
  have := hs.ok i
  rw [hg] at this
  exact this
theorem makeMap_sound (hs : Sat X w B) {h : RowH} (hc : (evMakeMap ti h T B).vc) : ∃ h' u w', (Instr.makeMap T none).run P w = .ok u w' ∧
    Sat X w' (evMakeMap ti h' T B).B ∧ Den X w' (evMakeMap ti h' T B).v u ∧ Ext X w B X w' (evMakeMap ti h' T B).B := by
  cases ti <;> try (simp only [evMakeMap, bad] at hc; done)
  case mapI k1 k2 =>
    have hh := Go.MapKept.heap_alloc w (.map #[] 0)
    have hsz : (w.alloc (.map #[] 0)).heap.size = w.heap.size + 1 := Array.size_push _
    refine ⟨.mp w.heap.size, .map (some w.heap.size), w.alloc (.map #[] 0), rfl, ?_, .om .., ?_⟩
    · exact hs.push (by omega) (fun c hc => hh.2 c hc) (fun c hc => by simp [Own.blocks] at hc; subst hc; omega) ⟨_, _, hh.1, trivial⟩
    · exact Ext.push rfl rfl rfl (by omega) (fun c hc => hh.2 c hc) (fun c hc => by simp [Own.blocks] at hc; subst hc; omega)
theorem insert_sound (ht : tyB P T ti = true) (hs : Sat X w B) {m k x : SV} {vm vk vx : Value} (hm : Den X w m vm) (hk : Den X w k vk) (hx : Den X w x vx) (hc : (evInsert ti B m k x).vc) :
    ∃ w', (Instr.mapUpdate T vm vk vx).run P w = .ok () w' ∧ Sat X w' (evInsert ti B m k x).B ∧ Ext X w B X w' (evInsert ti B m k x).B ∧ (evInsert ti B m k x).v = .any := by
  cases ti <;> try (simp only [evInsert, bad] at hc; done)
  case mapI k1 k2 =>
    obtain ⟨A, F, hu, hA, hz⟩ := tyB_map ht
    cases hm <;> try (simp only [evInsert, bad] at hc; done)
    case om i b j1 j2 =>
      cases hk <;> try (simp only [evInsert, bad] at hc; done)
      case int c1 a =>
        cases hx <;> try (simp only [evInsert, bad] at hc; done)
        case int c2 v =>
          cases hg : getD' B i with
          | gone => simp [evInsert, hg, bad] at hc
          | row h' E e xs =>
            simp only [evInsert, hg] at hc ⊢
            obtain ⟨rfl, rfl, rfl, rfl, rfl, hxs⟩ := hc
            obtain ⟨arr, clock, hb, he⟩ := hs.mrow hg
            rw [hxs] at he
            obtain ⟨arr', clock', hr, he'⟩ := update_run hu hA hb he a v
            have hset := MapKept.heap_set (o' := .map arr' clock') hb
            have hblk : ∀ c, c < w.heap.size → c ∉ (getD' B i).blocks → (w.heap.setIfInBounds b (.map arr' clock'))[c]? = w.heap[c]? := fun c _ hcn => hset.2 c (by rw [hg] at hcn; simpa [Own.blocks] using hcn)
            exact ⟨_, hr, hs.replace (getD'_lt hg) (by simp) hblk (fun c hc => .inl (by rw [hg]; simpa [Own.blocks] using hc)) ⟨arr', clock', hset.1, he'⟩, Ext.replace (getD'_lt hg) rfl rfl rfl (by simp) hblk (fun c hc => .inl (by rw [hg]; simpa [Own.blocks] using hc)), trivial⟩
theorem lkO_den {r : Option Int} {ok : Bool} {c : Prop} : Den X w (lkO k2 B r ok c).v (if ok = true then .tuple #[.int k2 (r.getD 0), .bool r.isSome] else .int k2 (r.getD 0)) := by
  cases ok with
  | false => exact .int ..
  | true =>
    refine .tup rfl fun i s hs => ?_
    match i with
    | 0 => simp at hs; subst hs; exact .int ..
    | 1 => simp at hs; subst hs; exact .bool ..
    | i + 2 => simp at hs
theorem lookup_sound (ht : tyB P T ti = true) (hs : Sat X w B) {m k : SV} {vm vk : Value} {ok : Bool} (hm : Den X w m vm) (hk : Den X w k vk) (hc : (evLookup ti B m k ok).vc) :
    ∃ u, (∀ w', (∀ b, (X b ∨ owns B b) → w'.heap[b]? = w.heap[b]?) → (Instr.lookup T vm vk ok).run P w' = .ok u w') ∧ Den X w (evLookup ti B m k ok).v u ∧ (evLookup ti B m k ok).B = B := by
  cases ti <;> try (simp only [evLookup, bad] at hc; done)
  case mapI k1 k2 =>
    obtain ⟨A, F, hu, hA, hz⟩ := tyB_map ht
    have hB : ∀ {r : Option Int} {c : Prop}, (lkO k2 B r ok c).B = B ∧ ((lkO k2 B r ok c).vc → c) := by intro r c; cases ok <;> exact ⟨rfl, id⟩
    cases hk <;> try (simp only [evLookup, bad] at hc; done)
    case int c1 a =>
      cases hm <;> try (simp only [evLookup, bad] at hc; done)
      case xm j1 j2 es b clock arr hX hw he =>
        simp only [evLookup] at hc ⊢
        obtain ⟨rfl, rfl, rfl⟩ := hB.2 hc
        exact ⟨_, fun w' h' => lookup_run hu hA hz (by rw [h' _ (.inl hX)]; exact hw) he a ok, lkO_den, hB.1⟩
      case om i b j1 j2 =>
        cases hg : getD' B i with
        | gone => simp [evLookup, hg, bad] at hc
        | row h' E e xs =>
          simp only [evLookup, hg] at hc ⊢
          obtain ⟨rfl, rfl, rfl, rfl, hxs⟩ := hB.2 hc
          obtain ⟨arr, clock, hb, he⟩ := hs.mrow hg
          rw [hxs] at he
          exact ⟨_, fun w' h' => lookup_run hu hA hz (by rw [h' _ (.inr ⟨i, by rw [hg]; simp [Own.blocks]⟩)]; exact hb) he a ok, lkO_den, hB.1⟩
end
end Go.Lift
