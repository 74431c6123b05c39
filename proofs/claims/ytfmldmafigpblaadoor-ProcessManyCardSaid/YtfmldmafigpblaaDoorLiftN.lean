/-
  Regions and calls are sound.
-/
import Derived.Test.YtfmldmafigpblaaDoorLiftM
namespace Go.Lift
section
variable {P : Program} {E : Env} {n : Nat} {all : List Oper}

theorem run_congr {fr fr' : Nat → RowH} : ∀ (l : List Oper) (k : Nat) (t : Slots) (B : List Own), (∀ i, k ≤ i → fr i = fr' i) → run E n all fr k l t B = run E n all fr' k l t B
  | [], _, _, _, _ => rfl
  | o :: r, k, t, B, h => by
    have hk := h k (Nat.le_refl _)
    have ih := fun t B => run_congr r (k + 1) t B fun i hi => h i (by omega)
    simp only [run]
    rw [hk]
    split
    · split
      · rfl
      · simp only [ih]
    · split
      · split
        · rfl
        · split
          · simp only [ih]
          · rfl
      · rfl

theorem guardOf_spec {X : Nat → Prop} {w : World} {t : Slots} {tmps : Array Value} {j : Nat} {want c : Bool} (h : guardOf all t j want = some c) (hd : DenT X w t n tmps) (o : Oper) (hg : o.guard = some (j, want)) :
    Region.wanted o (yielded all.toArray tmps) = c := by
  simp only [Region.wanted, hg]
  unfold guardOf at h
  cases ho : all[j]? with
  | none => simp [ho] at h
  | some oj =>
    simp only [ho] at h
    cases hdst : oj.dst with
    | none => simp [hdst] at h
    | some d =>
      simp only [hdst] at h
      have hy : yielded all.toArray tmps j = match tmps[d]? with | some (.bool b) => some b | _ => none := by
        simp only [yielded, List.getElem?_toArray, ho, Option.bind_some, hdst]
        rfl
      have hden := hd.2 d
      rw [hy]
      have hget : tmps.getD d undef = (tmps[d]?).getD undef := by simp
      split at h
      · rename_i b hl
        simp only [Option.some.injEq] at h
        subst h
        rw [hl] at hden
        cases hv : tmps[d]? with
        | none => rw [hget, hv] at hden; simp [undef] at hden; cases hden
        | some v => rw [hget, hv] at hden; simp at hden; cases hden; cases b <;> cases want <;> rfl
      · rename_i c b hl
        simp only [Option.some.injEq] at h
        subst h
        rw [hl] at hden
        cases hden with
        | opt h1 h2 =>
          cases c
          · have := h2 rfl
            cases hv : tmps[d]? with
            | none => simp
            | some v => rw [hget, hv] at this; simp at this; subst this; simp [undef]
          · have := h1 rfl
            cases hv : tmps[d]? with
            | none => rw [hget, hv] at this; simp [undef] at this; cases this
            | some v => rw [hget, hv] at this; simp at this; cases this; cases b <;> cases want <;> rfl
      · cases h

theorem den_evS_false {X : Nat → Prop} {w : World} {t : Slots} {a : Act} (hx : XG X w) (hd : DenT X w t n a.tmps) (x : Operand) : Den X w (evS false t x) (a.eval x) := den_ev hx hd x
theorem den_strip {X : Nat → Prop} {w : World} {s : SV} {v : Value} (h : Den X w s v) (hc : s.cond = true) : Den X w s.strip v := by
  by_cases ho : ∃ c s', s = .opt c s'
  · obtain ⟨c, s', rfl⟩ := ho
    cases h with
    | opt h1 _ => exact h1 hc
  · have : s.strip = s := by cases s <;> first | rfl | exact absurd ⟨_, _, rfl⟩ ho
    rw [this]; exact h
theorem condsOk_mem {t : Slots} : ∀ {l : List Operand}, condsOk t l → ∀ i, Operand.tmp i ∈ l → (lkp t i).cond = true
  | [], _, i, h => by simp at h
  | .tmp j :: l, h, i, hm => by
    simp only [condsOk] at h
    rcases List.mem_cons.1 hm with e | e
    · cases e; exact h.1
    · exact condsOk_mem h.2 i e
  | .const _ :: l, h, i, hm => by
    rcases List.mem_cons.1 hm with e | e
    · cases e
    · exact condsOk_mem (l := l) h i e
  | .global _ :: l, h, i, hm => by
    rcases List.mem_cons.1 hm with e | e
    · cases e
    · exact condsOk_mem (l := l) h i e
  | .func _ :: l, h, i, hm => by
    rcases List.mem_cons.1 hm with e | e
    · cases e
    · exact condsOk_mem (l := l) h i e
theorem ofCell_cond (v : Value) : (SV.ofCell v).cond = true := by unfold SV.ofCell; split <;> rfl
theorem den_evS_true {X : Nat → Prop} {w : World} {t : Slots} {a : Act} (hg : XG X w) (hd : DenT X w t n a.tmps) {l : List Operand} (hc : condsOk t l) (x : Operand) (hx : x ∈ l) : Den X w (evS true t x) (a.eval x) := by
  refine den_strip (den_ev hg hd x) ?_
  cases x with
  | tmp i => exact condsOk_mem hc i hx
  | const v =>
    simp only [ev, SV.ofVal]
    split
    · rfl
    · exact ofCell_cond _
  | func f => rfl
  | global g => show (match GV g with | [] => SV.any | cs => .xp cs).cond = true; cases GV g <;> rfl

/-- The operands that a call looks at. -/
theorem call_run {X : Nat → Prop} {w : World} {st : Bool} {t : Slots} {a : Act} {o : Oper} {f : FuncId} {args : List SV} (h : callOf st t o.op = some (f, args)) (hd : ∀ x ∈ opnds o.op, Den X w (evS st t x) (a.eval x))
    (hc : callable P f = true) : ∃ vals, (execOp a.eval o).run P w = .ok (.enter f vals) w ∧ DenL X w args vals := by
  obtain ⟨dst, op, type, pos, after, guard⟩ := o
  simp only at h hd
  unfold callOf at h
  cases op <;> simp only at h <;> try (cases h; done)
  case call c =>
    obtain ⟨callee, as, tys⟩ := c
    cases callee <;> simp only at h <;> try (cases h; done)
    case value fo =>
      have hlist : ∀ (l : List Operand), (∀ x ∈ l, Den X w (evS st t x) (a.eval x)) → ∀ (i : Nat) (c : SV), (evL st t l)[i]? = some c → Den X w c ((l.map a.eval).getD i undef) := by
        intro l
        induction l with
        | nil => intro _ i c h; simp [evL] at h
        | cons x l ih =>
          intro hl i c h
          cases i with
          | zero => simp [evL] at h; subst h; simpa using hl x (List.mem_cons_self ..)
          | succ i => simpa using ih (fun y hy => hl y (List.mem_cons_of_mem _ hy)) i c (by simpa [evL] using h)
      have hlen : ∀ (l : List Operand), (evL st t l).length = l.length := by intro l; induction l with | nil => rfl | cons x l ih => simp [evL, ih]
      have hfo := hd fo (by simp [opnds])
      have has := hlist as.toList fun x hx => hd x (by simp [opnds]; exact .inr (by simpa using hx))
      split at h
      · rename_i g caps hg
        simp only [Option.some.injEq, Prod.mk.injEq] at h
        obtain ⟨rfl, rfl⟩ := h
        rw [hg] at hfo
        generalize hv : a.eval fo = v at hfo
        cases hfo with
        | fn hsz hcaps =>
          rename_i vs
          refine ⟨as.map a.eval ++ vs, ?_, ?_, ?_⟩
          · simp only [execOp, resolve, Sem.run_bind, hv, Deferred.ofValue, Sem.run_pure, Result.andThen_ok, invoke, callFunc, run_program]
            unfold callable at hc
            cases hf : P.funcs[g]? with
            | none => simp [hf] at hc
            | some fn =>
              simp only [hf, Bool.and_eq_true, Bool.not_eq_true', beq_eq_false_iff_ne, ne_eq] at hc
              obtain ⟨h1, h2⟩ := hc
              have h2' : fn.body.isNone = false := by cases hb : fn.body <;> simp [hb] at h2 ⊢
              simp [h1, h2']
          · simp [hlen, hsz]
          · intro i c hic
            rw [List.getElem?_append] at hic
            split at hic
            · rename_i hi
              have := has i c hic
              rw [hlen] at hi
              simp only [Array.getD_eq_getD_getElem?, List.getD_eq_getElem?_getD, List.getElem?_map] at this ⊢
              rw [Array.getElem?_append_left (by simpa using hi)]
              simpa using this
            · rename_i hi
              have := hcaps _ c hic
              rw [hlen] at hi this
              simp only [Array.getD_eq_getD_getElem?] at this ⊢
              rw [Array.getElem?_append_right (by simpa using hi)]
              simpa using this
      · rename_i g caps hg
        simp only [Option.some.injEq, Prod.mk.injEq] at h
        obtain ⟨rfl, rfl⟩ := h
        rw [hg] at hfo
        generalize hv : a.eval fo = v at hfo
        cases hfo with
        | bm hsz hcaps =>
          rename_i vs
          refine ⟨vs ++ as.map a.eval, ?_, ?_, ?_⟩
          · simp only [execOp, resolve, Sem.run_bind, hv, Deferred.ofValue, Sem.run_pure, Result.andThen_ok, invoke, callFunc, run_program]
            unfold callable at hc
            cases hf : P.funcs[g]? with
            | none => simp [hf] at hc
            | some fn =>
              simp only [hf, Bool.and_eq_true, Bool.not_eq_true', beq_eq_false_iff_ne, ne_eq] at hc
              obtain ⟨h1, h2⟩ := hc
              have h2' : fn.body.isNone = false := by cases hb : fn.body <;> simp [hb] at h2 ⊢
              simp [h1, h2']
          · simp [hlen, hsz]
          · intro i c hic
            rw [List.getElem?_append] at hic
            split at hic
            · rename_i hi
              have := hcaps i c hic
              rw [← hsz] at hi
              simp only [Array.getD_eq_getD_getElem?] at this ⊢
              rw [Array.getElem?_append_left (by simpa using hi)]
              simpa using this
            · rename_i hi
              have := has _ c hic
              rw [← hsz] at hi this
              simp only [Array.getD_eq_getD_getElem?, List.getD_eq_getElem?_getD, List.getElem?_map] at this ⊢
              rw [Array.getElem?_append_right (by simpa using hi)]
              simpa using this
      · cases h

theorem quiet_opnds {op : Op} (h : quiet op = true) : ∀ x ∈ op.operands.toList, (∃ c a b, op = .pick c a b) ∨ x ∈ opnds op := by
  cases op <;> simp only [quiet, Bool.false_eq_true] at h
  case pick c a b => exact fun x _ => .inl ⟨c, a, b, rfl⟩
  case call c =>
    intro x hx
    refine .inr ?_
    obtain ⟨callee, as, tys⟩ := c
    cases callee <;> simp only [Bool.false_eq_true] at h
    case builtin b =>
      simpa [Op.operands, Call.operands, opnds] using hx
  case slice => intro x hx; exact .inr (by simpa [Op.operands, opnds] using hx)
  case makeFunc => intro x hx; exact .inr (by simpa [Op.operands, opnds] using hx)
  case build => intro x hx; exact .inr (by simpa [Op.operands, opnds] using hx)
  all_goals (intro x hx; exact .inr (by simpa [Op.operands, opnds] using hx))

theorem evOp_sound' {X : Nat → Prop} {w : World} {B : List Own} (hE : EnvOK P E) {st : Bool} {t : Slots} {a : Act} {o : Oper} (hs : Sat X w B) (hd : DenT X w t n a.tmps) (hst : st = true → quiet o.op = true ∧ condsOk t (opnds o.op)) :
    ∃ h, (evOp E st h t B o.op).vc → Done P X w B (execOp a.eval o) (evOp E st h t B o.op) := by
  by_cases hp : ∃ c x y, o.op = .pick c x y
  · obtain ⟨c, x, y, hp⟩ := hp
    refine ⟨.void none, fun hc => ?_⟩
    rw [hp] at hc ⊢
    obtain ⟨r, h1, h2, h3⟩ := pick_sound (P := P) (den_ev hs.xg hd c) (den_ev hs.xg hd x) (den_ev hs.xg hd y) hc
    exact done_same hs (by simpa [execOp, hp] using h1) h2 h3
  · refine evOp_sound hE hs (fun x => den_ev hs.xg hd x) (fun _ => rfl) fun x hx => ?_
    cases st with
    | false => exact den_evS_false hs.xg hd x
    | true =>
      obtain ⟨h1, h2⟩ := hst rfl
      rcases quiet_opnds h1 x hx with ⟨c, a', b, e⟩ | h3
      · exact absurd ⟨c, a', b, e⟩ hp
      · exact den_evS_true hs.xg hd h2 x h3

theorem EO_nil {t : Slots} {B : List Own} {K : Slots → List Own → Prop} (h : K t B) : EO P n all [] t B K :=
  fun _ hQ _ _ _ X _ _ he hs => wpList_nil ⟨X, t, B, hQ t B h, hs, he⟩

/-- An operation that is carried out. -/
theorem EO_op {o : Oper} {r : List Oper} {t : Slots} {B : List Own} {K : Slots → List Own → Prop} (hw : ∀ X w a, St X w B t n a → Region.wanted o (yielded all.toArray a.tmps) = true)
    (h : ∀ X w a, St X w B t n a → ∃ out : Out, Done P X w B (execOp a.eval o) out ∧ EO P n all r (setT n t o.dst out.v) out.B K) : EO P n all (o :: r) t B K := by
  intro Q hQ X0 w0 B0 X w a he hs
  unfold wpList
  rw [if_pos (hw X w a hs)]
  left
  obtain ⟨out, ⟨v, w', hrun, hsat, hden, hext⟩, hr⟩ := h X w a hs
  have hst : St X w' out.B (setT n t o.dst out.v) n (a.put o.dst v) := by
    refine ⟨?_, hsat, ?_⟩
    · have := hs.defers; cases o.dst <;> simpa [Act.put] using this
    · exact denT_put ⟨hs.den.1, fun i => (hs.den.2 i).ext hs.sat hext⟩ hden
  have := hr Q hQ X0 w0 B0 X w' _ (he.trans hext) hst
  unfold Oper.wp
  rcases hrun with hrun | ⟨hrun, rfl⟩
  · rw [hrun]; exact this
  · rw [hrun]; exact this

/-- A call that is carried out. -/
theorem EO_call {o : Oper} {r : List Oper} {t : Slots} {B : List Own} {K : Slots → List Own → Prop} {f : FuncId} {args : List SV} (hw : ∀ X w a, St X w B t n a → Region.wanted o (yielded all.toArray a.tmps) = true)
    (hrun : ∀ X w a, St X w B t n a → ∃ vals, (execOp a.eval o).run P w = .ok (.enter f vals) w ∧ DenL X w args vals)
    (h : EC P f args B fun s B' => EO P n all r (setT n t o.dst s) B' K) : EO P n all (o :: r) t B K := by
  intro Q hQ X0 w0 B0 X w a he hs
  unfold wpList
  rw [if_pos (hw X w a hs)]
  left
  obtain ⟨vals, h1, h2⟩ := hrun X w a hs
  unfold Oper.wp
  rw [h1]
  simp only [Oper.upon]
  refine (h.2 X w vals hs.sat h2).mono ?_
  rintro e w' ⟨v, s, X', B', rfl, hK, hsat, hden, hext⟩
  simp only
  have hst : St X' w' B' (setT n t o.dst s) n (a.put o.dst v) := by
    refine ⟨?_, hsat, ?_⟩
    · have := hs.defers; cases o.dst <;> simpa [Act.put] using this
    · exact denT_put ⟨hs.den.1, fun i => (hs.den.2 i).ext hs.sat hext⟩ hden
  exact hK Q hQ X0 w0 B0 X' w' _ (he.trans hext) hst

/-- An operation that is passed over. -/
theorem EO_skip {o : Oper} {r : List Oper} {t : Slots} {B : List Own} {K : Slots → List Own → Prop} {s : SV} (hw : ∀ X w a, St X w B t n a → Region.wanted o (yielded all.toArray a.tmps) = false)
    (hu : ∀ X w, Den X w s undef) (h : EO P n all r (setT n t o.dst s) B K) : EO P n all (o :: r) t B K := by
  intro Q hQ X0 w0 B0 X w a he hs
  unfold wpList
  rw [if_neg (by rw [hw X w a hs]; simp)]
  refine h Q hQ X0 w0 B0 X w _ he ⟨?_, hs.sat, denT_put hs.den (hu X w)⟩
  have := hs.defers; cases o.dst <;> simpa [Act.put] using this

theorem EO_run (hE : EnvOK P E) {K : Slots → List Own → Prop} : ∀ (l : List Oper) (k : Nat) (t : Slots) (B : List Own), (∀ fr, holds P n all K (run E n all fr k l t B)) → EO P n all l t B K
  | [], k, t, B, h => EO_nil (h fun _ => .void none)
  | o :: r, k, t, B, h => by
    simp only [run] at h
    cases hg : o.guard with
    | none =>
      have hw : ∀ X w a, St X w B t n a → Region.wanted o (yielded all.toArray a.tmps) = true := fun X w a _ => by simp [Region.wanted, hg]
      simp only [hg] at h
      cases hcall : callOf false t o.op with
      | some fa =>
        obtain ⟨f, args⟩ := fa
        simp only [hcall, holds] at h
        have hec := h fun _ => .void none
        exact EO_call hw (fun X w a hs => call_run hcall (fun x _ => den_evS_false hs.sat.xg hs.den x) hec.1) hec
      | none =>
        simp only [hcall] at h
        refine EO_op hw fun X w a hs => ?_
        obtain ⟨h0, hh⟩ := evOp_sound' hE hs.sat hs.den (o := o) (st := false) (by simp)
        have hk : ∀ fr : Nat → RowH, fr k = h0 → (evOp E false h0 t B o.op).vc ∧ holds P n all K (run E n all fr (k + 1) r (setT n t o.dst (evOp E false h0 t B o.op).v) (evOp E false h0 t B o.op).B) := by
          intro fr hfr
          have := h fr
          rw [hfr] at this
          exact this
        refine ⟨_, hh (hk (fun _ => h0) rfl).1, EO_run hE r (k + 1) _ _ fun fr => ?_⟩
        have := (hk (fun i => if i = k then h0 else fr i) (by simp)).2
        rwa [run_congr (fr' := fr) r (k + 1) _ _ fun i hi => if_neg (by omega)] at this
    | some jw =>
      obtain ⟨j, want⟩ := jw
      simp only [hg] at h
      cases hgd : guardOf all t j want with
      | none => simp only [hgd, holds] at h; exact (h fun _ => .void none).1.elim
      | some c =>
        simp only [hgd] at h
        have hwc : ∀ X w a, St X w B t n a → Region.wanted o (yielded all.toArray a.tmps) = c := fun X w a hs => guardOf_spec hgd hs.den o hg
        cases hcall : callOf true t o.op with
        | some fa =>
          obtain ⟨f, args⟩ := fa
          simp only [hcall, holds] at h
          obtain ⟨h1, h2, h3⟩ := h fun _ => .void none
          cases c with
          | true =>
            have hec := h2 rfl
            exact EO_call hwc (fun X w a hs => call_run hcall (fun x hx => den_evS_true hs.sat.xg hs.den (h1 rfl) x hx) hec.1) hec
          | false => exact EO_skip hwc (fun _ _ => .any _) (h3 rfl)
        | none =>
          simp only [hcall] at h
          cases hq : quiet o.op with
          | false =>
            simp only [hq, holds] at h
            obtain ⟨h1, h2⟩ := h fun _ => .void none
            cases c with
            | true =>
              have h1' := h1 rfl
              intro Q hQ X0 w0 B0 X w a he hs
              have := h1' Q hQ X0 w0 B0 X w a he hs
              unfold wpList at this ⊢
              rw [if_pos (by simp [Region.wanted, unguard])] at this
              rw [if_pos (hwc X w a hs)]
              exact this
            | false => exact EO_skip hwc (fun _ _ => .any _) (h2 rfl)
          | true =>
            simp only [hq] at h
            cases c with
            | false =>
              refine EO_skip hwc (fun _ _ => .opt (fun e => by cases e) fun _ => rfl) (EO_run hE r (k + 1) _ _ fun fr => ?_) (s := .opt false (evOp E true (.void none) t B o.op).v)
              have := (h (fun i => if i = k then .void none else fr i)).2
              simp only [if_true] at this
              rwa [run_congr (fr' := fr) r (k + 1) _ _ fun i hi => if_neg (by omega)] at this
            | true =>
              refine EO_op hwc fun X w a hs => ?_
              have h00 := h fun _ => .void none
              have hcond : condsOk t (opnds o.op) := (h00.1 rfl).1
              obtain ⟨h0, hh⟩ := evOp_sound' hE hs.sat hs.den (o := o) (st := true) (fun _ => ⟨hq, hcond⟩)
              have hk : ∀ fr : Nat → RowH, fr k = h0 → ((evOp E true h0 t B o.op).vc ∧ (evOp E true h0 t B o.op).B = B) ∧ holds P n all K (run E n all fr (k + 1) r (setT n t o.dst (.opt true (evOp E true h0 t B o.op).v)) B) := by
                intro fr hfr
                have := h fr
                rw [hfr] at this
                exact ⟨(this.1 rfl).2, this.2⟩
              obtain ⟨⟨hv, hB⟩, _⟩ := hk (fun _ => h0) rfl
              obtain ⟨v, w', r1, r2, r3, r4⟩ := hh hv
              rw [hB] at r2 r4
              refine ⟨⟨.opt true (evOp E true h0 t B o.op).v, B, True⟩, ⟨v, w', r1, r2, .opt (fun _ => r3) (fun e => by cases e), r4⟩, EO_run hE r (k + 1) _ _ fun fr => ?_⟩
              have := (hk (fun i => if i = k then h0 else fr i) (by simp)).2
              rwa [run_congr (fr' := fr) r (k + 1) _ _ fun i hi => if_neg (by omega)] at this
end
end Go.Lift
