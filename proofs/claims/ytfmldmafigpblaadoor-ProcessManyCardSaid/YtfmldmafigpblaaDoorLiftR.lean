/-
  The top: readings of the arguments, and a row's claim from a contract.
-/
import Derived.Test.YtfmldmafigpblaaDoorLiftP
import Derived.ProofKit
import Derived.SizedLaws
namespace Go.Lift
open Go.ChangeShapes Go.WideShapes Go.ChangeAt Go.RowKit

/-- All memory that was there before a call. -/
def old (W : World) (b : Nat) : Prop := b < W.heap.size
theorem sat_old (W : World) (hg : ∀ g, GV g ≠ [] → Den (old W) W (.xp (GV g)) (.pointer (some ⟨g, 0, none⟩))) : Sat (old W) W [] :=
  ⟨fun i j b hi => by simp [getD', Own.blocks] at hi, fun i b hi => by simp [getD', Own.blocks] at hi, ⟨fun b hb => hb, hg⟩, fun b _ ⟨i, hi⟩ => by simp [getD', Own.blocks] at hi, fun i => by simp [getD', Own.ok]⟩
theorem Ext.below {W W' : World} {X' : Nat → Prop} {B' : List Own} (h : Ext (old W) W [] X' W' B') : Below W.heap.size W W' :=
  ⟨h.os, h.tape, h.output, h.size, fun k hk => h.block k hk fun ⟨i, hi⟩ => by simp [getD', Own.blocks] at hi⟩

section
variable {H : Type} {enc : TypeId × Value → H} {P : Program} {W W' : World}
theorem trodAll_below (hl : laidOutB P = true) (hb : Below W.heap.size W W') : ∀ {ts : List TypeId} {vs : List Value} {ds : List (DataW H)} {ps : List MemPlace},
    (∀ t ∈ ts, P.readableRec t = true ∧ t < P.types.size) → DataW.TrodAll enc P W 0 (fun _ => true) true ts vs ds ps → (∀ x ∈ ps, x.block < W.heap.size) →
    DataW.TrodAll enc P W' 0 (fun b => decide (b < W.heap.size)) true ts vs ds ps
  | [], [], [], _, _, h, _ => h
  | t :: ts, v :: vs, d :: ds, ps, ht, h, hlt => by
    obtain ⟨p, q, h1, h2, rfl⟩ := h
    exact ⟨p, q, Below.trod hl (ht t (.head _)).1 (ht t (.head _)).2 h1 hb fun x hx => hlt x (List.mem_append_left _ hx),
      trodAll_below hl hb (fun t ht' => ht t (.tail _ ht')) h2 fun x hx => hlt x (List.mem_append_right _ hx), rfl⟩
  | [], [], _ :: _, _, _, h, _ => h.elim
  | [], _ :: _, _, _, _, h, _ => h.elim
  | _ :: _, [], _, _, _, h, _ => h.elim
  | _ :: _, _ :: _, [], _, _, h, _ => h.elim
theorem trodAll_len : ∀ {ts : List TypeId} {vs : List Value} {ds : List (DataW H)} {ps : List MemPlace} {w : World} {base : Nat} {sp : Nat → Bool} {hd : Bool},
    DataW.TrodAll enc P w base sp hd ts vs ds ps → vs.length = ts.length ∧ ds.length = ts.length
  | [], [], [], _, _, _, _, _, _ => ⟨rfl, rfl⟩
  | t :: ts, v :: vs, d :: ds, ps, _, _, _, _, h => by
    obtain ⟨p, q, _, h2, _⟩ := h
    have := trodAll_len h2
    exact ⟨by simp [this.1], by simp [this.2]⟩
  | [], [], _ :: _, _, _, _, _, _, h => h.elim
  | [], _ :: _, _, _, _, _, _, _, h => h.elim
  | _ :: _, [], _, _, _, _, _, _, h => h.elim
  | _ :: _, _ :: _, [], _, _, _, _, _, h => h.elim
theorem shut_bool {w : World} {base : Nat} {spare : Nat → Bool} {held : Bool} {t : TypeId} (ht : P.underlying t = some .bool) (b : Bool) : DataW.Trod enc P w base spare held t (.bool b) (.lit (.bool b)) [] :=
  ⟨1, by simp [Value.cells, DataW.trod, ht]⟩
end

/-- What a law's claim needs: it returns true, and the arguments read as before. -/
theorem true_lifted (hgv : ∀ g, GV g = []) {C : Checked} {os : Os} {H : Type} {enc : TypeId × Value → H} {f : FuncId} {fn : Func} {s : ChangeSpec} {conds : List PathCond} {tb : TypeId}
    (own : ownKnob C.prog.godebug = none) (started : os.Started) (noInit : C.prog.inits.idxOf? f = none) (hfn : C.prog.funcs[f]? = some fn) (hlaid : laidOutB C.prog = true)
    (hread : ∀ t ∈ fn.params.toList, C.prog.readableRec t = true ∧ t < C.prog.types.size) (hres : fn.resultTypes = #[tb]) (htb : C.prog.underlying tb = some .bool) (hvars : s.vars = [])
    (hspec : ∀ ds : List (DataW H), ds.length = fn.params.size → s.fn H ds = { results := [.lit (.bool true)], args := ds })
    (witness : ∃ (w : World) (tape : Tape) (i : Input), w.os = os ∧ (w.forCall tape i).Shaped C.prog ∧ i.vars = [] ∧ Input.okWide C.prog (w.forCall tape i) .any w.heap.size f i ∧
      s.pre6 enc C.prog fn conds false (w.forCall tape i).memory i.args ∧ Assume.holds {} C.prog (lone (Frame.enter C.prog f i.args .normal) [] (w.forCall tape i)))
    (walk : ∀ (W : World) (base : Nat) (args : Array Value) (ds : List (DataW H)) (p : List MemPlace),
      (∀ (j : Nat) t v, fn.params[j]? = some t → args[j]? = some v → Value.okWide C.prog W .any base t v) →
      (∀ x ∈ p, x.block < W.heap.size) →
      (DataW.weightsEach C.prog fn.params.toList ds).all (· ≤ reachBytes) = true →
      DataW.TrodAll enc C.prog W 0 (fun _ => true) true fn.params.toList args.toList ds p →
      ∃ svs, DenL (old W) W svs args ∧ EC C.prog f svs [] fun r B => B = [] ∧ r = .bool true) :
    ReturnsInHanded {} C os f .any (s.pre6 enc C.prog fn conds false) (s.post enc C.prog fn false true false false) := by
  refine returnsInHanded_of_change_sized (C := C) own started noInit hfn witness ?_
  intro W base args ds gs before hval hW _ hsz _
  have hW' := hW
  obtain ⟨p, q, hA, hV, rfl, _, _⟩ := hW
  rw [hvars] at hV
  obtain ⟨rfl, rfl⟩ := trodVars_none hV
  have hlt := hW'.lt
  simp only [List.append_nil] at hlt
  have hsz2 : (DataW.weightsEach C.prog fn.params.toList ds).all (· ≤ reachBytes) = true := by
    simpa [DataSpec.varTypes, ChangeSpec.plain, hvars] using hsz
  obtain ⟨svs, hden, _, hcall⟩ := walk W base args ds p hval hlt hsz2 hA
  refine (hcall (old W) W args (sat_old W fun g h => absurd (hgv g) h) hden).mono ?_
  rintro e W' ⟨v, r, X', B', rfl, ⟨rfl, rfl⟩, _, hr, hext⟩
  cases hr
  have hb := hext.below
  have hsp := hspec ds (by rw [(trodAll_len hA).2]; simp)
  refine ⟨_, rfl, ds, [], _, [], p, [], hW', ?_, ?_, ?_, hb.frame _, fun h => by cases h⟩
  · rw [List.append_nil, hsp, hres]
    exact trodAll_mk1 (shut_bool htb true)
  · rw [List.append_nil, hsp]
    exact trodAll_below hlaid hb hread hA hlt
  · rw [List.append_nil, hsp, hvars]
    rfl

section
variable {H : Type} {enc : TypeId × Value → H} {P : Program} {W : World}
theorem slL_den {α : Type} {e : Nat} {cells : α → List SV} {d : α} {l : List α} {v : Value} (h : Den (old W) W (slL e cells d l) v) : Den (old W) W (slL e cells d l) v := h
/-- A slice of integers that is read as data. -/
theorem den_ints {t e : TypeId} {k : IntKind} {base : Nat} {v : Value} {d : DataW H} {p : List MemPlace} (ht : P.underlying t = some (.slice e)) (he : P.underlying e = some (.int k)) (hc : P.cellsOf e = 1)
    (hok : Value.okWide P W .any base t v) (h : DataW.Trod enc P W 0 (fun _ => true) true t v d p) (hlt : ∀ x ∈ p, x.block < W.heap.size) :
    ∃ l : List Int, Den (old W) W (slL 1 (intC k) 0 l) v ∧ (∀ n ∈ l, (Lit.int k n).wf = true) ∧ l.length ≤ 9223372036854775807 := by
  obtain ⟨a0, len, cap, rfl⟩ := okWide_slice ht hok
  obtain ⟨fuel, hf⟩ := h
  rcases open_ints ht he hc hf with ⟨hcs, _⟩ | ⟨a, len', cap', zs, hcs, _, hl, hm, hz, hx, hcell, hwz⟩
  · simp [Value.cells] at hcs
    obtain ⟨rfl, rfl, rfl⟩ := hcs
    exact ⟨[], .slNil fun h => (nomatch h), fun _ h => (nomatch h), by decide⟩
  · simp [Value.cells] at hcs
    obtain ⟨rfl, rfl, rfl⟩ := hcs
    simp only [Prod.mk.injEq] at hx
    obtain ⟨rfl, rfl⟩ := hx
    simp only [if_true] at hz
    have hll : (zs.take len).length = len := by simp; omega
    refine ⟨zs.take len, ?_, fun n hn => hwz n (List.mem_of_mem_take hn), by rw [hll]; simp only [maxLen] at hm; omega⟩
    rcases Nat.eq_zero_or_pos len with rfl | hpos
    · exact .slNil fun h => (nomatch h)
    obtain ⟨b, off, spot⟩ := a
    have hspot : spot = none := by simpa [Addr.add] using World.cell?_spot (hcell 0 (by omega))
    subst hspot
    have hbW : b < W.heap.size := hlt (.cell b off) (MemPlace.mem_row.2 ⟨0, by omega, by simp⟩)
    have key : Den (old W) W (.sl false 1 len fun j => intC k ((zs.take len).getD j 0)) (.slice (some ⟨b, off, none⟩) len cap) := by
      refine .slAt (fun j _ => .int k (zs.getD j 0)) hpos hl (fun h => (nomatch h)) hbW (fun _ _ => rfl) (fun j i hj hi => ?_) fun j i c hj hc => ?_
      · have h0 : i = 0 := by omega
        subst h0
        rw [show off + (j * 1 + 0) = off + j by omega, ← add_plain]
        exact hcell j (by omega)
      · cases i with
        | succ i => simp [intC] at hc
        | zero =>
          simp only [intC, List.getElem?_cons_zero, Option.some.injEq] at hc
          subst hc
          have : (zs.take len).getD j 0 = zs.getD j 0 := by simp [List.getD, hj]
          rw [this]; exact .int ..
    show Den (old W) W (.sl false 1 (zs.take len).length fun j => intC k ((zs.take len).getD j 0)) _
    rw [hll]; exact key
theorem denL1 {s : SV} {v : Value} {X : Nat → Prop} (h : Den X W s v) : DenL X W [s] #[v] :=
  ⟨rfl, fun i c hc => by
    match i with
    | 0 => simp at hc; subst hc; exact h
    | i + 1 => simp at hc⟩
theorem denL2 {s0 s1 : SV} {v0 v1 : Value} {X : Nat → Prop} (h0 : Den X W s0 v0) (h1 : Den X W s1 v1) : DenL X W [s0, s1] #[v0, v1] :=
  ⟨rfl, fun i c hc => by
    match i with
    | 0 => simp at hc; subst hc; exact h0
    | 1 => simp at hc; subst hc; exact h1
    | i + 2 => simp at hc⟩
theorem denL3 {s0 s1 s2 : SV} {v0 v1 v2 : Value} {X : Nat → Prop} (h0 : Den X W s0 v0) (h1 : Den X W s1 v1) (h2 : Den X W s2 v2) : DenL X W [s0, s1, s2] #[v0, v1, v2] :=
  ⟨rfl, fun i c hc => by
    match i with
    | 0 => simp at hc; subst hc; exact h0
    | 1 => simp at hc; subst hc; exact h1
    | 2 => simp at hc; subst hc; exact h2
    | i + 3 => simp at hc⟩
theorem denL4 {s0 s1 s2 s3 : SV} {v0 v1 v2 v3 : Value} {X : Nat → Prop} (h0 : Den X W s0 v0) (h1 : Den X W s1 v1) (h2 : Den X W s2 v2) (h3 : Den X W s3 v3) : DenL X W [s0, s1, s2, s3] #[v0, v1, v2, v3] :=
  ⟨rfl, fun i c hc => by
    match i with
    | 0 => simp at hc; subst hc; exact h0
    | 1 => simp at hc; subst hc; exact h1
    | 2 => simp at hc; subst hc; exact h2
    | 3 => simp at hc; subst hc; exact h3
    | i + 4 => simp at hc⟩
theorem denL5 {s0 s1 s2 s3 s4 : SV} {v0 v1 v2 v3 v4 : Value} {X : Nat → Prop} (h0 : Den X W s0 v0) (h1 : Den X W s1 v1) (h2 : Den X W s2 v2) (h3 : Den X W s3 v3) (h4 : Den X W s4 v4) : DenL X W [s0, s1, s2, s3, s4] #[v0, v1, v2, v3, v4] :=
  ⟨rfl, fun i c hc => by
    match i with
    | 0 => simp at hc; subst hc; exact h0
    | 1 => simp at hc; subst hc; exact h1
    | 2 => simp at hc; subst hc; exact h2
    | 3 => simp at hc; subst hc; exact h3
    | 4 => simp at hc; subst hc; exact h4
    | i + 5 => simp at hc⟩
end
end Go.Lift
