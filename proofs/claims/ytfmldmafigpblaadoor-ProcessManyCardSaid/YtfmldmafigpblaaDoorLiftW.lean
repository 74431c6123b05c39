/-
  Readings of arguments as typed things.
-/
import Derived.Test.YtfmldmafigpblaaDoorLiftV
import Derived.Test.YtfmldmafigpblaaDoorLiftR
import Derived.OpenShut
namespace Go.Lift
open Go.ChangeShapes Go.WideShapes Go.ChangeAt
def DenC (X : Nat → Prop) (w : World) (ss : List SV) (cs : List Value) : Prop := cs.length = ss.length ∧ ∀ (i : Nat) (c : SV), ss[i]? = some c → Den X w c (cs.getD i undef)
/-- What lies in memory as data of type t is 'c x' for some x. -/
def RD (P : Program) (t : TypeId) {α : Type} (c : α → List SV) (Wf : α → Prop) : Prop :=
  ∀ (H : Type) (enc : TypeId × Value → H) (W : World) (fuel : Nat) (cs : List Value) (y : DataW H × List MemPlace), DataW.trod enc P W 0 (fun _ => true) true fuel t cs = some y → (∀ x ∈ y.2, x.block < W.heap.size) →
    ∃ x, Wf x ∧ DenC (old W) W (c x) cs
section
variable {P : Program} {t e : TypeId}
theorem DenC.one {X : Nat → Prop} {w : World} {s : SV} {v : Value} (h : Den X w s v) : DenC X w [s] [v] := ⟨rfl, fun i c hc => by
  cases i with
  | zero => simp at hc; subst hc; exact h
  | succ i => simp at hc⟩
theorem DenC.app {X : Nat → Prop} {w : World} {a b : List SV} {u v : List Value} (h : DenC X w a u) (k : DenC X w b v) : DenC X w (a ++ b) (u ++ v) := by
  refine ⟨by simp [h.1, k.1], fun i c hc => ?_⟩
  by_cases hi : i < a.length
  · rw [List.getElem?_append_left hi] at hc
    have : (u ++ v).getD i undef = u.getD i undef := by
      simp only [List.getD_eq_getElem?_getD]; rw [List.getElem?_append_left (by rw [h.1]; exact hi)]
    rw [this]; exact h.2 i c hc
  · rw [List.getElem?_append_right (by omega)] at hc
    have : (u ++ v).getD i undef = v.getD (i - a.length) undef := by
      simp only [List.getD_eq_getElem?_getD]; rw [List.getElem?_append_right (by rw [h.1]; omega), h.1]
    rw [this]; exact k.2 _ c hc
theorem RD.int {k : IntKind} (ht : P.underlying t = some (.int k)) : RD P t (intC k) (fun n => (Lit.int k n).wf = true) := by
  intro H enc W fuel cs y h _
  obtain ⟨n, rfl, rfl, hw⟩ := DataW.trod_int ht h
  exact ⟨n, hw, .one (.int ..)⟩
theorem RD.bool (ht : P.underlying t = some .bool) : RD P t boolC (fun _ => True) := by
  intro H enc W fuel cs y h _
  obtain ⟨b, rfl, rfl⟩ := DataW.trod_bool ht h
  exact ⟨b, trivial, .one (.bool ..)⟩
theorem RD.str (ht : P.underlying t = some .string) : RD P t strC (fun s => s.length ≤ maxLen) := by
  intro H enc W fuel cs y h _
  obtain ⟨⟨s⟩, rfl, rfl, hw⟩ := DataW.trod_string ht h
  refine ⟨s.toList, by simpa [ByteArray.size] using hw, .one ?_⟩
  have := Den.str (X := old W) (w := W) s.toList
  simpa using this
theorem cells_of_cells? {w : World} {a : Addr} {n : Nat} {cs : List Value} (h : w.cells? 0 a n = some cs) : cs.length = n ∧ ∀ j, j < n → w.cell? (a.add j) = some (cs.getD j undef) := by
  simp only [World.cells?, Nat.zero_le, if_true] at h
  have hl := mapM_some_length h
  refine ⟨by simpa using hl, fun j hj => ?_⟩
  have := mapM_some_get h j j (by simp [hj])
  rw [this]
  have hj' : j < cs.length := by rw [hl]; simpa using hj
  simp [List.getD, hj']
theorem choose_list {α : Type} [Inhabited α] {n : Nat} {p : Nat → α → Prop} (h : ∀ i, i < n → ∃ x, p i x) : ∃ l : List α, l.length = n ∧ ∀ i, i < n → p i (l.getD i default) := by
  induction n with
  | zero => exact ⟨[], rfl, fun i hi => absurd hi (Nat.not_lt_zero i)⟩
  | succ n ih =>
    obtain ⟨l, h1, h2⟩ := ih fun i hi => h i (by omega)
    obtain ⟨x, hx⟩ := h n (by omega)
    refine ⟨l ++ [x], by simp [h1], fun i hi => ?_⟩
    by_cases hn : i < n
    · have : (l ++ [x]).getD i default = l.getD i default := by simp [List.getD, List.getElem?_append_left (show i < l.length by omega)]
      rw [this]; exact h2 i hn
    · have : i = n := by omega
      subst this
      have : (l ++ [x]).getD l.length default = x := by simp [List.getD]
      rw [← h1, this, h1]; exact hx
theorem RD.slice {α : Type} [Inhabited α] {c : α → List SV} {Wf : α → Prop} {m : Nat} (ht : P.underlying t = some (.slice e)) (hm : P.cellsOf e = m) (hpos : 0 < m) (hc : ∀ x, (c x).length = m) (he : RD P e c Wf) :
    RD P t (fun l => [slL m c default l]) (fun l => l.length ≤ maxLen ∧ ∀ x ∈ l, Wf x) := by
  intro H enc W fuel cs y h hlt
  rcases DataW.trod_slice ht h with ⟨rfl, rfl⟩ | ⟨a, len, cap, elems, rest, n, _, rfl, rfl, hb, hl, hmx, hlen, hel, hsp, hns⟩
  · exact ⟨[], ⟨Nat.zero_le _, by simp⟩, .one (.slNil fun h => (nomatch h))⟩
  · rw [hm] at hel hsp hlt
    have each : ∀ i, i < len → ∃ x, Wf x ∧ ∃ vs : List Value, vs.length = m ∧ (∀ j, j < m → W.cell? ((a.add (i * m)).add j) = some (vs.getD j undef)) ∧ DenC (old W) W (c x) vs := by
      intro i hi
      have h1 := hel i hi
      have hie : i < elems.length := by omega
      rw [List.getElem?_eq_getElem hie, Option.bind_eq_some_iff] at h1
      obtain ⟨vs, h2, h3⟩ := h1
      obtain ⟨k1, k2⟩ := cells_of_cells? h2
      obtain ⟨x, hx, hd⟩ := he H enc W n vs elems[i] h3 fun z hz => hlt z (by
        simp only [List.mem_append, List.mem_flatMap]
        exact .inr ⟨elems[i], .inl (List.getElem_mem hie), hz⟩)
      exact ⟨x, hx, vs, k1, k2, hd⟩
    obtain ⟨l, hll, hp⟩ := choose_list each
    refine ⟨l, ⟨by omega, fun x hx => ?_⟩, .one ?_⟩
    · obtain ⟨i, hi, rfl⟩ := List.getElem_of_mem hx
      have := (hp i (by omega)).1
      simpa [List.getD, hi] using this
    · rcases Nat.eq_zero_or_pos len with h0 | hpos2
      · subst h0
        have : l = [] := List.length_eq_zero_iff.1 hll
        subst this
        exact .slNil fun h => (nomatch h)
      obtain ⟨b, off, spot⟩ := a
      have hspot : spot = none := by
        obtain ⟨_, vs, _, h2, _⟩ := hp 0 hpos2
        simpa [Addr.add] using World.cell?_spot (h2 0 hpos)
      subst hspot
      have hbW : b < W.heap.size := hlt (.cell b off) (by
        simp only [List.mem_append]
        exact .inl (MemPlace.mem_row.2 ⟨0, by have : 0 < (elems.length + rest.length) * m := Nat.mul_pos (by omega) hpos; omega, by simp⟩))
      have key : Den (old W) W (.sl false m len fun k => c (l.getD k default)) (.slice (some ⟨b, off, none⟩) len cap) := by
        refine .slAt (fun k j => (W.cell? ⟨b, off + (k * m + j), none⟩).getD undef) hpos2 hl (fun h => (nomatch h)) hbW (fun k _ => hc _) (fun k j hk hj => ?_) fun k j s hk hs => ?_
        · obtain ⟨_, vs, h1, h2, _⟩ := hp k hk
          have := h2 j hj
          simp only [add_none] at this
          rw [show off + (k * m + j) = off + k * m + j by omega, this]; rfl
        · obtain ⟨_, vs, h1, h2, h3⟩ := hp k hk
          have hj : j < m := by have := (List.getElem?_eq_some_iff.1 hs).1; rw [hc] at this; exact this
          have := h2 j hj
          simp only [add_none] at this
          rw [show off + (k * m + j) = off + k * m + j by omega, this]
          exact h3.2 j s hs
      show Den (old W) W (.sl false m l.length fun k => c (l.getD k default)) _
      rw [hll]; exact key
/-- Fields, one behind the other. -/
def totF : List (TypeId × Nat) → Nat
  | [] => 0
  | (_, m) :: r => m + totF r
def FR {H : Type} (enc : TypeId × Value → H) (P : Program) (W : World) (n : Nat) (cs : List Value) : Nat → List (TypeId × Nat) → Prop
  | _, [] => True
  | o, (t, m) :: r => (∃ y, DataW.trod enc P W 0 (fun _ => true) true n t ((cs.drop o).take m) = some y ∧ ∀ x ∈ y.2, x.block < W.heap.size) ∧ FR enc P W n cs (o + m) r
def RDF (P : Program) (fs : List (TypeId × Nat)) {α : Type} (c : α → List SV) (Wf : α → Prop) : Prop :=
  ∀ (H : Type) (enc : TypeId × Value → H) (W : World) (n : Nat) (cs : List Value) (o : Nat), o + totF fs ≤ cs.length → FR enc P W n cs o fs → ∃ x, Wf x ∧ DenC (old W) W (c x) ((cs.drop o).take (totF fs))
theorem RDF.nil : RDF P [] (fun _ : Unit => []) (fun _ => True) := fun _ _ _ _ _ _ _ _ => ⟨(), trivial, by simp [totF, DenC]⟩
theorem RDF.cons {α β : Type} {c : α → List SV} {d : β → List SV} {W1 : α → Prop} {W2 : β → Prop} {m : Nat} {r : List (TypeId × Nat)} (h1 : RD P t c W1) (h2 : RDF P r d W2) : RDF P ((t, m) :: r) (fun x : α × β => c x.1 ++ d x.2) (fun x => W1 x.1 ∧ W2 x.2) := by
  intro H enc W n cs o hl ⟨⟨y, hy, hp⟩, hr⟩
  simp only [totF] at hl ⊢
  obtain ⟨x, hx, hdx⟩ := h1 H enc W n _ y hy hp
  obtain ⟨z, hz, hdz⟩ := h2 H enc W n cs (o + m) (by omega) hr
  refine ⟨(x, z), ⟨hx, hz⟩, ?_⟩
  have : (cs.drop o).take (m + totF r) = (cs.drop o).take m ++ (cs.drop (o + m)).take (totF r) := by rw [List.take_add, List.drop_drop]
  rw [this]
  exact hdx.app hdz
def contig (P : Program) : Nat → List Field → List (TypeId × Nat) → Bool
  | _, [], [] => true
  | o, f :: F, (t, m) :: r => f.type == t && f.offset == o && P.cellsOf t == m && contig P (o + m) F r
  | _, _, _ => false
theorem contig_FR {H : Type} {enc : TypeId × Value → H} {W : World} {n : Nat} {cs : List Value} : ∀ (F : List Field) (fs : List (TypeId × Nat)) (o : Nat) (xs : List (DataW H × List MemPlace)), contig P o F fs = true → xs.length = F.length →
    (∀ (i : Nat) (f : Field), F[i]? = some f → DataW.trod enc P W 0 (fun _ => true) true n f.type ((cs.drop f.offset).take (P.cellsOf f.type)) = xs[i]?) → (∀ y ∈ xs, ∀ x ∈ y.2, x.block < W.heap.size) → FR enc P W n cs o fs
  | [], [], _, _, _, _, _, _ => trivial
  | [], _ :: _, _, _, h, _, _, _ => by simp [contig] at h
  | _ :: _, [], _, _, h, _, _, _ => by simp [contig] at h
  | f :: F, (t, m) :: r, o, [], _, hl, _, _ => by simp at hl
  | f :: F, (t, m) :: r, o, y :: xs, h, hl, hx, hp => by
    simp only [contig, Bool.and_eq_true, beq_iff_eq] at h
    obtain ⟨⟨⟨rfl, rfl⟩, rfl⟩, h4⟩ := h
    exact ⟨⟨y, hx 0 f rfl, hp y (List.mem_cons_self ..)⟩, contig_FR F r _ xs h4 (by simpa using hl) (fun i f hf => hx (i + 1) f hf) fun z hz => hp z (List.mem_cons_of_mem _ hz)⟩
theorem rep_FR {H : Type} {enc : TypeId × Value → H} {W : World} {n m : Nat} {cs : List Value} : ∀ (k o : Nat) (xs : List (DataW H × List MemPlace)), xs.length = k → (∀ i, i < k → DataW.trod enc P W 0 (fun _ => true) true n e ((cs.drop (o + i * m)).take m) = xs[i]?) →
    (∀ y ∈ xs, ∀ x ∈ y.2, x.block < W.heap.size) → FR enc P W n cs o (List.replicate k (e, m))
  | 0, _, _, _, _, _ => trivial
  | k + 1, o, [], hl, _, _ => by simp at hl
  | k + 1, o, y :: xs, hl, hx, hp => by
    refine ⟨⟨y, by simpa using hx 0 (by omega), hp y (List.mem_cons_self ..)⟩, rep_FR k (o + m) xs (by simpa using hl) (fun i hi => ?_) fun z hz => hp z (List.mem_cons_of_mem _ hz)⟩
    have := hx (i + 1) (by omega)
    rw [Nat.add_mul, Nat.one_mul] at this
    rw [show o + m + i * m = o + (i * m + m) by omega]
    simpa using this
def structOK (P : Program) (t : TypeId) (fs : List (TypeId × Nat)) : Bool := match P.underlying t with
  | some (.struct F) => contig P 0 F.toList fs && P.cellsOf t == totF fs
  | some (.array n e) => fs == List.replicate n (e, P.cellsOf e) && P.cellsOf t == totF fs
  | _ => false
theorem RD.struct {fs : List (TypeId × Nat)} {α : Type} {c : α → List SV} {Wf : α → Prop} (h : structOK P t fs = true) (hf : RDF P fs c Wf) : RD P t c Wf := by
  intro H enc W fuel cs y hy hlt
  unfold structOK at h
  split at h
  · rename_i F hu
    simp only [Bool.and_eq_true, beq_iff_eq] at h
    obtain ⟨xs, n, rfl, rfl, hl, hxl, hx⟩ := DataW.trod_struct hu hy
    obtain ⟨x, h1, h2⟩ := hf H enc W n cs 0 (by omega) (contig_FR F.toList fs 0 xs h.1 (by simpa using hxl) (fun i f hi => hx i f (by simpa using hi)) fun z hz x hx => hlt x (by simp only [List.mem_flatMap]; exact ⟨z, hz, hx⟩))
    refine ⟨x, h1, ?_⟩
    have : (cs.drop 0).take (totF fs) = cs := by rw [List.drop_zero, List.take_of_length_le (by omega)]
    rwa [this] at h2
  · rename_i n e hu
    simp only [Bool.and_eq_true, beq_iff_eq] at h
    obtain ⟨xs, m, rfl, rfl, hl, hxl, hx⟩ := DataW.trod_array hu hy
    obtain ⟨hfs, htot⟩ := h
    obtain ⟨x, h1, h2⟩ := hf H enc W m cs 0 (by omega) (by
      rw [hfs]
      exact rep_FR n 0 xs hxl (fun i hi => by simpa using hx i hi) fun z hz x hx => hlt x (by simp only [List.mem_flatMap]; exact ⟨z, hz, hx⟩))
    refine ⟨x, h1, ?_⟩
    have : (cs.drop 0).take (totF fs) = cs := by rw [List.drop_zero, List.take_of_length_le (by omega)]
    rwa [this] at h2
  · cases h
theorem RD.map {α β : Type} {c : α → List SV} {d : β → List SV} {W1 : α → Prop} {W2 : β → Prop} (f : α → β) (hc : ∀ x, c x = d (f x)) (hw : ∀ x, W1 x → W2 (f x)) (h : RD P t c W1) : RD P t d W2 := by
  intro H enc W fuel cs y hy hlt
  obtain ⟨x, h1, h2⟩ := h H enc W fuel cs y hy hlt
  exact ⟨f x, hw x h1, hc x ▸ h2⟩
/-! ### Arguments -/
def RDV (P : Program) (t : TypeId) {α : Type} (s : α → SV) (Wf : α → Prop) : Prop :=
  ∀ (H : Type) (enc : TypeId × Value → H) (W : World) (base : Nat) (v : Value) (d : DataW H) (p : List MemPlace), Value.okWide P W .any base t v → DataW.Trod enc P W 0 (fun _ => true) true t v d p → (∀ x ∈ p, x.block < W.heap.size) → ∃ x, Wf x ∧ Den (old W) W (s x) v
def wideT (P : Program) (t : TypeId) : Bool := match P.underlying t with
  | some (.struct _) => true
  | some (.array _ _) => true
  | _ => false
def flatT (P : Program) (t : TypeId) : Bool := match P.underlying t with
  | some .bool => true
  | some (.int _) => true
  | some .string => true
  | some (.slice _) => true
  | _ => false
theorem RDV.agg {α : Type} {c : α → List SV} {Wf : α → Prop} (hw : wideT P t = true) (h : RD P t c Wf) : RDV P t (fun x => .agg (c x)) Wf := by
  intro H enc W base v d p hok ⟨fuel, hd⟩ hlt
  have : ∃ cs, v = .agg cs := by
    unfold wideT at hw
    unfold Value.okWide at hok
    split at hw <;> rename_i hu <;> first | (rw [hu] at hok; obtain ⟨cs, h, _⟩ := hok; exact ⟨cs, h⟩) | cases hw
  obtain ⟨cs, rfl⟩ := this
  obtain ⟨x, h1, h2, h3⟩ := h H enc W fuel _ _ hd hlt
  simp only [Value.cells] at h2 h3
  exact ⟨x, h1, .agg (by simpa using h2) fun i c hc => by simpa using h3 i c hc⟩
theorem RDV.cell {α : Type} {s : α → SV} {Wf : α → Prop} (hw : flatT P t = true) (h : RD P t (fun x => [s x]) Wf) : RDV P t s Wf := by
  intro H enc W base v d p hok ⟨fuel, hd⟩ hlt
  have : ∀ cs, v ≠ .agg cs := by
    rintro cs rfl
    unfold flatT at hw
    unfold Value.okWide at hok
    split at hw <;> rename_i hu <;> first | (rw [hu] at hok; simp [Cell.okWide, Cell.ok, hu] at hok; done) | cases hw
  obtain ⟨x, h1, h2, h3⟩ := h H enc W fuel _ _ hd hlt
  have hv : v.cells = #[v] := by cases v <;> first | rfl | exact absurd rfl (this _)
  rw [hv] at h3
  exact ⟨x, h1, h3 0 _ rfl⟩
def RA (P : Program) (ts : List TypeId) (K : List SV → Prop) : Prop :=
  ∀ (H : Type) (enc : TypeId × Value → H) (W : World) (base : Nat) (vs : List Value) (ds : List (DataW H)) (p : List MemPlace), (∀ (j : Nat) (t : TypeId) (v : Value), ts[j]? = some t → vs[j]? = some v → Value.okWide P W .any base t v) →
    DataW.TrodAll enc P W 0 (fun _ => true) true ts vs ds p → (∀ x ∈ p, x.block < W.heap.size) → ∃ l, K l ∧ l.length = vs.length ∧ ∀ (i : Nat) (c : SV), l[i]? = some c → Den (old W) W c (vs.getD i undef)
theorem RA.nil : RA P [] (fun l => l = []) := fun _ _ _ _ vs ds p _ h _ => by
  cases vs <;> cases ds <;> simp only [DataW.TrodAll] at h
  exact ⟨[], rfl, rfl, by simp⟩
theorem RA.cons {α : Type} {s : α → SV} {Wf : α → Prop} {ts : List TypeId} {K : List SV → Prop} (h1 : RDV P t s Wf) (h2 : RA P ts K) : RA P (t :: ts) (fun l => ∃ x l', Wf x ∧ K l' ∧ l = s x :: l') := by
  intro H enc W base vs ds p hok h hlt
  cases vs <;> cases ds <;> simp only [DataW.TrodAll] at h
  rename_i v vs d ds
  obtain ⟨p, q, h3, h4, rfl⟩ := h
  obtain ⟨x, hx, hd⟩ := h1 H enc W base v d p (hok 0 t v rfl rfl) h3 fun z hz => hlt z (by simp [hz])
  obtain ⟨l, k1, k2, k3⟩ := h2 H enc W base vs ds q (fun j t v a b => hok (j + 1) t v a b) h4 fun z hz => hlt z (by simp [hz])
  refine ⟨s x :: l, ⟨x, l, hx, k1, rfl⟩, by simp [k2], fun i c hc => ?_⟩
  cases i with
  | zero => simp at hc; subst hc; exact hd
  | succ i => exact k3 i c (by simpa using hc)
/-- A law's claim from a contract. -/
theorem true_top (hgv : ∀ g, GV g = [] := by intro _; rfl) {C : Checked} {os : Os} {H : Type} {enc : TypeId × Value → H} {f : FuncId} {fn : Func} {s : ChangeSpec} {conds : List PathCond} {tb : TypeId} {K : List SV → Prop} {ts : List TypeId}
    (own : ownKnob C.prog.godebug = none) (started : os.Started) (noInit : C.prog.inits.idxOf? f = none) (hfn : C.prog.funcs[f]? = some fn) (hlaid : laidOutB C.prog = true)
    (hread : ∀ t ∈ fn.params.toList, C.prog.readableRec t = true ∧ t < C.prog.types.size) (hres : fn.resultTypes = #[tb]) (htb : C.prog.underlying tb = some .bool) (hvars : s.vars = [])
    (hspec : ∀ ds : List (DataW H), ds.length = fn.params.size → s.fn H ds = { results := [.lit (.bool true)], args := ds })
    (witness : ∃ (w : World) (tape : Tape) (i : Input), w.os = os ∧ (w.forCall tape i).Shaped C.prog ∧ i.vars = [] ∧ Input.okWide C.prog (w.forCall tape i) .any w.heap.size f i ∧
      s.pre6 enc C.prog fn conds false (w.forCall tape i).memory i.args ∧ Assume.holds {} C.prog (lone (Frame.enter C.prog f i.args .normal) [] (w.forCall tape i)))
    (hts : fn.params.toList = ts) (hra : RA C.prog ts K) (hc : ∀ l, K l → EC C.prog f l [] fun r B => B = [] ∧ r = .bool true) :
    ReturnsInHanded {} C os f .any (s.pre6 enc C.prog fn conds false) (s.post enc C.prog fn false true false false) := by
  refine true_lifted hgv (C := C) (tb := tb) own started noInit hfn hlaid hread hres htb hvars hspec witness ?_
  intro W base args ds p hval hlt hsz hA
  obtain ⟨l, h1, h2, h3⟩ := hra H enc W base args.toList ds p (fun j t v a b => hval j t v (by rw [← hts] at a; simpa using a) (by simpa using b)) (hts ▸ hA) hlt
  exact ⟨l, ⟨by simpa using h2.symm, fun i c hi => by simpa using h3 i c hi⟩, hc l h1⟩
end
end Go.Lift
