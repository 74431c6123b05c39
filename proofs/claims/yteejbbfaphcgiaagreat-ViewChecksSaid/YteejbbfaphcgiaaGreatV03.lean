/- Part 3. -/
import Derived.ProofKit
import Derived.SizedLaws
import Derived.OpenShut
import Derived.Test.YteejbbfaphcgiaaGreatV01
namespace Go.Lift
set_option linter.unusedSimpArgs false
set_option linter.unusedVariables false
open List (mem_cons not_mem_nil all_eq_true mem_of_getElem? getD mem_flatMap)
open Nat (lt_of_lt_of_le)
section
variable {P:Program} {E:Env} {n:Nat} {ws:List Bool} {ops:Array Oper} {t:aV} {B:List aI} {K:aV→List aI→Prop} {fuel:Nat} {listed:Array Bool}
def I7 (P:Program) (n:Nat) (ops:Array Oper) (ws:List Bool) (t:aV) (B:List aI) (K:aV→List aI→Prop) (fuel:Nat) (listed:Array Bool) (i:Nat):Prop:=
 ∀X0 w0 B0 X w a,Ext X0 w0 B0 X w B→St X w B t n a→wpOp P ops (tT n K X0 w0 B0) i (fun a' w'=>(gk [] (listed.setIfInBounds i true)=true∨Kept w (kR ws B) w')∧wpAnyS P ops (tT n K X0 w0 B0) [] (Kept w (kR ws B)) fuel (listed.setIfInBounds i true) a' w') a w
theorem LR {i j:Nat} (hr:Region.ready .any ops listed=[i,j]) (h1:I7 P n ops ws t B K fuel listed i) (h2:I7 P n ops ws t B K fuel listed j):ED P n ops [] ws t B K (fuel+1) listed:=by
 intro X0 w0 B0 X w a he hs;refine fN hr (by simp) fun k hk=>?_;simp only [mem_cons,not_mem_nil,or_false] at hk;rcases hk with rfl|rfl
 ·exact h1 X0 w0 B0 X w a he hs
 ·exact h2 X0 w0 B0 X w a he hs
theorem Hs {i:Nat} {o:Oper} {f:FuncId} {args:List SV} (hi:ops[i]?=some o) (hw:∀X w a,St X w B t n a→Region.wanted o (yielded ops a.tmps)=true)
  (hrun:∀X w a,St X w B t n a→∃vals,(execOp a.eval o).run P w= .ok (.enter f vals) w∧Cm X w args vals)
  (h:EC P f args (kR ws B) fun s B'=>ED P n ops [] ws (eF n t o.dst s) (pV ws B B') K fuel (listed.setIfInBounds i true)):I7 P n ops ws t B K fuel listed i:=by
 intro X0 w0 B0 X w a he hs;unfold wpOp;simp only [hi];rw [if_pos (hw X w a hs)];left;obtain ⟨vals,h1,h2⟩:=hrun X w a hs;unfold Oper.wp;rw [h1];simp only [Oper.upon];refine (h.2 X w vals (hs.sat.rw ws) h2).mono ?_;rintro e w' ⟨v,s,X',B',rfl,hK,hsat0,hden,hext0⟩;simp only;obtain ⟨hsat,hext⟩:=hs.sat.merge hsat0 hext0;have hst:St X' w' (pV ws B B') (eF n t o.dst s) n (a.put o.dst v):=by
  refine ⟨?_,hsat,?_⟩
  ·have:=hs.defers;cases o.dst<;>simpa [Act.put] using this
  ·exact gJ ⟨hs.den.1,fun i=>(hs.den.2 i).ext hs.sat hext⟩ hden
 exact ⟨.inr (Kept.ext hext0),gZ (fun w'' hk=>Kept.sb hext0 (fun b hb=>pA hb) hk) _ _ _ _ (hK X0 w0 B0 X' w' _ (he.trans hext) hst)⟩
theorem I6 {i:Nat} {o:Oper} {out:aN→Out} (hi:ops[i]?=some o) (hw:∀X w a,St X w B t n a→Region.wanted o (yielded ops a.tmps)=true)
  (hu:∀X w a,St X w B t n a→∃h,(out h).vc→AO P X w (kR ws B) (execOp a.eval o) (out h)) (hh:∀h,(out h).vc∧ED P n ops [] ws (eF n t o.dst (out h).v) (pV ws B (out h).B) K fuel (listed.setIfInBounds i true)):I7 P n ops ws t B K fuel listed i:=by
 intro X0 w0 B0 X w a he hs;unfold wpOp;simp only [hi];rw [if_pos (hw X w a hs)];left;obtain ⟨hd,hu⟩:=hu X w a hs;obtain ⟨hvc,h⟩:=hh hd;obtain ⟨v,w',h1,hsat0,hden,hext0⟩:=hu hvc;obtain ⟨hsat,hext⟩:=hs.sat.merge hsat0 hext0;have hst:St X w' (pV ws B (out hd).B) (eF n t o.dst (out hd).v) n (a.put o.dst v):=by
  refine ⟨?_,hsat,?_⟩
  ·have:=hs.defers;cases o.dst<;>simpa [Act.put] using this
  ·exact gJ ⟨hs.den.1,fun i=>(hs.den.2 i).ext hs.sat hext⟩ hden
 have key:(gk [] (listed.setIfInBounds i true)=true∨Kept w (kR ws B) w')∧wpAnyS P ops (tT n K X0 w0 B0) [] (Kept w (kR ws B)) fuel (listed.setIfInBounds i true) (a.put o.dst v) w':=
  ⟨.inr (Kept.ext hext0),gZ (fun w'' hk=>Kept.sb hext0 (fun b hb=>pA hb) hk) _ _ _ _ (h X0 w0 B0 X w' _ (he.trans hext) hst)⟩
 unfold Oper.wp;rcases h1 with h1|⟨h1,rfl⟩
 ·rw [h1];simp only [Oper.upon];exact key
 ·rw [h1];simp only [Oper.upon];exact key
def qX (P:Program) (E:Env) (n:Nat) (ops:Array Oper) (ws:List Bool) (t:aV) (B:List aI) (K:aV→List aI→Prop) (fuel:Nat) (listed:Array Bool) (i:Nat):Prop:=
 match ops[i]? with
 |none=>False
 |some o=>match o.guard with
  |some _=>False
  |none=>match fm o.op with
   |true=>match h_ false t o.op with
    |some (f,args)=>EC P f args (kR ws B) fun s B'=>ED P n ops [] ws (eF n t o.dst s) (pV ws B B') K fuel (listed.setIfInBounds i true)
    |none=>False
   |false=>∀h,match de E false h t (kR ws B) o.op with
    |⟨v,B',c⟩=>c∧ED P n ops [] ws (eF n t o.dst v) (pV ws B B') K fuel (listed.setIfInBounds i true)
theorem m9 (hE:cI P E) {i:Nat} (h:qX P E n ops ws t B K fuel listed i):I7 P n ops ws t B K fuel listed i:=by
 unfold qX at h
 cases hi:ops[i]? with
 |none=>simp [hi] at h
 |some o=>
  simp only [hi] at h
  cases hg:o.guard with
  |some jw=>simp [hg] at h
  |none=>
   have hw:∀X w a,St X w B t n a→Region.wanted o (yielded ops a.tmps)=true:=fun X w a _=>by simp [Region.wanted,hg]
   simp only [hg] at h
   cases hco:fm o.op with
   |true=>
    simp only [hco] at h
    cases hcall:h_ false t o.op with
    |none=>simp [hcall] at h
    |some fa=>
     obtain ⟨f,args⟩:=fa;simp only [hcall] at h;exact Hs hi hw (fun X w a hs=>lT hcall (fun x _=>fQ hs.sat.xg hs.den x) h.1) h
   |false=>
    simp only [hco] at h;exact I6 hi hw (out:=fun h=>de E false h t (kR ws B) o.op) (fun X w a hs=>iY hE (hs.sat.rw ws) hs.den (o:=o) (st:=false) (by simp)) fun hd=>h hd
def yO (ops:Array Oper):List Nat→Array Bool→Bool
 |[],_=>true
 |i :: r,listed=>(match ops[i]? with
  |none=>false
  |some o=>!(fm o.op || kW o.op) && (Region.free .any ops listed i && (Region.ready .any ops listed).contains i)) && yO ops r (listed.setIfInBounds i true)
def CD (P:Program) (E:Env) (n:Nat) (ops:Array Oper) (ws:List Bool) (K:aV→List aI→Prop) (m:Nat):List Nat→aV→List aI→Array Bool→Prop
 |[],t,B,listed=>ED P n ops [] ws t B K m listed
 |i :: r,t,B,listed=>match ops[i]? with
  |none=>False
  |some o=>match o.guard with
   |some _=>False
   |none=>match de E false (.void none) t (qT ws B) o.op with
    |⟨v,_,c⟩=>mn o.op v∧c∧CD P E n ops ws K m r (eF n t o.dst v) B (listed.setIfInBounds i true)
theorem AN (hE:cI P E) (hns:Region.noSelect ops=true) {m:Nat}:∀(ord:List Nat) (t:aV) (B:List aI) (listed:Array Bool),yO ops ord listed=true→CD P E n ops ws K m ord t B listed→ED P n ops [] ws t B K (m+ord.length) listed
 |[],t,B,listed,_,h=>h
 |i :: r,t,B,listed,ho,h=>by
  simp only [yO,Bool.and_eq_true] at ho;obtain ⟨ho,ho2⟩:=ho;simp only [CD] at h
  cases hi:ops[i]? with
  |none=>simp [hi] at h
  |some o=>
   simp only [hi,Bool.and_eq_true] at h ho
   cases hg:o.guard with
   |some jw=>simp [hg] at h
   |none=>
    have hw:∀X w a,St X w B t n a→Region.wanted o (yielded ops a.tmps)=true:=fun X w a _=>by simp [Region.wanted,hg]
    simp only [hg] at h;obtain ⟨h1,h2,h3⟩:=h;refine uS (fuel:=m+r.length) hi hns ho.2.1 ho.2.2 (by simp [gk]) (by simp) (by simp) (fun X w a hs=>?_) (AN hE hns r _ _ _ ho2 h3);obtain ⟨v,hd,hu⟩:=uH hE hs (st:=false) (by simp) h1 h2;exact ⟨v,.inl ⟨hw X w a hs,hu⟩,hd⟩
end
attribute [push_cast] qX CD
section
variable {P:Program} {E:Env} {n:Nat} {ws:List Bool} {ops:Array Oper} {t t':aV} {B:List aI} {K:aV→List aI→Prop} {fuel:Nat} {listed:Array Bool}
theorem CU {B:List aI} {m i:Nat} {o:aI} (hm:m < B.length):au (B.set m o) i=if i=m then o else au B i:=by
 simp only [au,List.getD_eq_getElem?_getD,List.getElem?_set];by_cases e:m=i
 ·subst e;simp [hm]
 ·simp [e,Ne.symm e]
theorem Bg {b:Nat}:¬hU [] b:=by rintro ⟨i,hi⟩;simp [au,aI.blocks] at hi
theorem Kept.sub {w w1:World} {C C':List aI} (k:Kept w C' w1) (h:∀b,hU C' b→hU C b):Kept w C w1:=⟨k.os,k.tape,k.output,k.size,fun b hb hn=>k.block b hb fun ho=>hn (h b ho)⟩
structure Sf where
 i:Nat
 d:Nat
 m:Nat
 row:aN→aI
 sv:aN→SV
variable {A C:Sf} {t0:aV} {B0:List aI} {l0 lA lC lX:Array Bool} {f0 fA fC fX:Nat} {tA tC:aN→aV} {BA BC:aN→List aI} {tX:aN→aN→aV} {BX:aN→aN→List aI}
theorem pf {c:Code} {Q:gX} {m:Nat} {R:List aI} (h:kA t t') (hB:B.take m=R) (hv:EV P n c t' R Q):EV P n c t B Q:=IV m h (hB▸hv)
theorem pj {σ:Type} (live:List Nat) (V:σ→aV) (R:List aI→σ→List aI) (Inv:σ→Prop) {c:Code} {Q:gX}
  (hrest:∀s,Inv s→∀t' B',kA t' (V s ++ bK t live)→B'.take (R B s).length=R B s→K t' B')
  (h:EV P n c t B (gy (fun t' B'=>∃s,Inv s∧kA t' (V s ++ bK t live)∧B'.take (R B s).length=R B s) Q)):EV P n c t B (gy K Q):=
 IW (fun s=>V s ++ bK t live) (fun s=>R B s) Inv (fun s t' B' h1 h2 h3=>hrest s h1 t' B' h2 h3) h
theorem Den.Fg {X X':Nat→Prop} {w w':World} {s:SV} {v:Value} (h:Go.Lift.Fg s=true) (hd:Den X w s v):Den X' w' s v:=by
 cases hd<;>first|(constructor;done)|(constructor;assumption;done)|(simp [Go.Lift.Fg] at h;done)
theorem Den.fo {X X':Nat→Prop} {w w':World} {s:SV} {v:Value} (h:Go.Lift.fo s=true) (hd:Den X w s v):Den X' w' s v:=by
 cases s with
 |agg cs=>
  cases hd with
  |agg hs hc=>
   refine .agg hs fun i c hi=>(hc i c hi).Fg ?_;simp only [Go.Lift.fo,all_eq_true] at h;exact h c (mem_of_getElem? hi)
 |_=>exact hd.Fg (by simpa [Go.Lift.fo] using h)
def JI:SV→Bool
 | .bS cs=>cs.all fo
 |s=>fo s
theorem Den.JI {X X':Nat→Prop} {w w':World} {s:SV} {v:Value} (h:Go.Lift.JI s=true) (hd:Den X w s v):Den X' w' s v:=by
 cases s with
 |bS cs=>
  cases hd with
  |bS hs hc=>
   refine .bS hs fun i c hi=>(hc i c hi).fo ?_;simp only [Go.Lift.JI,all_eq_true] at h;exact h c (mem_of_getElem? hi)
 |_=>exact hd.fo (by simpa [Go.Lift.JI] using h)
theorem EC.t6 {f:Nat} {args args':List SV} {B:List aI} {C:SV→Prop} {Q:SV→List aI→Prop} (h:EC P f args' [] fun r N=>N=[]∧C r) (ha:d_ 0 B args args') (hf:∀r,C r→JI r=true) (hk:∀r,C r→Q r B):EC P f args B Q:=by
 have hb:∀i,au ([]:List aI) i=if bc 0 i then .gone else au B i:=fun i=>by simp [bc,au]
 refine ⟨h.1,fun X w vs hs hd=>?_⟩;have hsp:=ha.spec;refine (h.2 (dz X B (bc 0)) w vs (hs.dY hb) ⟨by rw [hd.1,hsp.1],fun i c hc=>?_⟩).mono ?_
 ·obtain ⟨d,h1,h2,h3⟩:=hsp.2 i c hc;exact h3 _ _ _ (eR hs (hd.2 i d h1) h2)
 ·rintro e w' ⟨v,r,X',B',he,⟨rfl,hq⟩,h1,h2,h3⟩;have hblk:∀b,b < w.heap.size→w'.heap[b]?=w.heap[b]?:=fun b hb=>h3.block b hb Bg;refine ⟨v,r,X,B,he,hk r hq,⟨hs.inj,fun i b h=>lt_of_lt_of_le (hs.lt i b h) h3.size,hs.xg.mono (fun _ h=>h) (fun b hb=>hblk b (hs.og b hb)) fun b h=>lt_of_lt_of_le (hs.og b h) h3.size,hs.apart,fun i=>?_⟩,h2.JI (hf r hq),
   ⟨h3.os,h3.tape,h3.output,h3.size,fun b hb _=>hblk b hb,fun _ h=>h,fun _ h=> .inl h,fun _ h=> .inl h⟩⟩
  exact aI.ig (hs.ok i) (fun _ h=>h) (fun b hb=>hblk b (hs.og b hb)) fun b hb=>hblk b (hs.lt i b hb)
theorem d_.row {α:Type} {B:List aI} {i e n E:Nat} {h:aN} {xs:List (List SV)} {cells:α→List SV} {d:α} {l:List α} {r r':List SV} (hB:au B i= .row h E e xs) (hx:xs=l.map cells) (hn:n=l.length) (hr:d_ 0 B r r'):
  d_ 0 B (.row i h e 0 n :: r) (.sl false e l.length (cA cells d l) :: r'):=by
 subst hx hn;refine .cons ?_ ?_ hr
 ·simp [dE,fw,cf,bc,hB]
 ·simp only [fu,iT,gl,bc,Nat.zero_le,decide_true,hB];refine bq.sl (fun h=>h) (.inr rfl) fun k hk=>?_;simp [getD,hk,cA]
theorem d_.int {B:List aI} {k:IntKind} {n:Int} {r r':List SV} (hr:d_ 0 B r r'):d_ 0 B (.int k n :: r) (.int k n :: r'):= .cons trivial (bq.refl _) hr
theorem d_.str {B:List aI} {n:List UInt8} {r r':List SV} (hr:d_ 0 B r r'):d_ 0 B (.str n :: r) (.str n :: r'):= .cons trivial (bq.refl _) hr
end
structure Kn where
 f:Exit→aV→List aI→Prop
def I2 (P:Program) (n:Nat) (all l:List Oper) (t:aV) (B:List aI) (k:Kn):Prop:=EO P n all l t B (k.f .normal)
def kF (P:Program) (n:Nat) (all:List Oper) (k:Kn):O_→Prop
 | .done t B=>k.f .normal t B
 | .AE c r=>c∧kF P n all k r
 | .call f args d rest t B=>EC P f args B fun r B'=>I2 P n all rest (eF n t d r) B' k
 | .DV c f args d rest t B=>(c=true→EC P f args B fun r B'=>I2 P n all rest (eF n t d r) B' k)∧(c=false→I2 P n all rest (eF n t d (.opt false (.bool false))) B k)
 | .split c o rest t B=>(c=true→I2 P n all (uD o :: rest) t B k)∧(c=false→I2 P n all rest (eF n t o.dst (.opt false (.bool false))) B k)
theorem pD {P:Program} {n:Nat} {all:List Oper} {k:Kn}:∀(r:O_),kF P n all k r=holds P n all (k.f .normal) r
 | .done _ _=>rfl
 | .AE c r=>by simp only [kF,holds,pD r]
 | .call .. =>rfl
 | .DV .. =>rfl
 | .split .. =>rfl
def wk (P:Program) (E:Env) (n:Nat):Code→Kn→aV→List aI→Prop
 | .skip,k,t,B=>k.f .normal t B
 | .ret,k,t,B=>k.f .ret t B
 | .exit id,k,t,B=>k.f (.exit id) t B
 | .label _,k,t,B=>k.f .normal t B
 | .seq x y,k,t,B=>wk P E n x ⟨gy (fun t B=>wk P E n y k t B) k.f⟩ t B
 | .block id c,k,t,B=>wk P E n c ⟨jM id k.f⟩ t B
 | .scope c,k,t,B=>wk P E n c ⟨nc k.f⟩ t B
 | .cond c x y,k,t,B=>match ev t c with
  | .bool p=>(p=true→wk P E n x k t B)∧(p=false→wk P E n y k t B)
  |_=>False
 | .region _ ops false,k,t,B=>∀fr,kF P n ops.toList k (run E n ops.toList fr 0 ops.toList t B)
 | .region id ops true,k,t,B=>EV P n (.region id ops true) t B k.f
 | .loop c,k,t,B=>EV P n (.loop c) t B k.f
 |_,_,_,_=>False
def Py (P:Program) (E:Env) (n:Nat) (y:Code) (k:Kn):Kn:=⟨gy (fun t B=>wk P E n y k t B) k.f⟩
def FM (id:Nat) (k:Kn):Kn:=⟨jM id k.f⟩
def Cp (N:aV→List aI→Prop) (k:Kn):Kn:=⟨gy N k.f⟩
def Mi (Q:gX):Kn:=⟨Q⟩
section
variable {P:Program} {E:Env} {n:Nat} {k:Kn} {t:aV} {B:List aI} {Q:gX}
theorem HR:wk P E n .skip k t B=k.f .normal t B:=rfl
theorem Ke:wk P E n .ret k t B=k.f .ret t B:=rfl
theorem HT {id:Nat}:wk P E n (.exit id) k t B=k.f (.exit id) t B:=rfl
theorem Kd {x y:Code}:wk P E n (.seq x y) k t B=wk P E n x (Py P E n y k) t B:=rfl
theorem FW {id:Nat} {c:Code}:wk P E n (.block id c) k t B=wk P E n c (FM id k) t B:=rfl
theorem Di {c:Operand} {x y:Code}:wk P E n (.cond c x y) k t B=match ev t c with
  | .bool p=>(p=true→wk P E n x k t B)∧(p=false→wk P E n y k t B)
  |_=>False:=rfl
theorem Ec {id:Nat} {ops:Array Oper}:wk P E n (.region id ops false) k t B=∀fr,kF P n ops.toList k (run E n ops.toList fr 0 ops.toList t B):=rfl
theorem FV {id:Nat} {ops:Array Oper}:wk P E n (.region id ops true) k t B=EV P n (.region id ops true) t B k.f:=rfl
theorem HS {c:Code}:wk P E n (.loop c) k t B=EV P n (.loop c) t B k.f:=rfl
theorem Nl {y:Code}:(Py P E n y k).f .normal t B=wk P E n y k t B:=rfl
theorem Nm {y:Code} {i:Nat}:(Py P E n y k).f (.exit i) t B=k.f (.exit i) t B:=rfl
theorem Nk {y:Code}:(Py P E n y k).f .ret t B=k.f .ret t B:=rfl
theorem O1 {i:Nat}:(FM i k).f .normal t B=k.f .normal t B:=rfl
theorem O2 {i j:Nat}:(FM i k).f (.exit j) t B=if j=i then k.f .normal t B else k.f (.exit j) t B:=rfl
theorem O0 {i:Nat}:(FM i k).f .ret t B=k.f .ret t B:=rfl
theorem Ol {N:aV→List aI→Prop}:(Cp N k).f .normal t B=N t B:=rfl
theorem Om {N:aV→List aI→Prop} {j:Nat}:(Cp N k).f (.exit j) t B=k.f (.exit j) t B:=rfl
theorem Ok {N:aV→List aI→Prop}:(Cp N k).f .ret t B=k.f .ret t B:=rfl
theorem O6 {e:Exit}:(Mi Q).f e t B=Q e t B:=rfl
theorem j5 (hE:cI P E):∀(c:Code) (k:Kn) (t:aV) (B:List aI),wk P E n c k t B→EV P n c t B k.f
 | .skip,_,_,_,h=>uP h
 | .ret,_,_,_,h=>AL h
 | .exit _,_,_,_,h=>uQ h
 | .label _,_,_,_,h=>rX h
 | .seq x y,k,t,B,h=>ph fun K hK=>(j5 hE x _ t B h).mono fun e t' B' hq=>by
   cases e<;>try exact hq
   exact hK _ _ (j5 hE y k t' B' hq)
 | .block id c,k,t,B,h=>lV (j5 hE c _ t B h)
 | .scope c,k,t,B,h=>rW (j5 hE c _ t B h)
 | .cond c x y,k,t,B,h=>by
   rw [Di] at h
   split at h
   ·rename_i p hp;exact az hp (fun e=>j5 hE x k t B (h.1 e)) (fun e=>j5 hE y k t B (h.2 e))
   ·exact h.elim
 | .region id ops false,k,t,B,h=>by
   intro X0 w0 B0 X w a he hs;refine wp_region_list ?_;have:=pv hE (K:=k.f .normal) ops.toList 0 t B (fun fr=>by rw [←pD];exact h fr) k.f (fun _ _ h=>h) X0 w0 B0 X w a he hs;simpa using this
 | .region id ops true,k,t,B,h=>h
 | .loop c,k,t,B,h=>h
theorem jy (hE:cI P E) {all l:List Oper} {m:Nat} (h:∀fr,kF P n all k (run E n all fr m l t B)):I2 P n all l t B k:=
 pv hE l m t B fun fr=>by rw [←pD];exact h fr
theorem EC.Ls (hE:cI P E) {f:FuncId} {fn:Func} {c:Code} {args:List SV} {B:List aI} {Q:SV→List aI→Prop} (hc:fK P f=true) (hf:P.funcs[f]?=some fn) (hb:fn.body=some c) (hn:args.length≤fn.ntmps)
  (h:wk P E fn.ntmps c (Mi (wZ E fn.results.toList Q)) (fL 0 args) B):EC P f args B Q:=
 EC.enter hE hc hf hb hn (j5 hE c _ _ B h)
variable {all rest:List Oper} {d:Option Nat} {f:FuncId} {args:List SV}
def NX {σ:Type} (V:σ→aV) (R:σ→List aI) (Inv:σ→Prop) (μ:σ→Nat) (live:aV) (s:σ) (t':aV) (B':List aI):Prop:=
 ∃s',Inv s'∧μ s' < μ s∧kA t' (V s' ++ live)∧B'.take (R s').length=R s'
theorem a7 {σ:Type} {V:σ→aV} {R:σ→List aI} {Inv:σ→Prop} {μ:σ→Nat} {live:aV} {s:σ} {t':aV} {B':List aI} (s':σ) (hI:Inv s')
  (hm:μ s' < μ s:=by first|omega|(simp;omega)) (hw:kA t' (V s' ++ live):=by first|(simp [kA,dd,List.take_length];done)|((repeat (first|exact trivial|refine And.intro (by first|rfl|(simp only [dd,push_cast,simprocAttr];done)|(simp [dd];done)|fail) ?_));done)|fail)
  (hb:B'.take (R s').length=R s':=by first|rfl|(simp only [push_cast,List.take_length,List.take_append_of_le_length,simprocAttr];done)|(simp [cP,cW,jA];done)|fail):NX V R Inv μ live s t' B':=⟨s',hI,hm,hw,hb⟩
theorem eh (hE:cI P E) {σ:Type} (live:List Nat) (V:σ→aV) (R:List aI→σ→List aI) (Inv:σ→Prop) (μ:σ→Nat) (s0:σ) {c:Code} (h0:Inv s0)
  (round:∀s,Inv s→wk P E n c (Cp (NX V (R B) Inv μ (bK t live) s) k) (V s ++ bK t live) (R B s)) (hw:kA t (V s0):=by first|exact ⟨rfl,trivial⟩|(simp [kA,dd];done)|(repeat (first|exact trivial|refine And.intro (by first|rfl|(simp only [dd,push_cast,simprocAttr];done)|(simp [dd];done)) ?_)))
  (hb:R B s0=B:=by first|rfl|(simp [cP,cW,jA];done)):EV P n (.loop c) t B k.f:=
 jx live V R Inv μ s0 h0 hw hb fun s hs=>(j5 hE c _ _ _ (round s hs)).mono fun e t' B' h=>by cases e<;>exact h
def OC (E:Env):Env:={E with kp:=true}
theorem IE (hE:cI P E):cI P (OC E):=⟨hE.ty,hE.zr,hE.lv⟩
theorem sd {a b:Prop} (hb:b) (ha:a:=by first|omega|(simp (maxDischargeDepth:=9) only [push_cast,simprocAttr];done)|decide|(simp;done)|(simp;omega)):a∧b:=⟨ha,hb⟩
end
attribute [push_cast] HR Ke HT Kd FW Di Ec FV HS Nl Nm Nk O1 O2 O0 Ol Om Ok O6 kF wZ FL qa vJ fL
section
variable {P:Program} {E:Env} {n:Nat} {ws:List Bool} {ops:Array Oper} {t:aV} {B:List aI} {K:aV→List aI→Prop} {fuel:Nat} {listed:Array Bool} {late:List Nat}
def Mm (P:Program) (n:Nat) (ops:Array Oper) (late:List Nat) (ws:List Bool) (t:aV) (B:List aI) (K:aV→List aI→Prop) (fuel:Nat) (listed:Array Bool) (i:Nat):Prop:=
 ∀X0 w0 B0 X w a,Ext X0 w0 B0 X w B→St X w B t n a→wpOp P ops (tT n K X0 w0 B0) i (fun a' w'=>(gk late (listed.setIfInBounds i true)=true∨Kept w (kR ws B) w')∧wpAnyS P ops (tT n K X0 w0 B0) late (Kept w (kR ws B)) fuel (listed.setIfInBounds i true) a' w') a w
theorem I3 {i j:Nat} (hr:Region.ready .any ops listed=[i,j]) (h1:Mm P n ops late ws t B K fuel listed i) (h2:Mm P n ops late ws t B K fuel listed j):ED P n ops late ws t B K (fuel+1) listed:=by
 intro X0 w0 B0 X w a he hs;refine fN hr (by simp) fun k hk=>?_;simp only [mem_cons,not_mem_nil,or_false] at hk;rcases hk with rfl|rfl
 ·exact h1 X0 w0 B0 X w a he hs
 ·exact h2 X0 w0 B0 X w a he hs
theorem Hr {i:Nat} {o:Oper} {f:FuncId} {args:List SV} (hi:ops[i]?=some o) (hw:∀X w a,St X w B t n a→Region.wanted o (yielded ops a.tmps)=true)
  (hrun:∀X w a,St X w B t n a→∃vals,(execOp a.eval o).run P w= .ok (.enter f vals) w∧Cm X w args vals)
  (h:EC P f args (kR ws B) fun s B'=>ED P n ops late ws (eF n t o.dst s) (pV ws B B') K fuel (listed.setIfInBounds i true)):Mm P n ops late ws t B K fuel listed i:=by
 intro X0 w0 B0 X w a he hs;unfold wpOp;simp only [hi];rw [if_pos (hw X w a hs)];left;obtain ⟨vals,h1,h2⟩:=hrun X w a hs;unfold Oper.wp;rw [h1];simp only [Oper.upon];refine (h.2 X w vals (hs.sat.rw ws) h2).mono ?_;rintro e w' ⟨v,s,X',B',rfl,hK,hsat0,hden,hext0⟩;simp only;obtain ⟨hsat,hext⟩:=hs.sat.merge hsat0 hext0;have hst:St X' w' (pV ws B B') (eF n t o.dst s) n (a.put o.dst v):=by
  refine ⟨?_,hsat,?_⟩
  ·have:=hs.defers;cases o.dst<;>simpa [Act.put] using this
  ·exact gJ ⟨hs.den.1,fun i=>(hs.den.2 i).ext hs.sat hext⟩ hden
 exact ⟨.inr (Kept.ext hext0),gZ (fun w'' hk=>Kept.sb hext0 (fun b hb=>pA hb) hk) _ _ _ _ (hK X0 w0 B0 X' w' _ (he.trans hext) hst)⟩
theorem I5 {i:Nat} {o:Oper} {out:aN→Out} (hi:ops[i]?=some o) (hw:∀X w a,St X w B t n a→Region.wanted o (yielded ops a.tmps)=true)
  (hu:∀X w a,St X w B t n a→∃h,(out h).vc→AO P X w (kR ws B) (execOp a.eval o) (out h)) (hh:∀h,(out h).vc∧ED P n ops late ws (eF n t o.dst (out h).v) (pV ws B (out h).B) K fuel (listed.setIfInBounds i true)):Mm P n ops late ws t B K fuel listed i:=by
 intro X0 w0 B0 X w a he hs;unfold wpOp;simp only [hi];rw [if_pos (hw X w a hs)];left;obtain ⟨hd,hu⟩:=hu X w a hs;obtain ⟨hvc,h⟩:=hh hd;obtain ⟨v,w',h1,hsat0,hden,hext0⟩:=hu hvc;obtain ⟨hsat,hext⟩:=hs.sat.merge hsat0 hext0;have hst:St X w' (pV ws B (out hd).B) (eF n t o.dst (out hd).v) n (a.put o.dst v):=by
  refine ⟨?_,hsat,?_⟩
  ·have:=hs.defers;cases o.dst<;>simpa [Act.put] using this
  ·exact gJ ⟨hs.den.1,fun i=>(hs.den.2 i).ext hs.sat hext⟩ hden
 have key:(gk late (listed.setIfInBounds i true)=true∨Kept w (kR ws B) w')∧wpAnyS P ops (tT n K X0 w0 B0) late (Kept w (kR ws B)) fuel (listed.setIfInBounds i true) (a.put o.dst v) w':=
  ⟨.inr (Kept.ext hext0),gZ (fun w'' hk=>Kept.sb hext0 (fun b hb=>pA hb) hk) _ _ _ _ (h X0 w0 B0 X w' _ (he.trans hext) hst)⟩
 unfold Oper.wp;rcases h1 with h1|⟨h1,rfl⟩
 ·rw [h1];simp only [Oper.upon];exact key
 ·rw [h1];simp only [Oper.upon];exact key
def yD (P:Program) (E:Env) (n:Nat) (ops:Array Oper) (late:List Nat) (ws:List Bool) (t:aV) (B:List aI) (K:aV→List aI→Prop) (fuel:Nat) (listed:Array Bool) (i:Nat):Prop:=
 match ops[i]? with
 |none=>False
 |some o=>match o.guard with
  |some _=>False
  |none=>match fm o.op with
   |true=>match h_ false t o.op with
    |some (f,args)=>EC P f args (kR ws B) fun s B'=>ED P n ops late ws (eF n t o.dst s) (pV ws B B') K fuel (listed.setIfInBounds i true)
    |none=>False
   |false=>∀h,match de E false h t (kR ws B) o.op with
    |⟨v,B',c⟩=>c∧ED P n ops late ws (eF n t o.dst v) (pV ws B B') K fuel (listed.setIfInBounds i true)
theorem wT (hE:cI P E) {i:Nat} (h:yD P E n ops late ws t B K fuel listed i):Mm P n ops late ws t B K fuel listed i:=by
 unfold yD at h
 cases hi:ops[i]? with
 |none=>simp [hi] at h
 |some o=>
  simp only [hi] at h
  cases hg:o.guard with
  |some jw=>simp [hg] at h
  |none=>
   have hw:∀X w a,St X w B t n a→Region.wanted o (yielded ops a.tmps)=true:=fun X w a _=>by simp [Region.wanted,hg]
   simp only [hg] at h
   cases hco:fm o.op with
   |true=>
    simp only [hco] at h
    cases hcall:h_ false t o.op with
    |none=>simp [hcall] at h
    |some fa=>
     obtain ⟨f,args⟩:=fa;simp only [hcall] at h;exact Hr hi hw (fun X w a hs=>lT hcall (fun x _=>fQ hs.sat.xg hs.den x) h.1) h
   |false=>
    simp only [hco] at h;exact I5 hi hw (out:=fun h=>de E false h t (kR ws B) o.op) (fun X w a hs=>iY hE (hs.sat.rw ws) hs.den (o:=o) (st:=false) (by simp)) fun hd=>h hd
def EA (ops:Array Oper) (late:List Nat):List Nat→Array Bool→Bool
 |[],_=>true
 |i :: r,listed=>(match ops[i]? with
  |none=>false
  |some o=>!(fm o.op || kW o.op) && (Region.free .any ops listed i && (Region.ready .any ops listed).contains i) && (!gk late listed && late.all fun b=>b !=i && (match ops[b]? with
   |some ob=>ob.after.any fun e=>Region.binds .any e && e.on == i
   |none=>true))) && EA ops late r (listed.setIfInBounds i true)
def CE (P:Program) (E:Env) (n:Nat) (ops:Array Oper) (late:List Nat) (ws:List Bool) (K:aV→List aI→Prop) (m:Nat):List Nat→aV→List aI→Array Bool→Prop
 |[],t,B,listed=>ED P n ops late ws t B K m listed
 |i :: r,t,B,listed=>match ops[i]? with
  |none=>False
  |some o=>match o.guard with
   |some _=>False
   |none=>match de E false (.void none) t (qT ws B) o.op with
    |⟨v,_,c⟩=>mn o.op v∧c∧CE P E n ops late ws K m r (eF n t o.dst v) B (listed.setIfInBounds i true)
theorem uR (hE:cI P E) (hns:Region.noSelect ops=true) {m:Nat}:∀(ord:List Nat) (t:aV) (B:List aI) (listed:Array Bool),EA ops late ord listed=true→CE P E n ops late ws K m ord t B listed→ED P n ops late ws t B K (m+ord.length) listed
 |[],t,B,listed,_,h=>h
 |i :: r,t,B,listed,ho,h=>by
  simp only [EA,Bool.and_eq_true] at ho;obtain ⟨ho,ho2⟩:=ho;simp only [CE] at h
  cases hi:ops[i]? with
  |none=>simp [hi] at h
  |some o=>
   simp only [hi,Bool.and_eq_true] at h ho
   cases hg:o.guard with
   |some jw=>simp [hg] at h
   |none=>
    have hw:∀X w a,St X w B t n a→Region.wanted o (yielded ops a.tmps)=true:=fun X w a _=>by simp [Region.wanted,hg]
    simp only [hg] at h;obtain ⟨h1,h2,h3⟩:=h;refine uS (fuel:=m+r.length) hi hns ho.1.2.1 ho.1.2.2 (by simpa using ho.2.1) (fun b hb=>by have:=List.all_eq_true.1 ho.2.2 b hb;simp only [Bool.and_eq_true,bne_iff_ne,ne_eq] at this;exact this.1) (fun b hb ob hob=>by have:=List.all_eq_true.1 ho.2.2 b hb;simp only [Bool.and_eq_true,hob,Array.any_eq_true] at this;obtain ⟨k,hk,h1⟩:=this.2;simp only [beq_iff_eq] at h1;exact ⟨_,Array.getElem_mem hk,h1⟩) (fun X w a hs=>?_) (uR hE hns r _ _ _ ho2 h3);obtain ⟨v,hd,hu⟩:=uH hE hs (st:=false) (by simp) h1 h2;exact ⟨v,.inl ⟨hw X w a hs,hu⟩,hd⟩
end
theorem gM {B N:List aI} {j:Nat}:au (B ++ N) j=if j < B.length then au B j else au N (j - B.length):=by
 unfold au;simp only [getD,List.getElem?_append]
 split<;>rfl
theorem EC.qz {P:Program} {f:Nat} {args:List SV} {B:List aI} {σ:Type} {C:σ→Prop} {N:σ→List aI} {R:σ→Nat→SV} {Q:SV→List aI→Prop}
  (hc:EC P f args [] fun r B'=>∃s,C s∧r=R s 0∧B'=N s) (hR:∀s i,bq (R s 0) (R s i)) (hk:∀s,C s→Q (R s B.length) (B ++ N s)):EC P f args B Q:=by
 refine ⟨hc.1,fun X w vs hs hd=>?_⟩;have h0:Sat X w []:=hs.sub fun i=> .inr (by simp [au]);refine (hc.2 X w vs h0 hd).mono ?_;rintro ex w' ⟨v,r,X',N',rfl,⟨s,hC,rfl,rfl⟩,hsat,hden,hext⟩;have hx:∀b,¬hU ([]:List aI) b:=fun b ⟨i,hi⟩=>by simp [au,aI.blocks] at hi
 have nb:∀i b,b∈(au (N s) i).blocks→w.heap.size≤b:=fun i b hb=>(hext.own b ⟨i,hb⟩).elim (fun ho=>absurd ho (hx b)) id;refine ⟨v,_,X',_,rfl,hk s hC,⟨fun a b c h1 h2=>?_,fun a b h1=>?_,hsat.xg,fun b hb ⟨a,h1⟩=>?_,fun a=>?_⟩,hR _ _ _ _ _ hden,⟨hext.os,hext.tape,hext.output,hext.size,fun b hb _=>hext.block b hb (hx b),hext.AS,fun b hb=>(hext.pT b hb).imp_right fun h=> .inr (h.elim (fun ho=>absurd ho (hx b)) id),fun b hb=>?_⟩⟩
 ·rw [gM] at h1 h2
  split at h1<;>split at h2
  ·exact hs.inj a b c h1 h2
  ·have:=nb _ c h2;have:=hs.lt a c h1;omega
  ·have:=nb _ c h1;have:=hs.lt b c h2;omega
  ·have:=hsat.inj _ _ c h1 h2;omega
 ·rw [gM] at h1
  split at h1
  ·exact lt_of_lt_of_le (hs.lt a b h1) hext.size
  ·exact hsat.lt _ b h1
 ·rw [gM] at h1
  split at h1
  ·rcases hext.pT b hb with h|h|h
   ·exact hs.apart b h ⟨a,h1⟩
   ·exact hx b h
   ·have:=hs.lt a b h1;omega
  ·exact hsat.apart b hb ⟨_,h1⟩
 ·rw [gM]
  split
  ·exact aI.ig (hs.ok a) hext.AS (fun b hb=>hext.block b (hs.og b hb) (hx b)) fun b hb=>hext.block b (hs.lt a b hb) (hx b)
  ·exact hsat.ok _
 ·obtain ⟨a,h1⟩:=hb;rw [gM] at h1
  split at h1
  ·exact .inl ⟨a,h1⟩
  ·exact .inr (nb _ b h1)
theorem Den.P0 {X X':Nat→Prop} {w w':World} {i j:Nat} {h:aN} {e lo n:Nat} {v:Value} (hd:Den X w (.row i h e lo n) v):Den X' w' (.row j h e lo n) v:=by
 cases hd with
 |dh=>exact .dh ..
 |rowAt _ _ _ _ _ h=>exact .rowAt _ _ _ _ _ h
 |kS _ _ _ _ _ _ _ hn h=>exact .kS _ _ _ _ _ _ _ hn h
 |hO=>exact .hO ..
def p' (s:SV):Bool:=Fg s || match s with| .row .. =>true|_=>false
theorem Den.p' {X X':Nat→Prop} {w w':World} {s:SV} {v:Value} (h:Go.Lift.p' s=true) (hd:Den X w s v):Den X' w' s v:=by
 cases s with
 |row i hh e lo n=>exact hd.P0
 |_=>exact hd.Fg (by simpa [Go.Lift.p'] using h)
def free:SV→Bool
 | .agg cs=>cs.all p'
 |s=>p' s
theorem Den.free {X X':Nat→Prop} {w w':World} {s:SV} {v:Value} (h:Go.Lift.free s=true) (hd:Den X w s v):Den X' w' s v:=by
 cases s with
 |agg cs=>
  cases hd with
  |agg hs hc=>
   refine .agg hs fun i c hi=>(hc i c hi).p' ?_;simp only [Go.Lift.free,all_eq_true] at h;exact h c (mem_of_getElem? hi)
 |_=>exact hd.p' (by simpa [Go.Lift.free] using h)
def aI.free:aI→Prop
 | .row _ _ _ xs=>∀x∈xs,∀c∈x,p' c=true
 | .gone=>True
theorem aI.Ih {X X':Nat→Prop} {w:World} {o:aI} (hf:o.free) (h:aI.ok X w o):aI.ok X' w o:=by
 cases o with
 |gone=>trivial
 |row h0 E e xs=>
  cases h0 with
  |void a=>exact h
  |mp b=>exact h
  | «at» b cap=>
   obtain ⟨vs,h1,h2,h3,h4,h5⟩:=h;exact ⟨vs,h1,h2,h3,h4,fun k j x c hx hc=>(h5 k j x c hx hc).p' (hf x (mem_of_getElem? hx) c (mem_of_getElem? hc))⟩
theorem EC.DJ {P:Program} {f:Nat} {args args':List SV} {B:List aI} {σ:Type} {C:σ→Prop} {N:σ→List aI} {R:σ→Nat→SV} {Q:SV→List aI→Prop}
  (hc:EC P f args' [] fun r B'=>∃s,C s∧r=R s 0∧B'=N s) (ha:d_ 0 B args args') (hf:∀s,free (R s 0)=true) (hn:∀s i,(au (N s) i).free) (hR:∀s i,bq (R s 0) (R s i)) (hk:∀s,C s→Q (R s B.length) (B ++ N s)):EC P f args B Q:=by
 have hb:∀i,au ([]:List aI) i=if bc 0 i then .gone else au B i:=fun i=>by simp [bc,au]
 refine ⟨hc.1,fun X w vs hs hd=>?_⟩;have hsp:=ha.spec;refine (hc.2 (dz X B (bc 0)) w vs (hs.dY hb) ⟨by rw [hd.1,hsp.1],fun i c hc=>?_⟩).mono ?_
 ·obtain ⟨d,h1,h2,h3⟩:=hsp.2 i c hc;exact h3 _ _ _ (eR hs (hd.2 i d h1) h2)
 ·rintro e w' ⟨v,r,X',B',he,⟨s,hC,rfl,rfl⟩,hsat,hden,hext⟩;have hx:∀b,¬hU ([]:List aI) b:=fun b ⟨i,hi⟩=>by simp [au,aI.blocks] at hi
  have hblk:∀b,b < w.heap.size→w'.heap[b]?=w.heap[b]?:=fun b hb=>hext.block b hb (hx b);have nb:∀i b,b∈(au (N s) i).blocks→w.heap.size≤b:=fun i b hb=>(hext.own b ⟨i,hb⟩).elim (fun ho=>absurd ho (hx b)) id;refine ⟨v,_,X,_,he,hk s hC,⟨fun a b c h1 h2=>?_,fun a b h1=>?_,hs.xg.mono (fun _ h=>h) (fun b hb=>hblk b (hs.og b hb)) fun b h=>lt_of_lt_of_le (hs.og b h) hext.size,fun b hb ⟨a,h1⟩=>?_,fun a=>?_⟩,hR _ _ _ _ _ (hden.free (hf s)),
   ⟨hext.os,hext.tape,hext.output,hext.size,fun b hb _=>hblk b hb,fun _ h=>h,fun _ h=> .inl h,fun b hb=>?_⟩⟩
  ·rw [gM] at h1 h2
   split at h1<;>split at h2
   ·exact hs.inj a b c h1 h2
   ·have:=nb _ c h2;have:=hs.lt a c h1;omega
   ·have:=nb _ c h1;have:=hs.lt b c h2;omega
   ·have:=hsat.inj _ _ c h1 h2;omega
  ·rw [gM] at h1
   split at h1
   ·exact lt_of_lt_of_le (hs.lt a b h1) hext.size
   ·exact hsat.lt _ b h1
  ·rw [gM] at h1
   split at h1
   ·exact hs.apart b hb ⟨a,h1⟩
   ·have:=nb _ b h1;have:=hs.og b hb;omega
  ·rw [gM]
   split
   ·exact aI.ig (hs.ok a) (fun _ h=>h) (fun b hb=>hblk b (hs.og b hb)) fun b hb=>hblk b (hs.lt a b hb)
   ·exact aI.Ih (hn s _) (hsat.ok _)
  ·obtain ⟨a,h1⟩:=hb;rw [gM] at h1
   split at h1
   ·exact .inl ⟨a,h1⟩
   ·exact .inr (nb _ b h1)
theorem IZ {P:Program} {n:Nat} {t:aV} {B:List aI} {Q:gX} {c:Code} (d i:Nat) {s:SV} (hi:i < B.length) (hk:dE (fun j=>j == i) B (dd t d)) (hs:bq (fu (fun j=>j == i) B (dd t d)) s)
  (h:EV P n c ((d,s) :: t) (B.set i .gone) Q):EV P n c t B Q:=by
 intro X0 w0 B0 X w a he hst;have hb:∀j,au (B.set i .gone) j=if (fun j=>j == i) j then .gone else au B j:=fun j=>by rw [eo hi];simp [beq_iff_eq]
 refine h X0 w0 B0 (dz X B (fun j=>j == i)) w a (he.trans (Ext.dY hb)) ⟨hst.defers,hst.sat.dY hb,hst.den.1,fun j=>?_⟩;simp only [dd]
 split
 ·rename_i e;subst e;exact hs _ _ _ (eR hst.sat (hst.den.2 _) hk)
 ·exact (hst.den.2 j).ext hst.sat (Ext.dY hb)
attribute [push_cast] yD CE
def s_:Code→Bool
 | .region _ _ true=>true
 |_=>false
def i6 (P:Program) (n:Nat) (y:Code) (k:Kn):Kn:=⟨gy (fun t B=>EV P n y t B k.f) k.f⟩
def wl (P:Program) (E:Env) (n:Nat):Code→Kn→aV→List aI→Prop
 | .skip,k,t,B=>k.f .normal t B
 | .ret,k,t,B=>k.f .ret t B
 | .exit id,k,t,B=>k.f (.exit id) t B
 | .label _,k,t,B=>k.f .normal t B
 | .seq x y,k,t,B=>match s_ x with
  |true=>EV P n x t B (i6 P n y k).f
  |false=>wl P E n x ⟨gy (fun t B=>wl P E n y k t B) k.f⟩ t B
 | .block id c,k,t,B=>wl P E n c ⟨jM id k.f⟩ t B
 | .scope c,k,t,B=>wl P E n c ⟨nc k.f⟩ t B
 | .cond c x y,k,t,B=>match ev t c with
  | .bool p=>(p=true→wl P E n x k t B)∧(p=false→wl P E n y k t B)
  |_=>False
 | .region _ ops false,k,t,B=>∀fr,kF P n ops.toList k (run E n ops.toList fr 0 ops.toList t B)
 | .region id ops true,k,t,B=>EV P n (.region id ops true) t B k.f
 | .loop c,k,t,B=>EV P n (.loop c) t B k.f
 |_,_,_,_=>False
def Mc (P:Program) (E:Env) (n:Nat) (y:Code) (k:Kn):Kn:=⟨gy (fun t B=>wl P E n y k t B) k.f⟩
section
variable {P:Program} {E:Env} {n:Nat} {k:Kn} {t:aV} {B:List aI} {Q:gX}
theorem HO:wl P E n .skip k t B=k.f .normal t B:=rfl
theorem iO:wl P E n .ret k t B=k.f .ret t B:=rfl
theorem HQ {id:Nat}:wl P E n (.exit id) k t B=k.f (.exit id) t B:=rfl
theorem FQ {x y:Code}:wl P E n (.seq x y) k t B=match s_ x with
  |true=>EV P n x t B (i6 P n y k).f
  |false=>wl P E n x (Mc P E n y k) t B:=rfl
theorem FU {id:Nat} {c:Code}:wl P E n (.block id c) k t B=wl P E n c (FM id k) t B:=rfl
theorem Dh {c:Operand} {x y:Code}:wl P E n (.cond c x y) k t B=match ev t c with
  | .bool p=>(p=true→wl P E n x k t B)∧(p=false→wl P E n y k t B)
  |_=>False:=rfl
theorem Eb {id:Nat} {ops:Array Oper}:wl P E n (.region id ops false) k t B=∀fr,kF P n ops.toList k (run E n ops.toList fr 0 ops.toList t B):=rfl
theorem FT {id:Nat} {ops:Array Oper}:wl P E n (.region id ops true) k t B=EV P n (.region id ops true) t B k.f:=rfl
theorem HP {c:Code}:wl P E n (.loop c) k t B=EV P n (.loop c) t B k.f:=rfl
theorem Nh {y:Code}:(Mc P E n y k).f .normal t B=wl P E n y k t B:=rfl
theorem Ni {y:Code} {i:Nat}:(Mc P E n y k).f (.exit i) t B=k.f (.exit i) t B:=rfl
theorem nL {y:Code}:(Mc P E n y k).f .ret t B=k.f .ret t B:=rfl
theorem dc {y:Code}:(i6 P n y k).f .normal t B=EV P n y t B k.f:=rfl
theorem Nj {y:Code} {i:Nat}:(i6 P n y k).f (.exit i) t B=k.f (.exit i) t B:=rfl
theorem gz {y:Code}:(i6 P n y k).f .ret t B=k.f .ret t B:=rfl
theorem IG {id:Nat} {ops:Array Oper} {b:Bool}:s_ (.region id ops b)=b:=by cases b<;>rfl
theorem Fu {x y:Code}:s_ (.seq x y)=false:=rfl
theorem B8 {id:Nat} {c:Code}:s_ (.block id c)=false:=rfl
theorem Da {c:Operand} {x y:Code}:s_ (.cond c x y)=false:=rfl
theorem fU (hE:cI P E):∀(c:Code) (k:Kn) (t:aV) (B:List aI),wl P E n c k t B→EV P n c t B k.f
 | .skip,_,_,_,h=>uP h
 | .ret,_,_,_,h=>AL h
 | .exit _,_,_,_,h=>uQ h
 | .label _,_,_,_,h=>rX h
 | .seq x y,k,t,B,h=>by
   rw [FQ] at h
   split at h
   ·exact ph fun K hK=>h.mono fun e t' B' hq=>by
     cases e<;>try exact hq
     exact hK _ _ hq
   ·exact ph fun K hK=>(fU hE x _ t B h).mono fun e t' B' hq=>by
     cases e<;>try exact hq
     exact hK _ _ (fU hE y k t' B' hq)
 | .block id c,k,t,B,h=>lV (fU hE c _ t B h)
 | .scope c,k,t,B,h=>rW (fU hE c _ t B h)
 | .cond c x y,k,t,B,h=>by
   rw [Dh] at h
   split at h
   ·rename_i p hp;exact az hp (fun e=>fU hE x k t B (h.1 e)) (fun e=>fU hE y k t B (h.2 e))
   ·exact h.elim
 | .region id ops false,k,t,B,h=>by
   intro X0 w0 B0 X w a he hs;refine wp_region_list ?_;have:=pv hE (K:=k.f .normal) ops.toList 0 t B (fun fr=>by rw [←pD];exact h fr) k.f (fun _ _ h=>h) X0 w0 B0 X w a he hs;simpa using this
 | .region id ops true,k,t,B,h=>h
 | .loop c,k,t,B,h=>h
theorem EC.Lr (hE:cI P E) {f:FuncId} {fn:Func} {c:Code} {args:List SV} {B:List aI} {Q:SV→List aI→Prop} (hc:fK P f=true) (hf:P.funcs[f]?=some fn) (hb:fn.body=some c) (hn:args.length≤fn.ntmps)
  (h:wl P E fn.ntmps c (Mi (wZ E fn.results.toList Q)) (fL 0 args) B):EC P f args B Q:=
 EC.enter hE hc hf hb hn (fU hE c _ _ B h)
theorem aT (hE:cI P E) {σ:Type} (live:List Nat) (V:σ→aV) (R:List aI→σ→List aI) (Inv:σ→Prop) (μ:σ→Nat) (s0:σ) {c:Code} (h0:Inv s0)
  (round:∀s,Inv s→wl P E n c (Cp (NX V (R B) Inv μ (bK t live) s) k) (V s ++ bK t live) (R B s)) (hw:kA t (V s0):=by first|exact ⟨rfl,trivial⟩|(simp [kA,dd];done)|(repeat (first|exact trivial|refine And.intro (by first|rfl|(simp only [dd,push_cast,simprocAttr];done)|(simp [dd];done)) ?_)))
  (hb:R B s0=B:=by first|rfl|(simp [cP,cW,jA];done)):EV P n (.loop c) t B k.f:=
 jx live V R Inv μ s0 h0 hw hb fun s hs=>(fU hE c _ _ _ (round s hs)).mono fun e t' B' h=>by cases e<;>exact h
theorem gx (hE:cI P E) (h:wl P E n .ret k t B):EV P n .ret t B k.f:=fU hE _ _ _ _ h
def MT {σ:Type} (V:σ→aV) (R:σ→List aI) (Inv:σ→Prop) (live:aV) (t':aV) (B':List aI):Prop:=
 ∃s,Inv s∧kA t' (V s ++ live)∧B'.take (R s).length=R s
theorem gg {σ:Type} {V:σ→aV} {R:σ→List aI} {Inv:σ→Prop} {live t':aV} {B':List aI} (s:σ) (hI:Inv s)
  (hw:kA t' (V s ++ live):=by first|(simp [kA,dd,List.take_length];done)|((repeat (first|exact trivial|refine And.intro (by first|rfl|(simp only [dd,push_cast,simprocAttr];done)|(simp [dd];done)|fail) ?_));done)|fail)
  (hb:B'.take (R s).length=R s:=by first|rfl|(simp only [push_cast,List.take_length,List.take_append_of_le_length,simprocAttr];done)|(simp [cP,cW,jA];done)|fail):MT V R Inv live t' B':=⟨s,hI,hw,hb⟩
theorem dB {σ:Type} (live:List Nat) (V:σ→aV) (R:List aI→σ→List aI) (Inv:σ→Prop) {c y:Code}
  (hrest:∀s,Inv s→EV P n y (V s ++ bK t live) (R B s) k.f) (h:EV P n c t B (Cp (MT V (R B) Inv (bK t live)) k).f):EV P n c t B (i6 P n y k).f:=
 pj live V R Inv (fun s hs t' B' hw hb=>pf hw hb (hrest s hs)) (by
  refine h.mono fun e t' B' hq=>?_
  cases e<;>exact hq)
end
attribute [push_cast] HO iO HQ FQ FU Dh Eb FT HP Nh Ni nL dc Nj gz IG Fu B8 Da
section
variable {P:Program} {n:Nat} {ops:Array Oper} {late:List Nat} {ws:List Bool} {t:aV} {B:List aI} {K:aV→List aI→Prop} {fuel:Nat} {listed:Array Bool}
def nr (w:List Nat):Nat→List aI→List Bool
 |_,[]=>[]
 |i,_ :: B=>Fa w i :: nr w (i+1) B
theorem Hq {id:Nat} {Q:gX} (w:List Nat) (hm:P.follows .mixedOrders=true) (h:∀K:aV→List aI→Prop,(∀t B,Q .normal t B→K t B)→ED P n ops [] (nr w 0 B) t B K ops.size (Array.replicate ops.size false)):EV P n (.region id ops true) t B Q:=
 rY hm h
theorem FJ {E:Env} (hE:cI P E) {id:Nat} {Q:gX} (late:List Nat) (w:List Nat) (ord:List Nat) (hm:P.follows .mixedOrders=true) (hns:Region.noSelect ops=true) (hl:ord.length=ops.size) (ho:q7 ops late ord (Array.replicate ops.size false)=true)
  (h:∀K:aV→List aI→Prop,(∀t B,Q .normal t B→K t B)→tV P E n ops late (nr w 0 B) K false ord t B (Array.replicate ops.size false)):EV P n (.region id ops true) t B Q:=Ck hE late (nr w 0 B) ord hm hns hl ho h
theorem LS {i:Nat} (hr:Region.ready .any ops listed=[i]) (h1:I7 P n ops ws t B K fuel listed i):ED P n ops [] ws t B K (fuel+1) listed:=by
 intro X0 w0 B0 X w a he hs;refine fN hr (by simp) fun k hk=>?_;simp only [mem_cons,not_mem_nil,or_false] at hk;subst hk;exact h1 X0 w0 B0 X w a he hs
theorem Ht {i j k:Nat} (hr:Region.ready .any ops listed=[i,j,k]) (h1:I7 P n ops ws t B K fuel listed i) (h2:I7 P n ops ws t B K fuel listed j) (h3:I7 P n ops ws t B K fuel listed k):ED P n ops [] ws t B K (fuel+1) listed:=by
 intro X0 w0 B0 X w a he hs;refine fN hr (by simp) fun l hl=>?_;simp only [mem_cons,not_mem_nil,or_false] at hl;rcases hl with rfl|rfl|rfl
 ·exact h1 X0 w0 B0 X w a he hs
 ·exact h2 X0 w0 B0 X w a he hs
 ·exact h3 X0 w0 B0 X w a he hs
end
attribute [push_cast] nr Fa
section
variable {P:Program} {E:Env} {n:Nat} {k:Kn} {t:aV} {B:List aI}
theorem Hp {σ:Type} (live:List Nat) (V:σ→aV) (R:List aI→σ→List aI) (Inv:σ→Prop) (μ:σ→Nat) (s0:σ) {c:Code} (h0:Inv s0)
  (round:∀s,Inv s→EV P n c (V s ++ bK t live) (R B s) (Cp (NX V (R B) Inv μ (bK t live) s) k).f) (hw:kA t (V s0):=by first|exact ⟨rfl,trivial⟩|(simp [kA,dd];done)|(repeat (first|exact trivial|refine And.intro (by first|rfl|(simp only [dd,push_cast,simprocAttr];done)|(simp [dd];done)) ?_)))
  (hb:R B s0=B:=by first|rfl|(simp [cP,cW,jA];done)):EV P n (.loop c) t B k.f:=
 jx live V R Inv μ s0 h0 hw hb fun s hs=>(round s hs).mono fun e t' B' h=>by cases e<;>exact h
theorem pR {x y:Code} (h:EV P n x t B (i6 P n y k).f):EV P n (.seq x y) t B k.f:=
 ph fun K hK=>h.mono fun e t' B' hq=>by
  cases e<;>try exact hq
  exact hK _ _ hq
theorem D6 {id:Nat} {c:Code} (h:EV P n c t B (FM id k).f):EV P n (.block id c) t B k.f:=lV h
end
section
variable {P:Program} {n:Nat} {ops:Array Oper} {late:List Nat} {ws:List Bool} {t:aV} {B:List aI} {K:aV→List aI→Prop} {fuel:Nat} {listed:Array Bool}
theorem I4 {i:Nat} (hr:Region.ready .any ops listed=[i]) (h1:Mm P n ops late ws t B K fuel listed i):ED P n ops late ws t B K (fuel+1) listed:=by
 intro X0 w0 B0 X w a he hs;refine fN hr (by simp) fun k hk=>?_;simp only [mem_cons,not_mem_nil,or_false] at hk;subst hk;exact h1 X0 w0 B0 X w a he hs
theorem FK {id:Nat} {Q:gX} (late w:List Nat) (hm:P.follows .mixedOrders=true) (h:∀K:aV→List aI→Prop,(∀t B,Q .normal t B→K t B)→ED P n ops late (nr w 0 B) t B K ops.size (Array.replicate ops.size false)):EV P n (.region id ops true) t B Q:=
 rY hm h
end
section
variable {P:Program} {E:Env} {n:Nat} {k:Kn} {t:aV} {B:List aI} {all rest:List Oper} {m:Nat}
theorem EC.r_ (hE:cI P E) {f:Nat} {args args':List SV} {T:SV→aV} (i:Nat) {h:aN} {E0 e:Nat} {xs:List (List SV)} {σ:Type} {C:σ→Prop} {R:σ→SV} {X:σ→List (List SV)}
  (hc:EC P f args [.row h E0 e xs] fun r N=>∃x,C x∧r=R x∧N=[.row h E0 e (X x)]) (hi:au B i= .row h E0 e xs) (ha:eD args' args) (hk:∀x,C x→∀fr,kF P n all k (run E n all fr 0 rest (T (R x)) (B.set i (.row h E0 e (X x))))):
  EC P f args' B fun r B'=>I2 P n all rest (T r) B' k:=EC.Cr i hc hi ha fun x hx=>jy hE (hk x hx)
theorem EC.uV (hE:cI P E) {f:Nat} {args args':List SV} {T:SV→aV} (i:Nat) {h:aN} {E0 e:Nat} {xs xs':List (List SV)} {R:SV}
  (hc:EC P f args [.row h E0 e xs] fun r N=>r=R∧N=[.row h E0 e xs']) (hi:au B i= .row h E0 e xs) (ha:eD args' args) (hk:∀fr,kF P n all k (run E n all fr 0 rest (T R) (B.set i (.row h E0 e xs')))):
  EC P f args' B fun r B'=>I2 P n all rest (T r) B' k:=EC.Jr i hc hi ha (jy hE hk)
end
attribute [push_cast] bne_self_eq_false
structure Bx (p:Prop):Prop where
 out:p
theorem fE {a:Prop} (h:a:=by first|(intro hA;exact ⟨hA,fun hB=>(by first|(rw [hA,hB];rfl)|simp_all)⟩)|omega|decide|(simp;done)|(simp;omega)|(intro hA;(repeat' apply And.intro)<;>first|exact hA|omega)):a:=h
theorem sA {P Q:Prop} (k:Q) (h:Q→P:=by first|(intro hq;simp only [push_cast,simprocAttr];exact hq)|(intro (_:True);simp only [push_cast,simprocAttr])):P:=h k
theorem sB {P Q:Prop} (k:Bx Q) (h:Bx Q→P:=by intro hq;(try (simp (disch:=omega) only [bu,uE,lz,pG];(try simp only [push_cast,simprocAttr])));exact hq.out):P:=h k
theorem sC {P Q:Prop} (k:Q) (h:Q→P:=by intro hq;simp only [push_cast,gy,jM,nc,wZ,FL,qa,vJ,Nat.zero_lt_one,Nat.reduceEqDiff,Nat.reduceLT,Nat.reduceAdd,Nat.reduceLeDiff,reduceIte,reduceCtorEq];exact hq):P:=h k
theorem sF {P Q:Prop} (k:Q) (h:Q→P:=by intro hq;simp only [dE,zG,fw,bC,cf,fu,ry,iT,ew,gl,bc,au,List.getD_cons_zero,List.getD_cons_succ,Nat.zero_le,decide_true,and_true,true_and,and_self,push_cast];exact hq):P:=h k
theorem sT {P Q:Prop} (k:Q) (h:Q→P:=by intro hq;simp only [gy,jM,nc,if_true,reduceIte,reduceCtorEq,if_false,Nat.reduceEqDiff];exact hq):P:=h k
theorem sK {P Q:Prop} (k:Q) (h:Q→P:=by intro hq;simp only [cP,cW,jA,bK,dd,Nat.reduceEqDiff,if_true,if_false,reduceIte,List.cons_append,List.nil_append,List.take_succ_cons,List.take_zero,List.append_nil];exact hq):P:=h k
section
variable {P:Program} {E:Env} {n:Nat} {k:Kn} {t:aV} {B:List aI} {all rest l:List Oper} {Q0:Prop} {Q:gX} {T:SV→aV} {f:FuncId} {args args':List SV}
theorem D4 {x y:Code} (h:EV P n x t B (gy (fun t B=>EV P n y t B Q) Q)):EV P n (.seq x y) t B Q:=
 ph fun K hK=>h.mono fun e t' B' h=>by
  cases e with
  |normal=>exact hK _ _ h
  |_=>exact h
theorem ai {P Q:Prop} (k:Q) (h:Q→P:=by first|exact D4|exact lV|exact uP|exact rW|exact rX|exact uQ|exact AL|(intro hq;simp only [gy,jM,nc,if_true,reduceIte,reduceCtorEq,if_false,Nat.reduceEqDiff];exact hq)):P:=h k
theorem Gb {P Q:Prop} (k:Q) (h:Q→P:=by first|exact D4|exact uP|exact rW|exact rX|exact uQ|exact AL|(intro hq;simp only [gy,jM,nc,if_true,reduceIte,reduceCtorEq,if_false,Nat.reduceEqDiff];exact hq)):P:=h k
theorem aw (hE:cI P E) {id:Nat} {ops:Array Oper} {R:(Nat→aN)→Prop} (k:∀fr,Bx (R fr))
  (h:∀fr,Bx (R fr)→holds P n ops.toList (fun t B=>Q .normal t B) (run E n ops.toList fr 0 ops.toList t B):=by
   intro fr hq;simp only [push_cast,simprocAttr];(try (simp (disch:=omega) only [bu,uE,lz,pG];(try simp only [push_cast,simprocAttr])));(repeat ((with_reducible apply And.intro);exact fE));(try simp only [gy,jM,nc,if_true,reduceIte,reduceCtorEq,if_false,Nat.reduceEqDiff]);exact hq.out):EV P n (.region id ops false) t B Q:=by
 intro X0 w0 B0 X w a he hs;refine wp_region_list ?_;have:=pv hE (K:=fun t B=>Q .normal t B) ops.toList 0 t B (fun fr=>h fr (k fr)) Q (fun _ _ h=>h) X0 w0 B0 X w a he hs;simpa using this
theorem gA (hE:cI P E) {K:aV→List aI→Prop} {R:(Nat→aN)→Prop} (k:∀fr,Bx (R fr))
  (h:∀fr,Bx (R fr)→holds P n all K (run E n all fr 0 l t B):=by
   intro fr hq;simp only [push_cast,simprocAttr];(try (simp (disch:=omega) only [bu,uE,lz,pG];(try simp only [push_cast,simprocAttr])));(repeat ((with_reducible apply And.intro);exact fE));(try simp only [gy,jM,nc,if_true,reduceIte,reduceCtorEq,if_false,Nat.reduceEqDiff]);exact hq.out):EO P n all l t B K:=pv hE l 0 t B fun fr=>h fr (k fr)
theorem nA (hE:cI P E) {fn:Func} {c:Code} {m:Nat} {rs:Array ResultVar} {Q:SV→List aI→Prop} (hc:fK P f=true) (hf:P.funcs[f]?=some fn) (hm:fn.ntmps=m) (hr:fn.results=rs) (q:Q0) (hb:fn.body=some c:=by exact rfl) (hn:args.length≤m:=by simp)
  (h:Q0→EV P m c (fL 0 args) B (wZ E rs.toList Q):=by intro hq;simp only [fL];exact hq):EC P f args B Q:=by
 subst hm hr;exact EC.enter hE hc hf hb hn (h q)
theorem nK (hE:cI P E) {fn:Func} {c:Code} {m:Nat} {rs:Array ResultVar} {Q:SV→List aI→Prop} (hc:fK P f=true) (hf:P.funcs[f]?=some fn) (hm:fn.ntmps=m) (hr:fn.results=rs) (q:Q0) (hb:fn.body=some c:=by exact rfl) (hn:args.length≤m:=by simp)
  (h:Q0→wk P E m c (Mi (wZ E rs.toList Q)) (fL 0 args) B:=by first|(intro hq;simp only [push_cast,simprocAttr];exact hq)|(intro (_:True);simp only [push_cast,simprocAttr])):EC P f args B Q:=by
 subst hm hr;exact EC.Ls hE hc hf hb hn (h q)
theorem nW (hE:cI P E) {fn:Func} {c:Code} {m:Nat} {rs:Array ResultVar} {Q:SV→List aI→Prop} (hc:fK P f=true) (hf:P.funcs[f]?=some fn) (hm:fn.ntmps=m) (hr:fn.results=rs) (q:Q0) (hb:fn.body=some c:=by exact rfl) (hn:args.length≤m:=by simp)
  (h:Q0→wl P E m c (Mi (wZ E rs.toList Q)) (fL 0 args) B:=by first|(intro hq;simp only [push_cast,simprocAttr];exact hq)|(intro (_:True);simp only [push_cast,simprocAttr])):EC P f args B Q:=by
 subst hm hr;exact EC.Lr hE hc hf hb hn (h q)
theorem eK (hE:cI P E) (q:Q0) (h:Q0→∀fr,kF P n all k (run E n all fr 0 l t B):=by first|(intro hq;simp only [push_cast,simprocAttr];exact hq)|(intro (_:True);simp only [push_cast,simprocAttr])):I2 P n all l t B k:=jy hE (h q)
def RF:Code→Bool
 | .loop _=>false
 | .label _=>false
 | .region _ _ b=>!b
 |_=>true
theorem wA (hE:cI P E) {c:Code} (q:Q0) (hl:RF c=true:=by exact rfl) (h:Q0→wl P E n c k t B:=by first|(intro hq;simp only [push_cast,simprocAttr];exact hq)|(intro (_:True);simp only [push_cast,simprocAttr])):EV P n c t B k.f:=fU hE _ _ _ _ (h q)
theorem aX (i:Nat) {h:aN} {E0 e:Nat} {xs xs':List (List SV)} {R:SV} {Q:SV→List aI→Prop}
  (hc:EC P f args [.row h E0 e xs] fun r N=>r=R∧N=[.row h E0 e xs']) (hi:au B i= .row h E0 e xs) (q:Q R (B.set i (.row h E0 e xs'))) (ha:eD args' args:=by (repeat (first|exact eD.nil|refine eD.cons (bq.refl _) ?_|refine eD.cons bq.bx ?_))):
  EC P f args' B Q:=EC.Jr i hc hi ha q
theorem aE (i:Nat) {h:aN} {E0 e:Nat} {xs:List (List SV)} {σ:Type} {C:σ→Prop} {R:σ→SV} {X:σ→List (List SV)} {Q:SV→List aI→Prop}
  (hc:EC P f args [.row h E0 e xs] fun r N=>∃x,C x∧r=R x∧N=[.row h E0 e (X x)]) (hi:au B i= .row h E0 e xs) (q:∀x,C x→Q (R x) (B.set i (.row h E0 e (X x)))) (ha:eD args' args:=by (repeat (first|exact eD.nil|refine eD.cons (bq.refl _) ?_|refine eD.cons bq.bx ?_))):
  EC P f args' B Q:=EC.Cr i hc hi ha q
variable {ops:Array Oper} {late:List Nat} {ws:List Bool} {K:aV→List aI→Prop} {fuel:Nat} {listed:Array Bool} {Q1 Q2 Q3:Prop}
theorem dP (hE:cI P E) (m:Nat) (pre:List Nat) (q:Q0) (hns:Region.noSelect ops=true:=by decide +kernel) (hp:yO ops pre listed=true:=by decide +kernel) (h:Q0→CD P E n ops ws K m pre t B listed:=by intro hq;simp only [push_cast,simprocAttr];exact hq):ED P n ops [] ws t B K (m+pre.length) listed:=AN hE hns pre t B listed hp (h q)
theorem dR (hE:cI P E) (ord:List Nat) (q:Q0) (hns:Region.noSelect ops=true:=by decide +kernel) (hb:false=gk late listed:=by decide +kernel) (ho:q7 ops late ord listed=true:=by decide +kernel) (h:Q0→tV P E n ops late ws K false ord t B listed:=by intro hq;simp only [push_cast,simprocAttr];exact hq):ED P n ops late ws t B K ord.length listed:=th hE hns false ord t B listed hb ho (h q)
theorem dC (hE:cI P E) (i:Nat) (q1:Q1) (hr:Region.ready .any ops listed=[i]:=by decide +kernel) (h1:Q1→qX P E n ops ws t B K fuel listed i:=by intro hq;simp only [push_cast,simprocAttr];exact hq):ED P n ops [] ws t B K (fuel+1) listed:=LS hr (m9 hE (h1 q1))
theorem bT (hE:cI P E) (i j:Nat) (q1:Q1) (q2:Q2) (hr:Region.ready .any ops listed=[i,j]:=by decide +kernel) (h1:Q1→qX P E n ops ws t B K fuel listed i:=by intro hq;simp only [push_cast,simprocAttr];exact hq) (h2:Q2→qX P E n ops ws t B K fuel listed j:=by intro hq;simp only [push_cast,simprocAttr];exact hq):ED P n ops [] ws t B K (fuel+1) listed:=LR hr (m9 hE (h1 q1)) (m9 hE (h2 q2))
theorem mV (hE:cI P E) (i j m:Nat) (q1:Q1) (q2:Q2) (q3:Q3) (hr:Region.ready .any ops listed=[i,j,m]:=by decide +kernel) (h1:Q1→qX P E n ops ws t B K fuel listed i:=by intro hq;simp only [push_cast,simprocAttr];exact hq) (h2:Q2→qX P E n ops ws t B K fuel listed j:=by intro hq;simp only [push_cast,simprocAttr];exact hq) (h3:Q3→qX P E n ops ws t B K fuel listed m:=by intro hq;simp only [push_cast,simprocAttr];exact hq):ED P n ops [] ws t B K (fuel+1) listed:=Ht hr (m9 hE (h1 q1)) (m9 hE (h2 q2)) (m9 hE (h3 q3))
theorem jP (hE:cI P E) (m:Nat) (pre:List Nat) (q:Q0) (hns:Region.noSelect ops=true:=by decide +kernel) (hp:EA ops late pre listed=true:=by decide +kernel) (h:Q0→CE P E n ops late ws K m pre t B listed:=by intro hq;simp only [push_cast,simprocAttr];exact hq):ED P n ops late ws t B K (m+pre.length) listed:=uR hE hns pre t B listed hp (h q)
theorem kh (hE:cI P E) (i:Nat) (q1:Q1) (hr:Region.ready .any ops listed=[i]:=by decide +kernel) (h1:Q1→yD P E n ops late ws t B K fuel listed i:=by intro hq;simp only [push_cast,simprocAttr];exact hq):ED P n ops late ws t B K (fuel+1) listed:=I4 hr (wT hE (h1 q1))
theorem Mg (hE:cI P E) (i j:Nat) (q1:Q1) (q2:Q2) (hr:Region.ready .any ops listed=[i,j]:=by decide +kernel) (h1:Q1→yD P E n ops late ws t B K fuel listed i:=by intro hq;simp only [push_cast,simprocAttr];exact hq) (h2:Q2→yD P E n ops late ws t B K fuel listed j:=by intro hq;simp only [push_cast,simprocAttr];exact hq):ED P n ops late ws t B K (fuel+1) listed:=I3 hr (wT hE (h1 q1)) (wT hE (h2 q2))
variable {id:Nat} {S:(aV→List aI→Prop)→Prop}
theorem dM (hE:cI P E) (m:Nat) (w pre:List Nat) (hm:P.follows .mixedOrders=true) (q:∀R:aV→List aI→Prop,(∀t B,Q .normal t B→R t B)→S R) (hs:ops.size=m+pre.length:=by exact rfl) (hns:Region.noSelect ops=true:=by decide +kernel) (hp:yO ops pre (Array.replicate ops.size false)=true:=by decide +kernel)
  (h:∀R,S R→CD P E n ops (nr w 0 B) R m pre t B (Array.replicate ops.size false):=by intro R hq;simp only [push_cast,simprocAttr];exact hq):EV P n (.region id ops true) t B Q:=
 Hq w hm fun R hR=>by
  have:=AN hE hns pre t B _ hp (h R (q R hR));rw [←hs] at this;exact this
theorem dJ (hE:cI P E) (m:Nat) (late w pre:List Nat) (hm:P.follows .mixedOrders=true) (q:∀R:aV→List aI→Prop,(∀t B,Q .normal t B→R t B)→S R) (hs:ops.size=m+pre.length:=by exact rfl) (hns:Region.noSelect ops=true:=by decide +kernel) (hp:EA ops late pre (Array.replicate ops.size false)=true:=by decide +kernel)
  (h:∀R,S R→CE P E n ops late (nr w 0 B) R m pre t B (Array.replicate ops.size false):=by intro R hq;simp only [push_cast,simprocAttr];exact hq):EV P n (.region id ops true) t B Q:=
 FK late w hm fun R hR=>by
  have:=uR hE hns pre t B _ hp (h R (q R hR));rw [←hs] at this;exact this
theorem dW (hE:cI P E) (m:Nat) (w:List Bool) (pre:List Nat) (hm:P.follows .mixedOrders=true) (q:∀R:aV→List aI→Prop,(∀t B,Q .normal t B→R t B)→S R) (hs:ops.size=m+pre.length:=by exact rfl) (hns:Region.noSelect ops=true:=by decide +kernel) (hp:yO ops pre (Array.replicate ops.size false)=true:=by decide +kernel)
  (h:∀R,S R→CD P E n ops w R m pre t B (Array.replicate ops.size false):=by intro R hq;simp only [push_cast,simprocAttr];exact hq):EV P n (.region id ops true) t B Q:=
 rY (late:=[]) hm fun R hR=>by
  have:=AN hE hns pre t B _ hp (h R (q R hR));rw [←hs] at this;exact this
theorem dV (hE:cI P E) (m:Nat) (late:List Nat) (w:List Bool) (pre:List Nat) (hm:P.follows .mixedOrders=true) (q:∀R:aV→List aI→Prop,(∀t B,Q .normal t B→R t B)→S R) (hs:ops.size=m+pre.length:=by exact rfl) (hns:Region.noSelect ops=true:=by decide +kernel) (hp:EA ops late pre (Array.replicate ops.size false)=true:=by decide +kernel)
  (h:∀R,S R→CE P E n ops late w R m pre t B (Array.replicate ops.size false):=by intro R hq;simp only [push_cast,simprocAttr];exact hq):EV P n (.region id ops true) t B Q:=
 rY (late:=late) hm fun R hR=>by
  have:=uR hE hns pre t B _ hp (h R (q R hR));rw [←hs] at this;exact this
theorem dN (hE:cI P E) (late w ord:List Nat) (hm:P.follows .mixedOrders=true) (q:∀R:aV→List aI→Prop,(∀t B,Q .normal t B→R t B)→S R) (hl:ord.length=ops.size:=by exact rfl) (hns:Region.noSelect ops=true:=by decide +kernel) (ho:q7 ops late ord (Array.replicate ops.size false)=true:=by decide +kernel)
  (h:∀R,S R→tV P E n ops late (nr w 0 B) R false ord t B (Array.replicate ops.size false):=by intro R hq;simp only [push_cast,simprocAttr];exact hq):EV P n (.region id ops true) t B Q:=
 FJ hE late w ord hm hns hl ho fun R hR=>h R (q R hR)
theorem dD (hE:cI P E) (late:List Nat) (w:List Bool) (ord:List Nat) (hm:P.follows .mixedOrders=true) (q:∀R:aV→List aI→Prop,(∀t B,Q .normal t B→R t B)→S R) (hl:ord.length=ops.size:=by exact rfl) (hns:Region.noSelect ops=true:=by decide +kernel) (ho:q7 ops late ord (Array.replicate ops.size false)=true:=by decide +kernel)
  (h:∀R,S R→tV P E n ops late w R false ord t B (Array.replicate ops.size false):=by intro R hq;simp only [push_cast,simprocAttr];exact hq):EV P n (.region id ops true) t B Q:=
 Ck hE late w ord hm hns hl ho fun R hR=>h R (q R hR)
end
theorem ra {σ:Type} {I M W:σ→Prop} (s:σ) (hi:I s) (hm:M s) (hw:W s:=by first|(simp [kA,dd,List.take_length];done)|(simp [kA,dd];omega)|((repeat (first|exact trivial|refine And.intro (by first|rfl|(simp only [dd,push_cast,simprocAttr];done)|(simp only [dd,push_cast,simprocAttr];rfl)|(simp [dd];done)|fail) ?_));done)|fail):∃s,I s∧M s∧W s:=⟨s,hi,hm,hw⟩
theorem q' {σ:Type} {I M W Z:σ→Prop} (s:σ) (hi:I s) (hm:M s) (hw:W s:=by first|(simp [kA,dd,List.take_length];done)|(simp [kA,dd];omega)|((repeat (first|exact trivial|refine And.intro (by first|rfl|(simp only [dd,push_cast,simprocAttr];done)|(simp only [dd,push_cast,simprocAttr];rfl)|(simp [dd];done)|fail) ?_));done)|fail)
  (hz:Z s:=by first|rfl|(simp only [push_cast,List.take_length,List.take_append_of_le_length,simprocAttr];done)|(simp [cP,cW,jA];done)|fail):∃s,I s∧M s∧W s∧Z s:=⟨s,hi,hm,hw,hz⟩
theorem HE {σ:Type} {I W:σ→Prop} (s:σ) (hi:I s) (hw:W s:=by first|(simp [kA,dd,List.take_length];done)|(simp [kA,dd];omega)|((repeat (first|exact trivial|refine And.intro (by first|rfl|(simp only [dd,push_cast,simprocAttr];done)|(simp only [dd,push_cast,simprocAttr];rfl)|(simp [dd];done)|fail) ?_));done)|fail):∃s,I s∧W s:=⟨s,hi,hw⟩
theorem HD {σ:Type} {I W Z:σ→Prop} (s:σ) (hi:I s) (hw:W s:=by first|(simp [kA,dd,List.take_length];done)|(simp [kA,dd];omega)|((repeat (first|exact trivial|refine And.intro (by first|rfl|(simp only [dd,push_cast,simprocAttr];done)|(simp only [dd,push_cast,simprocAttr];rfl)|(simp [dd];done)|fail) ?_));done)|fail)
  (hz:Z s:=by first|rfl|(simp only [push_cast,List.take_length,List.take_append_of_le_length,simprocAttr];done)|(simp [cP,cW,jA];done)|fail):∃s,I s∧W s∧Z s:=⟨s,hi,hw,hz⟩
theorem zL {P Q:Prop} (k:Q) (h:Q→P:=by intro hq;first|exact Lt.bool hq|exact Lt.int hq|exact Lt.tf hq|exact a6.tf hq|exact a6.JN hq|exact a6.jC hq|exact Lt.str hq|exact Lt.str (B:=[]) hq|fail):P:=h k
theorem zA {P:Prop} (h:P:=by first|rfl|omega|contradiction|(simp [*];done)|(simp_all;done)|fail):P:=h
section
variable {P:Program} {E:Env} {n:Nat} {k:Kn} {t:aV} {B:List aI}
def NC (d N:Nat) (B:List aI) (Inv:Nat→Prop) (live:aV) (i:Nat):aV→List aI→Prop:=NX (fun i:Nat=>[(d,SV.int .i64 i)]) (fun _=>B) (fun i=>Inv i∧i≤N) (fun i=>N - i) live i
theorem cO {d N i:Nat} {Inv:Nat→Prop} {live t':aV} {B':List aI} (h:Inv (i+1)) (hlt:i < N:=by omega) (hw:kA t' ((d,SV.int .i64 ((i+1:Nat):Int)) :: live):=by first|(simp [kA,dd,List.take_length];done)|((repeat (first|exact trivial|refine And.intro (by first|rfl|(simp only [dd,push_cast,simprocAttr];done)|(simp [dd];done)|fail) ?_));done)|fail)
  (hb:B'.take B.length=B:=by first|rfl|(simp only [push_cast,List.take_length,List.take_append_of_le_length,simprocAttr];done)|(simp [cP,cW,jA];done)|fail):NC d N B Inv live i t' B':=⟨i+1,⟨h,hlt⟩,by show N - (i+1) < N - i;omega,hw,hb⟩
theorem bV (hE:cI P E) (live:List Nat) (d N:Nat) (Inv:Nat→Prop) (h0:Inv 0) {c:Code} (hN:N≤4611686018427387904)
  (round:∀i:Nat,Inv i→i≤N→IntKind.i64.wrap ((i:Int)+1)=((i+1:Nat):Int)→wl P E n c (Cp (NC d N B Inv (bK t live) i) k) ((d,.int .i64 i) :: bK t live) B)
  (hw:kA t [(d,.int .i64 0)]:=by first|exact ⟨rfl,trivial⟩|(simp [kA,dd];done)|fail):EV P n (.loop c) t B k.f:=
 aT hE live (fun i:Nat=>[(d,SV.int .i64 i)]) (fun B _=>B) (fun i=>Inv i∧i≤N) (fun i=>N - i) 0 ⟨h0,Nat.zero_le _⟩ (fun i hi=>round i hi.1 hi.2 (by rw [bu (by omega)];omega)) hw rfl
end
section
open Go.ChangeShapes Go.WideShapes Go.ChangeAt Go.RowKit
def Bh (W:World) (b:Nat):Prop:=b < W.heap.size
theorem H5 (W:World) (hg:∀g,GV g≠[]→Den (Bh W) W (.xp (GV g)) (.pointer (some ⟨g,0,none⟩))):Sat (Bh W) W []:=
 ⟨fun i j b hi=>by simp [au,aI.blocks] at hi,fun i b hi=>by simp [au,aI.blocks] at hi,⟨fun b hb=>hb,hg⟩,fun b _ ⟨i,hi⟩=>by simp [au,aI.blocks] at hi,fun i=>by simp [au,aI.ok]⟩
theorem Ext.below {W W':World} {X':Nat→Prop} {B':List aI} (h:Ext (Bh W) W [] X' W' B'):Below W.heap.size W W':=
 ⟨h.os,h.tape,h.output,h.size,fun k hk=>h.block k hk fun ⟨i,hi⟩=>by simp [au,aI.blocks] at hi⟩
section
variable {H:Type} {enc:TypeId×Value→H} {P:Program} {W W':World}
theorem p8 (hl:laidOutB P=true) (hb:Below W.heap.size W W'):∀{ts:List TypeId} {vs:List Value} {ds:List (DataW H)} {ps:List MemPlace},
  (∀t∈ts,P.readableRec t=true∧t < P.types.size)→DataW.TrodAll enc P W 0 (fun _=>true) true ts vs ds ps→(∀x∈ps,x.block < W.heap.size)→
  DataW.TrodAll enc P W' 0 (fun b=>decide (b < W.heap.size)) true ts vs ds ps
 |[],[],[],_,_,h,_=>h
 |t :: ts,v :: vs,d :: ds,ps,ht,h,hlt=>by
  obtain ⟨p,q,h1,h2,rfl⟩:=h;exact ⟨p,q,Below.trod hl (ht t (.head _)).1 (ht t (.head _)).2 h1 hb fun x hx=>hlt x (List.mem_append_left _ hx),
   p8 hl hb (fun t ht'=>ht t (.tail _ ht')) h2 fun x hx=>hlt x (List.mem_append_right _ hx),rfl⟩
 |[],[],_ :: _,_,_,h,_=>h.elim
 |[],_ :: _,_,_,_,h,_=>h.elim
 |_ :: _,[],_,_,_,h,_=>h.elim
 |_ :: _,_ :: _,[],_,_,h,_=>h.elim
theorem tj:∀{ts:List TypeId} {vs:List Value} {ds:List (DataW H)} {ps:List MemPlace} {w:World} {base:Nat} {sp:Nat→Bool} {hd:Bool},
  DataW.TrodAll enc P w base sp hd ts vs ds ps→vs.length=ts.length∧ds.length=ts.length
 |[],[],[],_,_,_,_,_,_=>⟨rfl,rfl⟩
 |t :: ts,v :: vs,d :: ds,ps,_,_,_,_,h=>by
  obtain ⟨p,q,_,h2,_⟩:=h;have:=tj h2;exact ⟨by simp [this.1],by simp [this.2]⟩
 |[],[],_ :: _,_,_,_,_,_,h=>h.elim
 |[],_ :: _,_,_,_,_,_,_,h=>h.elim
 |_ :: _,[],_,_,_,_,_,_,h=>h.elim
 |_ :: _,_ :: _,[],_,_,_,_,_,h=>h.elim
theorem shut_bool {w:World} {base:Nat} {spare:Nat→Bool} {held:Bool} {t:TypeId} (ht:P.underlying t=some .bool) (b:Bool):DataW.Trod enc P w base spare held t (.bool b) (.lit (.bool b)) []:=
 ⟨1,by simp [Value.cells,DataW.trod,ht]⟩
end
theorem AX (hgv:∀g,GV g=[]) {C:Checked} {os:Os} {H:Type} {enc:TypeId×Value→H} {f:FuncId} {fn:Func} {s:ChangeSpec} {conds:List PathCond} {tb:TypeId}
  (own:ownKnob C.prog.godebug=none) (started:os.Started) (noInit:C.prog.inits.idxOf? f=none) (hfn:C.prog.funcs[f]?=some fn) (hlaid:laidOutB C.prog=true)
  (hread:∀t∈fn.params.toList,C.prog.readableRec t=true∧t < C.prog.types.size) (hres:fn.resultTypes=#[tb]) (htb:C.prog.underlying tb=some .bool) (hvars:s.vars=[])
  (hspec:∀ds:List (DataW H),ds.length=fn.params.size→s.fn H ds={results:=[.lit (.bool true)],args:=ds})
  (witness:∃(w:World) (tape:Tape) (i:Input),w.os=os∧(w.forCall tape i).Shaped C.prog∧i.vars=[]∧Input.okWide C.prog (w.forCall tape i) .any w.heap.size f i∧
   s.pre6 enc C.prog fn conds false (w.forCall tape i).memory i.args∧Assume.holds {} C.prog (lone (Frame.enter C.prog f i.args .normal) [] (w.forCall tape i)))
  (walk:∀(W:World) (base:Nat) (args:Array Value) (ds:List (DataW H)) (p:List MemPlace),
   (∀(j:Nat) t v,fn.params[j]?=some t→args[j]?=some v→Value.okWide C.prog W .any base t v)→
   (∀x∈p,x.block < W.heap.size)→
   (DataW.weightsEach C.prog fn.params.toList ds).all (·≤reachBytes)=true→
   DataW.TrodAll enc C.prog W 0 (fun _=>true) true fn.params.toList args.toList ds p→
   ∃svs,Cm (Bh W) W svs args∧EC C.prog f svs [] fun r B=>B=[]∧r= .bool true):
  ReturnsInHanded {} C os f .any (s.pre6 enc C.prog fn conds false) (s.post enc C.prog fn false true false false):=by
 refine returnsInHanded_of_change_sized (C:=C) own started noInit hfn witness ?_;intro W base args ds gs before hval hW _ hsz _;have hW':=hW;obtain ⟨p,q,hA,hV,rfl,_,_⟩:=hW;rw [hvars] at hV;obtain ⟨rfl,rfl⟩:=trodVars_none hV;have hlt:=hW'.lt;simp only [List.append_nil] at hlt;have hsz2:(DataW.weightsEach C.prog fn.params.toList ds).all (·≤reachBytes)=true:=by
  simpa [DataSpec.varTypes,ChangeSpec.plain,hvars] using hsz
 obtain ⟨svs,hden,_,hcall⟩:=walk W base args ds p hval hlt hsz2 hA;refine (hcall (Bh W) W args (H5 W fun g h=>absurd (hgv g) h) hden).mono ?_;rintro e W' ⟨v,r,X',B',rfl,⟨rfl,rfl⟩,_,hr,hext⟩
 cases hr
 have hb:=hext.below;have hsp:=hspec ds (by rw [(tj hA).2];simp);refine ⟨_,rfl,ds,[],_,[],p,[],hW',?_,?_,?_,hb.frame _,fun h=>by cases h⟩
 ·rw [List.append_nil,hsp,hres];exact trodAll_mk1 (shut_bool htb true)
 ·rw [List.append_nil,hsp];exact p8 hlaid hb hread hA hlt
 ·rw [List.append_nil,hsp,hvars];rfl
section
variable {H:Type} {enc:TypeId×Value→H} {P:Program} {W:World}
end
end
section
open Go.ChangeShapes Go.WideShapes Go.ChangeAt
def yy (X:Nat→Prop) (w:World) (ss:List SV) (cs:List Value):Prop:=cs.length=ss.length∧∀(i:Nat) (c:SV),ss[i]?=some c→Den X w c (cs.getD i undef)
def RD (P:Program) (t:TypeId) {α:Type} (c:α→List SV) (Wf:α→Prop):Prop:=
 ∀(H:Type) (enc:TypeId×Value→H) (W:World) (fuel:Nat) (cs:List Value) (y:DataW H×List MemPlace),DataW.trod enc P W 0 (fun _=>true) true fuel t cs=some y→(∀x∈y.2,x.block < W.heap.size)→
  ∃x,Wf x∧yy (Bh W) W (c x) cs
section
variable {P:Program} {t e:TypeId}
theorem yy.one {X:Nat→Prop} {w:World} {s:SV} {v:Value} (h:Den X w s v):yy X w [s] [v]:=⟨rfl,fun i c hc=>by
 cases i with
 |zero=>simp at hc;subst hc;exact h
 |succ i=>simp at hc⟩
theorem yy.app {X:Nat→Prop} {w:World} {a b:List SV} {u v:List Value} (h:yy X w a u) (k:yy X w b v):yy X w (a ++ b) (u ++ v):=by
 refine ⟨by simp [h.1,k.1],fun i c hc=>?_⟩;by_cases hi:i < a.length
 ·rw [List.getElem?_append_left hi] at hc;have:(u ++ v).getD i undef=u.getD i undef:=by
   simp only [List.getD_eq_getElem?_getD];rw [List.getElem?_append_left (by rw [h.1];exact hi)]
  rw [this];exact h.2 i c hc
 ·rw [List.getElem?_append_right (by omega)] at hc;have:(u ++ v).getD i undef=v.getD (i - a.length) undef:=by
   simp only [List.getD_eq_getElem?_getD];rw [List.getElem?_append_right (by rw [h.1];omega),h.1]
  rw [this];exact k.2 _ c hc
theorem RD.int {k:IntKind} (ht:P.underlying t=some (.int k)):RD P t (aS k) (fun n=>(Lit.int k n).wf=true):=by
 intro H enc W fuel cs y h _;obtain ⟨n,rfl,rfl,hw⟩:=DataW.trod_int ht h;exact ⟨n,hw,.one (.int _ _ fun e=>by subst e;simp [Lit.wf] at hw;first|exact hw.1|omega)⟩
theorem RD.bool (ht:P.underlying t=some .bool):RD P t OZ (fun _=>True):=by
 intro H enc W fuel cs y h _;obtain ⟨b,rfl,rfl⟩:=DataW.trod_bool ht h;exact ⟨b,trivial,.one (.bool ..)⟩
theorem RD.str (ht:P.underlying t=some .string):RD P t jz (fun s=>s.length≤maxLen):=by
 intro H enc W fuel cs y h _;obtain ⟨⟨s⟩,rfl,rfl,hw⟩:=DataW.trod_string ht h;refine ⟨s.toList,by simpa [ByteArray.size] using hw,.one ?_⟩;have:=Den.str (X:=Bh W) (w:=W) s.toList;simpa using this
theorem cells_of_cells? {w:World} {a:Addr} {n:Nat} {cs:List Value} (h:w.cells? 0 a n=some cs):cs.length=n∧∀j,j < n→w.cell? (a.add j)=some (cs.getD j undef):=by
 simp only [World.cells?,Nat.zero_le,if_true] at h;have hl:=mapM_some_length h;refine ⟨by simpa using hl,fun j hj=>?_⟩;have:=mapM_some_get h j j (by simp [hj]);rw [this];have hj':j < cs.length:=by rw [hl];simpa using hj
 simp [getD,hj']
theorem Cb {α:Type} [Inhabited α] {n:Nat} {p:Nat→α→Prop} (h:∀i,i < n→∃x,p i x):∃l:List α,l.length=n∧∀i,i < n→p i (l.getD i default):=by
 induction n with
 |zero=>exact ⟨[],rfl,fun i hi=>absurd hi (Nat.not_lt_zero i)⟩
 |succ n ih=>
  obtain ⟨l,h1,h2⟩:=ih fun i hi=>h i (by omega)
  obtain ⟨x,hx⟩:=h n (by omega);refine ⟨l ++ [x],by simp [h1],fun i hi=>?_⟩;by_cases hn:i < n
  ·have:(l ++ [x]).getD i default=l.getD i default:=by simp [getD,List.getElem?_append_left (show i < l.length by omega)]
   rw [this];exact h2 i hn
  ·have:i=n:=by omega
   subst this;have:(l ++ [x]).getD l.length default=x:=by simp [getD]
   rw [←h1,this,h1];exact hx
theorem RD.slice {α:Type} [Inhabited α] {c:α→List SV} {Wf:α→Prop} {m:Nat} (ht:P.underlying t=some (.slice e)) (hm:P.cellsOf e=m) (hpos:0 < m) (hc:∀x,(c x).length=m) (he:RD P e c Wf):
  RD P t (fun l=>[bG m c default l]) (fun l=>l.length≤maxLen∧∀x∈l,Wf x):=by
 intro H enc W fuel cs y h hlt;rcases DataW.trod_slice ht h with ⟨rfl,rfl⟩|⟨a,len,cap,elems,rest,n,_,rfl,rfl,hb,hl,hmx,hlen,hel,hsp,hns⟩
 ·exact ⟨[],⟨Nat.zero_le _,by simp⟩,.one (.gC fun h=>(nomatch h))⟩
 ·rw [hm] at hel hsp hlt;have each:∀i,i < len→∃x,Wf x∧∃vs:List Value,vs.length=m∧(∀j,j < m→W.cell? ((a.add (i*m)).add j)=some (vs.getD j undef))∧yy (Bh W) W (c x) vs:=by
   intro i hi;have h1:=hel i hi;have hie:i < elems.length:=by omega
   rw [List.getElem?_eq_getElem hie,Option.bind_eq_some_iff] at h1;obtain ⟨vs,h2,h3⟩:=h1;obtain ⟨k1,k2⟩:=cells_of_cells? h2;obtain ⟨x,hx,hd⟩:=he H enc W n vs elems[i] h3 fun z hz=>hlt z (by
    simp only [List.mem_append,mem_flatMap];exact .inr ⟨elems[i],.inl (List.getElem_mem hie),hz⟩)
   exact ⟨x,hx,vs,k1,k2,hd⟩
  obtain ⟨l,hll,hp⟩:=Cb each;refine ⟨l,⟨by omega,fun x hx=>?_⟩,.one ?_⟩
  ·obtain ⟨i,hi,rfl⟩:=List.getElem_of_mem hx;have:=(hp i (by omega)).1;simpa [getD,hi] using this
  ·rcases Nat.eq_zero_or_pos len with h0|hpos2
   ·subst h0;have:l=[]:=List.length_eq_zero_iff.1 hll;subst this;exact .gC fun h=>(nomatch h)
   obtain ⟨b,off,spot⟩:=a;have hspot:spot=none:=by
    obtain ⟨_,vs,_,h2,_⟩:=hp 0 hpos2;simpa [Addr.add] using World.cell?_spot (h2 0 hpos)
   subst hspot;have hbW:b < W.heap.size:=hlt (.cell b off) (by
    simp only [List.mem_append];exact .inl (MemPlace.mem_row.2 ⟨0,by have:0 < (elems.length+rest.length)*m:=Nat.mul_pos (by omega) hpos;omega,by simp⟩))
   have key:Den (Bh W) W (.sl false m len fun k=>c (l.getD k default)) (.slice (some ⟨b,off,none⟩) len cap):=by
    refine .na (fun k j=>(W.cell? ⟨b,off+(k*m+j),none⟩).getD undef) hpos2 hl (fun h=>(nomatch h)) hbW (fun k _=>hc _) (fun k j hk hj=>?_) fun k j s hk hs=>?_
    ·obtain ⟨_,vs,h1,h2,_⟩:=hp k hk;have:=h2 j hj;simp only [eJ] at this;rw [show off+(k*m+j)=off+k*m+j by omega,this];rfl
    ·obtain ⟨_,vs,h1,h2,h3⟩:=hp k hk;have hj:j < m:=by have:=(List.getElem?_eq_some_iff.1 hs).1;rw [hc] at this;exact this
     have:=h2 j hj;simp only [eJ] at this;rw [show off+(k*m+j)=off+k*m+j by omega,this];exact h3.2 j s hs
   show Den (Bh W) W (.sl false m l.length fun k=>c (l.getD k default)) _;rw [hll];exact key
def uX:List (TypeId×Nat)→Nat
 |[]=>0
 |(_,m) :: r=>m+uX r
def FR {H:Type} (enc:TypeId×Value→H) (P:Program) (W:World) (n:Nat) (cs:List Value):Nat→List (TypeId×Nat)→Prop
 |_,[]=>True
 |o,(t,m) :: r=>(∃y,DataW.trod enc P W 0 (fun _=>true) true n t ((cs.drop o).take m)=some y∧∀x∈y.2,x.block < W.heap.size)∧FR enc P W n cs (o+m) r
def Mj (P:Program) (fs:List (TypeId×Nat)) {α:Type} (c:α→List SV) (Wf:α→Prop):Prop:=
 ∀(H:Type) (enc:TypeId×Value→H) (W:World) (n:Nat) (cs:List Value) (o:Nat),o+uX fs≤cs.length→FR enc P W n cs o fs→∃x,Wf x∧yy (Bh W) W (c x) ((cs.drop o).take (uX fs))
theorem Mj.nil:Mj P [] (fun _:Unit=>[]) (fun _=>True):=fun _ _ _ _ _ _ _ _=>⟨(),trivial,by simp [uX,yy]⟩
theorem Mj.cons {α β:Type} {c:α→List SV} {d:β→List SV} {W1:α→Prop} {W2:β→Prop} {m:Nat} {r:List (TypeId×Nat)} (h1:RD P t c W1) (h2:Mj P r d W2):Mj P ((t,m) :: r) (fun x:α×β=>c x.1 ++ d x.2) (fun x=>W1 x.1∧W2 x.2):=by
 intro H enc W n cs o hl ⟨⟨y,hy,hp⟩,hr⟩;simp only [uX] at hl ⊢;obtain ⟨x,hx,hdx⟩:=h1 H enc W n _ y hy hp;obtain ⟨z,hz,hdz⟩:=h2 H enc W n cs (o+m) (by omega) hr;refine ⟨(x,z),⟨hx,hz⟩,?_⟩;have:(cs.drop o).take (m+uX r)=(cs.drop o).take m ++ (cs.drop (o+m)).take (uX r):=by rw [List.take_add,List.drop_drop]
 rw [this];exact hdx.app hdz
def ta (P:Program):Nat→List Field→List (TypeId×Nat)→Bool
 |_,[],[]=>true
 |o,f :: F,(t,m) :: r=>f.type == t && f.offset == o && P.cellsOf t == m && ta P (o+m) F r
 |_,_,_=>false
theorem y7 {H:Type} {enc:TypeId×Value→H} {W:World} {n:Nat} {cs:List Value}:∀(F:List Field) (fs:List (TypeId×Nat)) (o:Nat) (xs:List (DataW H×List MemPlace)),ta P o F fs=true→xs.length=F.length→
  (∀(i:Nat) (f:Field),F[i]?=some f→DataW.trod enc P W 0 (fun _=>true) true n f.type ((cs.drop f.offset).take (P.cellsOf f.type))=xs[i]?)→(∀y∈xs,∀x∈y.2,x.block < W.heap.size)→FR enc P W n cs o fs
 |[],[],_,_,_,_,_,_=>trivial
 |[],_ :: _,_,_,h,_,_,_=>by simp [ta] at h
 |_ :: _,[],_,_,h,_,_,_=>by simp [ta] at h
 |f :: F,(t,m) :: r,o,[],_,hl,_,_=>by simp at hl
 |f :: F,(t,m) :: r,o,y :: xs,h,hl,hx,hp=>by
  simp only [ta,Bool.and_eq_true,beq_iff_eq] at h;obtain ⟨⟨⟨rfl,rfl⟩,rfl⟩,h4⟩:=h;exact ⟨⟨y,hx 0 f rfl,hp y (List.mem_cons_self ..)⟩,y7 F r _ xs h4 (by simpa using hl) (fun i f hf=>hx (i+1) f hf) fun z hz=>hp z (List.mem_cons_of_mem _ hz)⟩
theorem Gr {H:Type} {enc:TypeId×Value→H} {W:World} {n m:Nat} {cs:List Value}:∀(k o:Nat) (xs:List (DataW H×List MemPlace)),xs.length=k→(∀i,i < k→DataW.trod enc P W 0 (fun _=>true) true n e ((cs.drop (o+i*m)).take m)=xs[i]?)→
  (∀y∈xs,∀x∈y.2,x.block < W.heap.size)→FR enc P W n cs o (List.replicate k (e,m))
 |0,_,_,_,_,_=>trivial
 |k+1,o,[],hl,_,_=>by simp at hl
 |k+1,o,y :: xs,hl,hx,hp=>by
  refine ⟨⟨y,by simpa using hx 0 (by omega),hp y (List.mem_cons_self ..)⟩,Gr k (o+m) xs (by simpa using hl) (fun i hi=>?_) fun z hz=>hp z (List.mem_cons_of_mem _ hz)⟩;have:=hx (i+1) (by omega);rw [Nat.add_mul,Nat.one_mul] at this;rw [show o+m+i*m=o+(i*m+m) by omega];simpa using this
def A1 (P:Program) (t:TypeId) (fs:List (TypeId×Nat)):Bool:=match P.underlying t with
 |some (.struct F)=>ta P 0 F.toList fs && P.cellsOf t == uX fs
 |some (.array n e)=>fs == List.replicate n (e,P.cellsOf e) && P.cellsOf t == uX fs
 |_=>false
theorem RD.struct {fs:List (TypeId×Nat)} {α:Type} {c:α→List SV} {Wf:α→Prop} (h:A1 P t fs=true) (hf:Mj P fs c Wf):RD P t c Wf:=by
 intro H enc W fuel cs y hy hlt;unfold A1 at h
 split at h
 ·rename_i F hu;simp only [Bool.and_eq_true,beq_iff_eq] at h;obtain ⟨xs,n,rfl,rfl,hl,hxl,hx⟩:=DataW.trod_struct hu hy;obtain ⟨x,h1,h2⟩:=hf H enc W n cs 0 (by omega) (y7 F.toList fs 0 xs h.1 (by simpa using hxl) (fun i f hi=>hx i f (by simpa using hi)) fun z hz x hx=>hlt x (by simp only [mem_flatMap];exact ⟨z,hz,hx⟩));refine ⟨x,h1,?_⟩;have:(cs.drop 0).take (uX fs)=cs:=by rw [List.drop_zero,List.take_of_length_le (by omega)]
  rwa [this] at h2
 ·rename_i n e hu;simp only [Bool.and_eq_true,beq_iff_eq] at h;obtain ⟨xs,m,rfl,rfl,hl,hxl,hx⟩:=DataW.trod_array hu hy;obtain ⟨hfs,htot⟩:=h;obtain ⟨x,h1,h2⟩:=hf H enc W m cs 0 (by omega) (by
   rw [hfs];exact Gr n 0 xs hxl (fun i hi=>by simpa using hx i hi) fun z hz x hx=>hlt x (by simp only [mem_flatMap];exact ⟨z,hz,hx⟩))
  refine ⟨x,h1,?_⟩;have:(cs.drop 0).take (uX fs)=cs:=by rw [List.drop_zero,List.take_of_length_le (by omega)]
  rwa [this] at h2
 ·cases h
theorem RD.map {α β:Type} {c:α→List SV} {d:β→List SV} {W1:α→Prop} {W2:β→Prop} (f:α→β) (hc:∀x,c x=d (f x)) (hw:∀x,W1 x→W2 (f x)) (h:RD P t c W1):RD P t d W2:=by
 intro H enc W fuel cs y hy hlt;obtain ⟨x,h1,h2⟩:=h H enc W fuel cs y hy hlt;exact ⟨f x,hw x h1,hc x▸h2⟩
def IU (P:Program) (t:TypeId) {α:Type} (s:α→SV) (Wf:α→Prop):Prop:=
 ∀(H:Type) (enc:TypeId×Value→H) (W:World) (base:Nat) (v:Value) (d:DataW H) (p:List MemPlace),Value.okWide P W .any base t v→DataW.Trod enc P W 0 (fun _=>true) true t v d p→(∀x∈p,x.block < W.heap.size)→∃x,Wf x∧Den (Bh W) W (s x) v
def Jh (P:Program) (t:TypeId):Bool:=match P.underlying t with
 |some (.struct _)=>true
 |some (.array _ _)=>true
 |_=>false
def JJ (P:Program) (t:TypeId):Bool:=match P.underlying t with
 |some .bool=>true
 |some (.int _)=>true
 |some .string=>true
 |some (.slice _)=>true
 |_=>false
theorem IU.agg {α:Type} {c:α→List SV} {Wf:α→Prop} (hw:Jh P t=true) (h:RD P t c Wf):IU P t (fun x=> .agg (c x)) Wf:=by
 intro H enc W base v d p hok ⟨fuel,hd⟩ hlt;have:∃cs,v= .agg cs:=by
  unfold Jh at hw;unfold Value.okWide at hok
  split at hw<;>rename_i hu<;>first|(rw [hu] at hok;obtain ⟨cs,h,_⟩:=hok;exact ⟨cs,h⟩)|cases hw
 obtain ⟨cs,rfl⟩:=this;obtain ⟨x,h1,h2,h3⟩:=h H enc W fuel _ _ hd hlt;simp only [Value.cells] at h2 h3;exact ⟨x,h1,.agg (by simpa using h2) fun i c hc=>by simpa using h3 i c hc⟩
theorem IU.cell {α:Type} {s:α→SV} {Wf:α→Prop} (hw:JJ P t=true) (h:RD P t (fun x=>[s x]) Wf):IU P t s Wf:=by
 intro H enc W base v d p hok ⟨fuel,hd⟩ hlt;have:∀cs,v≠.agg cs:=by
  rintro cs rfl;unfold JJ at hw;unfold Value.okWide at hok
  split at hw<;>rename_i hu<;>first|(rw [hu] at hok;simp [Cell.okWide,Cell.ok,hu] at hok;done)|cases hw
 obtain ⟨x,h1,h2,h3⟩:=h H enc W fuel _ _ hd hlt;have hv:v.cells=#[v]:=by cases v<;>first|rfl|exact absurd rfl (this _)
 rw [hv] at h3;exact ⟨x,h1,h3 0 _ rfl⟩
def RA (P:Program) (ts:List TypeId) (K:List SV→Prop):Prop:=
 ∀(H:Type) (enc:TypeId×Value→H) (W:World) (base:Nat) (vs:List Value) (ds:List (DataW H)) (p:List MemPlace),(∀(j:Nat) (t:TypeId) (v:Value),ts[j]?=some t→vs[j]?=some v→Value.okWide P W .any base t v)→
  DataW.TrodAll enc P W 0 (fun _=>true) true ts vs ds p→(∀x∈p,x.block < W.heap.size)→∃l,K l∧l.length=vs.length∧∀(i:Nat) (c:SV),l[i]?=some c→Den (Bh W) W c (vs.getD i undef)
theorem RA.nil:RA P [] (fun l=>l=[]):=fun _ _ _ _ vs ds p _ h _=>by
 cases vs<;>cases ds<;>simp only [DataW.TrodAll] at h
 exact ⟨[],rfl,rfl,by simp⟩
theorem RA.cons {α:Type} {s:α→SV} {Wf:α→Prop} {ts:List TypeId} {K:List SV→Prop} (h1:IU P t s Wf) (h2:RA P ts K):RA P (t :: ts) (fun l=>∃x l',Wf x∧K l'∧l=s x :: l'):=by
 intro H enc W base vs ds p hok h hlt
 cases vs<;>cases ds<;>simp only [DataW.TrodAll] at h
 rename_i v vs d ds;obtain ⟨p,q,h3,h4,rfl⟩:=h;obtain ⟨x,hx,hd⟩:=h1 H enc W base v d p (hok 0 t v rfl rfl) h3 fun z hz=>hlt z (by simp [hz])
 obtain ⟨l,k1,k2,k3⟩:=h2 H enc W base vs ds q (fun j t v a b=>hok (j+1) t v a b) h4 fun z hz=>hlt z (by simp [hz])
 refine ⟨s x :: l,⟨x,l,hx,k1,rfl⟩,by simp [k2],fun i c hc=>?_⟩
 cases i with
 |zero=>simp at hc;subst hc;exact hd
 |succ i=>exact k3 i c (by simpa using hc)
theorem uW (hgv:∀g,GV g=[]:=by intro _;rfl) {C:Checked} {os:Os} {H:Type} {enc:TypeId×Value→H} {f:FuncId} {fn:Func} {s:ChangeSpec} {conds:List PathCond} {tb:TypeId} {K:List SV→Prop} {ts:List TypeId}
  (own:ownKnob C.prog.godebug=none) (started:os.Started) (noInit:C.prog.inits.idxOf? f=none) (hfn:C.prog.funcs[f]?=some fn) (hlaid:laidOutB C.prog=true)
  (hread:∀t∈fn.params.toList,C.prog.readableRec t=true∧t < C.prog.types.size) (hres:fn.resultTypes=#[tb]) (htb:C.prog.underlying tb=some .bool) (hvars:s.vars=[])
  (hspec:∀ds:List (DataW H),ds.length=fn.params.size→s.fn H ds={results:=[.lit (.bool true)],args:=ds})
  (witness:∃(w:World) (tape:Tape) (i:Input),w.os=os∧(w.forCall tape i).Shaped C.prog∧i.vars=[]∧Input.okWide C.prog (w.forCall tape i) .any w.heap.size f i∧
   s.pre6 enc C.prog fn conds false (w.forCall tape i).memory i.args∧Assume.holds {} C.prog (lone (Frame.enter C.prog f i.args .normal) [] (w.forCall tape i)))
  (hts:fn.params.toList=ts) (hra:RA C.prog ts K) (hc:∀l,K l→EC C.prog f l [] fun r B=>B=[]∧r= .bool true):
  ReturnsInHanded {} C os f .any (s.pre6 enc C.prog fn conds false) (s.post enc C.prog fn false true false false):=by
 refine AX hgv (C:=C) (tb:=tb) own started noInit hfn hlaid hread hres htb hvars hspec witness ?_;intro W base args ds p hval hlt hsz hA;obtain ⟨l,h1,h2,h3⟩:=hra H enc W base args.toList ds p (fun j t v a b=>hval j t v (by rw [←hts] at a;simpa using a) (by simpa using b)) (hts▸hA) hlt;exact ⟨l,⟨by simpa using h2.symm,fun i c hi=>by simpa using h3 i c hi⟩,hc l h1⟩
end
end
end Go.Lift
