/- Part 9. -/
import Derived.Test.YteejbbfaphcgiaaGreatV07
import Derived.Test.YteejbbfaphcgiaaGreatV08
namespace Go.Proofs.YteejbbfaphcgiaaGreat
open Go.Lift _root_.Go.Proofs.Tryz
set_option linter.unusedSimpArgs false
set_option linter.unusedVariables false
set_option maxHeartbeats 1000000
set_option maxRecDepth 10000
open List (length_range range all_eq_true getD take_length take take_of_length_le append_assoc take_add_one filter_cons nodup_nil map set_cons_zero length_cons length_nil cons_append nil_append set_cons_succ map_take map_append)
open Nat (zero_le le_refl le_succ not_lt_zero lt_or_ge le_trans zero_add le_of_ble_eq_true le_add_right)
section
attribute [local irreducible] EC EV gW cc cK dT
attribute [local push_cast] eO dG eu gS length_range bM iX l5 j7 l6
attribute [push_cast] b8.p
theorem Lt.vt {B:List aI} {x y:aO} (h:x=y):Lt B (.agg x.c) (.agg y.c):=by subst h;exact Lt.agg (eU.obj (cs:=x.c) (fun s B=>by rw [aO.fk]) (fun s B=>by rw [aO.fz]))
theorem a6.vt {B:List aI} {x y:aO} (h:x=y):a6 B (.agg x.c) (.agg y.c):=by subst h;exact a6.agg (eU.obj (cs:=x.c) (fun s B=>by rw [aO.fk]) (fun s B=>by rw [aO.fz]))
def u_ (l:List Int) (i:Nat):Bool:=(range i).all fun j=>decide (0≤l.getD j default) && decide (l.getD j default < 8) && (decide (j=0) || decide (l.getD (j - 1) default < l.getD j default))
theorem pz {l:List Int} {i:Nat}:u_ l (i+1)=(u_ l i && (decide (0≤l.getD i default) && decide (l.getD i default < 8) && (decide (i=0) || decide (l.getD (i - 1) default < l.getD i default)))):=by
 unfold u_;rw [List.range_succ,List.all_append];simp
theorem uI {l:List Int} {i j:Nat} (h:u_ l j=true) (hi:i≤j):u_ l i=true:=by
 unfold u_ at h ⊢;simp only [all_eq_true,List.mem_range] at h ⊢;exact fun k hk=>h k (by omega)
def ib (l:List Int):Bool:=u_ l l.length && decide (1≤l.length)
theorem ow {l:List Int} (h:ib l=true):1≤l.length∧l.length≤8:=by
 simp only [ib,Bool.and_eq_true,decide_eq_true_eq] at h;refine ⟨h.2,?_⟩;have key:∀i,i < l.length→(i:Int)≤l.getD i default∧l.getD i default < 8:=fun i=>by
  induction i with
  |zero=>
   intro hi;have:=uI h.1 (i:=0+1) (by omega);rw [pz] at this;simp only [Bool.and_eq_true,decide_eq_true_eq] at this;exact ⟨this.2.1.1,this.2.1.2⟩
  |succ i ih=>
   intro hi;have h1:=ih (by omega);have:=uI h.1 (i:=i+2) (by omega);rw [pz] at this;simp only [Bool.and_eq_true,Bool.or_eq_true,decide_eq_true_eq,Nat.add_sub_cancel] at this;omega
 have:=key (l.length - 1) (by omega);omega
theorem nZ (l:List Int) (hl:l.length≤1099511627776):EC prog 58 [bG 1 (aS .i64) default l] [] fun r N=>N=[]∧r= .bool (ib l):=by
 refine EC.cQ ?_;refine nW ab (ca 58) func58 ntmps58 results58 ?_;(repeat' (done));refine bV ab [0] 3 l.length (fun i=>u_ l i=true) rfl (by omega) ?_;intro i hI hi hw;simp only [hw,push_cast,simprocAttr];have hi0:0 < (i:Int)→IntKind.i64.wrap ((i:Int) - 1)=((i - 1:Nat):Int):=fun h=>by rw [bu (by omega)];omega
 have hs:=pz (l:=l) (i:=i);(repeat' (first|with_reducible (first|intro _|apply And.intro)|refine dN ab [] [] [0,1,2,3,4,5,6,7,8,9,10,11,12,13,14,15,16,17,18,19,20,21,22,23,24,25,26,27] bZ fun R hR=>?_|(refine hR _ _ ?_;refine sA ?_)|refine wA ab ?_|fail))<;>(first|(have hz:=‹(_ && decide (0 < (i:Int)))=true›;simp only [Bool.and_eq_true,decide_eq_true_eq] at hz;first|exact hz.1|omega|(rw [hi0 hz.2];omega))|omega|(show (_:Bool)=true;first|(simp_all;done)|grind)|skip)
 ·have hz:=‹(_ || _ || _)=true›;refine Lt.bool ?_;have h1:u_ l (i+1)=false:=by
   rw [hs,hI];rcases Nat.eq_zero_or_pos i with h|h
   ·subst h;simp only [Bool.or_eq_true,Bool.and_eq_true,decide_eq_true_eq] at hz;simp only [Bool.true_and,Bool.and_eq_false_iff,Bool.or_eq_false_iff,decide_eq_false_iff_not];omega
   ·rw [hi0 (by omega),Int.toNat_natCast] at hz;simp only [Bool.or_eq_true,Bool.and_eq_true,decide_eq_true_eq] at hz;simp only [Bool.true_and,Bool.and_eq_false_iff,Bool.or_eq_false_iff,decide_eq_false_iff_not];omega
  cases hb:ib l with
  |false=>rfl
  |true=>
   simp only [ib,Bool.and_eq_true] at hb;rw [uI hb.1 (i:=i+1) (by omega)] at h1
   cases h1
 ·have hz:=‹(_ || _ || _)=false›;(try simp only [hw]);refine cO ?_;rw [hs,hI];rcases Nat.eq_zero_or_pos i with h|h
  ·subst h;simp only [Bool.or_eq_false_iff,Bool.and_eq_false_iff,decide_eq_false_iff_not] at hz;simp only [Bool.true_and,Bool.and_eq_true,Bool.or_eq_true,decide_eq_true_eq];exact ⟨⟨by omega,by omega⟩,.inl trivial⟩
  ·rw [hi0 (by omega),Int.toNat_natCast] at hz;simp only [Bool.or_eq_false_iff,Bool.and_eq_false_iff,decide_eq_false_iff_not] at hz;simp only [Bool.true_and,Bool.and_eq_true,Bool.or_eq_true,decide_eq_true_eq];omega
 ·have hz:=‹decide ((i:Int) < _)=false›;obtain rfl:i=l.length:=by simp at hz;omega
  refine Lt.bool ?_;unfold ib;rw [hI,Bool.true_and]
  congr 1
  exact propext ⟨fun h=>by omega,fun h=>by omega⟩
theorem d7 (l:List Int) (n:Int) (hl:l.length≤1099511627776):EC prog 38 [bG 1 (aS .i64) default l,.int .i64 n] [] fun r N=>N=[]∧r= .bool (decide (n∈l)):=by
 refine EC.cQ ?_;refine nW ab (ca 38) func38 ntmps38 results38 ?_;(repeat' (done));refine bV ab [0,1] 5 l.length (fun i=>n ∉ l.take i) (by simp) (by omega) ?_;intro i hI hi hw;simp only [hw,push_cast,simprocAttr];have hs:i < l.length→(n∈l.take (i+1)↔n∈l.take i∨n=l.getD i default):=fun h=>by
  have e:l.getD i default=l[i]:=by simp [getD,h]
  rw [e,List.take_succ_eq_append_getElem h];simp only [List.mem_append,List.mem_singleton]
 have hmem:i < l.length→l.getD i default∈l:=fun h=>bk h;(repeat' (with_reducible (first|intro _|apply And.intro)))<;>(first|omega|(refine Lt.bool ?_;have hz:=‹(l.getD i default == n)=true›;simp only [beq_iff_eq] at hz;have:=hmem (by omega);rw [hz] at this;simp [this];done)|((try simp only [hw]);have hz:=‹(l.getD i default == n)=false›;refine cO fun h=>?_;have:=(hs (by omega)).1 h;simp only [beq_eq_false_iff_ne] at hz;rcases this with this|this;exact hI this;exact hz this.symm)|(refine Lt.bool ?_;have hz:=‹decide ((i:Int) < _)=false›;obtain rfl:i=l.length:=(by simp at hz;omega);rw [take_length] at hI;simp [hI];done))
theorem lF (a b:List Int) (ha:a.length≤1099511627776) (hb:b.length≤1099511627776):EC prog 39 [bG 1 (aS .i64) default a,bG 1 (aS .i64) default b] [] fun r N=>N=[]∧∃c:Bool,(a=b→c=true)∧r= .bool c:=by
 refine EC.bh ?_;refine nW ab (ca 39) func39 ntmps39 results39 ?_;have hsame:∀{B:List aI} (v:Bool),(a=b→v=true)→∃c:Bool,(a=b→c=true)∧Lt B (.bool v) (.bool c):=fun v h=>⟨v,h,Lt.bool rfl⟩;(repeat' (with_reducible (first|intro _|apply And.intro)))<;>(first|(refine hsame false fun h=>?_;subst h;simp_all;done)|skip);refine bV ab [0,1] 5 a.length (fun i=>True) trivial (by omega) ?_;intro i hI hi hw;simp only [hw,push_cast,simprocAttr];have hlab:a.length=b.length:=by (have hz:=‹((a.length:Int) !=_)=false›;simp at hz;omega)
 (repeat' (first|with_reducible (first|intro _|apply And.intro)|refine dN ab [] [] [0,1,2,3,4,5,6,7,8] bZ fun R hR=>?_|(refine hR _ _ ?_;refine sA ?_)|refine wA ab ?_|fail))<;>(first|(refine hsame false fun h=>?_;subst h;simp_all;done)|(exact hsame true fun _=>rfl)|((try simp only [hw]);exact cO trivial)|omega)
theorem lG (v:aO) (p:Int) (hv:v.cz.length≤1099511627776):EC prog 140 [.agg v.c,.int .u64 p] [] fun r N=>N=[]∧∃x:Int×Bool,True∧r= .bS [.int .i64 x.1,.bool x.2]:=by
 refine EC.bh ?_;refine nW ab (ca 140) func140 ntmps140 results140 ?_;(repeat' (with_reducible intro _));refine bV ab [1,2] 6 v.cz.length (fun i=>True) trivial (by omega) ?_;intro i hI hi hw;simp only [hw,push_cast,simprocAttr];(repeat' (with_reducible (first|intro _|apply And.intro)))<;>(first|(exact ⟨(_,_),Lt.t2 a6.int a6.bool⟩)|((try simp only [hw]);exact cO trivial)|omega)
theorem a6.ck {B:List aI} {x y:ax} (h:x=y):a6 B (.agg x.c) (.agg y.c):=by subst h;exact a6.agg (eU.obj (cs:=x.c) (fun s B=>by rw [ax.fk]) (fun s B=>by rw [ax.fz]))
theorem i9.def {Q:af→Prop} (h0:Q default):i9 Q default:=⟨h0,zero_le _,zero_le _,fun o h=>(nomatch h),fun o h=>(nomatch h)⟩
theorem vX {Q:af→Prop} (v:aO) (p:Int) (hv:v.cX.length≤1000) (hq:∀c∈v.cX,i9 Q c) (h0:Q default):EC prog 161 [.agg v.c,.int .u64 p] [] fun r N=>N=[]∧∃x:ax×Bool,i9 Q x.1∧r= .bS [.agg x.1.c,.bool x.2]:=by
 refine EC.bh ?_;refine nW ab (ca 161) func161 ntmps161 results161 ?_;(repeat' (with_reducible intro _));refine bV ab [1,2,4] 6 v.cX.length (fun i=>True) trivial (by omega) ?_;intro i hI hi hw;simp only [hw,push_cast,simprocAttr];have hmem:i < v.cX.length→v.cX.getD i default∈v.cX:=fun h=>bk h;(repeat' (with_reducible (first|intro _|apply And.intro)))<;>(first|(refine ⟨(_,true),hq _ (hmem (by omega)),Lt.t2 (a6.ck rfl) a6.bool⟩;done)|(exact ⟨(_,false),i9.def h0,Lt.t2 (a6.ck rfl) a6.bool⟩)|((try simp only [hw]);exact cO trivial)|omega)
theorem Lt.Rj {B:List aI} {v:aO} {i n E:Nat} {h:aN} {xs:List (List SV)} {l:List b8} (hB:au B i= .row h E 2 xs) (hx:xs=l.map b8.c) (hn:n=l.length):Lt B (.agg (aJ v.c 3 [.row i h 2 0 n])) (.agg (aO.c {v with cz:=l})):=
 Lt.agg ((eU.obj (cs:=v.c) (fun s B=>by rw [aO.fk]) (fun s B=>by rw [aO.fz])).put 3 (gY.row hB hx hn) rfl)
theorem PO (l:aO) (k:Nat) (s:List SV):take 6 (aJ l.c k s)=aJ l.c k s:=take_of_length_le (by rw [cd];exact le_refl _)
theorem PQ (x y:aO) (k:Nat) (s:List SV):aJ x.c 0 (aJ y.c k s)=aJ y.c k s:=by
 have h:(aJ y.c k s).length=6:=by rw [cd];rfl
 match hp:aJ y.c k s,h with
 |[a,b,c,d,e,f],_=>rfl
attribute [local push_cast] PO PQ
theorem kG (v:aO) (p:Int) (hv:v.cz.length≤1000000000):EC prog 137 [.agg v.c,.int .u64 p] [] fun r N=>N=[]∧∃m:List b8,m.length≤v.cz.length∧r= .agg (aO.c {v with cz:=m}):=by
 refine EC.bh ?_;refine nW ab (ca 137) func137 ntmps137 results137 ?_;(repeat' (with_reducible intro _));refine cw 5 53 2 rfl ?_;intro hh;refine aT ab [1,2,4] (fun s:Nat×List (b8)×Nat×aN=>[(6,.int .i64 s.1),(5,.row 2 s.2.2.2 2 0 s.2.2.1)]) (fun B s=>cW B 2 s.2.2.2 (s.2.1.map b8.c)) (fun s=>s.1≤v.cz.length∧s.2.2.1=s.2.1.length∧(s.2.1.length≤s.1)) (fun s=>v.cz.length - s.1) (0,[],0,hh) ⟨zero_le _,rfl,le_refl _⟩ ?_;rintro ⟨i,m,km,hr⟩ ⟨hi,hk,hI⟩;replace hi:i≤v.cz.length:=hi;obtain rfl:km=m.length:=hk;replace hI:m.length≤i:=hI;have hw:=wI i;simp only [hw,push_cast,simprocAttr];(repeat' (with_reducible (first|intro _|apply And.intro)))<;>(first|((try simp only [hw]);refine a7 (i+1,m ++ [_],m.length+1,_) ⟨by show i+1≤_;omega,by simp,by simp;omega⟩)|((try simp only [hw]);refine a7 (i+1,m,m.length,hr) ⟨by show i+1≤_;omega,rfl,by show m.length≤i+1;omega⟩)|(exact ⟨m,by omega,Lt.Rj rfl rfl rfl⟩)|omega)
theorem kH (v:aO) (p n:Int) (hv:v.cz.length≤900000000):EC prog 151 [.agg v.c,.int .u64 p,.int .i64 n] [] fun r N=>N=[]∧∃m:List b8,m.length≤v.cz.length+1∧r= .agg (aO.c {v with cz:=m}):=by
 refine EC.bh ?_;refine nW ab (ca 151) func151 ntmps151 results151 ?_;(repeat' (first|with_reducible (first|intro _|apply And.intro)|refine eK ab ?_|(refine EC.aM (kG v p (by omega)) ?_;rintro _ _)|fail))<;>(first|(exact ⟨v.cz,le_succ _,Lt.vt rfl⟩)|skip);rename_i pl hpl;refine cw 7 53 2 rfl ?_;intro hh;refine aT ab [1,2,3,6] (fun s:Nat×List (b8)×Nat×aN=>[(8,.int .i64 s.1),(7,.row 2 s.2.2.2 2 0 s.2.2.1)]) (fun B s=>cW B 2 s.2.2.2 (s.2.1.map b8.c)) (fun s=>s.1≤pl.length∧s.2.2.1=s.2.1.length∧(s.2.1.length=s.1)) (fun s=>pl.length - s.1) (0,[],0,hh) ⟨zero_le _,rfl,rfl⟩ ?_;rintro ⟨i,m,km,hr⟩ ⟨hi,hk,hI⟩;replace hi:i≤pl.length:=hi;obtain rfl:km=m.length:=hk;replace hI:m.length=i:=hI;have hw:=wI i;simp only [hw,push_cast,simprocAttr];have hwm:IntKind.i64.wrap (m.length:Int)=m.length:=bu (by omega);(repeat' (first|with_reducible (first|intro _|apply And.intro)|refine dJ ab 5 [13] [2] [0,1,2,3,6,7,8,9,10] bZ fun R hR=>?_|refine kh ab 4 ?_|refine kh ab 5 ?_|refine kh ab 11 ?_|refine dR ab [12,13] ?_|(refine hR _ _ ?_;refine sA ?_)|refine wA ab ?_|fail))<;>(first|(have hz:=‹(decide ((i:Int) < _) && _)=true›;simp only [Bool.and_eq_true,decide_eq_true_eq] at hz;(try simp only [hw]);refine a7 (i+1,m ++ [_],m.length+1,_) ⟨by show i+1≤_;omega,by simp,by simp;omega⟩)|omega|(simp_all;done)|skip);exact ⟨m ++ [⟨p,n⟩] ++ eE default pl m.length (pl.length - m.length),by simp [bM];omega,Lt.Rj (v:={v with cz:=pl}) rfl (by simp) (by simp [bM];omega)⟩
def Ef (bs:List cn) (n:Int):Int:=((bs.find? fun b=>b.bW == n).map (·.lU)).getD 0
structure Hj (bs:List cn):Prop where
 RE:bs.Pairwise fun a b=>a.bW < b.bW
 tm:∀b∈bs,0≤b.lU∧b.lU≤65536
structure OY (bs:List cn) (n t:Int) (cs:List cn):Prop where
 ok:Hj cs
 t0:t=Ef bs n
 tn:Ef cs n=t+1
 tr:∀k,k≠n→Ef cs k=Ef bs k
 rg:0≤t∧t≤65535
theorem pw {α:Type} (d:α) (l:List α) (lo:Nat):eE d l lo (l.length - lo)=l.drop lo:=by
 apply List.ext_getElem
 ·simp [bM]
 ·intro i h1 h2;simp only [List.length_drop] at h2;simp [eE,getD,show lo+i < l.length by omega]
theorem Hi {pre mid post:List cn} {n t:Int} (hb:Hj (pre ++ mid ++ post)) (h1:∀b∈pre,b.bW < n) (h2:∀b∈post,n < b.bW) (h3:mid=[]∧t=0∨∃b,mid=[b]∧b.bW=n∧t=b.lU) (ht:t≤65535):OY (pre ++ mid ++ post) n t (pre ++ [⟨n,t+1⟩] ++ post):=by
 have ht0:0≤t:=by
  rcases h3 with ⟨-,h⟩|⟨b,e,-,h⟩
  ·omega
  ·have:=(hb.tm b (by rw [e];simp)).1;omega
 have f1:∀k,k=n→pre.find? (fun b=>b.bW == k)=none:=fun k hk=>by
  rw [List.find?_eq_none];intro b hm;have:=h1 b hm;simp;omega
 have f2:post.find? (fun b=>b.bW == n)=none:=by
  rw [List.find?_eq_none];intro b hm;have:=h2 b hm;simp;omega
 refine ⟨⟨?_,fun b hm=>?_⟩,?_,?_,fun k hk=>?_,⟨ht0,ht⟩⟩
 ·have ha:=hb.RE;rw [append_assoc,List.pairwise_append] at ha;obtain ⟨p1,p2,p3⟩:=ha;rw [List.pairwise_append] at p2;rw [append_assoc,List.pairwise_append];refine ⟨p1,?_,fun a ha b hm=>?_⟩
  ·rw [List.singleton_append,List.pairwise_cons];exact ⟨fun b hm=>h2 b hm,p2.2.1⟩
  ·rw [List.singleton_append,List.mem_cons] at hm;rcases hm with rfl|hm
   ·exact h1 a ha
   ·exact p3 a ha b (List.mem_append_right _ hm)
 ·rw [append_assoc,List.mem_append,List.singleton_append,List.mem_cons] at hm;rcases hm with hm|rfl|hm
  ·exact hb.tm b (by simp [hm])
  ·exact ⟨by show 0≤t+1;omega,by show t+1≤65536;omega⟩
  ·exact hb.tm b (by simp [hm])
 ·unfold Ef;rcases h3 with ⟨rfl,h⟩|⟨b,rfl,e,h⟩
  ·simp [List.find?_append,f1 n rfl,f2,h]
  ·simp [List.find?_append,f1 n rfl,e,h]
 ·unfold Ef;simp [List.find?_append,f1 n rfl]
 ·unfold Ef;have hk':¬n=k:=fun e=>hk e.symm;rcases h3 with ⟨rfl,h⟩|⟨b,rfl,e,h⟩
  ·simp [List.find?_append,hk']
  ·simp [List.find?_append,hk',e]
theorem xA (v:aO) (n:Int) (hv:v.b_.length≤900000000) (hb:Hj v.b_):EC prog 153 [.agg v.c,.int .i64 n] [] fun r N=>N=[]∧∃x:Int×List cn×Int,(x.2.2=0→OY v.b_ n x.1 x.2.1∧(0≤n∧n≤7)∧x.2.1.length≤v.b_.length+1)∧r= .bS [.int .i64 x.1,.agg (if x.2.2=0 then aO.c {v with b_:=x.2.1} else (default:aO).c),.int .i64 x.2.2]:=by
 refine EC.bh ?_;refine nW ab (ca 153) func153 ntmps153 results153 ?_;(repeat' (with_reducible (first|intro _|apply And.intro)))<;>(first|(exact ⟨(_,[],_),bd rfl,Lt.t3 a6.int (a6.vt rfl) a6.int⟩)|skip);refine cw 7 125 2 rfl ?_;intro hh;refine aT ab [1,2,5] (fun s:Nat×List (cn)×Nat×aN=>[(8,.int .i64 s.1),(7,.row 2 s.2.2.2 2 0 s.2.2.1)]) (fun B s=>cW B 2 s.2.2.2 (s.2.1.map cn.c)) (fun s=>s.1≤v.b_.length∧s.2.2.1=s.2.1.length∧(s.2.1=v.b_.take s.1∧∀j,j < s.1→(v.b_.getD j default).bW < n)) (fun s=>v.b_.length - s.1) (0,[],0,hh) ⟨zero_le _,rfl,⟨rfl,fun j hj=>absurd hj (not_lt_zero j)⟩⟩ ?_;rintro ⟨i,m,km,hr⟩ ⟨hi,hk,hI⟩;replace hi:i≤v.b_.length:=hi;obtain rfl:km=m.length:=hk;replace hI:m=v.b_.take i∧∀j,j < i→(v.b_.getD j default).bW < n:=hI;have hw:=wI i;simp only [hw,push_cast,simprocAttr];obtain ⟨hI1,hI2⟩:=hI;have hml:m.length=i:=by rw [hI1];simp;omega
 (repeat' (first|with_reducible (first|intro _|apply And.intro)|refine dN ab [] [1] [0,1,2,3,4] bZ fun R hR=>?_|(refine hR _ _ ?_;refine sA ?_)|refine wA ab ?_|fail))<;>(first|(have hz:=‹(decide ((i:Int) < _) && _)=true›;simp only [Bool.and_eq_true,decide_eq_true_eq] at hz;(try simp only [hw]);refine a7 (i+1,m ++ [_],m.length+1,_) ⟨by show i+1≤_;omega,by simp,?_,fun j hj=>?_⟩)|(exact ⟨(_,[],_),bd rfl,Lt.t3 a6.int (a6.vt rfl) a6.int⟩)|omega|(simp_all;done)|skip)
 ·show m ++ [_]=v.b_.take (i+1);have e:v.b_.getD i default=v.b_[i]'(by omega):=by simp [getD,show i < v.b_.length by omega]
  rw [hI1,e,List.take_succ_eq_append_getElem]
 ·have hz:=‹(decide ((i:Int) < _) && _)=true›;simp only [Bool.and_eq_true,decide_eq_true_eq] at hz;rcases lt_or_ge j i with h|h
  ·exact hI2 j h
  ·obtain rfl:j=i:=by simp only at hj;omega
   exact hz.2
 ·have hz:=‹(decide ((i:Int) < _) && _ == _)=true›;simp only [Bool.and_eq_true,decide_eq_true_eq] at hz;omega
 all_goals
  have hn7:0≤n∧n≤7:=by grind
  have hpre:∀b∈v.b_.take i,b.bW < n:=fun b hm=>by
   obtain ⟨j,hj,rfl⟩:=List.mem_take_iff_getElem.1 hm;have:=hI2 j (by omega);simpa [getD,show j < v.b_.length by omega] using this
  have hasc:=hb.RE;rw [List.pairwise_iff_getElem] at hasc
 ·have hz:=‹(decide ((i:Int) < _) && _ == _)=true›;simp only [Bool.and_eq_true,decide_eq_true_eq,beq_iff_eq] at hz;have hlt:i < v.b_.length:=by omega
  have e:v.b_.getD i default=v.b_[i]:=by simp [getD,hlt]
  have ht:(↑i+1:Int).toNat=i+1:=by omega
  have htm:=hb.tm (v.b_.getD i default) (bk hlt);have hle:(v.b_.getD i default).lU≤65535:=by grind
  have hw5:IntKind.i64.wrap ((v.b_.getD i default).lU+1)=(v.b_.getD i default).lU+1:=bu (by omega);have hsp:v.b_=v.b_.take i ++ [v.b_.getD i default] ++ v.b_.drop (i+1):=by rw [e,List.take_append_getElem,List.take_append_drop]
  have hR:=Hi (pre:=v.b_.take i) (mid:=[v.b_.getD i default]) (post:=v.b_.drop (i+1)) (n:=n) (t:=(v.b_.getD i default).lU) (by rw [←hsp];exact hb) hpre (fun b hm=>by
   obtain ⟨j,hj,rfl⟩:=List.mem_drop_iff_getElem.1 hm;have:=hasc i (i+1+j) hlt (by omega) (by omega);rw [←e,hz.2] at this
   exact this) (.inr ⟨_,rfl,hz.2,rfl⟩) hle
  rw [←hsp] at hR;rw [hw5,ht];refine ⟨(_,m ++ [⟨n,(v.b_.getD i default).lU+1⟩] ++ v.b_.drop (i+1),0),fun _=>⟨by rw [hI1];exact hR,hn7,by simp;omega⟩,?_⟩;exact Lt.t3 a6.int (a6.agg ((eU.obj (cs:=v.c) (fun s B=>by rw [aO.fk]) (fun s B=>by rw [aO.fz])).put 4 (gY.row (l:=m ++ [⟨n,(v.b_.getD i default).lU+1⟩] ++ v.b_.drop (i+1)) rfl (by rw [pw];simp) (by simp;omega)) rfl)) a6.int
 ·have hne:i < v.b_.length→n < (v.b_.getD i default).bW:=fun h=>by grind
  have hw5:IntKind.i64.wrap 1=1:=by decide
  have hsp:v.b_=v.b_.take i ++ [] ++ v.b_.drop i:=by rw [List.append_nil,List.take_append_drop]
  have hR:=Hi (pre:=v.b_.take i) (mid:=[]) (post:=v.b_.drop i) (n:=n) (t:=0) (by rw [←hsp];exact hb) hpre (fun b hm=>by
   obtain ⟨j,hj,rfl⟩:=List.mem_drop_iff_getElem.1 hm;have h1:=hne (by omega);have e:v.b_.getD i default=v.b_[i]'(by omega):=by simp [getD,show i < v.b_.length by omega]
   rw [e] at h1;rcases Nat.eq_zero_or_pos j with h|h
   ·subst h;exact h1
   ·have:=hasc i (i+j) (by omega) (by omega) (by omega)
    omega) (.inl ⟨rfl,rfl⟩) (by decide)
  rw [←hsp] at hR;rw [hw5];refine ⟨(_,m ++ [⟨n,1⟩] ++ v.b_.drop i,0),fun _=>⟨by rw [hI1];exact hR,hn7,by simp;omega⟩,?_⟩;exact Lt.t3 a6.int (a6.agg ((eU.obj (cs:=v.c) (fun s B=>by rw [aO.fk]) (fun s B=>by rw [aO.fz])).put 4 (gY.row (l:=m ++ [⟨n,1⟩] ++ v.b_.drop i) rfl (by rw [pw];simp) (by simp;omega)) rfl)) a6.int
end
section
attribute [local irreducible] EC EV gW cc cK dT
attribute [local push_cast] eO dG eu gS length_range bM iX l5 j7 l6 PO PQ
theorem xz {Q:af→Prop} (v:aO) (c:ax) (hv:v.cX.length≤16) (hq:∀x∈v.cX,i9 Q x) (hc:i9 Q c) (hQ:∀o,Q o→mh o):EC prog 160 [.agg v.c,.agg c.c] [] fun r N=>N=[]∧∃m:List ax,(m.length≤16∧∀x∈m,i9 Q x)∧r= .agg (aO.c {v with cX:=m}):=by
 refine EC.bh ?_;refine nW ab (ca 160) func160 ntmps160 results160 ?_;(repeat' (first|(with_reducible intro hh;first|subst hh|(revert hh;intro _))|with_reducible apply And.intro|refine eK ab ?_|(refine EC.aM (oR c hc hQ) ?_;rintro _ _)|fail))<;>(first|(exact ⟨v.cX,⟨hv,hq⟩,Lt.vt rfl⟩)|skip);refine cw 5 78 38 rfl ?_;intro hh;refine aT ab [2,3,4] (fun s:Nat×List (ax)×Nat×aN=>[(6,.int .i64 s.1),(5,.row 3 s.2.2.2 38 0 s.2.2.1)]) (fun B s=>cW B 3 s.2.2.2 (s.2.1.map ax.c)) (fun s=>s.1≤v.cX.length∧s.2.2.1=s.2.1.length∧(s.2.1.length≤s.1∧∀x∈s.2.1,i9 Q x)) (fun s=>v.cX.length - s.1) (0,[],0,hh) ⟨zero_le _,rfl,⟨le_refl _,fun x hx=>(nomatch hx)⟩⟩ ?_;rintro ⟨i,m,km,hr⟩ ⟨hi,hk,hI⟩;replace hi:i≤v.cX.length:=hi;obtain rfl:km=m.length:=hk;replace hI:m.length≤i∧∀x∈m,i9 Q x:=hI;have hw:=wI i;simp only [hw,push_cast,simprocAttr];obtain ⟨hI1,hI2⟩:=hI;have hmem:i < v.cX.length→v.cX.getD i default∈v.cX:=fun h=>bk h;have hw5:IntKind.i64.wrap ((m.length:Int)+1 - 16)=(m.length:Int)+1 - 16:=bu (by omega);(repeat' (first|with_reducible (first|intro _|apply And.intro)|refine dN ab [] [] [0,1,2,3,4,5,6,7,8,9,10] bZ fun R hR=>?_|(refine hR _ _ ?_;refine sA ?_)|refine wA ab ?_|fail))<;>(first|((try simp only [hw]);refine a7 (i+1,m ++ [_],m.length+1,_) ⟨by show i+1≤_;omega,by simp,by show (m ++ [_]).length≤i+1;simp;omega,fun x hx=>?_⟩;(rcases List.mem_append.1 hx with hx|hx;exact hI2 x hx;rw [List.mem_singleton.1 hx];exact hq _ (hmem (by omega))))|((try simp only [hw]);refine a7 (i+1,m,m.length,hr) ⟨by show i+1≤_;omega,rfl,by show m.length≤i+1;omega,hI2⟩)|omega|skip)
 all_goals
  have hK:re 0 ((m.length:Int)+1 - 16)=((m.length+1 - 16:Nat):Int):=by unfold re;split<;>omega
  rw [hw5,hK]
 ·omega
 ·simp;omega
 ·rw [Int.toNat_natCast];refine ⟨(m ++ [c]).drop (m.length+1 - 16),⟨by simp;omega,fun x hx=>?_⟩,Lt.agg ((eU.obj (cs:=v.c) (fun s B=>by rw [aO.fk]) (fun s B=>by rw [aO.fz])).put 5 (gY.part (l:=m ++ [c]) rfl rfl (by simp) (take_of_length_le (by simp)) (by simp;omega)) rfl)⟩;rcases List.mem_append.1 (List.mem_of_mem_drop hx) with hx|hx
  ·exact hI2 x hx
  ·rw [List.mem_singleton.1 hx];exact hc
def mG (a:aG) (o:af):Bool:=decide (cc a o.ID≠(o,true))
theorem Fv {a:aG} {l:List af} {i:Nat} (hi:i < l.length):((l.take (i+1)).filter (mG a)).length=((l.take i).filter (mG a)).length+(if mG a (l.getD i default)=true then 1 else 0):=by
 have e:l.getD i default=l[i]:=by simp [getD,hi]
 rw [take_add_one,List.filter_append,e];simp only [hi,List.getElem?_eq_getElem,Option.toList_some,List.length_append];by_cases h:mG a l[i]=true
 ·simp [filter_cons,h]
 ·simp [filter_cons,h]
theorem jT (a b:aG) (ha:a.ah.length≤1000000000) (hb:b.ah.length≤1000000000) (hao:∀o∈a.ah,mh o) (hbo:∀o∈b.ah,mh o) (h0:mh default):EC prog 164 [.agg a.c,.agg b.c] [] fun r N=>N=[]∧∃x:List af×List Int,((x.1.length≤b.ah.length∧∀o∈x.1,o∈b.ah)∧x.2.length≤a.ah.length∧x.1.length≤(b.ah.filter (mG a)).length)∧r= .bS [bG 36 af.c default x.1,bG 1 (aS .u64) default x.2]:=by
 refine EC.bh ?_;refine nW ab (ca 164) func164 ntmps164 results164 ?_;(repeat' (with_reducible intro _));refine cw 7 42 1 rfl ?_;intro hg;refine cw 6 76 36 rfl ?_;intro hp;refine aT ab [2,3,7] (fun s:Nat×List af×Nat×aN=>[(8,.int .i64 s.1),(6,.row 3 s.2.2.2 36 0 s.2.2.1)]) (fun B s=>cW B 3 s.2.2.2 (s.2.1.map af.c)) (fun s=>s.1≤b.ah.length∧s.2.2.1=s.2.1.length∧s.2.1.length≤s.1∧(∀o∈s.2.1,o∈b.ah)∧s.2.1.length≤((b.ah.take s.1).filter (mG a)).length) (fun s=>b.ah.length - s.1) (0,[],0,hp) ⟨zero_le _,rfl,le_refl _,fun x hx=>(nomatch hx),zero_le _⟩ ?_;rintro ⟨i,m,km,hr⟩ ⟨hi,hk,hm,hmq,hmd⟩;replace hmd:m.length≤((b.ah.take i).filter (mG a)).length:=hmd;have hds:=Fv (a:=a) (l:=b.ah) (i:=i);replace hi:i≤b.ah.length:=hi;obtain rfl:km=m.length:=hk;replace hm:m.length≤i:=hm;replace hmq:∀o∈m,o∈b.ah:=hmq;have hw:=wI i;have hmem:i < b.ah.length→b.ah.getD i default∈b.ah:=fun h=>bk h;have hgs:∀id,mh (cc a id).1:=fun id=>(vB (s:=a) (id:=id)).elim (fun e=>by rw [e];exact h0) (fun hm=>hao _ hm);simp only [hw,push_cast,simprocAttr];(repeat' (first|with_reducible (first|intro _|apply And.intro)|refine EC.use (cL a _ ha) ?_|((refine EC.aM (eW (cc a _).1 (b.ah.getD i default) (hgs _).s (hbo _ (hmem (by omega))).s) ?_;rintro c hc))|refine dM ab 7 [] [0,1,2,3,4,5,6] bZ fun R hR=>?_|refine dN ab [] [] [0,1,2,3,4,5,6,7,8,9,10,11] bZ fun R hR=>?_|refine bT ab 7 11 ?_ ?_|refine dR ab [8,9,10,11,12,13] ?_|refine dR ab [7,8,9,10,12,13] ?_|refine dR ab [8,9,10,12,13] ?_|refine dR ab [10,11] ?_|(refine hR _ _ ?_;refine sA ?_)|refine wA ab ?_|fail))<;>(first|((try simp only [hw]);(have hd1:mG a (b.ah.getD i default)=true:=(by (unfold mG;refine decide_eq_true fun e=>?_;(have e1:=congrArg Prod.fst e);(have e2:=congrArg Prod.snd e);simp only at e1 e2;first|(rw [e2] at *;simp_all;done)|(simp_all;done)|grind)));(have hds:=hds (by omega));rw [if_pos hd1] at hds;refine a7 (i+1,m ++ [_],m.length+1,_) ⟨by show i+1≤_;omega,by simp,by show (m ++ [_]).length≤i+1;simp;omega,fun x hx=>?_,by show (m ++ [_]).length≤_;rw [hds];simp;omega⟩;(rcases List.mem_append.1 hx with hx|hx;exact hmq x hx;rw [List.mem_singleton.1 hx];exact hmem (by omega)))|((try simp only [hw]);refine a7 (i+1,m,m.length,hr) ⟨by show i+1≤_;omega,rfl,by show m.length≤i+1;omega,hmq,by show m.length≤_;rw [hds (by omega)];omega⟩)|omega|(show (_:Bool)=true;first|(simp_all;done)|grind)|(show False;first|(simp_all;done)|grind)|skip);have hib:i=b.ah.length:=by have hz:=‹decide ((i:Int) < _)=false›;simp at hz;omega
 refine aT ab [2,3,6] (fun s:Nat×List Int×Nat×aN=>[(11,.int .i64 s.1),(7,.row 2 s.2.2.2 1 0 s.2.2.1)]) (fun B s=>cW B 2 s.2.2.2 (s.2.1.map (aS .u64))) (fun s=>s.1≤a.ah.length∧s.2.2.1=s.2.1.length∧s.2.1.length≤s.1) (fun s=>a.ah.length - s.1) (0,[],0,hg) ⟨zero_le _,rfl,le_refl _⟩ ?_;rintro ⟨j,g,km,hj⟩ ⟨hjl,hk,hgl⟩;replace hjl:j≤a.ah.length:=hjl;obtain rfl:km=g.length:=hk;replace hgl:g.length≤j:=hgl;have hw:=wI j;simp only [hw,push_cast,simprocAttr];(repeat' (first|with_reducible (first|intro _|apply And.intro)|refine EC.use (cL b _ hb) ?_|refine dM ab 12 [0,1,2,3,4,5,6,7,8,9,10,11,12,13] [1,3] bZ fun R hR=>?_|refine mV ab 0 2 11 ?_ ?_ ?_|refine bT ab 2 11 ?_ ?_|refine dP ab 8 [4,5,6] ?_|refine bT ab 0 11 ?_ ?_|refine bT ab 0 2 ?_ ?_|refine dP ab 7 [4,5,6] ?_|refine bT ab 7 11 ?_ ?_|refine dC ab 2 ?_|refine dC ab 0 ?_|refine dR ab [8,9,10,11,12,13] ?_|refine dR ab [7,8,9,10,12,13] ?_|refine dR ab [8,9,10,12,13] ?_|refine dR ab [4,5,6,7,8,9,10,12,13] ?_|(refine hR _ _ ?_;refine sA ?_)|refine wA ab ?_|fail))<;>(first|((try simp only [hw]);refine a7 (j+1,g ++ [_],g.length+1,_) ⟨by show j+1≤_;omega,by simp,by show (g ++ [_]).length≤j+1;simp;omega⟩)|((try simp only [hw]);refine a7 (j+1,g,g.length,hj) ⟨by show j+1≤_;omega,rfl,by show g.length≤j+1;omega⟩)|(exact ⟨(m,g),⟨⟨by show m.length≤_;omega,hmq⟩,by show g.length≤_;omega,by show m.length≤_;rw [hib,take_length] at hmd;exact hmd⟩,Lt.t2 (a6.row rfl rfl rfl) (a6.row rfl rfl rfl)⟩)|omega)
theorem K4 {Q:af→Prop} {s:aG} {o:af} (h:∀y∈s.ah,Q y) (ho:Q o):∀y∈(cK s o).1.ah,Q y:=by
 unfold cK
 split
 ·intro o ho;cases ho
 ·intro y hy;rcases vu hy with hy|rfl
  ·exact h y hy
  ·exact ho
theorem KV {Q:af→Prop} {s:aG} {id:Int} (h:∀y∈s.ah,Q y):∀y∈(dT s id).1.ah,Q y:=by
 unfold dT;exact fun o ho=>h o (u3 ho)
theorem sH {Q:af→Prop} {s:aG} {id:Int} (h:∀y∈s.ah,Q y) (h0:Q default):Q (cc s id).1:=(vB (s:=s) (id:=id)).elim (fun e=>by rw [e];exact h0) (fun hm=>h _ hm)
structure R' (Q:af→Prop) (v:aO) (view node:Int) (k:Nat) (x:aG×Int):Prop where
 q:∀o∈x.1.ah,Q o
 ln:x.1.ah.length≤v.bz.ah.length+k
 ok:view=v.ea→node∈v.bL→x.2=0
 nd:ij v.bz→ij x.1
theorem uh {Q:af→Prop} (v:aO) (view node:Int) (a b:aG) (hn:v.bL.length≤1000000) (hv:v.bz.ah.length≤900000000) (hq:∀o∈v.bz.ah,Q o) (ha:a.ah.length≤1000000) (hb:b.ah.length≤1000000) (hao:∀o∈a.ah,Q o) (hbo:∀o∈b.ah,Q o) (h0:Q default) (hQ:∀o,Q o→mh o):EC prog 133 [.agg v.c,.int .i64 view,.int .i64 node,.agg a.c,.agg b.c] [] fun r N=>N=[]∧∃x:aG×Int,R' Q v view node b.ah.length x∧r= .bS [.agg (if x.2=0 then aO.c {v with bz:=x.1} else (default:aO).c),.int .i64 x.2]:=by
 refine EC.bh ?_;refine nW ab (ca 133) func133 ntmps133 results133 ?_;(repeat' (first|with_reducible (first|intro _|apply And.intro)|refine eK ab ?_|refine EC.use (d7 v.bL node (by omega)) ?_|((refine EC.aM (jT a b (by omega) (by omega) (fun o ho=>hQ _ (hao o ho)) (fun o ho=>hQ _ (hbo o ho)) (hQ _ h0)) ?_;rintro ⟨pt,gn⟩ ⟨⟨hp1,hp2⟩,hg,-⟩))|fail))<;>(first|(refine ⟨(default,8),⟨fun o h=>(nomatch h),zero_le _,fun h1 h2=>?_,fun _=>nodup_nil⟩,Lt.t2 (a6.vt rfl) a6.int⟩;subst h1;simp_all;done)|(show False;first|(simp_all;done)|grind)|skip);have hvo:view=v.ea→node∈v.bL→(0:Int)=0:=fun _ _=>rfl;simp only at hp1 hp2 hg;refine aT ab [5,10,12,13] (fun s:Nat×aG=>[(14,.int .i64 s.1)]) (fun B s=>cP B 0 [aO.c {v with bz:=s.2}]) (fun s=>s.1≤pt.length∧(∀o∈s.2.ah,Q o)∧s.2.ah.length≤v.bz.ah.length+s.1∧(ij v.bz→ij s.2)) (fun s=>pt.length - s.1) (0,v.bz) ⟨zero_le _,hq,le_refl _,id⟩ ?_;rintro ⟨i,s⟩ ⟨hi,hsq,hsl,hnd⟩;replace hi:i≤pt.length:=hi;replace hsq:∀o∈s.ah,Q o:=hsq;replace hsl:s.ah.length≤v.bz.ah.length+i:=hsl;replace hnd:ij v.bz→ij s:=hnd;have hw:=wI i;have hmem:i < pt.length→Q (pt.getD i default):=fun h=>hbo _ (hp2 _ (bk h));have hpl:=iG s (pt.getD i default);have hpq:=fun h=>K4 (o:=pt.getD i default) hsq (hmem h);simp only [hw,push_cast,simprocAttr];(repeat' (first|with_reducible (first|intro _|apply And.intro)|refine EC.use (ee s (pt.getD i default) (by omega)) ?_|refine dM ab 7 [] [0,1,2,3,4,5] bZ fun R hR=>?_|refine bT ab 6 10 ?_ ?_|refine dR ab [7,8,9,10,11,12] ?_|refine dR ab [6,7,8,9,11,12] ?_|refine dR ab [7,8,9,11,12] ?_|(refine hR _ _ ?_;refine sA ?_)|refine wA ab ?_|fail))<;>(first|((try simp only [hw]);refine a7 (i+1,(cK s (pt.getD i default)).1) ⟨by show i+1≤_;omega,hpq (by omega),by show (cK s (pt.getD i default)).1.ah.length≤_+(i+1);omega,fun h=>(hnd h).put⟩)|((try simp only [hw]);refine a7 (i+1,s) ⟨by show i+1≤_;omega,hsq,by show s.ah.length≤_+(i+1);omega,hnd⟩)|omega|skip);refine aT ab [5,10,13] (fun s:Nat×aG=>[(17,.int .i64 s.1)]) (fun B s=>cP B 0 [aO.c {v with bz:=s.2}]) (fun s=>s.1≤gn.length∧(∀o∈s.2.ah,Q o)∧s.2.ah.length≤v.bz.ah.length+b.ah.length∧(ij v.bz→ij s.2)) (fun s=>gn.length - s.1) (0,s) ⟨zero_le _,hsq,by show s.ah.length≤_;omega,hnd⟩ ?_;rintro ⟨j,s2⟩ ⟨hj,hsq2,hsl2,hnd2⟩;replace hj:j≤gn.length:=hj;replace hsq2:∀o∈s2.ah,Q o:=hsq2;replace hsl2:s2.ah.length≤v.bz.ah.length+b.ah.length:=hsl2;replace hnd2:ij v.bz→ij s2:=hnd2;have hw2:IntKind.i64.wrap ((j:Int)+1)=((j+1:Nat):Int):=by rw [bu (by omega)];omega
 have hrl:=A_ s2 (gn.getD j default);have hrq:=KV (id:=gn.getD j default) hsq2;simp only [hw2,push_cast,simprocAttr];(repeat' (first|with_reducible (first|intro _|apply And.intro)|refine EC.use (iL s2 (gn.getD j default) (by omega)) ?_|refine dM ab 8 [0] [0,2,3,4] bZ fun R hR=>?_|refine bT ab 1 5 ?_ ?_|refine dC ab 5 ?_|refine dC ab 1 ?_|refine dR ab [6,7,8,9,10,11] ?_|refine dR ab [7,8,9,10,11] ?_|(refine hR _ _ ?_;refine sA ?_)|fail))<;>(first|((try simp only [hw2]);refine a7 (j+1,(dT s2 (gn.getD j default)).1) ⟨by show j+1≤_;omega,hrq,by show (dT s2 (gn.getD j default)).1.ah.length≤_;omega,fun h=>(hnd2 h).rem⟩)|(exact ⟨(s2,0),⟨hsq2,hsl2,hvo,hnd2⟩,Lt.t2 (a6.vt rfl) a6.int⟩)|omega)
end
section
attribute [local irreducible] EC EV gW cc cK dT
attribute [local push_cast] eO dG eu gS length_range bM iX l5 j7 l6 PO PQ
structure Jz (Q:af→Prop) (N P:Nat) (v:aO):Prop where
 nl:v.bL.length≤1000
 sl:v.bz.ah.length≤N
 sq:∀o∈v.bz.ah,Q o
 pl:v.cz.length≤P
 bl:v.b_.length≤1000
 cl:v.cX.length≤16
 cq:∀c∈v.cX,i9 Q c
theorem nU (l:List Int) (hl:l.length≤1099511627776):EC prog 30 [bG 1 (aS .i64) default l] [] fun r N=>N=[]∧r= .bool (ib l):=by
 refine EC.cQ ?_;refine nW ab (ca 30) func30 ntmps30 results30 ?_;(repeat' (first|refine eK ab ?_|refine EC.use (nZ l hl) ?_|fail))<;>((exact Lt.bool rfl))
def t5 (a b:List Int) (i:Nat):Nat:=((a.take i).filter fun x=>decide (x∈b)).length
theorem E1 {a b:List Int} {i:Nat} (h:i < a.length):t5 a b (i+1)=t5 a b i+bif decide (a.getD i default∈b) then 1 else 0:=by
 have e:a.getD i default=a[i]:=by simp [getD,h]
 unfold t5;rw [e,List.take_succ_eq_append_getElem h,List.filter_append,List.length_append]
 cases hd:decide (a[i]∈b)<;>simp [hd]
theorem Is {a b:List Int} {i:Nat}:t5 a b i≤i:=by
 unfold t5;exact le_trans (List.length_filter_le _ _) (by simp;omega)
def mo (a b:List Int):Bool:=decide (a.length < 2*t5 a b a.length)
theorem l9 (a b:List Int) (ha:a.length≤1099511627776) (hb:b.length≤1099511627776):EC prog 32 [bG 1 (aS .i64) default a,bG 1 (aS .i64) default b] [] fun r N=>N=[]∧r= .bool (mo a b):=by
 refine EC.cQ ?_;refine nW ab (ca 32) func32 ntmps32 results32 ?_;(repeat' (done));refine aT ab [0,1] (fun s:Nat×Nat=>[(6,.int .i64 s.1),(5,.int .i64 s.2)]) (fun B _=>B) (fun s=>s.1≤a.length∧s.2=t5 a b s.1) (fun s=>a.length - s.1) (0,0) ⟨zero_le _,rfl⟩ ?_;rintro ⟨i,n⟩ ⟨hi,hn⟩;replace hi:i≤a.length:=hi;replace hn:n=t5 a b i:=hn;have hnl:=Is (a:=a) (b:=b) (i:=i);have hw:=wI i;have hw2:IntKind.i64.wrap ((n:Int)+1)=((n+1:Nat):Int):=by rw [bu (by omega)];omega
 have hw3:IntKind.i64.wrap (2*(n:Int))=((2*n:Nat):Int):=by rw [bu (by omega)];omega
 have hs:=E1 (a:=a) (b:=b) (i:=i);simp only [hw,hw2,hw3,push_cast,simprocAttr];(repeat' (first|with_reducible (first|intro _|apply And.intro)|refine eK ab ?_|refine EC.use (d7 b _ hb) ?_|fail))<;>(first|omega|skip)
 ·have hs:=hs (by omega);rw [decide_eq_true ‹a.getD i default∈b›] at hs;(try simp only [hw,hw2]);exact a7 (i+1,n+1) ⟨by show i+1≤_;omega,by show n+1=t5 a b (i+1);rw [hs,hn];rfl⟩
 ·have hs:=hs (by omega);have hz:=‹_=false›;rw [hz] at hs;(try simp only [hw,hw2]);exact a7 (i+1,n) ⟨by show i+1≤_;omega,by show n=t5 a b (i+1);rw [hs,hn];rfl⟩
 ·obtain rfl:i=a.length:=by (have hz:=‹decide ((i:Int) < _)=false›;simp at hz;omega)
  refine Lt.bool ?_;unfold mo;rw [←hn]
  congr 1
  exact propext ⟨fun h=>by omega,fun h=>by omega⟩
def qI (l:cr) (a b:Int):Bool:=l.Cut && a !=b && (l.nJ == a && l.To == b || l.nJ == b && l.To == a)
def iS (n:aR) (a b:Int):Bool:=!(n.bU.any fun l=>qI l a b)
theorem CS {n:aR} {a b:Int} {i:Nat} (hi:i < n.bU.length) (h:qI (n.bU.getD i default) a b=true):iS n a b=false:=by
 unfold iS;rw [List.any_eq_true.2 ⟨_,bk hi,h⟩];rfl
theorem yU {n:aR} {a b:Int} (h:∀j,j < n.bU.length→qI (n.bU.getD j default) a b=false):iS n a b=true:=by
 unfold iS;have:(n.bU.any fun l=>qI l a b)=false:=by
  rw [List.any_eq_false];intro l hl;obtain ⟨j,hj,rfl⟩:=List.mem_iff_getElem.1 hl;have:=h j hj;simp [getD,hj] at this;simp [this]
 rw [this];rfl
theorem nV (n:aR) (a b:Int) (hn:n.bU.length≤1099511627776):EC prog 37 [.agg n.c,.int .i64 a,.int .i64 b] [] fun r N=>N=[]∧r= .bool (iS n a b):=by
 refine EC.cQ ?_;refine nW ab (ca 37) func37 ntmps37 results37 ?_;(repeat' (with_reducible intro _));refine bV ab [1,2,3] 7 n.bU.length (fun i=>∀j,j < i→qI (n.bU.getD j default) a b=false) (fun j hj=>absurd hj (not_lt_zero j)) (by omega) ?_;intro i hI hi hw;simp only [hw,push_cast,simprocAttr];have hall:(qI (n.bU.getD i default) a b=false)→∀j,j < i+1→qI (n.bU.getD j default) a b=false:=fun h j hj=>by
  rcases lt_or_ge j i with h2|h2
  ·exact hI j h2
  ·rw [show j=i by omega];exact h
 (repeat' (with_reducible (first|intro _|apply And.intro)))<;>(first|(refine Lt.bool (yU fun j hj=>hI j ?_).symm;(have hz:=‹decide ((i:Int) < _)=false›;simp at hz;omega))|(refine Lt.bool (CS (i:=i) (by omega) ?_).symm;unfold qI;first|assumption|(simp_all;done)|grind)|((try simp only [hw]);refine cO (hall ?_);unfold qI;first|assumption|(simp_all;done)|grind)|omega|(show (_:Bool)=true;first|(simp_all;done)|grind))
theorem qb (v:aO) (l:List Int) (hl:l.length≤1000000):EC prog 35 [.agg v.c,bG 1 (aS .i64) default l] [] fun r N=>N=[]∧r= .agg (aO.c {v with ea:=IntKind.i64.wrap (v.ea+1),bL:=l}):=by
 refine EC.cQ ?_;refine nW ab (ca 35) func35 ntmps35 results35 ?_;(repeat' (first|with_reducible (first|intro _|apply And.intro)|refine dM ab 8 [0,1,2,3,4,5,6,7,8,9,10,11,12,13] [0,4] bZ fun R hR=>?_|refine bT ab 1 3 ?_ ?_|refine dR ab [2,6,3,5,7,8,9] ?_|refine bT ab 1 5 ?_ ?_|refine dR ab [2,6,5,7,8,9] ?_|refine dC ab 1 ?_|refine dR ab [2,6,7,8,9] ?_|(refine hR _ _ ?_;refine sA ?_)|refine wA ab ?_|fail))<;>(first|omega|skip)
 all_goals exact Lt.agg ((eU.obj (cs:=aO.c {v with ea:=IntKind.i64.wrap (v.ea+1)}) (fun s B=>by rw [aO.fk]) (fun s B=>by rw [aO.fz])).put 1 (gY.row (l:=l) rfl rfl rfl) rfl)
def ku (v:aO) (up:List Int) (n:aR) (l:List Int):Int:=
 if !ib l then 1 else if !(l.all fun x=>decide (x∈up)) then 6 else if !mo v.bL l then 8
 else if !((range l.length).all fun i=>(range i).all fun k=>iS n (l.getD i default) (l.getD k default)) then 13 else 0
theorem pb {l:List Int} {p:Int→Bool}:l.all p=true↔∀j,j < l.length→p (l.getD j default)=true:=by
 rw [all_eq_true]
 constructor
 ·intro h j hj;exact h _ (bk hj)
 ·intro h x hx;obtain ⟨j,hj,rfl⟩:=List.mem_iff_getElem.1 hx;have:=h j hj;simpa [getD,hj] using this
theorem Re {v:aO} {up:List Int} {n:aR} {l:List Int} {i:Nat} (hp:ib l=true) (hi:i < l.length) (h:¬l.getD i default∈up):ku v up n l=6:=by
 have:(l.all fun x=>decide (x∈up))=false:=by
  cases hb:(l.all fun x=>decide (x∈up)) with
  |false=>rfl
  |true=>exact absurd (of_decide_eq_true (pb.1 hb i hi)) h
 unfold ku;rw [hp,this];rfl
theorem OV {v:aO} {up:List Int} {n:aR} {l:List Int} (hp:ib l=true) (h:∀j,j < l.length→l.getD j default∈up) (hm:mo v.bL l=false):ku v up n l=8:=by
 have:(l.all fun x=>decide (x∈up))=true:=pb.2 fun j hj=>decide_eq_true (h j hj);unfold ku;rw [hp,this,hm];rfl
theorem Hh {v:aO} {up:List Int} {n:aR} {l:List Int} {i k:Nat} (hp:ib l=true) (h:∀j,j < l.length→l.getD j default∈up) (hm:mo v.bL l=true) (hi:i < l.length) (hk:k < i) (hn:iS n (l.getD i default) (l.getD k default)=false):ku v up n l=13:=by
 have h1:(l.all fun x=>decide (x∈up))=true:=pb.2 fun j hj=>decide_eq_true (h j hj);have h2:((range l.length).all fun i=>(range i).all fun k=>iS n (l.getD i default) (l.getD k default))=false:=by
  rw [List.all_eq_false];refine ⟨i,List.mem_range.2 hi,?_⟩;have:((range i).all fun k=>iS n (l.getD i default) (l.getD k default))=false:=by
   rw [List.all_eq_false];exact ⟨k,List.mem_range.2 hk,by rw [hn];decide⟩
  rw [this];decide
 unfold ku;rw [hp,h1,hm,h2];rfl
theorem OW {v:aO} {up:List Int} {n:aR} {l:List Int} (hp:ib l=true) (h:∀j,j < l.length→l.getD j default∈up) (hm:mo v.bL l=true) (hn:∀i,i < l.length→∀k,k < i→iS n (l.getD i default) (l.getD k default)=true):ku v up n l=0:=by
 have h1:(l.all fun x=>decide (x∈up))=true:=pb.2 fun j hj=>decide_eq_true (h j hj);have h2:((range l.length).all fun i=>(range i).all fun k=>iS n (l.getD i default) (l.getD k default))=true:=by
  rw [all_eq_true];intro i hi;rw [all_eq_true];intro k hk;exact hn i (List.mem_range.1 hi) k (List.mem_range.1 hk)
 unfold ku;rw [hp,h1,hm,h2];rfl
theorem oL (v:aO) (up:List Int) (n:aR) (l:List Int) (hv:v.bL.length≤1000000) (hu:up.length≤1000000) (hn:n.bU.length≤1000000) (hl:l.length≤1000000):EC prog 28 [.agg v.c,bG 1 (aS .i64) default up,.agg n.c,bG 1 (aS .i64) default l] [] fun r N=>N=[]∧r= .int .i64 (ku v up n l):=by
 refine EC.cQ ?_;refine nW ab (ca 28) func28 ntmps28 results28 ?_;(repeat' (first|with_reducible (first|intro _|apply And.intro)|refine eK ab ?_|refine EC.use (nU l (by omega)) ?_|fail))<;>(first|(refine Lt.int ?_;unfold ku;rw [‹ib l=false›];rfl)|skip);have hp:ib l=true:=by first|assumption|(cases h:ib l<;>simp_all)
 refine bV ab [1,3,4,6] 9 l.length (fun i=>∀j,j < i→l.getD j default∈up) (fun j hj=>absurd hj (not_lt_zero j)) (by omega) ?_;intro i hI hi hw;simp only [hw,push_cast,simprocAttr];(repeat' (first|with_reducible (first|intro _|apply And.intro)|refine eK ab ?_|refine EC.use (d7 up _ (by omega)) ?_|refine EC.use (l9 v.bL l (by omega) (by omega)) ?_|fail))<;>(first|omega|skip)
 ·exact Lt.int (Re (i:=i) hp (by omega) (of_decide_eq_false ‹_›)).symm
 ·(try simp only [hw]);refine cO fun j hj=>?_;rcases lt_or_ge j i with h|h
  ·exact hI j h
  ·obtain rfl:j=i:=by omega
   simpa using ‹(!decide (_∈up))=false›
 all_goals
  have hup:∀j,j < l.length→l.getD j default∈up:=fun j hj=>hI j (by have hz:=‹decide ((i:Int) < _)=false›;simp at hz;omega)
 ·exact Lt.int (OV hp hup (by simpa using ‹_=false›)).symm
 have hm:mo v.bL l=true:=by simpa using ‹(!mo v.bL l)=false›
 refine bV ab [3,6] 10 l.length (fun i=>∀j,j < i→∀k,k < j→iS n (l.getD j default) (l.getD k default)=true) (fun j hj=>absurd hj (not_lt_zero j)) (by omega) ?_;intro j hJ hj hw2;simp only [hw2,push_cast,simprocAttr];(repeat' (with_reducible (first|intro _|apply And.intro)))<;>(first|(exact Lt.int (OW hp hup hm fun a ha b hb=>hJ a (by have hz:=‹decide ((j:Int) < _)=false›;simp at hz;omega) b hb).symm)|skip);refine bV ab [3,6,10] 11 j (fun i=>∀k,k < i→iS n (l.getD j default) (l.getD k default)=true) (fun k hk=>absurd hk (not_lt_zero k)) (by omega) ?_;intro k hK hk hw3;simp only [hw3,push_cast,simprocAttr];(repeat' (first|with_reducible (first|intro _|apply And.intro)|refine EC.use (nV n _ _ (by omega)) ?_|refine dN ab [] [] [0,1,2,3,4,5,6,7,8,9,10] bZ fun R hR=>?_|refine dR ab [10] ?_|(refine hR _ _ ?_;refine sA ?_)|refine wA ab ?_|fail))<;>(first|(exact Lt.int (Hh hp hup hm (i:=j) (k:=k) (by omega) (by omega) (by simpa using ‹_=false›)).symm)|omega|skip)
 ·(try simp only [hw3]);refine cO fun a ha=>?_;rcases lt_or_ge a k with h|h
  ·exact hK a h
  ·obtain rfl:a=k:=by omega
   simpa using ‹(!iS _ _ _)=false›
 ·(try simp only [hw2]);refine cO fun a ha b hb=>?_;rcases lt_or_ge a j with h|h
  ·exact hJ a h b hb
  ·obtain rfl:a=j:=by omega
   exact hK b (by have hz:=‹decide ((k:Int) < _)=false›;simp at hz;omega)
theorem xM {I D:Int→Prop} {L:Nat} (s:aG) (id:Int) (h0:I 0) (hs:ja I D s) (hl:s.ah.length≤L) (hL:L≤800000000) (hd:∀x,D x→I x):EC prog 216 [.agg s.c,.int .u64 id] [] fun r N=>N=[]∧∃x:aG×Int,(x.2=0→ja I D x.1∧x.1.ah.length≤L+60∧(ij s→ij x.1))∧r= .bS [.agg x.1.c,.int .i64 x.2]:=by
 refine EC.bh ?_;refine nW ab (ca 216) func216 ntmps216 results216 ?_;have hsl:s.ah.length≤1000000000:=by omega
 (repeat' (first|with_reducible (first|intro _|apply And.intro)|refine eK ab ?_|((refine EC.aM (lI s id hsl) ?_;rintro ⟨o,e⟩ hx))|fail))
 ·refine ⟨(default,e),fun h=>?_,Lt.t2 (a6.agg (eU.pl rfl)) (a6.jC rfl)⟩;exact absurd h (by simpa using ‹(e !=0)=true›)
 obtain ⟨ho1,hk,hst⟩:=hx (by simpa using ‹(e !=0)=false›);simp only at ho1 hk hst;have ho:cG I D o:=by rw [ho1];exact hs.get h0
 have hm:db I D L (stM s o []):=db.start h0 hs hl ⟨ho,rV.of (ho.pr hk) hst⟩ ⟨zero_le _,fun x hx=>(nomatch hx),fun x hx=>(nomatch hx),nodup_nil⟩ hd;refine EC.Cr 3 (vO _ (stM s o []) (-9) hm (by omega)) rfl (eD.cons bq.bx (eD.cons (bq.refl _) eD.nil)) ?_;rintro ⟨_,m⟩ hm2;replace hm2:qL I D (L+60) (stM s o []) m∧(ij s→ij m.s):=hm2;obtain ⟨hm2,hnd⟩:=hm2;have hst:=hm2.st;rw [Bv] at hst;(repeat' (first|refine eK ab ?_|fail));exact ⟨(m.s,0),fun _=>⟨hst,hm2.ln,hnd⟩,Lt.t2 (a6.FD rfl) (a6.jC rfl)⟩
theorem xu (v:aO) (l:List Int) (hv:v.cz.length≤900000000) (hl:l.length≤1000000):EC prog 155 [.agg v.c,bG 1 (aS .i64) default l] [] fun r N=>N=[]∧∃m:List Int,m.length≤v.cz.length∧r=bG 1 (aS .u64) default m:=by
 refine EC.bh ?_;refine nW ab (ca 155) func155 ntmps155 results155 ?_;(repeat' (with_reducible intro _));refine cw 5 42 1 rfl ?_;intro hh;refine aT ab [1,2] (fun s:Nat×List (Int)×Nat×aN=>[(6,.int .i64 s.1),(5,.row 1 s.2.2.2 1 0 s.2.2.1)]) (fun B s=>cW B 1 s.2.2.2 (s.2.1.map (aS .u64))) (fun s=>s.1≤v.cz.length∧s.2.2.1=s.2.1.length∧(s.2.1.length≤s.1)) (fun s=>v.cz.length - s.1) (0,[],0,hh) ⟨zero_le _,rfl,le_refl _⟩ ?_;rintro ⟨i,m,km,hr⟩ ⟨hi,hk,hI⟩;replace hi:i≤v.cz.length:=hi;obtain rfl:km=m.length:=hk;replace hI:m.length≤i:=hI;have hw:=wI i;simp only [hw,push_cast,simprocAttr];(repeat' (first|with_reducible (first|intro _|apply And.intro)|refine eK ab ?_|refine EC.use (d7 l _ (by omega)) ?_|fail))<;>(first|((try simp only [hw]);refine a7 (i+1,m ++ [_],m.length+1,_) ⟨by show i+1≤_;omega,by simp,by simp;omega⟩)|((try simp only [hw]);refine a7 (i+1,m,m.length,hr) ⟨by show i+1≤_;omega,rfl,by show m.length≤i+1;omega⟩)|(exact ⟨m,by omega,Lt.row rfl rfl rfl⟩)|omega)
theorem xv {I D:Int→Prop} {L P:Nat} (v:aO) (l:List Int) (h0:I 0) (hs:ja I D v.bz) (hl:v.bz.ah.length≤L) (hp:v.cz.length≤P) (hP:P≤1000000) (hll:l.length≤P) (hL:L+60*P≤700000000) (hd:∀x,D x→I x):EC prog 154 [.agg v.c,bG 1 (aS .u64) default l] [] fun r N=>N=[]∧∃x:(aG×List b8)×List Int,((ja I D x.1.1∧x.1.1.ah.length≤L+60*P∧(ij v.bz→ij x.1.1))∧x.1.2.length≤P∧x.2.length≤P)∧r= .bS [.agg (aO.c {v with bz:=x.1.1,cz:=x.1.2}),bG 1 (aS .u64) default x.2]:=by
 refine EC.bh ?_;refine nW ab (ca 154) func154 ntmps154 results154 ?_;(repeat' (with_reducible intro _));refine cw 6 42 1 rfl ?_;intro hg;refine aT ab [1,2,4] (fun s:Nat×aG×List b8×List Int×Nat×aN=>[(7,.int .i64 s.1),(6,.row 2 s.2.2.2.2.2 1 0 s.2.2.2.2.1)]) (fun B s=>cW (cP B 0 [aO.c {v with bz:=s.2.1,cz:=s.2.2.1}]) 2 s.2.2.2.2.2 (s.2.2.2.1.map (aS .u64))) (fun s=>s.1≤l.length∧(ja I D s.2.1∧s.2.1.ah.length≤L+60*s.1∧(ij v.bz→ij s.2.1))∧s.2.2.1.length≤P∧s.2.2.2.2.1=s.2.2.2.1.length∧s.2.2.2.1.length≤s.1) (fun s=>l.length - s.1) (0,v.bz,v.cz,[],0,hg) ⟨zero_le _,⟨hs,hl,id⟩,hp,rfl,le_refl _⟩ ?_;rintro ⟨i,s,pl,m,km,hr⟩ ⟨hi,⟨hsq,hsl,hnd⟩,hpl,hk,hm⟩;replace hi:i≤l.length:=hi;replace hsq:ja I D s:=hsq;replace hsl:s.ah.length≤L+60*i:=hsl;replace hnd:ij v.bz→ij s:=hnd;replace hpl:pl.length≤P:=hpl;obtain rfl:km=m.length:=hk;replace hm:m.length≤i:=hm;have hw:=wI i;simp only [hw,push_cast,simprocAttr];(repeat' (first|with_reducible (first|intro _|apply And.intro)|((refine EC.aM (xM s (l.getD i default) h0 hsq hsl (by omega) hd) ?_;rintro ⟨s2,e⟩ hs2))|((refine EC.aM (kG {v with bz:=_,cz:=pl} (l.getD i default) (by show pl.length≤_;omega)) ?_;rintro pl2 hpl2))|refine dM ab 7 [] [0,1,2,3,4,5] bZ fun R hR=>?_|refine dN ab [] [0,2] [0,1,2,3,4,5,8,6,7,9,10] bZ fun R hR=>?_|refine dJ ab 2 [6] [] [0,1,2,3,4] bZ fun R hR=>?_|refine bT ab 6 10 ?_ ?_|refine dR ab [7,8,9,10,11,12] ?_|refine dR ab [6,7,8,9,11,12] ?_|refine dR ab [7,8,9,11,12] ?_|refine kh ab 5 ?_|refine dR ab [6] ?_|(refine hR _ _ ?_;refine sA ?_)|refine wA ab ?_|fail))<;>(first|omega|skip)
 all_goals try (have hs3:=hs2 (by simpa using ‹(e == 0)=true›);(try simp only [hw]);exact a7 (i+1,s2,pl2,m ++ [_],m.length+1,_) ⟨by show i+1≤_;omega,⟨hs3.1,by have:=hs3.2.1;show s2.ah.length≤L+60*(i+1);simp only at this;omega,fun h=>hs3.2.2 (hnd h)⟩,by show pl2.length≤P;simp only at hpl2;omega,by simp,by simp;omega⟩)
 all_goals try ((try simp only [hw]);exact a7 (i+1,s,pl2,m,m.length,hr) ⟨by show i+1≤_;omega,⟨hsq,by show s.ah.length≤L+60*(i+1);omega,hnd⟩,by show pl2.length≤P;simp only at hpl2;omega,rfl,by show m.length≤i+1;omega⟩)
 exact ⟨((s,pl),m),⟨⟨hsq,by show s.ah.length≤_;have:60*i≤60*P:=Nat.mul_le_mul_left _ (by omega);omega,hnd⟩,hpl,by show m.length≤P;omega⟩,Lt.t2 (a6.vt rfl) (a6.row rfl rfl rfl)⟩
end
section
attribute [local irreducible] EC EV gW cc cK dT
theorem GW {α:Type} (c:α→List SV) (m:List α) (k:Nat) (y:α):List.set (map c m) k (c y)=map c (m.set k y):=by rw [List.map_set]
attribute [local push_cast] GW eO dG eu gS length_range bM iX l5 j7 l6
theorem f9 (l:List Int) (hl:l.length≤1000000):EC prog 301 [bG 1 (aS .u64) default l] [] fun r N=>N=[]∧∃m:List bB,m.length=l.length∧r=bG 2 bB.c default m:=by
 refine EC.bh ?_;refine nW ab (ca 301) func301 ntmps301 results301 ?_;(repeat' (done));refine cw 3 284 2 rfl ?_;intro hh;refine aT ab [6,7] (fun s:Nat×List (bB)×Nat×aN=>[(8,.int .i64 s.1),(3,.row 0 s.2.2.2 2 0 s.2.2.1)]) (fun B s=>cW B 0 s.2.2.2 (s.2.1.map bB.c)) (fun s=>s.1≤l.length∧s.2.2.1=s.2.1.length∧(s.2.1.length=s.1)) (fun s=>l.length - s.1) (0,[],0,hh) ⟨zero_le _,rfl,rfl⟩ ?_;rintro ⟨i,m,km,hr⟩ ⟨hi,hk,hI⟩;replace hi:i≤l.length:=hi;obtain rfl:km=m.length:=hk;replace hI:m.length=i:=hI;have hw:=wI i;simp only [hw,push_cast,simprocAttr];(repeat' (with_reducible (first|intro _|apply And.intro)))<;>(first|((try simp only [hw]);refine a7 (i+1,m ++ [_],m.length+1,_) ⟨by show i+1≤_;omega,by simp,by simp;omega⟩)|(refine ⟨m,?_,Lt.row rfl rfl rfl⟩;(have hz:=‹decide ((i:Int) < _)=false›;simp at hz;omega))|omega)
theorem mW (p:aC) (hl:p.aH.length≤1000000):EC prog 337 [.agg p.c] [] fun r N=>N=[]∧∃m:List Int,m.length=p.aH.length∧r=bG 1 (aS .u64) default m:=by
 refine EC.bh ?_;refine nW ab (ca 337) func337 ntmps337 results337 ?_;(repeat' (with_reducible intro _));refine cw 3 42 1 rfl ?_;intro hh;refine aT ab [7,8] (fun s:Nat×List (Int)×Nat×aN=>[(9,.int .i64 s.1),(3,.row 1 s.2.2.2 1 0 s.2.2.1)]) (fun B s=>cW B 1 s.2.2.2 (s.2.1.map (aS .u64))) (fun s=>s.1≤p.aH.length∧s.2.2.1=s.2.1.length∧(s.2.1.length=s.1)) (fun s=>p.aH.length - s.1) (0,[],0,hh) ⟨zero_le _,rfl,rfl⟩ ?_;rintro ⟨i,m,km,hr⟩ ⟨hi,hk,hI⟩;replace hi:i≤p.aH.length:=hi;obtain rfl:km=m.length:=hk;replace hI:m.length=i:=hI;have hw:=wI i;simp only [hw,push_cast,simprocAttr];(repeat' (first|with_reducible (first|intro _|apply And.intro)|refine eK ab ?_|refine EC.use (gG _) ?_|fail))<;>(first|((try simp only [hw]);refine a7 (i+1,m ++ [_],m.length+1,_) ⟨by show i+1≤_;omega,by simp,by simp;omega⟩)|(refine ⟨m,?_,Lt.row rfl rfl rfl⟩;(have hz:=‹decide ((i:Int) < _)=false›;simp at hz;omega))|omega)
theorem lJ (a b:List bB) (ha:a.length≤1000000) (hb:b.length≤1000000):EC prog 299 [bG 2 bB.c default a,bG 2 bB.c default b] [] fun r N=>N=[]∧∃m:List bB,m.length≤a.length+b.length∧r=bG 2 bB.c default m:=by
 refine EC.bh ?_;refine nW ab (ca 299) func299 ntmps299 results299 ?_;(repeat' (with_reducible (first|intro _|apply And.intro)))<;>(first|omega|skip);refine jN 12 0 (cells:=bB.c) (df:=default) (l:=a ++ b) rfl rfl (by simp) (by simp) ?_;generalize hL:a ++ b=L;have hLl:L.length=a.length+b.length:=by rw [←hL];simp
 refine cw 5 284 2 rfl ?_;intro hh;simp only [set_cons_zero,length_cons,length_nil,cons_append,nil_append,zero_add];refine Cj ab [12,13] (fun s:Nat×List bB×Nat×aN=>[(14,.int .i64 s.1),(5,.row 1 s.2.2.2 2 0 s.2.2.1)]) (fun B s=>[.gone,.row s.2.2.2 284 2 (s.2.1.map bB.c)]) (fun s=>s.1≤L.length∧s.2.2.1=s.2.1.length∧s.2.1.length≤s.1) (fun s=>L.length - s.1) (0,[],0,hh) ⟨zero_le _,rfl,le_refl _⟩ ?_;rintro ⟨i,m,km,hr⟩ ⟨hi,hk,hm⟩;replace hi:i≤L.length:=hi;obtain rfl:km=m.length:=hk;replace hm:m.length≤i:=hm;have hw:=wI i;simp only [hw,push_cast,simprocAttr];(repeat' (with_reducible (first|intro _|apply And.intro)))<;>(first|omega|((try simp only [hw]);refine ⟨_,_,yx.refl,a7 (i+1,m,m.length,hr) ⟨by show i+1≤_;omega,rfl,by show m.length≤i+1;omega⟩⟩)|skip);rotate_left 1
 ·exact ⟨m,by omega,Lt.row rfl rfl rfl⟩
 have hil:i < L.length:=by omega
 generalize L.getD i default=x;refine aT ab [5,7,12,13,14] (fun s:Nat=>[(8,.int .i64 s)]) (fun B _=>B) (fun s=>s≤m.length) (fun s=>m.length - s) 0 (zero_le _) ?_;rintro k hk;replace hk:k≤m.length:=hk;have hw2:IntKind.i64.wrap ((k:Int)+1)=((k+1:Nat):Int):=by rw [bu (by omega)];omega
 rcases lt_or_ge k m.length with hlt|hge
 ·obtain ⟨y,rfl⟩:∃y:{k:Nat // k < m.length},y.1=k:=⟨⟨k,hlt⟩,rfl⟩;simp only [hw2,push_cast,simprocAttr];(repeat' (first|with_reducible (first|intro _|apply And.intro)|refine dN ab [] [] [0,1,2,3,4,5,6,7,8,9,10,11,12,13] bZ fun R hR=>?_|(refine hR _ _ ?_;refine sA ?_)|refine wA ab ?_|fail))<;>(first|((try simp only [hw2]);refine a7 (y.1+1) (by show y.1+1≤_;omega))|((try simp only [hw]);exact ⟨_,_,yx.refl,a7 (i+1,m.set y.1 _,m.length,hr) ⟨by show i+1≤_;omega,by simp,by simp;omega⟩⟩)|((try simp only [hw]);exact ⟨_,_,yx.refl,a7 (i+1,m,m.length,hr) ⟨by show i+1≤_;omega,rfl,by show m.length≤i+1;omega⟩⟩)|skip);refine jN 5 1 (cells:=bB.c) (df:=default) (l:=m) rfl rfl rfl rfl ?_;simp only [set_cons_zero,set_cons_succ];(repeat' (first|with_reducible (first|intro _|apply And.intro)|refine dM ab 5 [] [0,1,2,4,7,8,9] bZ fun R hR=>?_|refine bT ab 3 5 ?_ ?_|refine dR ab [5,6,10,11] ?_|refine dR ab [3,6,10,11] ?_|(refine hR _ _ ?_;refine sA ?_)|fail))<;>(first|(simp [bM];done)|omega|skip)
  all_goals (try simp only [hw])
  all_goals
   have hM:(take (y.1+1) (take y.1 (eE default m 0 y.1) ++ [x]) ++ eE default m y.1 (m.length - y.1)).length=y.1+1+(m.length - y.1):=by simp [bM]
   first
    |exact ⟨_,_,yx.mv 5 3 1 rfl (by decide) (by simp) (by simp),a7 (i+1,take (y.1+1) (take y.1 (eE default m 0 y.1) ++ [x]) ++ eE default m y.1 (m.length - y.1),y.1+1+(m.length - y.1),_) ⟨by show i+1≤_;omega,hM.symm,by show _≤i+1;rw [hM];omega⟩ (hb:=by simp [au,map_take,map_append])⟩
    |exact ⟨_,_,yx.mv 5 4 1 rfl (by decide) (by simp) (by simp),a7 (i+1,take (y.1+1) (take y.1 (eE default m 0 y.1) ++ [x]) ++ eE default m y.1 (m.length - y.1),y.1+1+(m.length - y.1),_) ⟨by show i+1≤_;omega,hM.symm,by show _≤i+1;rw [hM];omega⟩ (hb:=by simp [au,map_take,map_append])⟩
 ·obtain rfl:k=m.length:=by omega
  simp only [hw2,Int.lt_irrefl,decide_false,push_cast,simprocAttr];(repeat' (first|with_reducible (first|intro _|apply And.intro)|refine dN ab [] [] [0,1,2,3,4,5,6,7,8,9,10,11,12,13] bZ fun R hR=>?_|(refine hR _ _ ?_;refine sA ?_)|refine wA ab ?_|fail))<;>(first|omega|(show False;first|(simp_all;done)|grind)|(simp_all;done)|skip);refine jN 5 1 (cells:=bB.c) (df:=default) (l:=m) rfl rfl rfl rfl ?_;simp only [set_cons_zero,set_cons_succ];(repeat' (first|with_reducible (first|intro _|apply And.intro)|refine dM ab 5 [] [0,1,2,4,7,8,9] bZ fun R hR=>?_|refine bT ab 3 5 ?_ ?_|refine dR ab [5,6,10,11] ?_|refine dR ab [3,6,10,11] ?_|(refine hR _ _ ?_;refine sA ?_)|fail))<;>(first|(simp [bM];done)|(simp [bM];omega)|omega|skip)
  all_goals (try simp only [hw])
  all_goals
   have hM:(take (m.length+1) (take m.length (eE default m 0 m.length) ++ [x]) ++ eE default m m.length (m.length - m.length)).length=m.length+1+(m.length - m.length):=by simp [bM]
   first
    |exact ⟨_,_,yx.mv 5 3 1 rfl (by decide) (by simp) (by simp),a7 (i+1,take (m.length+1) (take m.length (eE default m 0 m.length) ++ [x]) ++ eE default m m.length (m.length - m.length),m.length+1+(m.length - m.length),_) ⟨by show i+1≤_;omega,hM.symm,by show _≤i+1;rw [hM];omega⟩ (hb:=by simp [au,map_take,map_append])⟩
    |exact ⟨_,_,yx.mv 5 4 1 rfl (by decide) (by simp) (by simp),a7 (i+1,take (m.length+1) (take m.length (eE default m 0 m.length) ++ [x]) ++ eE default m m.length (m.length - m.length),m.length+1+(m.length - m.length),_) ⟨by show i+1≤_;omega,hM.symm,by show _≤i+1;rw [hM];omega⟩ (hb:=by simp [au,map_take,map_append])⟩
structure QR (p:aC):Prop where
 c:p.aZ.length≤32
 t:p.aH.length≤64
 g:p.aQ.length≤64
theorem yG (l:List ay):(cC l).length≤l.length:=by
 unfold cC
 split
 ·exact zero_le _
 ·simp;exact List.length_filter_le _ _
theorem kI (l:List Int) (hl:l.length≤1000000):EC prog 301 [bG 1 (aS .u64) default l] [] fun r N=>∃s:List bB×aN,s.1.length=l.length∧r= .row 0 s.2 2 0 s.1.length∧N=[.row s.2 284 2 (s.1.map bB.c)]:=by
 refine EC.zH (C:=fun m=>m.length=l.length) ?_;refine nW ab (ca 301) func301 ntmps301 results301 ?_;(repeat' (done));refine cw 3 284 2 rfl ?_;intro hh;refine aT ab [6,7] (fun s:Nat×List (bB)×Nat×aN=>[(8,.int .i64 s.1),(3,.row 0 s.2.2.2 2 0 s.2.2.1)]) (fun B s=>cW B 0 s.2.2.2 (s.2.1.map bB.c)) (fun s=>s.1≤l.length∧s.2.2.1=s.2.1.length∧(s.2.1.length=s.1)) (fun s=>l.length - s.1) (0,[],0,hh) ⟨zero_le _,rfl,rfl⟩ ?_;rintro ⟨i,m,km,hr⟩ ⟨hi,hk,hI⟩;replace hi:i≤l.length:=hi;obtain rfl:km=m.length:=hk;replace hI:m.length=i:=hI;have hw:=wI i;simp only [hw,push_cast,simprocAttr];(repeat' (with_reducible (first|intro _|apply And.intro)))<;>(first|((try simp only [hw]);refine a7 (i+1,m ++ [_],m.length+1,_) ⟨by show i+1≤_;omega,by simp,by simp;omega⟩)|(refine ⟨m,?_,_,_,_,_,rfl,rfl,rfl,rfl⟩;(have hz:=‹decide ((i:Int) < _)=false›;simp at hz;omega))|omega)
theorem qm (p:aC) (n:Int) (hs:p.Program.Strings.length≤1000000):EC prog 339 [.agg p.c,.int .i64 n] [] fun r N=>N=[]∧∃b:Bool,True∧r= .bool b:=by
 refine EC.bh ?_;refine nW ab (ca 339) func339 ntmps339 results339 ?_;(repeat' (with_reducible intro _))<;>((exact ⟨_,Lt.bool rfl⟩))
theorem mD (b:Bool):EC prog 302 [.bool b] [] fun r N=>N=[]∧∃n:Int,True∧r= .int .i64 n:=by
 refine EC.bh ?_;refine nW ab (ca 302) func302 ntmps302 results302 ?_;(repeat' (first|(with_reducible intro hh;(subst hh))|with_reducible apply And.intro))<;>((exact ⟨_,Lt.int rfl⟩))
theorem Lt.bG {B:List aI} {α:Type} {e:Nat} {cells:α→List SV} {d:α} {l:List α}:Lt B (Go.Lift.bG e cells d l) (Go.Lift.bG e cells d l):=⟨trivial,bq.refl _⟩
theorem Lt.RZ {B:List aI} {i E:Nat} {h:aN} {x:bB} (hB:au B i= .row h E 2 [x.c]):Lt B (.row i h 2 0 1) (Go.Lift.bG 2 bB.c default [x]):=Lt.row (l:=[x]) hB rfl rfl
theorem wa (p:aC) (a:a_) (w:Bool) (hs:p.Program.Strings.length≤1000000):EC prog 338 [.agg p.c,.agg a.c,.bool w] [] fun r N=>N=[]∧∃m:List bB,m.length≤1∧r=bG 2 bB.c default m:=by
 refine EC.bh ?_;refine nW ab (ca 338) func338 ntmps338 results338 ?_;(repeat' (first|(with_reducible intro hh;first|subst hh|(revert hh;intro _))|with_reducible apply And.intro|refine eK ab ?_|(refine EC.aM (qm p _ hs) ?_;rintro _ _)|(refine EC.aM (mD _) ?_;rintro _ _)|fail))<;>(first|(exact ⟨[],zero_le _,Lt.nil⟩)|(exact ⟨[_],le_refl _,Lt.RZ rfl⟩))
theorem rK (o:af) (ho:cS o) (hp:QR o.ae):EC prog 300 [.agg o.c] [] fun r N=>N=[]∧∃m:List bB,m.length≤200∧r=bG 2 bB.c default m:=by
 refine EC.bh ?_;refine nW ab (ca 300) func300 ntmps300 results300 ?_;have h1:=hp.c;have h2:=hp.t;have h3:=hp.g;have h4:=yG o.ae.aQ;(repeat' (first|with_reducible (first|intro _|apply And.intro)|((refine EC.mu 2 (d_.mi (cells:=aS .u64) (d:=default) (l:=[o.ID]) (le_refl _) rfl rfl rfl .nil) ?_;refine EC.qz (σ:=List bB×aN) (C:=fun s=>s.1.length=1) (R:=fun s i=> .row i s.2 2 0 s.1.length) (N:=fun s=>[.row s.2 284 2 (s.1.map bB.c)]) (kI [o.ID] (le_of_ble_eq_true rfl)) (fun _ _=>bq.row) ?_;rintro ⟨w0,hw0⟩ hwl0))|refine EC.use (dp o.ae.aQ (by omega)) ?_|((refine EC.aM (mW o.ae (by omega)) ?_;rintro hs hhs))|((refine EC.aM (f9 o.ae.aZ (by omega)) ?_;rintro wc hwc))|((refine EC.aM (f9 (cC o.ae.aQ) (by omega)) ?_;rintro wp hwp))|((refine EC.aM (f9 _ (by omega)) ?_;rintro wh hwh))|refine dN ab [] [] [0,1,4,5,8,12,13,2,3,6,7,9,10,11,14,15,16,17] bZ fun R hR=>?_|refine dR ab [6,7,9,10,11,14,15,16,17] ?_|refine dR ab [7,9,10,11,14,15,16,17] ?_|refine dR ab [10,11,14,15,16,17] ?_|refine dR ab [11,14,15,16,17] ?_|refine dR ab [15,16,17] ?_|refine dR ab [16,17] ?_|(refine hR _ _ ?_;refine sA ?_)|refine wA ab ?_|fail))<;>(first|(simp only at *;omega)|(simp_all;done)|skip)
 ·have k0:w0.length=1:=hwl0;have e1:take (w0.length+wc.length) (map bB.c w0 ++ map bB.c wc)=map bB.c (w0 ++ wc):=by rw [←map_append];exact take_of_length_le (by simp)
  have e2:take (w0.length+wc.length+wh.length) (map bB.c (w0 ++ wc) ++ map bB.c wh)=map bB.c (w0 ++ wc ++ wh):=by rw [←map_append];exact take_of_length_le (by simp;omega)
  refine ⟨w0 ++ wc ++ wh ++ wp,by simp;omega,Lt.row rfl ?_ (by simp;omega)⟩;rw [e1,e2,←map_append]
theorem v_ (p:aC) (a:a_) (ht:p.aH.length≤1000000) (hs:p.Program.Strings.length≤1000000):EC prog 340 [.agg p.c,.agg a.c] [] fun r N=>N=[]∧∃m:List bB,m.length≤2∧r=bG 2 bB.c default m:=by
 refine EC.bh ?_;refine nW ab (ca 340) func340 ntmps340 results340 ?_;have w1:∀x:Int,EC prog 301 [bG 1 (aS .u64) default [x]] [] fun r N=>N=[]∧∃m:List bB,m.length=1∧r=bG 2 bB.c default m:=fun x=>f9 [x] (le_of_ble_eq_true rfl);(repeat' (first|with_reducible (first|intro _|apply And.intro)|refine eK ab ?_|refine EC.use (dI p.aH _ ht) ?_|refine EC.use (gG _) ?_|(refine EC.aM (mD _) ?_;rintro _ _)|((refine EC.mu 3 (d_.mi (cells:=aS .u64) (d:=default) (l:=[_]) (le_refl _) rfl rfl rfl .nil) ?_;refine EC.aM (w1 _) ?_;rintro m hm))|refine dN ab [] [] [0,1,2,3,4,5,6,7,8,9,10,11] bZ fun R hR=>?_|refine dR ab [9,10,11] ?_|(refine hR _ _ ?_;refine sA ?_)|refine wA ab ?_|fail))<;>(first|(exact ⟨[],zero_le _,Lt.nil⟩)|(exact ⟨m,by omega,Lt.bG⟩)|(exact ⟨[_,_],le_refl _,Lt.row (l:=[_,_]) rfl rfl rfl⟩)|omega|(show (_:Bool)=true;first|(simp_all;done)|grind))
theorem xN (o:af) (a:a_) (ho:cS o) (hp:QR o.ae):EC prog 303 [.agg o.c,.agg a.c] [] fun r N=>N=[]∧∃m:List bB,m.length≤200∧r=bG 2 bB.c default m:=by
 refine EC.bh ?_;refine nW ab (ca 303) func303 ntmps303 results303 ?_;have h1:=hp.c;have h2:=hp.t;have h3:=hp.g;have h4:=yG o.ae.aQ;have h5:=ho.1.2.2.1;have w1:∀x:Int,EC prog 301 [bG 1 (aS .u64) default [x]] [] fun r N=>N=[]∧∃m:List bB,m.length=1∧r=bG 2 bB.c default m:=fun x=>f9 [x] (le_of_ble_eq_true rfl);(repeat' (first|(with_reducible intro hh;first|subst hh|(revert hh;intro _))|with_reducible apply And.intro|refine eK ab ?_|(refine EC.aM (rK o ho hp) ?_;rintro _ _)|((refine EC.aM (mW o.ae (by omega)) ?_;rintro hs hhs))|refine EC.use (dp o.ae.aQ (by omega)) ?_|(refine EC.aM (wa o.ae _ _ h5) ?_;rintro _ _)|(refine EC.aM (qm o.ae _ h5) ?_;rintro _ _)|(refine EC.aM (v_ o.ae _ (by omega) h5) ?_;rintro _ _)|refine EC.use (ec _ _ ho.1.1) ?_|((refine EC.mu 3 (d_.mi (cells:=aS .u64) (d:=default) (l:=[_]) (le_refl _) rfl rfl rfl .nil) ?_;refine EC.aM (w1 _) ?_;rintro m hm))|((refine EC.qz (σ:=List bB×aN) (C:=fun s=>s.1.length=o.ae.aZ.length) (R:=fun s i=> .row i s.2 2 0 s.1.length) (N:=fun s=>[.row s.2 284 2 (s.1.map bB.c)]) (kI o.ae.aZ (by omega)) (fun _ _=>bq.row) ?_;rintro ⟨w0,hw0⟩ hwl0))|((refine EC.qz (σ:=List bB×aN) (C:=fun s=>s.1.length=hs.length) (R:=fun s i=> .row i s.2 2 0 s.1.length) (N:=fun s=>[.row s.2 284 2 (s.1.map bB.c)]) (kI hs (by omega)) (fun _ _=>bq.row) ?_;rintro ⟨w0,hw0⟩ hwl0))|fail))<;>(first|(refine ⟨_,?_,Lt.bG⟩;omega)|(refine ⟨[],zero_le _,Lt.nil⟩;done)|(refine ⟨w0,?_,Lt.row rfl rfl rfl⟩;(simp only at *;omega))|omega|(show False;first|(simp_all;done)|grind)|skip);refine aT ab [3,5,13,28,29] (fun s:Nat×List bB×Nat×aN=>[(30,.int .i64 s.1),(6,.row 3 s.2.2.2 2 0 s.2.2.1)]) (fun B s=>cW B 3 s.2.2.2 (s.2.1.map bB.c)) (fun s=>s.1≤(cC o.ae.aQ).length∧s.2.2.1=s.2.1.length∧s.2.1.length=w0.length+s.1) (fun s=>(cC o.ae.aQ).length - s.1) (0,w0,w0.length,hw0) ⟨zero_le _,rfl,rfl⟩ ?_;rintro ⟨i,m,km,hr⟩ ⟨hi,hk,hm⟩;replace hi:i≤(cC o.ae.aQ).length:=hi;obtain rfl:km=m.length:=hk;replace hm:m.length=w0.length+i:=hm;have hw:=wI i;simp only [hw,push_cast,simprocAttr];simp only at hwl0;(repeat' (with_reducible (first|intro _|apply And.intro)))<;>(first|((try simp only [hw]);refine a7 (i+1,m ++ [_],m.length+1,_) ⟨by show i+1≤_;omega,by simp,by simp;omega⟩)|(refine ⟨m,by omega,Lt.row rfl rfl rfl⟩)|omega)
theorem B4 (o:af) (ho:mh o):EC prog 242 [.agg o.c] [] fun r N=>N=[]∧∃m:List bB,m.length≤201∧r=bG 2 bB.c default m:=by
 refine EC.bh ?_;refine nW ab (ca 242) func242 ntmps242 results242 ?_;have hs:=ho.s;have hnd:gW o=true→o.ae.State≠3→QR o.ae:=fun h1 h2=>by
  have hl:=rV.of h1 h2;have h3:=(lx hl.tb).1;have h4:=i_ (l:=o.ae.aQ) (by rw [hl.sp];rfl);exact ⟨hl.cl,by omega,by omega⟩
 have hact:=yT o.ae.d9 o.ae.Program;(repeat' (first|with_reducible (first|intro _|apply And.intro)|refine eK ab ?_|refine EC.use (cH o hs ho.p) ?_|fail))<;>(first|(refine ⟨[],zero_le _,Lt.nil⟩;done)|(show (_:Bool)=true;first|(simp_all;done)|grind)|skip)
 all_goals
  have hg:gW o=true∧o.ae.State≠3:=by (have hz:=‹(!gW o || _)=false›;simp only [Bool.or_eq_false_iff,Bool.not_eq_false',beq_eq_false_iff_ne] at hz;exact hz)
  have hp:=hnd hg.1 hg.2;have w1:∀x:Int,EC prog 301 [bG 1 (aS .u64) default [x]] [] fun r N=>N=[]∧∃m:List bB,m.length=1∧r=bG 2 bB.c default m:=fun x=>f9 [x] (le_of_ble_eq_true rfl);have hpl:=hs.1.2.2.2.1;have hNx:=jY o.ae.d9 o.ae.Program;generalize oA o.ae.d9 o.ae.Program=q at hact hNx;obtain ⟨c,a⟩:=q;obtain ⟨hak,haa⟩:=hact;have hFd:=qp o.ae.aQ a.iN hpl haa;(repeat' (first|with_reducible (first|intro _|apply And.intro)|refine eK ab ?_|refine EC.use (hNx) ?_|(refine EC.aM (rK o hs hp) ?_;rintro _ _)|refine EC.use (hFd) ?_|(refine EC.aM (mD _) ?_;rintro _ _)|((refine EC.aM (xN o a hs hp) ?_;rintro mc hmc))|((refine EC.args (.cons (bq.refl _) (.cons (cB (e:=2) (cells:=bB.c) (d:=default)) .nil)) ?_;refine EC.aM (lJ _ [] (by omega) (zero_le _)) ?_;rintro mm hmm))|((refine EC.aM (lJ _ mc (by omega) (by omega)) ?_;rintro mm hmm))|((refine EC.mu 4 (d_.mi (cells:=aS .u64) (d:=default) (l:=[_]) (le_refl _) rfl rfl rfl .nil) ?_;refine EC.aM (w1 _) ?_;rintro m hm))|((refine EC.mu 4 (d_.cons trivial (bq.refl _) (d_.mi (cells:=bB.c) (d:=default) (l:=[_]) (le_refl _) rfl rfl rfl .nil)) ?_;refine EC.aM (lJ _ [_] (by omega) (le_of_ble_eq_true rfl)) ?_;rintro mm hmm))|refine dN ab [] [] [0,1,4,5,6,7,2,3,8,9,10,11,12] bZ fun R hR=>?_|refine dN ab [] [] [0,1,4,5,2,3,6,7,8] bZ fun R hR=>?_|refine dR ab [8,9,10,11,12] ?_|refine dR ab [9,10,11,12] ?_|refine dR ab [12] ?_|refine dR ab [6,7,8] ?_|refine dR ab [7,8] ?_|refine dR ab [8] ?_|(refine hR _ _ ?_;refine sA ?_)|refine wA ab ?_|fail))<;>(first|(refine ⟨mm,?_,Lt.bG⟩;first|omega|(simp at hmm;omega))|(refine ⟨_,?_,Lt.bG⟩;omega))
theorem xO (a b:List bB) (ha:a.length≤1099511627776) (hb:b.length≤1099511627776):EC prog 186 [bG 2 bB.c default a,bG 2 bB.c default b] [] fun r N=>N=[]∧∃c:Bool,True∧r= .bool c:=by
 refine EC.bh ?_;refine nW ab (ca 186) func186 ntmps186 results186 ?_;(repeat' (with_reducible (first|intro _|apply And.intro)))<;>(first|(exact ⟨_,Lt.bool rfl⟩)|skip);refine bV ab [0,1,12] 13 a.length (fun i=>True) trivial (by omega) ?_;intro i hI hi hw;simp only [hw,push_cast,simprocAttr];have hlab:a.length=b.length:=by (have hz:=‹((a.length:Int) !=_)=false›;simp at hz;omega)
 (repeat' (first|with_reducible (first|intro _|apply And.intro)|refine dN ab [] [] [0,1,2,3,4,5,6,7,8] bZ fun R hR=>?_|(refine hR _ _ ?_;refine sA ?_)|refine wA ab ?_|fail))<;>(first|(exact ⟨_,Lt.bool rfl⟩)|((try simp only [hw]);exact cO trivial)|omega)
end
section
attribute [local irreducible] EC EV gW cc cK dT
theorem qf (s:aG) (id k:Int) (hs:s.ah.length≤1000000000):EC prog 220 [.agg s.c,.int .u64 id,.int .i64 k] [] fun r N=>N=[]∧r= .bool ((cc s id).2 && (cc s id).1.aU == k):=by
 refine EC.cQ ?_;refine nW ab (ca 220) func220 ntmps220 results220 ?_;(repeat' (first|with_reducible intro _|refine eK ab ?_|refine EC.use (cL s _ hs) ?_|fail))<;>((exact Lt.bool rfl))
def R6 (l:List Int) (id x:Int):Prop:=(x= -1∧id ∉ l)∨∃k:Nat,k < l.length∧x=k∧l.getD k default=id
theorem oQ (l:List Int) (id:Int) (hl:l.length≤1000000):EC prog 222 [bG 1 (aS .u64) default l,.int .u64 id] [] fun r N=>N=[]∧∃x:Int,R6 l id x∧r= .int .i64 x:=by
 refine EC.bh ?_;refine nW ab (ca 222) func222 ntmps222 results222 ?_;(repeat' (done));refine bV ab [0,1] 5 l.length (fun i=>∀j,j < i→l.getD j default≠id) (fun j h=>absurd h (not_lt_zero j)) (by omega) ?_;intro i hI hi hw;simp only [hw,push_cast,simprocAttr];(repeat' (with_reducible (first|intro _|apply And.intro)))<;>(first|omega|skip)
 ·exact ⟨_,.inr ⟨i,by omega,rfl,by simpa using ‹(_ == id)=true›⟩,Lt.int rfl⟩
 ·(try simp only [hw]);refine cO (fun j hj=>?_);rcases lt_or_ge j i with h|h
  ·exact hI j h
  ·obtain rfl:j=i:=by omega
   simpa using ‹(_ == id)=false›
 ·refine ⟨-1,.inl ⟨rfl,fun hm=>?_⟩,Lt.int rfl⟩;have hz:=‹decide ((i:Int) < _)=false›;simp at hz;obtain ⟨j,hj,e⟩:=List.mem_iff_getElem.1 hm;exact hI j (by omega) (by simp [getD,hj,e])
end
section
attribute [local irreducible] EC EV gW cc cK dT
attribute [local push_cast] eO dG eu gS length_range bM
theorem ua {Q:af→Prop} (t:a9) (s:aG) (ht:t.aD.length≤900000000) (hs:s.ah.length≤900000000) (htq:∀x∈t.aD,Q x.ba) (hsq:∀o∈s.ah,Q o) (h0:Q default) (hQ:∀o,Q o→mh o):EC prog 156 [.agg t.c,.agg s.c] [] fun r N=>N=[]∧∃m:List bJ,m.length≤t.aD.length∧r=bG 3 bJ.c default m:=by
 refine EC.bh ?_;refine nW ab (ca 156) func156 ntmps156 results156 ?_;(repeat' (with_reducible intro _));refine cw 5 330 3 rfl ?_;intro hh;refine aT ab [2,3] (fun s:Nat×List (bJ)×Nat×aN=>[(6,.int .i64 s.1),(5,.row 2 s.2.2.2 3 0 s.2.2.1)]) (fun B s=>cW B 2 s.2.2.2 (s.2.1.map bJ.c)) (fun s=>s.1≤t.aD.length∧s.2.2.1=s.2.1.length∧(s.2.1.length≤s.1)) (fun s=>t.aD.length - s.1) (0,[],0,hh) ⟨zero_le _,rfl,le_refl _⟩ ?_;rintro ⟨i,m,km,hr⟩ ⟨hi,hk,hI⟩;replace hi:i≤t.aD.length:=hi;obtain rfl:km=m.length:=hk;replace hI:m.length≤i:=hI;have hw:=wI i;simp only [hw,push_cast,simprocAttr];have hmem:i < t.aD.length→t.aD.getD i default∈t.aD:=fun h=>bk h;(repeat' (first|with_reducible (first|intro _|apply And.intro)|refine eK ab ?_|refine EC.use (cL s _ (by omega)) ?_|(refine EC.aM (eW _ _ (hQ _ (sH hsq h0)).s (hQ _ (htq _ (hmem (by omega)))).s) ?_;rintro _ _)|fail))<;>(first|((try simp only [hw]);refine a7 (i+1,m ++ [_],m.length+1,_) ⟨by show i+1≤_;omega,by simp,by simp;omega⟩)|((try simp only [hw]);refine a7 (i+1,m,m.length,hr) ⟨by show i+1≤_;omega,rfl,by show m.length≤i+1;omega⟩)|(exact ⟨m,by omega,Lt.row rfl rfl rfl⟩)|omega|(show False;first|(simp_all;done)|grind))
theorem xw (a b:bJ):EC prog 285 [.agg a.c,.agg b.c] [] fun r N=>N=[]∧∃c:Bool,True∧r= .bool c:=by
 refine EC.bh ?_;refine nW ab (ca 285) func285 ntmps285 results285 ?_;(repeat' (with_reducible (first|intro _|apply And.intro)))<;>(first|(exact ⟨_,Lt.bool rfl⟩)|(simp_all;done))
structure DY (l:List bJ) (i:Nat) (m:List bJ):Prop where
 nd:m.Nodup
 sub:∀x∈m,x∈l.take i
 md:∀x∈m,x.gb=1∨x.gb=2
 ln:m.length≤i
theorem DY.nil {l:List bJ}:DY l 0 []:=⟨nodup_nil,fun x h=>(nomatch h),fun x h=>(nomatch h),le_refl _⟩
theorem yB {α:Type} {l:List α} {i:Nat} {x:α} (h:x∈l.take i):x∈l.take (i+1):=by
 rw [take_add_one];exact List.mem_append_left _ h
theorem DY.skip {l m:List bJ} {i:Nat} (h:DY l i m):DY l (i+1) m:=⟨h.nd,fun x hx=>yB (h.sub x hx),h.md,Nat.le_succ_of_le h.ln⟩
theorem DY.ins {l m:List bJ} {i:Nat} (h:DY l i m) (hi:i < l.length) (hm:(l.getD i default).gb=1∨(l.getD i default).gb=2) (hn:∀j,j < i→l.getD j default≠l.getD i default) (k:Nat):DY l (i+1) (m.take k ++ [l.getD i default] ++ m.drop k):=by
 have hnm:l.getD i default ∉ l.take i:=fun hx=>by
  obtain ⟨j,hj,e⟩:=List.mem_iff_getElem.1 hx;have hj2:j < i∧j < l.length:=by simp at hj;omega
  exact hn j hj2.1 (by rw [←e];simp [getD,hj2.2])
 have hmm:l.getD i default ∉ m:=fun hx=>hnm (h.sub _ hx);have hp:(m.take k ++ [l.getD i default] ++ m.drop k).Perm (l.getD i default :: m):=by
  have:=List.perm_middle (a:=l.getD i default) (l₁:=m.take k) (l₂:=m.drop k);rw [List.take_append_drop] at this;simpa using this
 refine ⟨hp.nodup_iff.2 (List.nodup_cons.2 ⟨hmm,h.nd⟩),fun x hx=>?_,fun x hx=>?_,by rw [hp.length_eq];simpa using h.ln⟩
 ·rcases List.mem_cons.1 (hp.mem_iff.1 hx) with rfl|hx
  ·have e:l.getD i default=l[i]:=by simp [getD,hi]
   rw [take_add_one,e];exact List.mem_append_right _ (by simp [hi])
  ·exact yB (h.sub x hx)
 ·rcases List.mem_cons.1 (hp.mem_iff.1 hx) with rfl|hx
  ·exact hm
  ·exact h.md x hx
theorem F9 {α:Type} (d:α) (l:List α) (q:Nat):eE d l q (l.length - q)=l.drop q:=by
 refine List.ext_getElem (by simp [bM]) fun k h1 h2=>?_;simp only [bM] at h1;simp only [eE,List.getElem_map,List.getElem_range,List.getElem_drop];have h3:q+k < l.length:=by omega
 simp [getD,h3]
theorem nT (l:List bJ) (hl:l.length≤100000000000):EC prog 217 [bG 3 bJ.c default l] [] fun r N=>N=[]∧∃m:List bJ,DY l l.length m∧r=bG 3 bJ.c default m:=by
 refine EC.bh ?_;refine nW ab (ca 217) func217 ntmps217 results217 ?_;(repeat' (done));refine cw 3 330 3 rfl ?_;intro hh;simp only [set_cons_zero,length_cons,length_nil,cons_append,nil_append,zero_add];refine Cj ab [0] (fun s:Nat×List bJ×Nat×aN=>[(4,.int .i64 s.1),(3,.row 0 s.2.2.2 3 0 s.2.2.1)]) (fun B s=>[.row s.2.2.2 330 3 (s.2.1.map bJ.c)]) (fun s=>s.1≤l.length∧s.2.2.1=s.2.1.length∧DY l s.1 s.2.1) (fun s=>l.length - s.1) (0,[],0,hh) ⟨zero_le _,rfl,DY.nil⟩ ?_;rintro ⟨i,o,km,hr⟩ ⟨hi,hk,ho⟩;replace hi:i≤l.length:=hi;obtain rfl:km=o.length:=hk;replace ho:DY l i o:=ho;have hol:=ho.ln;have hw:=wI i;simp only [hw,push_cast,simprocAttr];(repeat' (with_reducible (first|intro _|apply And.intro)))<;>(first|omega|(refine ⟨o,?_,Lt.row rfl rfl rfl⟩;have hz:=‹decide ((i:Int) < _)=false›;simp at hz;(have e:i=l.length:=by omega);exact e▸ho)|skip);generalize hc:l.getD i default=c at *
 all_goals
  refine aT ab [0,3,4,5] (fun s:Nat×Bool=>[(7,.int .i64 s.1),(6,.bool s.2)]) (fun B _=>B) (fun s=>s.1≤l.length∧(s.2=true→(c.gb=1∨c.gb=2)∧∀j,j < s.1→j < i→l.getD j default≠c)) (fun s=>l.length - s.1) (0,_) ?h0 ?_
  case h0=>exact ⟨zero_le _,fun h=>⟨by replace h:(match c.gb == 1 with|true=>true|false=>c.gb == 2)=true:=h;(cases h1:c.gb == 1);(rw [h1] at h;right;simpa using h);(left;simpa using h1),fun j hj=>absurd hj (not_lt_zero j)⟩⟩
  rintro ⟨k,b⟩ ⟨hk,hb⟩;replace hk:k≤l.length:=hk;replace hb:b=true→(c.gb=1∨c.gb=2)∧∀j,j < k→j < i→l.getD j default≠c:=hb;have hw2:IntKind.i64.wrap ((k:Int)+1)=((k+1:Nat):Int):=by rw [bu (by omega)];omega
  simp only [hw2,push_cast,simprocAttr];(repeat' (first|(with_reducible intro hh;first|subst hh|(revert hh;intro _))|with_reducible apply And.intro))<;>(first|omega|((try simp only [hw2]);refine a7 (k+1,_) ⟨by show k+1≤_;omega,fun h=>?_⟩;first|(cases h;done)|(refine ⟨(hb h).1,fun j hj hji he=>?_⟩;rcases lt_or_ge j k with hjk|hjk;exact (hb h).2 j hjk hji he;obtain rfl:j=k:=(by omega);subst he;simp_all;done))|(simp_all;done)|skip)
  ·(try simp only [hw]);exact ⟨_,_,yx.refl,a7 (i+1,o,o.length,hr) ⟨by show i+1≤_;omega,rfl,ho.skip⟩⟩
  obtain ⟨hmd,hne⟩:=hb (by simpa using ‹(!b)=false›);have hkl:k=l.length:=by have hz:=‹decide ((k:Int) < _)=false›;simp at hz;omega
  refine jN 3 0 (cells:=bJ.c) (df:=default) (l:=o) rfl rfl rfl rfl ?_;simp only [set_cons_zero,set_cons_succ];refine cw 9 330 3 rfl ?_;intro h9;simp only [set_cons_zero,length_cons,length_nil,cons_append,nil_append,zero_add];refine aT ab [0,3,4,5] (fun s:Nat×List bJ×Nat×aN=>[(10,.int .i64 s.1),(9,.row 2 s.2.2.2 3 0 s.2.2.1)]) (fun B s=>cW B 2 s.2.2.2 (s.2.1.map bJ.c)) (fun s=>s.1≤o.length∧s.2.2.1=s.2.1.length∧s.2.1=o.take s.1) (fun s=>o.length - s.1) (0,[],0,h9) ⟨zero_le _,rfl,rfl⟩ ?_;rintro ⟨q,m,km,h9'⟩ ⟨hq,hkm,hm⟩;replace hq:q≤o.length:=hq;obtain rfl:km=m.length:=hkm;replace hm:m=o.take q:=hm;have hmq:m.length=q:=by rw [hm];simp;omega
  have hw3:IntKind.i64.wrap ((q:Int)+1)=((q+1:Nat):Int):=by rw [bu (by omega)];omega
  simp only [hw3,push_cast,simprocAttr];(repeat' (first|with_reducible (first|intro _|apply And.intro)|(refine EC.aM (xw _ _) ?_;rintro _ _)|refine dN ab [] [] [0,1,2,3,4,5,6,7,8,9,10,11] bZ fun R hR=>?_|refine dJ ab 4 [] [2] [0,1,4,5,6,7] bZ fun R hR=>?_|refine dR ab [11] ?_|refine kh ab 2 ?_|refine kh ab 3 ?_|refine kh ab 8 ?_|refine dR ab [9] ?_|(refine hR _ _ ?_;refine sA ?_)|refine wA ab ?_|fail))<;>(first|omega|((have hz:=‹(decide ((q:Int) < _) && _)=true›;simp only [Bool.and_eq_true,decide_eq_true_eq] at hz);(try simp only [hw3]);refine a7 (q+1,m ++ [o.getD q default],m.length+1,_) ⟨by show q+1≤_;omega,by simp,by show m ++ _=_;rw [take_add_one,hm];congr 1;simp [getD,show q < o.length by omega]⟩)|(show False;first|(simp_all;done)|grind)|skip)
  all_goals
   have hsub:eE default o m.length (o.length - m.length)=o.drop q:=by rw [hmq];exact F9 _ _ _
   have hins:=ho.ins (by omega) (hc.symm▸hmd) (fun j hj=>hc.symm▸hne j (by omega) hj) q;rw [hc,←hm,←hsub] at hins;(try simp only [hw]);exact ⟨_,_,yx.mv 3 2 0 rfl (by decide) (by simp) (by simp),a7 (i+1,m ++ [c] ++ eE default o m.length (o.length - m.length),m.length+1+(o.length - m.length),_) ⟨by show i+1≤_;omega,by simp [bM];omega,hins⟩ (hb:=by simp [au,map_append])⟩
end
section
attribute [local irreducible] EC EV gW cc cK dT
attribute [local push_cast] eO dG eu gS length_range bM iX l5 j7 l6
structure jB (Q:af→Prop) (N:Nat) (s:aj):Prop where
 tl:s.aD.aD.length≤N
 tq:∀x∈s.aD.aD,Q x.ba
 dr:q_ Q N s.dq
 hl:s.cT.length≤N
 nl:s.Task.kU.length≤400
 pn:0≤s.Task.Pinned
theorem a6.n_ {B:List aI} {x y:aj} (h:x=y):a6 B (.agg x.c) (.agg y.c):=by subst h;exact a6.agg (eU.obj (cs:=x.c) (fun s B=>by rw [aj.fk]) (fun s B=>by rw [aj.fz]))
theorem Lt.n_ {B:List aI} {x y:aj} (h:x=y):Lt B (.agg x.c) (.agg y.c):=by subst h;exact Lt.agg (eU.obj (cs:=x.c) (fun s B=>by rw [aj.fk]) (fun s B=>by rw [aj.fz]))
def oB (n b v:Int):aj:=⟨b,v,(oC n b).1,⟨n,[]⟩,⟨n,[]⟩,[],0,default⟩
theorem z9 (n b v:Int):EC prog 67 [.int .i64 n,.int .i64 b,.int .i64 v] [] fun r N=>N=[]∧∃x:aj×Int,((x.2=0→x.1=oB n b v∧(oC n b).2=0∧0≤n∧n≤7)∧(x.2≠0→x.1=default))∧r= .bS [.agg x.1.c,.int .i64 x.2]:=by
 refine EC.bh ?_;refine nW ab (ca 67) func67 ntmps67 results67 ?_;(repeat' (first|with_reducible (first|intro _|apply And.intro)|refine eK ab ?_|refine EC.use (mE _ _) ?_|fail))<;>(first|(refine ⟨(oB n b v,0),⟨fun _=>⟨rfl,?_⟩,fun h=>absurd rfl h⟩,Lt.t2 (a6.n_ rfl) a6.int⟩;(simp_all;omega);done)|(refine ⟨(default,_),⟨?_,fun _=>rfl⟩,Lt.t2 (a6.n_ rfl) a6.int⟩;(intro h0;first|(exact absurd h0 (by decide);done)|(simp_all;done));done))
theorem Ot {l:Nat} {id:Int} (h:0≤id) (hl:0 < l) (h2:l≤1099511627776):IntKind.u64.wrap (l:Int)=(l:Int)∧0≤id.tmod (l:Int)∧id.tmod (l:Int) < (l:Int):=by
 refine ⟨?_,Int.tmod_nonneg _ h,?_⟩
 ·show ((l:Int)%_)=_;exact Int.emod_eq_of_lt (by omega) (by simp only [IntKind.bits];omega)
 ·exact Int.tmod_lt_of_pos _ (by omega)
theorem jS (l:List Int) (id:Int) (hl:l.length≤1099511627776):EC prog 218 [bG 1 (aS .i64) default l,.int .u64 id] [] fun r N=>N=[]∧∃n:Int,True∧r= .int .i64 n:=by
 refine EC.RL (i:=1) (n:=id) rfl (by decide) fun h0=>?_;refine EC.bh ?_;refine nW ab (ca 218) func218 ntmps218 results218 ?_;(repeat' (with_reducible (first|intro _|apply And.intro)))<;>(first|(exact ⟨_,Lt.int rfl⟩)|skip)
 all_goals
  have hz:0 < l.length:=by have hz:=‹((l.length:Int) == 0)=false›;simp at hz;exact List.length_pos_iff.2 hz
  obtain ⟨h1,h2,h3⟩:=Ot h0 hz hl;rw [h1]
  first|(exact ⟨_,Lt.int rfl⟩)|omega
theorem iK (o:af) (ho:mh o):EC prog 127 [.agg o.c] [] fun r N=>N=[]∧∃n:Int,True∧r= .int .u64 n:=by
 refine EC.bh ?_;refine nW ab (ca 127) func127 ntmps127 results127 ?_;(repeat' (first|with_reducible (first|intro _|apply And.intro)|refine eK ab ?_|refine EC.use (cH o ho.s ho.p) ?_|refine EC.use (jY _ _) ?_|refine EC.use (dI _ _ ho.s.1.2.2.2.2) ?_|fail))<;>(first|(exact ⟨_,Lt.int rfl⟩)|(simp_all;done))
theorem oP (o:af) (ho:mh o):EC prog 183 [.agg o.c] [] fun r N=>N=[]∧∃m:List bB,m.length≤201∧r=bG 2 bB.c default m:=by
 refine EC.bh ?_;refine nW ab (ca 183) func183 ntmps183 results183 ?_;(repeat' (first|with_reducible intro _|((refine EC.aM (B4 o ho) ?_;rintro ns hns))|((refine EC.aM (iK o ho) ?_;rintro dv -))|refine dN ab [] [] [0,2,1,3,4,5] bZ fun R hR=>?_|refine dR ab [3,4,5] ?_|refine dR ab [4,5] ?_|(refine hR _ _ ?_;refine sA ?_)|refine wA ab ?_|fail))
 all_goals
  refine cw 3 284 2 rfl ?_;intro hh;refine aT ab [4,5] (fun s:Nat×List (bB)×Nat×aN=>[(6,.int .i64 s.1),(3,.row 1 s.2.2.2 2 0 s.2.2.1)]) (fun B s=>cW B 1 s.2.2.2 (s.2.1.map bB.c)) (fun s=>s.1≤ns.length∧s.2.2.1=s.2.1.length∧(s.2.1.length≤s.1)) (fun s=>ns.length - s.1) (0,[],0,hh) ⟨zero_le _,rfl,le_refl _⟩ ?_;rintro ⟨i,m,km,hr⟩ ⟨hi,hk,hI⟩;replace hi:i≤ns.length:=hi;obtain rfl:km=m.length:=hk;replace hI:m.length≤i:=hI;have hw:=wI i;simp only [hw,push_cast,simprocAttr];(repeat' (with_reducible (first|intro _|apply And.intro)))<;>(first|((try simp only [hw]);refine a7 (i+1,m ++ [_],m.length+1,_) ⟨by show i+1≤_;omega,by simp,by simp;omega⟩)|((try simp only [hw]);refine a7 (i+1,m,m.length,hr) ⟨by show i+1≤_;omega,rfl,by show m.length≤i+1;omega⟩)|(exact ⟨m,by omega,Lt.row rfl rfl rfl⟩)|omega)
theorem oN {Q:af→Prop} (t:a9) (id:Int) (hl:t.aD.length≤1099511627776) (hq:∀x∈t.aD,Q x.ba) (h0:Q default):EC prog 204 [.agg t.c,.int .u64 id] [] fun r N=>N=[]∧∃x:bw,Q x.ba∧r= .agg x.c:=by
 refine EC.bh ?_;refine nW ab (ca 204) func204 ntmps204 results204 ?_;(repeat' (with_reducible intro _));refine bV ab [1,2,4] 5 t.aD.length (fun i=>True) trivial (by omega) ?_;intro i hI hi hw;simp only [hw,push_cast,simprocAttr];have hmem:i < t.aD.length→t.aD.getD i default∈t.aD:=fun h=>bk h;(repeat' (with_reducible (first|intro _|apply And.intro)))<;>(first|omega|((try simp only [hw]);exact cO trivial)|(exact ⟨_,hq _ (hmem (by omega)),Lt.tk rfl⟩)|(exact ⟨_,h0,Lt.tk rfl⟩))
theorem oO {Q:af→Prop} (t:a9) (n:bB) (hl:t.aD.length≤1099511627776) (hq:∀x∈t.aD,Q x.ba) (h0:Q default):EC prog 181 [.agg t.c,.agg n.c] [] fun r N=>N=[]∧∃b:Bool,True∧r= .bool b:=by
 refine EC.bh ?_;refine nW ab (ca 181) func181 ntmps181 results181 ?_;(repeat' (first|(with_reducible intro hh;first|subst hh|(revert hh;intro _))|with_reducible apply And.intro|refine eK ab ?_|(refine EC.aM (oS t _ _ hl hq h0) ?_;rintro _ _)|(refine EC.aM (oN t _ hl hq h0) ?_;rintro _ _)|fail))<;>((exact ⟨_,Lt.bool rfl⟩))
theorem sP (l:List Int) (p:Int) (hl:l.length≤1000000000):EC prog 184 [bG 1 (aS .u64) default l,.int .u64 p] [] fun r N=>N=[]∧∃m:List Int,m.length≤l.length∧r=bG 1 (aS .u64) default m:=by
 refine EC.bh ?_;refine nW ab (ca 184) func184 ntmps184 results184 ?_;(repeat' (done));refine cw 5 42 1 rfl ?_;intro hh;refine aT ab [0,1] (fun s:Nat×List (Int)×Nat×aN=>[(6,.int .i64 s.1),(5,.row 0 s.2.2.2 1 0 s.2.2.1)]) (fun B s=>cW B 0 s.2.2.2 (s.2.1.map (aS .u64))) (fun s=>s.1≤l.length∧s.2.2.1=s.2.1.length∧(s.2.1.length≤s.1)) (fun s=>l.length - s.1) (0,[],0,hh) ⟨zero_le _,rfl,le_refl _⟩ ?_;rintro ⟨i,m,km,hr⟩ ⟨hi,hk,hI⟩;replace hi:i≤l.length:=hi;obtain rfl:km=m.length:=hk;replace hI:m.length≤i:=hI;have hw:=wI i;simp only [hw,push_cast,simprocAttr];(repeat' (with_reducible (first|intro _|apply And.intro)))<;>(first|((try simp only [hw]);refine a7 (i+1,m ++ [_],m.length+1,_) ⟨by show i+1≤_;omega,by simp,by simp;omega⟩)|((try simp only [hw]);refine a7 (i+1,m,m.length,hr) ⟨by show i+1≤_;omega,rfl,by show m.length≤i+1;omega⟩)|(exact ⟨m,by omega,Lt.row rfl rfl rfl⟩)|omega)
end
section
attribute [local irreducible] EC EV gW cc cK dT
attribute [local push_cast] CK eO dG eu gS length_range bM
theorem mQ.mono {Q:af→Prop} {n k:Nat} {e:bg} (h:mQ Q n e) (hk:n≤k):mQ Q k e:=⟨h.1,h.2.1,h.2.2.1,le_trans h.2.2.2 hk⟩
theorem q_.mono {Q:af→Prop} {n k:Nat} {d:aW} (h:q_ Q n d) (hk:n≤k):q_ Q k d:=⟨le_trans h.ln hk,fun e he=>(h.e e he).mono hk⟩
theorem jB.mono {Q:af→Prop} {n k:Nat} {s:aj} (h:jB Q n s) (hk:n≤k):jB Q k s:=⟨le_trans h.tl hk,h.tq,h.dr.mono hk,le_trans h.hl hk,h.nl,h.pn⟩
structure gd (Q:af→Prop) (N:Nat) (s y:aj):Prop where
 ok:jB Q N y
 al:y.bD=s.bD
 vw:y.ea=s.ea
 nd:y.aD.bW=s.aD.bW
theorem gd.refl {Q:af→Prop} {n:Nat} {s:aj} (h:jB Q n s):gd Q n s s:=⟨h,rfl,rfl,rfl⟩
theorem gd.mono {Q:af→Prop} {n k:Nat} {s y:aj} (h:gd Q n s y) (hk:n≤k):gd Q k s y:=⟨h.ok.mono hk,h.al,h.vw,h.nd⟩
theorem gd.trans {Q:af→Prop} {n k:Nat} {s y z:aj} (h:gd Q n s y) (g:gd Q k y z):gd Q k s z:=⟨g.ok,g.al.trans h.al,g.vw.trans h.vw,g.nd.trans h.nd⟩
theorem gd.tk {Q:af→Prop} {n k:Nat} {s y:aj} {t:a9} (h:gd Q n s y) (ht:yA Q k y.aD t):gd Q (n+k) s {y with aD:=t}:=
 ⟨⟨le_trans ht.ln (Nat.add_le_add_right h.ok.tl _),ht.q,h.ok.dr.mono (le_add_right _ _),le_trans h.ok.hl (le_add_right _ _),h.ok.nl,h.ok.pn⟩,h.al,h.vw,ht.nd.trans h.nd⟩
theorem gd.task {Q:af→Prop} {n:Nat} {s y:aj} {t:eg} (h:gd Q n s y) (h1:t.kU.length≤400) (h2:0≤t.Pinned):gd Q n s {y with Task:=t}:=
 ⟨⟨h.ok.tl,h.ok.tq,h.ok.dr,h.ok.hl,h1,h2⟩,h.al,h.vw,h.nd⟩
theorem gd.host {Q:af→Prop} {n:Nat} {s y:aj} {l:List Int} (h:gd Q n s y) (h1:l.length≤n):gd Q n s {y with cT:=l}:=
 ⟨⟨h.ok.tl,h.ok.tq,h.ok.dr,h1,h.ok.nl,h.ok.pn⟩,h.al,h.vw,h.nd⟩
theorem gd.dir {Q:af→Prop} {n k:Nat} {s y:aj} {d:aW} (h:gd Q n s y) (hk:n≤k) (h1:q_ Q k d):gd Q k s {y with dq:=d}:=
 ⟨⟨le_trans h.ok.tl hk,h.ok.tq,h1,le_trans h.ok.hl hk,h.ok.nl,h.ok.pn⟩,h.al,h.vw,h.nd⟩
theorem dU.mono {Q:af→Prop} {n k:Nat} {l:List aA} (h:dU Q n l) (hk:n≤k):dU Q k l:=⟨le_trans h.ln hk,h.q⟩
theorem bE.uY {m:Nat} {B:List aI} {n:a9}:bE m B (.agg n.c) (.agg n.c):=bE.obj (fun s B=>by rw [a9.fk]) (fun s B=>by rw [a9.fz])
theorem ue (s:aj) (hh:0 < s.cT.length) (hl:s.cT.length≤1099511627776):EC prog 180 [.agg s.c] [] fun r N=>N=[]∧∃p:Int,True∧r= .agg (aj.c {s with Task:={(default:eg) with ae:=p},FG:=p}):=by
 refine EC.bh ?_;refine nW ab (ca 180) func180 ntmps180 results180 ?_;(repeat' (with_reducible intro _));refine bV ab [1,2] 3 s.cT.length (fun i=>True) trivial (by omega) ?_;intro i hI hi hw;simp only [hw,push_cast,simprocAttr];(repeat' (first|with_reducible (first|intro _|apply And.intro)|refine dN ab [] [] [0,1,2,3,4,5,6,7,8,9,10,11,12,13,14] bZ fun R hR=>?_|(refine hR _ _ ?_;refine sA ?_)|fail))<;>(first|omega|skip)
 all_goals
  (repeat' (first|with_reducible (first|intro _|apply And.intro)|refine dM ab 11 [0] [0,2,6,8] bZ fun R hR=>?_|refine bT ab 1 7 ?_ ?_|refine dP ab 7 [3,4,5] ?_|refine dC ab 7 ?_|refine dP ab 8 [9,10] ?_|refine dC ab 1 ?_|refine dR ab [9,10,11,12,13,14] ?_|refine dR ab [3,4,5,11,12,13,14] ?_|(refine hR _ _ ?_;refine sA ?_)|refine wA ab ?_|fail))<;>(first|(have hz:=‹((i:Int) == _)=false›;simp at hz;omega)|omega|(exact ⟨_,Lt.n_ rfl⟩)|skip)
 all_goals
  have hz:=‹(decide ((i:Int) < _) && _)=true›;simp only [Bool.and_eq_true,decide_eq_true_eq] at hz;(try simp only [hw]);exact cO trivial (by omega)
def ov (x:aj×List aA×Int):SV:= .bS [.agg x.1.c,bG 45 aA.c default x.2.1,.int .i64 x.2.2]
def oa (x:aj×List aA):SV:= .bS [.agg x.1.c,bG 45 aA.c default x.2]
section
variable {Q:af→Prop} {N:Nat} (st:aj) (nodes:List Int) (hs:jB Q N st) (hN:N≤900000000) (hl:nodes.length≤1000000) (h0:Q default) (hQ:∀o,Q o→mh o)
include hs hN hl h0
theorem qd (o:aj) (n:bB) (ho:gd Q N st o):EC prog 182 [.agg o.c,.agg st.c,.agg n.c,bG 1 (aS .i64) default nodes] [] fun r N'=>N'=[]∧∃x:aj×List aA×Int,(gd Q (N+1) st x.1∧dU Q 1 x.2.1∧x.2.2=1)∧r=ov x:=by
 have htl:=hs.tl;refine EC.bh ?_;refine nW ab (ca 182) func182 ntmps182 results182 ?_;(repeat' (first|with_reducible (first|intro _|apply And.intro)|(refine EC.aM (jS nodes _ (by omega)) ?_;rintro _ _)|((refine EC.aM (xG st.aD (by omega) hs.tq h0 _ _ _) ?_;rintro ⟨t,ms,e⟩ ht))|refine dM ab 10 [] [0,1,2,3,4,5,6,7,8] bZ fun R hR=>?_|refine bT ab 9 15 ?_ ?_|refine bT ab 10 15 ?_ ?_|refine dR ab [9,10,11,12,13,14,16,17,18] ?_|refine dR ab [10,11,12,13,14,16,17,18] ?_|refine dR ab [11,12,13,14,16,17,18] ?_|refine dR ab [11,12,13,14,15,16,17,18] ?_|(refine hR _ _ ?_;refine sA ?_)|refine wA ab ?_|fail))<;>(first|(refine ⟨(o,[],1),⟨ho.mono (le_succ _),dU.nil,rfl⟩,Lt.t3 (a6.n_ rfl) a6.nil a6.int⟩)|(refine ⟨({st with aD:=t},ms,1),⟨(gd.refl hs).tk (ht ?_).1,(ht ?_).2,rfl⟩,Lt.t3 (a6.n_ rfl) (a6.bG) a6.int⟩<;>(simp_all;done)))
theorem nX:EC prog 202 [.agg st.c,bG 1 (aS .i64) default nodes] [] fun r N'=>∃x:(aj×List aA)×aN,(gd Q N st x.1.1∧dU Q N x.1.2)∧r= .bS [.agg x.1.1.c,.row 0 x.2 45 0 x.1.2.length]∧N'=[.row x.2 179 45 (x.1.2.map aA.c)]:=by
 have htl:=hs.tl;refine EC.G' (α:=aj) (A:=fun x=> .agg x.c) (T:=fun _=>[]) (C:=fun x=>gd Q N st x.1∧dU Q N x.2) ?_;refine nW ab (ca 202) func202 ntmps202 results202 ?_;(repeat' (with_reducible intro _));refine cw 6 3 1 rfl ?_;intro hh;refine aT ab [1,2,4,5] (fun s:Nat×List (Int)×Nat×aN=>[(7,.int .i64 s.1),(6,.row 2 s.2.2.2 1 0 s.2.2.1)]) (fun B s=>cW B 2 s.2.2.2 (s.2.1.map (aS .i64))) (fun s=>s.1≤st.aD.aD.length∧s.2.2.1=s.2.1.length∧(s.2.1.length≤s.1)) (fun s=>st.aD.aD.length - s.1) (0,[],0,hh) ⟨zero_le _,rfl,le_refl _⟩ ?_;rintro ⟨i,m,km,hr⟩ ⟨hi,hk,hI⟩;replace hi:i≤st.aD.aD.length:=hi;obtain rfl:km=m.length:=hk;replace hI:m.length≤i:=hI;have hw:=wI i;simp only [hw,push_cast,simprocAttr];(repeat' (first|with_reducible (first|intro _|apply And.intro)|refine eK ab ?_|(refine EC.aM (jS nodes _ (by omega)) ?_;rintro _ _)|((refine EC.mu 2 (d_.two bE.uY (d_.mi (cells:=aS .i64) (d:=default) (l:=m) (le_refl _) rfl rfl rfl .nil)) ?_;refine EC.qz (σ:=((a9×Int)×List aA)×aN) (C:=fun x=>(x.1.1.2=0→yA Q 0 st.aD x.1.1.1∧dU Q st.aD.aD.length x.1.2)) (R:=fun x i=> .bS [.agg x.1.1.1.c,.row i x.2 45 0 x.1.2.length,.int .i64 x.1.1.2]) (N:=fun x=>[.row x.2 179 45 (x.1.2.map aA.c)]) (ui st.aD (by omega) hs.tq h0 m (by omega)) (fun _ _=>bq.bS (.cons (bq.refl _) (.cons bq.row (.cons (bq.refl _) .nil)))) ?_;rintro ⟨⟨⟨t,e⟩,ms⟩,hh⟩ ht))|fail))<;>(first|((try simp only [hw]);refine a7 (i+1,m ++ [_],m.length+1,_) ⟨by show i+1≤_;omega,by simp,by simp;omega⟩)|((try simp only [hw]);refine a7 (i+1,m,m.length,hr) ⟨by show i+1≤_;omega,rfl,by show m.length≤i+1;omega⟩)|(exact ⟨(st,[]),⟨gd.refl hs,dU.nil⟩,_,rfl,vr.nil⟩)|(refine ⟨({st with aD:=t},ms),⟨(gd.refl hs).tk (k:=0) (ht ?_).1,(ht ?_).2.mono htl⟩,_,rfl,vr.row rfl rfl rfl⟩<;>(simp_all;done))|omega)
theorem vU:EC prog 202 [.agg st.c,bG 1 (aS .i64) default nodes] [] fun r N'=>N'=[]∧∃x:aj×List aA,(gd Q N st x.1∧dU Q N x.2)∧r=oa x:=by
 refine EC.bh ((nX st nodes hs hN hl h0).mono ?_);rintro r N' ⟨x,h1,rfl,rfl⟩;exact ⟨x.1,h1,Lt.t2 (a6.n_ rfl) (a6.row rfl rfl rfl)⟩
theorem l_:EC prog 132 [.agg st.c,bG 1 (aS .i64) default nodes] [] fun r N'=>∃x:(aj×List aA)×aN,(gd Q N st x.1.1∧dU Q N x.1.2)∧r= .bS [.agg x.1.1.c,.row 0 x.2 45 0 x.1.2.length]∧N'=[.row x.2 179 45 (x.1.2.map aA.c)]:=by
 have hz:jB Q N {st with Task:=default}:=((gd.refl hs).task (t:=default) (zero_le _) (Int.le_refl _)).ok;refine EC.G' (α:=aj) (A:=fun x=> .agg x.c) (T:=fun _=>[]) (C:=fun x=>gd Q N st x.1∧dU Q N x.2) ?_;refine nW ab (ca 132) func132 ntmps132 results132 ?_;(repeat' (first|with_reducible intro _|refine eK ab ?_|((refine EC.qz (σ:=(aj×List aA)×aN) (C:=fun x=>gd Q N {st with Task:=default} x.1.1∧dU Q N x.1.2) (R:=fun x i=> .bS [.agg x.1.1.c,.row i x.2 45 0 x.1.2.length]) (N:=fun x=>[.row x.2 179 45 (x.1.2.map aA.c)]) (nX _ nodes hz hN hl h0) (fun _ _=>bq.bS (.cons (bq.refl _) (.cons bq.row .nil))) ?_;rintro ⟨⟨y,ms⟩,hh⟩ ⟨hy,hm⟩))|fail))<;>((exact ⟨(y,ms),⟨⟨hy.ok,hy.al,hy.vw,hy.nd⟩,hm⟩,_,rfl,vr.row rfl rfl rfl⟩))
theorem jL:EC prog 132 [.agg st.c,bG 1 (aS .i64) default nodes] [] fun r N'=>N'=[]∧∃x:aj×List aA,(gd Q N st x.1∧dU Q N x.2)∧r=oa x:=by
 refine EC.bh ((l_ st nodes hs hN hl h0).mono ?_);rintro r N' ⟨x,h1,rfl,rfl⟩;exact ⟨x.1,h1,Lt.t2 (a6.n_ rfl) (a6.row rfl rfl rfl)⟩
end
end
section
attribute [local irreducible] EC EV gW cc cK dT
attribute [local push_cast] eO dG eu gS length_range bM
def se (n:Int) (s:aG) (c:bJ):Bool:=c.bW == n && (cc s c.ID).2 && (cc s c.ID).1.aU !=9
def HV (s:aG) (c:bJ):bw:={(default:bw) with ID:=(cc s c.ID).1.ID,gb:=c.gb,ba:=(cc s c.ID).1}
def ot (n:Int) (s:aG) (l:List bJ):List bw:=(l.filter (se n s)).map (HV s)
theorem Iy {s:aG} {id:Int} (h:(cc s id).2=true):∃o∈s.ah,o.ID=id:=by
 unfold cc at h
 cases hf:s.ah.find? (fun o=>o.ID == id) with
 |none=>rw [hf] at h;cases h
 |some o=>exact ⟨o,List.mem_of_find?_eq_some hf,by simpa using List.find?_some hf⟩
theorem CR {α:Type} [DecidableEq α] {l m:List α} (h:l.Nodup) (hs:∀x∈l,x∈m):l.length≤m.length:=by
 induction l generalizing m with
 |nil=>simp
 |cons x l ih=>
  have hx:=hs x (List.mem_cons_self ..);have hn:=List.nodup_cons.1 h;have h2:=ih (m:=m.erase x) hn.2 fun y hy=>by
   refine (List.mem_erase_of_ne ?_).2 (hs y (List.mem_cons_of_mem _ hy));rintro rfl;exact hn.1 hy
  have h3:=List.length_erase_of_mem hx;have h4:0 < m.length:=List.length_pos_of_mem hx;simp;omega
theorem AY {n:Int} {s:aG} {l a:List bJ} {i:Nat} (h:DY l i a):(ot n s a).length≤2*s.ah.length:=by
 have hnd:(((a.filter (se n s)).map fun c=>(c.ID,c.gb))).Nodup:=by
  rw [List.nodup_iff_pairwise_ne,List.pairwise_map];have h1:(a.filter (se n s)).Nodup:=h.nd.filter _;rw [List.nodup_iff_pairwise_ne] at h1;refine h1.imp_of_mem fun {x y} hx hy hxy e=>hxy ?_;have hx1:=(List.mem_filter.1 hx).2;have hy1:=(List.mem_filter.1 hy).2;simp only [se,Bool.and_eq_true,beq_iff_eq] at hx1 hy1;simp only [Prod.mk.injEq] at e;exact bJ.ext (hx1.1.1.trans hy1.1.1.symm) e.2 e.1
 have hsub:∀p∈((a.filter (se n s)).map fun c=>(c.ID,c.gb)),p∈(s.ah.flatMap fun o=>[(o.ID,(1:Int)),(o.ID,2)]):=by
  intro p hp;obtain ⟨c,hc,rfl⟩:=List.mem_map.1 hp;obtain ⟨hc1,hc2⟩:=List.mem_filter.1 hc;simp only [se,Bool.and_eq_true,beq_iff_eq] at hc2;obtain ⟨o,ho,he⟩:=Iy hc2.1.2;rw [List.mem_flatMap];refine ⟨o,ho,?_⟩;rcases h.md c hc1 with hm|hm<;>simp [he,hm]
 have:=CR hnd hsub;have hl:(s.ah.flatMap fun o=>[(o.ID,(1:Int)),(o.ID,2)]).length=2*s.ah.length:=by
  generalize s.ah=L
  induction L with
  |nil=>rfl
  |cons x L ih=>simp only [List.flatMap_cons,List.length_append,ih,length_cons,length_nil];omega
 rw [hl] at this;simpa [ot] using this
theorem HW {n:Int} {s:aG} {l:List bJ}:(ot n s l).length≤l.length:=by simp only [ot,List.length_map];exact List.length_filter_le _ _
theorem F2 {n:Int} {s:aG}:ot n s []=[]:=rfl
theorem KM {Q:af→Prop} {n:Int} {s:aG} {l:List bJ} (hs:∀o∈s.ah,Q o) (h0:Q default):∀t∈ot n s l,Q t.ba:=by
 intro t ht;obtain ⟨c,hc,rfl⟩:=List.mem_map.1 ht;exact sH hs h0
theorem Ee {n:Int} {s:aG} {a:List bJ} {i:Nat} (hi:i < a.length):ot n s (a.take (i+1))=ot n s (a.take i) ++ (if se n s (a.getD i default)=true then [HV s (a.getD i default)] else []):=by
 have e:a.getD i default=a[i]:=by simp [getD,hi]
 rw [ot,take_add_one,List.filter_append,map_append];simp only [hi,List.getElem?_eq_getElem,Option.toList_some,e];by_cases hp:se n s a[i]=true
 ·simp [filter_cons,hp,ot]
 ·simp [filter_cons,hp,ot]
attribute [local irreducible] ot se HV
theorem LY:E6.zr 76=E.zr 76:=rfl
attribute [push_cast] LY
theorem t_ (n:Int) (s0:aG) (l:List bJ) (hl:l.length≤100000000000) (hs:s0.ah.length≤400000000):EC prog 157 [.int .i64 n,.agg s0.c,bG 3 bJ.c default l] [] fun r N=>N=[]∧∃a:List bJ,DY l l.length a∧r= .agg (a9.mk n (ot n s0 a)).c:=by
 refine EC.bh ?_;(refine nW lW (ca 157) func157 ntmps157 results157 ?_);(repeat' (first|with_reducible (first|intro _|apply And.intro)|refine eK lW ?_|((refine EC.aM (nT l hl) ?_;rintro a ha))|fail))<;>(first|rfl|skip);have hal:=ha.ln;have htl:=AY (n:=n) (s:=s0) ha;refine eY 2 0 1 205 41 (by simp) rfl rfl rfl ?_;intro hh;simp only [set_cons_succ,set_cons_zero,length_cons,length_nil,cons_append,nil_append,zero_add,Nat.reduceAdd];refine aT lW [0,2,4,6,7] (fun s:Nat×List bw×Nat×aN=>[(8,.int .i64 s.1)]) (fun B s=>cW (cP B 2 [[.int .i64 n,.row 3 s.2.2.2 41 0 s.2.2.1]]) 3 s.2.2.2 (s.2.1.map bw.c)) (fun s=>s.1≤a.length∧s.2.2.1=s.2.1.length∧s.2.1=ot n s0 (a.take s.1)) (fun s=>a.length - s.1) (0,[],0,hh) ⟨zero_le _,rfl,F2.symm⟩ ?_;rintro ⟨i,m,km,hr⟩ ⟨hi,hk,hm⟩;replace hi:i≤a.length:=hi;obtain rfl:km=m.length:=hk;replace hm:m=ot n s0 (a.take i):=hm;have hml:m.length≤a.length:=by rw [hm];exact le_trans HW (by simp;omega)
 have hw:=wI i;have hsc:=Ee (n:=n) (s:=s0) (a:=a) (i:=i);simp only [hw,push_cast,simprocAttr];(repeat' (first|with_reducible (first|intro _|apply And.intro)|refine EC.use (cL s0 _ (by omega)) ?_|refine dM lW 7 [] [0,1,2,3,4,5] bZ fun R hR=>?_|refine dJ lW 4 [14] [3] [0,1,2,3,4,5,6,7,8,9,10] bZ fun R hR=>?_|refine bT lW 6 10 ?_ ?_|refine dR lW [7,8,9,10,11,12] ?_|refine dR lW [6,7,8,9,11,12] ?_|refine dR lW [7,8,9,11,12] ?_|refine kh lW 11 ?_|refine kh lW 12 ?_|refine dR lW [13,14] ?_|(refine hR _ _ ?_;refine sA ?_)|refine wA lW ?_|fail))<;>(first|omega|(have hz:=‹decide ((i:Int) < _)=false›;simp at hz;(have e:i=a.length:=(by omega));rw [e,take_length] at hm;subst hm;exact ⟨a,ha,Lt.uY rfl rfl rfl⟩)|skip)
 all_goals
  (try simp only [hw])
  first
   |(have hp:se n s0 (a.getD i default)=true:=by unfold se;assumption
     rw [if_pos hp] at hsc;refine a7 (i+1,m ++ [_],m.length+1,_) ⟨by show i+1≤_;omega,by simp,?_⟩;show m ++ [_]=_;rw [hsc (by omega),←hm];unfold HV
     rfl)
   |(have hp:se n s0 (a.getD i default)=false:=by unfold se;assumption
     rw [hp] at hsc;refine a7 (i+1,m,m.length,hr) ⟨by show i+1≤_;omega,rfl,?_⟩;show m=_;rw [hsc (by omega),hm]
     simp)
end
section
attribute [local irreducible] EC EV gW cc cK dT
attribute [local push_cast] CK Dz oa ov eO dG eu gS length_range bM
theorem qi {Q:af→Prop} (t:a9) (hl:t.aD.length≤1073741824) (hq:∀x∈t.aD,Q x.ba) (h0:Q default) (id:Int) (o:af) (ho:Q o):EC prog 148 [.agg t.c,.int .u64 id,.agg o.c] [] fun r N=>N=[]∧∃x:a9×Int,(x.2=0→yA Q 1 t x.1)∧r= .bS [.agg x.1.c,.int .i64 x.2]:=
 (rJ t hl hq h0 id o ho).mono fun r N ⟨h1,x,h2,_,h3⟩=>⟨h1,x,h2,h3⟩
section
variable {Q:af→Prop} {N:Nat} (st:aj) (nodes:List Int) (hs:jB Q N st) (hN:N≤800000000) (hl:nodes.length≤1000000) (h0:Q default)
include hs hN hl h0
theorem sQ (m:aA) (hm:Q m.ba):EC prog 145 [.agg st.c,.agg m.c,bG 1 (aS .i64) default nodes] [] fun r N'=>N'=[]∧∃x:aj×List aA×Int,(gd Q (N+1) st x.1∧dU Q 10000000000 x.2.1)∧r=ov x:=by
 have _:=hl;have htl:=hs.tl;have hN2:N≤900000000:=by omega
 refine EC.bh ?_;refine nW ab (ca 145) func145 ntmps145 results145 ?_;(repeat' (first|with_reducible (first|intro _|apply And.intro)|refine eK ab ?_|((refine EC.aM (Ab st.dq _ _ _ hs.dr hN2 h0) ?_;rintro ⟨d,ms,e⟩ hd))|((refine EC.aM (uk st.dq _ _ m.ba hm hs.dr hN2 h0) ?_;rintro ⟨d,ms,e⟩ hd))|((refine EC.aM (v3 st.aD (by omega) hs.tq h0 m hm) ?_;rintro ⟨t,e⟩ ht))|((refine EC.aM (uj st.aD (by omega) hs.tq h0 m) ?_;rintro ⟨t,ms,e⟩ ht))|fail))<;>(first|(exact ⟨(st,[],_),⟨(gd.refl hs).mono (le_succ _),dU.nil⟩,Lt.t3 (a6.n_ rfl) a6.nil a6.int⟩)|(have he:e=0:=(by simpa using ‹(e !=0)=false›);first|(exact ⟨({st with dq:=d},ms,0),⟨(gd.refl hs).dir (le_succ _) (hd he).1,(hd he).2⟩,Lt.t3 (a6.n_ rfl) a6.bG a6.int⟩)|(exact ⟨({st with aD:=t},ms,0),⟨(gd.refl hs).tk (ht he).1,(ht he).2.mono (by omega)⟩,Lt.t3 (a6.n_ rfl) a6.bG a6.int⟩)|(exact ⟨({st with aD:=t},[],0),⟨(gd.refl hs).tk (ht he),dU.nil⟩,Lt.t3 (a6.n_ rfl) a6.nil a6.int⟩)))
theorem nY (a b:aG) (ha:a.ah.length≤1000000) (hb:b.ah.length≤1000000) (haq:∀o∈a.ah,Q o) (hbq:∀o∈b.ah,Q o) (hQ:∀o,Q o→mh o):EC prog 134 [.agg st.c,.agg a.c,.agg b.c,bG 1 (aS .i64) default nodes] [] fun r N'=>N'=[]∧∃x:aj×List aA,(gd Q (N+b.ah.length+a.ah.length) st x.1∧dU Q (N+b.ah.length+a.ah.length) x.2)∧r=oa x:=by
 refine EC.bh ?_;refine nW ab (ca 134) func134 ntmps134 results134 ?_;(repeat' (first|with_reducible intro _|refine eK ab ?_|((refine EC.aM (jT a b (by omega) (by omega) (fun o ho=>hQ _ (haq o ho)) (fun o ho=>hQ _ (hbq o ho)) (hQ _ h0)) ?_;rintro ⟨pt,gn⟩ ⟨⟨hpl,hpm⟩,hgl,-⟩))|fail));replace hpl:pt.length≤b.ah.length:=hpl;replace hpm:∀o∈pt,o∈b.ah:=hpm;replace hgl:gn.length≤a.ah.length:=hgl;refine aT ab [3,4,8,10,11] (fun s:Nat×aj=>[(12,.int .i64 s.1)]) (fun B s=>cP B 0 [s.2.c]) (fun s=>s.1≤pt.length∧gd Q (N+s.1) st s.2) (fun s=>pt.length - s.1) (0,st) ⟨zero_le _,gd.refl hs⟩ ?_;rintro ⟨i,y⟩ ⟨hi,hy⟩;replace hi:i≤pt.length:=hi;replace hy:gd Q (N+i) st y:=hy;have hyt:=hy.ok.tl;have hw:=wI i;have hmem:i < pt.length→Q (pt.getD i default):=fun h=>hbq _ (hpm _ (bk h));simp only [hw,push_cast,simprocAttr];(repeat' (first|with_reducible (first|intro _|apply And.intro)|refine eK ab ?_|(refine EC.aM (oN y.aD _ (by omega) hy.ok.tq h0) ?_;rintro _ _)|((refine EC.aM (qi y.aD (by omega) hy.ok.tq h0 _ (pt.getD i default) (hmem (by omega))) ?_;rintro ⟨t,e⟩ ht))|((refine EC.aM (mB y.aD (by omega) hy.ok.tq h0 (pt.getD i default) (hmem (by omega))) ?_;rintro ⟨t,e⟩ ht))|fail))<;>(first|omega|((try simp only [hw]);first|(have he:e=0:=(by simpa using ‹(e == 0)=true›);exact a7 (i+1,{y with aD:=t}) ⟨by show i+1≤_;omega,hy.tk (by first|exact ht.1 he|exact ht he)⟩)|(exact a7 (i+1,y) ⟨by show i+1≤_;omega,hy.mono (le_succ _)⟩))|skip);have hip:i=pt.length:=by have hz:=‹decide ((i:Int) < _)=false›;simp at hz;omega
 subst hip;refine aT ab [3,4,8,11] (fun s:Nat×aj=>[(16,.int .i64 s.1)]) (fun B s=>cP B 0 [s.2.c]) (fun s=>s.1≤gn.length∧gd Q (N+pt.length+s.1) st s.2) (fun s=>gn.length - s.1) (0,y) ⟨zero_le _,hy⟩ ?_;rintro ⟨k,z⟩ ⟨hk,hz⟩;replace hk:k≤gn.length:=hk;replace hz:gd Q (N+pt.length+k) st z:=hz;have hzt:=hz.ok.tl;have hw2:IntKind.i64.wrap ((k:Int)+1)=((k+1:Nat):Int):=by rw [bu (by omega)];omega
 have hz0:jB Q (N+pt.length+k) {z with Task:=default}:=(hz.task (t:=default) (zero_le _) (Int.le_refl _)).ok;simp only [hw2,push_cast,simprocAttr];(repeat' (first|with_reducible (first|intro _|apply And.intro)|refine eK ab ?_|((refine EC.aM (qi z.aD (by omega) hz.ok.tq h0 _ default h0) ?_;rintro ⟨t,e⟩ ht))|((refine EC.aM (vU _ nodes hz0 (by omega) hl h0) ?_;rintro ⟨w,ms⟩ ⟨hw3,hms⟩))|refine dM ab 7 [] [0,1,2,3,4,5,6] bZ fun R hR=>?_|refine bT ab 7 11 ?_ ?_|refine dR ab [8,9,10,11,12,13] ?_|refine dR ab [7,8,9,10,12,13] ?_|refine dR ab [8,9,10,12,13] ?_|(refine hR _ _ ?_;refine sA ?_)|refine wA ab ?_|fail))<;>(first|omega|((try simp only [hw2]);first|(have he:e=0:=(by simpa using ‹(e == 0)=true›);exact a7 (k+1,{z with aD:=t}) ⟨by show k+1≤_;omega,hz.tk (ht he)⟩)|(exact a7 (k+1,z) ⟨by show k+1≤_;omega,hz.mono (le_succ _)⟩))|(exact ⟨(w,ms),⟨⟨hw3.ok.mono (by omega),hw3.al.trans hz.al,hw3.vw.trans hz.vw,hw3.nd.trans hz.nd⟩,hms.mono (by omega)⟩,Lt.t2 (a6.n_ rfl) a6.bG⟩))
end
end
section
attribute [local irreducible] EC EV gW cc cK dT
attribute [local push_cast] CK Dz oa ov eO dG eu gS length_range bM
theorem Lt.KP {B:List aI} {i n E:Nat} {h:aN} {xs:List (List SV)} {l:List af} (hB:au B i= .row h E 36 xs) (hx:xs=l.map af.c) (hn:n=l.length):Lt B (.agg [.row i h 36 0 n]) (.agg (aG.mk l).c):=
 Lt.agg ((eU.obj (cs:=(aG.mk []).c) (fun s B=>by rw [aG.fk]) (fun s B=>by rw [aG.fz])).put 0 (gY.row hB hx hn) (aG.p0 _ _))
theorem vW {Q:af→Prop} {N:Nat} (st:aj) (hs:jB Q N st) (hN:N≤800000000) (h0:Q default):EC prog 130 [.agg st.c] [] fun r N'=>N'=[]∧∃m:List af,(m.length≤400∧∀o∈m,Q o)∧r= .agg (aG.mk m).c:=by
 have htl:=hs.tl;have hnl:=hs.nl;refine EC.bh ?_;(refine nW qy (ca 130) func130 ntmps130 results130 ?_);(repeat' (with_reducible intro _));refine eY 2 0 0 76 36 (by simp) rfl rfl rfl ?_;intro hh;simp only [set_cons_succ,set_cons_zero,length_cons,length_nil,cons_append,nil_append,zero_add,Nat.reduceAdd];refine aT qy [1,2,3] (fun s:Nat×List af×Nat×aN=>[(4,.int .i64 s.1)]) (fun B s=>cW (cP B 2 [[.row 3 s.2.2.2 36 0 s.2.2.1]]) 3 s.2.2.2 (s.2.1.map af.c)) (fun s=>s.1≤st.Task.kU.length∧s.2.2.1=s.2.1.length∧s.2.1.length≤s.1∧∀o∈s.2.1,Q o) (fun s=>st.Task.kU.length - s.1) (0,[],0,hh) ⟨zero_le _,rfl,le_refl _,fun o h=>(nomatch h)⟩ ?_;rintro ⟨i,m,km,hr⟩ ⟨hi,hk,hm,hq⟩;replace hi:i≤st.Task.kU.length:=hi;obtain rfl:km=m.length:=hk;replace hm:m.length≤i:=hm;replace hq:∀o∈m,Q o:=hq;have hw:=wI i;simp only [hw,push_cast,simprocAttr];(repeat' (first|with_reducible (first|intro _|apply And.intro)|((refine EC.aM (gp st.aD _ (by omega) hs.tq h0) ?_;rintro ⟨o,e⟩ ho))|refine dM qy 7 [] [0,1,2,3,4,5,6,7,8] bZ fun R hR=>?_|refine bT qy 9 13 ?_ ?_|refine dR qy [10,11,12,13,14,15] ?_|refine dR qy [9,10,11,12,14,15] ?_|refine dR qy [10,11,12,14,15] ?_|(refine hR _ _ ?_;refine sA ?_)|refine wA qy ?_|fail))<;>(first|((try simp only [hw]);first|(refine a7 (i+1,m ++ [o],m.length+1,_) ⟨by show i+1≤_;omega,by simp,by simp;omega,fun x hx=>?_⟩;rcases List.mem_append.1 hx with hx|hx;exact hq x hx;rw [List.mem_singleton.1 hx];exact ho)|(exact a7 (i+1,m,m.length,hr) ⟨by show i+1≤_;omega,rfl,by show m.length≤i+1;omega,hq⟩))|(exact ⟨m,⟨by omega,hq⟩,Lt.KP rfl rfl rfl⟩)|omega)
section
variable {Q:af→Prop} {N:Nat} (st:aj) (nodes:List Int) (hs:jB Q N st) (hN:N≤800000000) (hl:nodes.length≤1000000) (h0:Q default) (hQ:∀o,Q o→mh o)
include hs hN hl h0 hQ
theorem uf:EC prog 124 [.agg st.c,bG 1 (aS .i64) default nodes] [] fun r N'=>N'=[]∧∃x:aj×List aA×Int,(gd Q (N+402) st x.1∧dU Q (N+402) x.2.1)∧r=ov x:=by
 have hhl:=hs.hl;refine EC.bh ?_;refine EC.iU ab (ca 124) func124 rfl (by simp [ntmps124]) ?_;simp only [ntmps124,results124,fL];refine bR ab ?_;refine sA ?_;intro fr0;refine bR ab ?_;refine sA ?_;intro fr1;refine Ci (σ:=aj) [1,2,4,7] (fun s=>[]) (fun B s=>cP B 0 [s.c]) (fun s=>gd Q N st s) ?_ ?_;rotate_left 1
 ·refine bN ab ?_;refine sA ?_;(repeat' (first|with_reducible (first|intro _|apply And.intro)|refine eK ab ?_|((refine EC.aM (ue st (by have hz:=‹((st.cT.length:Int) == 0)=false›;simp at hz;exact List.length_pos_iff.2 hz) (by omega)) ?_;rintro p -))|fail))<;>(first|(exact ⟨(st,[],0),⟨(gd.refl hs).mono (by omega),dU.nil⟩,Lt.t3 (a6.n_ rfl) a6.nil a6.int⟩)|(exact gg {st with Task:={(default:eg) with ae:=p},FG:=p} ⟨⟨hs.tl,hs.tq,hs.dr,hs.hl,zero_le _,Int.le_refl _⟩,rfl,rfl,rfl⟩)|(exact gg st (gd.refl hs)))
 rintro s1 hs1;simp only [bK,dd,push_cast,simprocAttr];refine bR ab ?_;refine sA ?_;refine ⟨fun hc=>?_,fun hc=>?_⟩
 ·exact ⟨(s1,[],_),⟨hs1.mono (by omega),dU.nil⟩,Lt.t3 (a6.n_ rfl) a6.nil a6.int⟩
 refine bR ab ?_;refine sA ?_;have htl1:=hs1.ok.tl;have hhl1:=hs1.ok.hl;refine Ci (σ:=aj) [1,2,4,7,8] (fun s=>[]) (fun B s=>cP B 0 [s.c]) (fun s=>gd Q N st s) ?_ ?_;rotate_left 1
 ·refine bN ab ?_;refine sA ?_;(repeat' (first|(with_reducible intro hh;first|subst hh|(revert hh;intro _))|with_reducible apply And.intro|refine eK ab ?_|(refine EC.aM (oO s1.aD _ (by omega) hs1.ok.tq h0) ?_;rintro _ _)|((refine EC.aM (qd s1 nodes hs1.ok (by omega) hl h0 st _ ⟨hs,hs1.al.symm,hs1.vw.symm,hs1.nd.symm⟩) ?_;rintro ⟨w,ms,e⟩ ⟨hw,hms,he⟩))|((refine EC.aM (gp s1.aD _ (by omega) hs1.ok.tq h0) ?_;rintro ⟨o,e⟩ ho))|((refine EC.aM (oP o (hQ _ ho)) ?_;rintro nd hnd))|((refine EC.aM (sP s1.cT _ (by omega)) ?_;rintro ho2 hho2))|fail))<;>(first|(exact ⟨(w,ms,e),⟨(hs1.trans hw).mono (by omega),hms.mono (by omega)⟩,Lt.t3 (a6.n_ rfl) a6.bG a6.int⟩)|(exact ⟨(_,[],_),⟨((hs1.host (l:=ho2) (by omega)).task (t:=default) (zero_le _) (Int.le_refl _)).mono (by omega),dU.nil⟩,Lt.t3 (a6.n_ rfl) a6.nil a6.int⟩)|(exact gg s1 hs1)|(exact gg {s1 with Task:={s1.Task with kU:=nd}} (hs1.task (by show nd.length≤_;omega) hs1.ok.pn)))
 rintro s2 hs2;simp only [bK,dd,push_cast,simprocAttr];refine bR ab ?_;refine sA ?_;refine aT ab [1,2,4,7,8] (fun s:Nat×aj=>[]) (fun B s=>cP B 0 [s.2.c]) (fun s=>gd Q (N+s.1) st s.2∧(s.1:Int)≤s.2.Task.Pinned∧s.1≤400) (fun s=>401 - s.1) (0,s2) ⟨hs2,hs2.ok.pn,zero_le _⟩ ?_;rintro ⟨k,y⟩ ⟨hy,hk,hk4⟩;replace hy:gd Q (N+k) st y:=hy;replace hk:(k:Int)≤y.Task.Pinned:=hk;replace hk4:k≤400:=hk4;have hyt:=hy.ok.tl;have hyn:=hy.ok.nl;have hyp:=hy.ok.pn;refine sA ?_;(repeat' (first|(with_reducible intro hh;first|subst hh|(revert hh;intro _))|with_reducible apply And.intro|refine eK ab ?_|(refine EC.aM (oO y.aD _ (by omega) hy.ok.tq h0) ?_;rintro _ _)|((refine EC.aM (qd y nodes hy.ok (by omega) hl h0 st _ ⟨hs.mono (le_add_right _ _),hy.al.symm,hy.vw.symm,hy.nd.symm⟩) ?_;rintro ⟨w,ms,e⟩ ⟨hw,hms,he⟩))|((refine EC.aM (z_ y.aD (by omega) hy.ok.tq h0 _ _) ?_;rintro ⟨t,e⟩ ht))|((refine EC.aM (gp y.aD _ (by omega) hy.ok.tq h0) ?_;rintro ⟨o,e⟩ ho))|((refine EC.aM (oP o (hQ _ ho)) ?_;rintro nd hnd))|(refine EC.aM (xO nd y.Task.kU (by omega) (by omega)) ?_;rintro _ _)|((refine EC.aM (jL y nodes hy.ok (by omega) hl h0) ?_;rintro ⟨w,ms⟩ ⟨hw,hms⟩))|refine dN ab [] [] [0,2,3,4,1,5,6] bZ fun R hR=>?_|refine dR ab [5,6] ?_|refine dR ab [6] ?_|(refine hR _ _ ?_;refine sA ?_)|refine wA ab ?_|fail))<;>(first|omega|(exact ⟨(w,ms,e),⟨(hy.trans hw).mono (by omega),hms.mono (by omega)⟩,Lt.t3 (a6.n_ rfl) a6.bG a6.int⟩)|(exact ⟨(w,ms,1),⟨(hy.trans hw).mono (by omega),hms.mono (by omega)⟩,Lt.t3 (a6.n_ rfl) a6.bG a6.int⟩)|(exact ⟨(st,[],_),⟨(gd.refl hs).mono (by omega),dU.nil⟩,Lt.t3 (a6.n_ rfl) a6.nil a6.int⟩)|(exact ⟨(y,[],_),⟨hy.mono (by omega),dU.nil⟩,Lt.t3 (a6.n_ rfl) a6.nil a6.int⟩)|skip)
 all_goals
  have he:e=0:=by simpa using ‹(e !=0)=false›
  have hpw:IntKind.i64.wrap (y.Task.Pinned+1)=y.Task.Pinned+1:=bu (by omega);exact a7 (k+1,{y with aD:=t,Task:={y.Task with Pinned:=IntKind.i64.wrap (y.Task.Pinned+1)}}) ⟨(hy.tk (ht he)).task hyn (by show 0≤IntKind.i64.wrap _;rw [hpw];omega),by show ((k+1:Nat):Int)≤IntKind.i64.wrap _;rw [hpw];omega,by show k+1≤400;omega⟩
end
end
section
attribute [local irreducible] EC EV gW cc cK dT
attribute [local push_cast] CK Dz oa ov eO dG eu gS length_range bM
theorem bE.n_ {m:Nat} {B:List aI} {n:aj}:bE m B (.agg n.c) (.agg n.c):=bE.obj (fun s B=>by rw [aj.fk]) (fun s B=>by rw [aj.fz])
theorem bE.KP {m:Nat} {B:List aI} {i n E:Nat} {h:aN} {xs:List (List SV)} {l:List af} (hm:m≤i) (hB:au B i= .row h E 36 xs) (hx:xs=l.map af.c) (hn:n=l.length):bE m B (.agg [.row i h 36 0 n]) (.agg (aG.mk l).c):=
 bE.K3 (cs:=(aG.mk []).c) (o:=0) hm hB hx hn (fun s B=>by rw [aG.fk];trivial) (fun s B=>by rw [aG.fz]) (aG.p0 _ _)
theorem bE.HX {m:Nat} {B:List aI}:bE m B (.agg (default:aG).c) (.agg (aG.mk []).c):=bE.obj (cs:=(aG.mk []).c) (fun s B=>by rw [aG.fk]) (fun s B=>by rw [aG.fz])
theorem ub (nodes:List Int) (d:Int) (hl:nodes.length≤1000000):EC prog 192 [bG 1 (aS .i64) default nodes,.int .u64 d] [] fun r N=>N=[]∧∃n:Int,True∧r= .int .i64 n:=by
 refine EC.bh ?_;refine nW ab (ca 192) func192 ntmps192 results192 ?_;(repeat' (first|with_reducible (first|intro _|apply And.intro)|refine eK ab ?_|(refine EC.aM (lN _) ?_;rintro ⟨_,_,_⟩ _)|refine EC.use (d7 nodes _ (by omega)) ?_|(refine EC.aM (jS nodes _ (by omega)) ?_;rintro _ _)|fail))<;>((exact ⟨_,Lt.int rfl⟩))
section
variable {Q:af→Prop} {N:Nat} (st:aj) (nodes:List Int) (hs:jB Q N st) (hN:N≤800000000) (hl:nodes.length≤1000000) (h0:Q default) (hQ:∀o,Q o→mh o)
include hs hN hl h0 hQ
theorem sO:EC prog 128 [.agg st.c,bG 1 (aS .i64) default nodes] [] fun r N'=>N'=[]∧∃x:aj×List aA×Int,(x.2.2=0→gd Q N st x.1∧dU Q 1 x.2.1)∧r=ov x:=by
 have htl:=hs.tl;refine EC.bh ?_;refine nW ab (ca 128) func128 ntmps128 results128 ?_;(repeat' (first|with_reducible (first|intro _|apply And.intro)|refine eK ab ?_|((refine EC.aM (gp st.aD _ (by omega) hs.tq h0) ?_;rintro ⟨o,e⟩ ho))|(refine EC.aM (iK _ (hQ _ ho)) ?_;rintro _ _)|(refine EC.aM (ub nodes _ hl) ?_;rintro _ _)|refine dM ab 4 [] [0,1,2,3,4,6,7,8,9,10] bZ fun R hR=>?_|refine dM ab 6 [0,1,2,3,4,5,6,7,8,9,10,11,12,13] [] bZ fun R hR=>?_|refine bT ab 5 12 ?_ ?_|refine dR ab [11,12,13] ?_|refine dR ab [5,11,13] ?_|refine dR ab [11,13] ?_|refine bT ab 0 1 ?_ ?_|refine bT ab 1 3 ?_ ?_|refine bT ab 0 2 ?_ ?_|refine bT ab 2 3 ?_ ?_|refine dC ab 1 ?_|refine dC ab 0 ?_|refine dR ab [3,4,5] ?_|refine dR ab [2,4,5] ?_|(refine hR _ _ ?_;refine sA ?_)|refine wA ab ?_|fail))<;>(first|(exact ⟨(default,[],_),bd rfl,Lt.t3 (a6.n_ rfl) a6.nil a6.int⟩)|(refine ⟨({st with Task:={st.Task with Hn:=true}},[_],0),fun _=>⟨(gd.refl hs).task hs.nl hs.pn,dU.one ?_⟩,Lt.t3 (a6.n_ rfl) (a6.Ep rfl) a6.int⟩;exact ho))
theorem uc (m:aA) (hm:Q m.ba):EC prog 143 [.agg st.c,.agg m.c,bG 1 (aS .i64) default nodes] [] fun r N'=>N'=[]∧∃x:aj×List aA×Int,(x.2.2=0→gd Q (N+2) st x.1∧dU Q (N+2) x.2.1)∧r=ov x:=by
 have htl:=hs.tl;have hF:∀l1 l2:List af,l1.length≤1→l2.length≤1→(∀o∈l1,Q o)→(∀o∈l2,Q o)→EC prog 134 [.agg st.c,.agg (aG.mk l1).c,.agg (aG.mk l2).c,bG 1 (aS .i64) default nodes] [] fun r N'=>N'=[]∧∃x:aj×List aA,(gd Q (N+2) st x.1∧dU Q (N+2) x.2)∧r=oa x:=by
  intro l1 l2 h1 h2 h3 h4;refine (nY st nodes hs hN hl h0 ⟨l1⟩ ⟨l2⟩ (by show l1.length≤_;omega) (by show l2.length≤_;omega) h3 h4 hQ).mono ?_;rintro r N' ⟨e,x,⟨g1,g2⟩,g3⟩;exact ⟨e,x,⟨g1.mono (by show N+l2.length+l1.length≤_;omega),g2.mono (by show N+l2.length+l1.length≤_;omega)⟩,g3⟩
 have q0:∀o∈([]:List af),Q o:=fun o h=>(nomatch h);have q1:∀y,Q y→∀o∈[y],Q o:=fun y hy o h=>by rw [List.mem_singleton.1 h];exact hy
 refine EC.bh ?_;refine nW ab (ca 143) func143 ntmps143 results143 ?_;(repeat' (first|with_reducible (first|intro _|apply And.intro)|refine eK ab ?_|((refine EC.aM (gp st.aD _ (by omega) hs.tq h0) ?_;rintro ⟨o,e⟩ ho))|((refine EC.mu 6 (d_.two bE.n_ (d_.two (bE.KP (l:=[o]) (by decide) rfl rfl rfl) (d_.two (bE.KP (l:=[m.ba]) (by decide) rfl rfl rfl) (d_.cons trivial (bq.refl _) .nil)))) ?_;refine EC.aM (hF [o] [m.ba] (le_refl _) (le_refl _) (q1 _ ho) (q1 _ hm)) ?_;rintro ⟨w,ms⟩ ⟨hw,hms⟩))|((refine EC.mu 6 (d_.two bE.n_ (d_.two (bE.KP (l:=[o]) (by decide) rfl rfl rfl) (d_.two bE.HX (d_.cons trivial (bq.refl _) .nil)))) ?_;refine EC.aM (hF [o] [] (le_refl _) (zero_le _) (q1 _ ho) q0) ?_;rintro ⟨w,ms⟩ ⟨hw,hms⟩))|((refine EC.mu 6 (d_.two bE.n_ (d_.two bE.HX (d_.two (bE.KP (l:=[m.ba]) (by decide) rfl rfl rfl) (d_.cons trivial (bq.refl _) .nil)))) ?_;refine EC.aM (hF [] [m.ba] (zero_le _) (le_refl _) q0 (q1 _ hm)) ?_;rintro ⟨w,ms⟩ ⟨hw,hms⟩))|((refine EC.mu 6 (d_.two bE.n_ (d_.two bE.HX (d_.two bE.HX (d_.cons trivial (bq.refl _) .nil)))) ?_;refine EC.aM (hF [] [] (zero_le _) (zero_le _) q0 q0) ?_;rintro ⟨w,ms⟩ ⟨hw,hms⟩))|fail))<;>(first|(exact ⟨(default,[],_),bd rfl,Lt.t3 (a6.n_ rfl) a6.nil a6.int⟩)|(exact ⟨(w,ms,0),fun _=>⟨hw,hms⟩,Lt.t3 (a6.n_ rfl) a6.bG a6.int⟩)|(show (_:Bool)=true;first|(simp_all;done)|grind))
end
end
section
attribute [local irreducible] EC EV gW cc cK dT
attribute [local push_cast] CK Dz oa ov eO dG eu gS length_range bM
structure R_ (Q:af→Prop) (v:aO) (view node:Int) (k:Nat) (y:aO×Int):Prop where
 st:y.2=0→∃s:aG,y.1={v with bz:=s}
 q:∀o∈y.1.bz.ah,Q o
 ln:y.1.bz.ah.length≤v.bz.ah.length+k
 ok:view=v.ea→node∈v.bL→y.2=0
 nd:ij v.bz→ij y.1.bz
theorem iv {Q:af→Prop} (v:aO) (view node:Int) (a b:aG) (hn:v.bL.length≤1000000) (hv:v.bz.ah.length≤900000000) (hq:∀o∈v.bz.ah,Q o) (ha:a.ah.length≤1000000) (hb:b.ah.length≤1000000) (hao:∀o∈a.ah,Q o) (hbo:∀o∈b.ah,Q o) (h0:Q default) (hQ:∀o,Q o→mh o):EC prog 133 [.agg v.c,.int .i64 view,.int .i64 node,.agg a.c,.agg b.c] [] fun r N=>N=[]∧∃y:aO×Int,R_ Q v view node b.ah.length y∧r= .bS [.agg y.1.c,.int .i64 y.2]:=by
 refine (uh v view node a b hn hv hq ha hb hao hbo h0 hQ).mono ?_;rintro r N ⟨h1,⟨s,e⟩,hc,h3⟩;by_cases he:e=0
 ·refine ⟨h1,({v with bz:=s},e),⟨fun _=>⟨s,rfl⟩,hc.q,hc.ln,hc.ok,hc.nd⟩,?_⟩;rw [h3];simp only [he,if_true]
 ·refine ⟨h1,(default,e),⟨fun h=>absurd h he,fun o h=>(nomatch h),zero_le _,hc.ok,fun _=>nodup_nil⟩,?_⟩;rw [h3];simp only [he,if_false]
theorem iR.nil {I:Int→Prop}:iR I []:=⟨zero_le _,fun x h=>(nomatch h),fun x h=>(nomatch h),nodup_nil⟩
theorem gi.none {I D:Int→Prop} {L:Nat} {s:aG} {out:bY} (h:gi I D L [] s out):ja I D s∧s.ah.length≤L+61:=by
 obtain ⟨D',h1,h2,h3⟩:=h.ex;have hj:jt I [] out.Used=I:=by funext x;simp [jt]
 have hD:D'=D:=by funext x;exact propext ⟨fun hx=>(h1.2 x hx).elim id fun h=>(nomatch h),h1.1 x⟩
 subst hD;rw [hj] at h2;exact ⟨h2,h.ln⟩
def Pz (x:aO×List aA×Bool×Int):SV:= .bS [.agg x.1.c,bG 45 aA.c default x.2.1,.bool x.2.2.1,.int .i64 x.2.2.2]
structure RG (Q:af→Prop) (v:aO) (x:aO×List aA×Bool×Int):Prop where
 st:∃s:aG,x.1={v with bz:=s}
 q:∀o∈x.1.bz.ah,Q o
 ln:x.1.bz.ah.length≤v.bz.ah.length+63
 ms:dU Q 1 x.2.1
 nd:ij v.bz→ij x.1.bz
attribute [local push_cast] Pz
theorem vT {I D:Int→Prop} (h0:I 0) (hd:∀x,D x→I x) (v:aO) (node:Int) (m:aA) (hn:v.bL.length≤1000000) (hv:v.bz.ah.length≤800000000) (hq:ja I D v.bz) (hm:cG I D m.ba):EC prog 142 [.agg v.c,.int .i64 node,.agg m.c] [] fun r N=>N=[]∧∃x:aO×List aA×Bool×Int,(x.2.2.2=0→RG (cG I D) v x)∧r=Pz x:=by
 have hz:cG I D default:=fT h0;have hgs:∀id,cG I D (cc v.bz id).1:=fun id=>sH hq hz;have hp1:ja I D ⟨[(cc v.bz m.ae).1]⟩:=fun o ho=>by rw [List.mem_singleton.1 ho];exact hgs _
 have hp2:ja I D (cK ⟨[(cc v.bz m.ae).1]⟩ (cc v.bz m.ID).1).1:=hp1.put (hgs _);have hpl:(cK ⟨[(cc v.bz m.ae).1]⟩ (cc v.bz m.ID).1).1.ah.length≤2:=iG _ _;refine EC.bh ?_;refine nW ab (ca 142) func142 ntmps142 results142 ?_;(repeat' (first|(with_reducible intro hh;first|subst hh|(revert hh;intro _))|with_reducible apply And.intro|refine eK ab ?_|refine EC.use (cL v.bz _ (by omega)) ?_|(refine EC.aM (eW (cc v.bz m.ae).1 m.ba (hgs _).sp.s hm.sp.s) ?_;rintro _ _)|(refine EC.aM (iK (cc v.bz m.ae).1 (hgs _).sp) ?_;rintro _ _)|((refine EC.mu 5 (d_.two (bE.KP (l:=[(cc v.bz m.ae).1]) (by decide) rfl rfl rfl) (d_.GK .nil)) ?_;refine EC.use (ee ⟨[(cc v.bz m.ae).1]⟩ (cc v.bz m.ID).1 (le_of_ble_eq_true rfl)) ?_))|((refine EC.args (.cons (bq.refl _) (.cons (bq.refl _) (.cons (cB (e:=1) (cells:=aS .u64) (d:=default)) .nil))) ?_;refine EC.aM (qk (I:=I) (D:=D) (L:=2) (cK ⟨[(cc v.bz m.ae).1]⟩ (cc v.bz m.ID).1).1 _ [] h0 hp2 hpl (by decide) iR.nil hd) ?_;rintro ⟨s2,out,e2⟩ hst))|(((have he2:e2=0:=(by have hq2:=‹(e2 == 0 && _)=true›;simp at hq2;exact hq2.1));obtain ⟨hs2,hl2⟩:=(hst he2).none;replace hl2:s2.ah.length≤63:=hl2;refine EC.aM (iv (Q:=cG I D) v m.ea node _ s2 hn (by omega) hq (le_trans hpl (by decide)) (by omega) hp2 hs2 hz (fun o ho=>ho.sp)) ?_;rintro ⟨w,e3⟩ hw;have hwl:w.bz.ah.length≤v.bz.ah.length+s2.ah.length:=hw.ln;have hwq:∀o∈w.bz.ah,cG I D o:=hw.q))|((refine EC.use (cL w.bz _ (by omega)) ?_))|refine dN ab [] [] [0,1,2,3,4,5,7,8,6,9,10] bZ fun R hR=>?_|refine dM ab 7 [0,1,2,3,4,5,6,7,8,9,10,11,12,13] [3] bZ fun R hR=>?_|refine dR ab [4,5,7,8,6,9,10] ?_|refine dR ab [9,10] ?_|refine bT ab 0 1 ?_ ?_|refine bT ab 1 4 ?_ ?_|refine bT ab 0 2 ?_ ?_|refine bT ab 2 4 ?_ ?_|refine dC ab 1 ?_|refine dC ab 0 ?_|refine dR ab [4,5,6,7] ?_|refine dR ab [2,5,6,7] ?_|(refine hR _ _ ?_;refine sA ?_)|refine wA ab ?_|fail))<;>(first|(exact ⟨(default,[],_,_),bd rfl,Lt.t4 (a6.vt rfl) a6.nil a6.bool a6.int⟩)|(refine ⟨(default,[],_,_),fun he3=>?_,Lt.t4 (a6.vt rfl) a6.nil a6.bool a6.int⟩;(exfalso;have hq3:=‹(e3 !=0)=true›;simp at hq3;exact hq3 he3);done)|(refine ⟨(v,[_],false,0),fun _=>⟨⟨v.bz,rfl⟩,hq,le_add_right _ _,dU.one ?_,id⟩,Lt.t4 (a6.vt rfl) (a6.Ep rfl) a6.bool a6.int⟩;exact hgs _)|(have he3:e3=0:=(by simpa using ‹(e3 !=0)=false›);refine ⟨(w,[_],true,0),fun _=>⟨hw.st he3,hwq,by show w.bz.ah.length≤_;omega,dU.one ?_,hw.nd⟩,Lt.t4 (a6.vt rfl) (a6.Ep rfl) a6.bool a6.int⟩;exact sH hwq hz)|(show (_:Bool)=true;first|(simp_all;done)|grind))
end
end Go.Proofs.YteejbbfaphcgiaaGreat
