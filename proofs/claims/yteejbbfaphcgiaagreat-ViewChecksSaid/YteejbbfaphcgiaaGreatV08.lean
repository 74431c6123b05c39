/- Part 8. -/
import Derived.Test.YteejbbfaphcgiaaGreatV04
import Derived.Test.YteejbbfaphcgiaaGreatV05
import Derived.Test.YteejbbfaphcgiaaGreatV06
import Derived.Test.YteejbbfaphcgiaaGreatV07
namespace Go.Proofs.YteejbbfaphcgiaaGreat
open Go.Lift _root_.Go.Proofs.Tryz
set_option linter.unusedSimpArgs false
set_option linter.unusedVariables false
set_option maxHeartbeats 2000000
set_option maxRecDepth 10000
open List (range take map take_of_length_le map_append getD set_cons_succ set_cons_zero length_cons length_nil cons_append nil_append mem_append mem_singleton map_nil length_append)
open Nat (zero_le le_refl not_lt_zero lt_or_ge zero_add le_trans le_succ)
section
attribute [local irreducible] EC EV
theorem So {m j:Nat} {B:List aI} {o:aI} (d:j < m:=by decide):j < m∧wY m B o o:=⟨d,.inl rfl⟩
def wV (n b s:Int):Int:=n*72057594037927936+b*1099511627776+s
def ER (a:aL):Prop:=(0≤a.bW∧a.bW≤127)∧(0≤a.fR∧a.fR≤65535)∧0≤a.bP∧a.bP≤1099511627775
theorem Jw {a b i:Nat} (h:b < 2 ^ i):a*2 ^ i ||| b=a*2 ^ i+b:=by
 rw [←Nat.shiftLeft_eq];exact (Nat.shiftLeft_add_eq_or_of_lt h a).symm
theorem GR {n b s:Int} (hn:0≤n∧n≤127) (hb:0≤b∧b≤65535) (hs:0≤s∧s≤1099511627775):b6 BinOp.or IntKind.u64 (b6 BinOp.or IntKind.u64 (IntKind.u64.wrap (IntKind.u64.wrap n*2 ^ min 56 64)) (IntKind.u64.wrap (IntKind.u64.wrap b*2 ^ min 40 64))) (IntKind.u64.wrap s)=wV n b s:=by
 obtain ⟨n,rfl⟩:=Int.eq_ofNat_of_zero_le hn.1;obtain ⟨b,rfl⟩:=Int.eq_ofNat_of_zero_le hb.1;obtain ⟨s,rfl⟩:=Int.eq_ofNat_of_zero_le hs.1;have h1:min 56 64=56:=rfl;have h2:min 40 64=40:=rfl;simp only [h1,h2,wV];rw [IntWalk.u64_in _ (show 0≤(n:Int)∧(n:Int)≤18446744073709551615 by omega),IntWalk.u64_in _ (show 0≤(b:Int)∧(b:Int)≤18446744073709551615 by omega),IntWalk.u64_in _ (show 0≤(s:Int)∧(s:Int)≤18446744073709551615 by omega)];rw [IntWalk.u64_in _ (show 0≤(n:Int)*2 ^ 56∧(n:Int)*2 ^ 56≤18446744073709551615 by omega),IntWalk.u64_in _ (show 0≤(b:Int)*2 ^ 40∧(b:Int)*2 ^ 40≤18446744073709551615 by omega)];have k:∀x y:Nat,x < 2 ^ 64→y < 2 ^ 64→b6 BinOp.or IntKind.u64 (x:Int) (y:Int)=((x ||| y:Nat):Int):=fun x y hx hy=>by
  show IntKind.u64.wrap (((BitVec.ofInt 64 (x:Int) ||| BitVec.ofInt 64 (y:Int)).toNat:Nat):Int)=_;rw [BitVec.ofInt_natCast,BitVec.ofInt_natCast,BitVec.toNat_or,BitVec.toNat_ofNat,BitVec.toNat_ofNat,Nat.mod_eq_of_lt hx,Nat.mod_eq_of_lt hy];exact IntWalk.u64_in _ ⟨by omega,by have:=Nat.or_lt_two_pow hx hy;omega⟩
 have e1:(n:Int)*2 ^ 56=((n*2 ^ 56:Nat):Int):=by omega
 have e2:(b:Int)*2 ^ 40=((b*2 ^ 40:Nat):Int):=by omega
 rw [e1,e2,k _ _ (by omega) (by omega),Jw (a:=n) (i:=56) (show b*2 ^ 40 < 2 ^ 56 by omega)];rw [show n*2 ^ 56+b*2 ^ 40=(n*2 ^ 16+b)*2 ^ 40 by omega,k _ _ (by omega) (by omega),Jw (show s < 2 ^ 40 by omega)];omega
theorem DF {n b s n' b' s':Int} (hb:0≤b∧b≤65535) (hs:0≤s∧s≤1099511627775) (hb':0≤b'∧b'≤65535) (hs':0≤s'∧s'≤1099511627775) (h:wV n b s=wV n' b' s'):n=n'∧b=b'∧s=s':=by
 unfold wV at h;omega
theorem wC (n b s:Int) (hn:0≤n∧n≤127) (hb:0≤b∧b≤65535) (hs:1≤s∧s≤1099511627775):EC prog 112 [.int .i64 n,.int .i64 b,.int .i64 s] [] fun r N=>N=[]∧r=NN (wV n b s) 0:=by
 refine EC.cQ ?_;refine nK ab (ca 112) func112 ntmps112 results112 ?_;refine ⟨fun h=>?_,fun h=>?_⟩
 ·simp at h;omega
 rw [GR hn hb (by omega)];(repeat' (first|refine zL ?_|apply Lt.t2))<;>(exact zA)
def oC (n b:Int):aL×Int:=if decide (n < 0) || decide (127 < n) || decide (b < 0) || decide (65535 < b) then (default,2) else ({(default:aL) with bW:=n,fR:=b},0)
theorem mE (n b:Int):EC prog 111 [.int .i64 n,.int .i64 b] [] fun r N=>N=[]∧r= .bS [.agg (oC n b).1.c,.int .i64 (oC n b).2]:=by
 refine EC.cQ ?_;refine nK ab (ca 111) func111 ntmps111 results111 ?_;(repeat' (first|refine zL ?_|apply Lt.t2|apply a6.fS|(with_reducible intro _)|with_reducible apply And.intro))<;>(first|exact zA|(simp [oC, *];done))
def ik (a:aL) (n:Nat):List Int:=(range n).map fun i:Nat=>wV a.bW a.fR (a.bP+(i:Int)+1)
theorem kb (a:aL) (n:Nat):(ik a n).length=n:=by simp [ik]
theorem Fb (a:aL) (n:Nat):ik a (n+1)=ik a n ++ [wV a.bW a.fR (a.bP+(n:Int)+1)]:=by simp [ik,List.range_succ]
def dQ (a:aL) (n:Int):List Int×aL×Int:=
 if ((oC a.bW a.fR).2 !=0 || decide (a.bP < 0) || decide (1099511627775 < a.bP))=true then ([],default,1)
 else if (decide (n < 0) || decide (64 < n))=true then ([],default,2)
 else if decide (1099511627775 < a.bP+n)=true then ([],default,3)
 else (ik a n.toNat,{a with bP:=a.bP+n},0)
theorem GN {a:aL} {n:Int} (h:(dQ a n).2.2=0):ER a∧(0≤n∧n≤64)∧a.bP+n≤1099511627775∧dQ a n=(ik a n.toNat,{a with bP:=a.bP+n},0):=by
 unfold dQ at h ⊢
 split at h
 ·simp at h
 rename_i g1
 split at h
 ·simp at h
 rename_i g2
 split at h
 ·simp at h
 rename_i g3;rw [if_neg g1,if_neg g2,if_neg g3];by_cases g4:(decide (a.bW < 0) || decide (127 < a.bW) || decide (a.fR < 0) || decide (65535 < a.fR))=true
 ·simp [oC,g4] at g1
 simp at g1 g2 g3 g4;exact ⟨⟨by omega,by omega,by omega⟩,by omega,by omega,rfl⟩
def Gt (x:List Int×aL×Int):SV:= .bS [bG 1 (aS .u64) default x.1,.agg x.2.1.c,.int .i64 x.2.2]
theorem zn (a:aL) (e:Int):Gt ([],a,e)= .bS [bG 1 (aS .u64) default [],.agg a.c,.int .i64 e]:=rfl
theorem wB (a:aL) (n:Int) (hi:-9223372036854775808≤n∧n≤9223372036854775807):EC prog 68 [.agg a.c,.int .i64 n] [] fun r N=>N=[]∧r=Gt (dQ a n):=by
 refine EC.cQ ?_;refine nK ab (ca 68) func68 ntmps68 results68 ?_;intro fr;(refine EC.use (mE _ _) ?_;refine eK ab ?_);intro fr1;refine ⟨fun h=>?_,fun h=>⟨fun h2=>?_,fun h2=>?_⟩⟩
 ·rw [show dQ a n=([],default,1) by unfold dQ;rw [if_pos h],zn];(repeat' (first|refine zL ?_|apply Lt.t3|apply a6.fS))<;>(first|exact zA|skip);exact a6.nil
 ·rw [show dQ a n=([],default,2) by unfold dQ;rw [if_neg (by rw [h];simp),if_pos h2],zn];(repeat' (first|refine zL ?_|apply Lt.t3|apply a6.fS))<;>(first|exact zA|skip);exact a6.nil
 have hn:0≤n∧n≤64:=by simp at h2;omega
 have ha:ER a:=by
  by_cases g4:(decide (a.bW < 0) || decide (127 < a.bW) || decide (a.fR < 0) || decide (65535 < a.fR))=true
  ·simp [oC,g4] at h
  ·simp [oC,g4] at h;simp at g4;exact ⟨by omega,by omega,by omega⟩
 obtain ⟨hN,hB,hS⟩:=ha;have hw0:IntKind.i64.wrap (a.bP+n)=a.bP+n:=bu (by omega);simp only [hw0];refine ⟨fun h3=>?_,fun h3=>?_⟩
 ·rw [show dQ a n=([],default,3) by unfold dQ;rw [if_neg (by rw [h];simp),if_neg (by rw [h2];simp),if_pos (by simpa using h3)],zn];(repeat' (first|refine zL ?_|apply Lt.t3|apply a6.fS))<;>(first|exact zA|skip);exact a6.nil
 rw [show dQ a n=(ik a n.toNat,{a with bP:=a.bP+n},0) by unfold dQ;rw [if_neg (by rw [h];simp),if_neg (by rw [h2];simp),if_neg (by simpa using h3)]];obtain ⟨n,rfl⟩:=Int.eq_ofNat_of_zero_le hn.1;have h4:a.bP+(n:Int)≤1099511627775:=by simp at h3;omega
 refine cw 9 42 1 rfl ?_;intro hl;refine eh ab [1,2,5] (fun x:Nat×aN=>[(10,.int .i64 x.1),(9,.row 3 x.2 1 0 x.1)]) (fun B x=>cW (cP B 0 [aL.c {a with bP:=a.bP+x.1}]) 3 x.2 ((ik a x.1).map (aS .u64))) (fun x=>x.1≤n) (fun x=>n - x.1) (0,hl) (zero_le _) ?_ (hb:=by simp [cP,cW,jA,ik]);rintro ⟨i,hh⟩ hi;replace hi:i≤n:=hi;have hw1:IntKind.i64.wrap (a.bP+(i:Int)+1)=a.bP+(i:Int)+1:=bu (by omega);have hw2:IntKind.i64.wrap ((i:Int)+1)=((i+1:Nat):Int):=by rw [bu (by omega)];omega
 have hst:(aL.mk a.bW a.fR (a.bP+(i:Int)+1))={a with bP:=a.bP+((i+1:Nat):Int)}:=by
  rw [show a.bP+(i:Int)+1=a.bP+((i+1:Nat):Int) by omega]
 simp only [hw1,hw2,push_cast,simprocAttr];refine ⟨fun hc=>?_,fun hc=>?_⟩
 ·(refine EC.use (wC a.bW a.fR (a.bP+(i:Int)+1) hN hB (by omega)) ?_;refine jy (m:=0) ab ?_;simp only [hw2,push_cast,simprocAttr]);intro fr2;refine ⟨⟨by rw [kb];exact le_refl _,by omega⟩,?_⟩;have e:take i (map (aS .u64) (ik a i)) ++ [[SV.int .u64 (wV a.bW a.fR (a.bP+(i:Int)+1))]]=(ik a (i+1)).map (aS .u64):=by
   rw [take_of_length_le (by simp [kb]),Fb,map_append];rfl
  rw [e,hst];exact a7 (i+1,fr2 3) (by show i+1≤n;omega)
 ·have:i=n:=by simp at hc;omega
  subst this;(refine dD ab [] [false,true,false,false] [0,1,2,3,4] bZ fun R hR=>?_;(repeat intro rh);(try refine sB ⟨?_⟩);(repeat ((with_reducible apply And.intro);exact fE));(repeat intro rh);(repeat ((with_reducible apply And.intro);exact fE));(try apply_assumption -exfalso));refine sA ?_;exact Lt.t3 (a6.row rfl rfl (kb _ _).symm) (a6.fS rfl rfl) a6.int
end
section
attribute [local irreducible] EC EV
def oz (n:Int):Bool:=decide (0≤n) && decide (n≤127)
theorem jU (n:Int):EC prog 50 [.int .i64 n] [] fun r N=>N=[]∧r= .bool (oz n):=by
 refine EC.cQ ?_;refine nK ab (ca 50) func50 ntmps50 results50 ?_;(repeat' (first|refine zL ?_|fail))<;>(exact zA)
def LJ (l:cr) (f t:Int):Bool:=decide (l.nJ < f) || (l.nJ == f && decide (l.To < t))
theorem n4 (l:cr) (f t:Int):EC prog 99 [.agg l.c,.int .i64 f,.int .i64 t] [] fun r N=>N=[]∧r= .bool (LJ l f t):=by
 refine EC.cQ ?_;refine nK ab (ca 99) func99 ntmps99 results99 ?_;(repeat' (first|refine zL ?_|(with_reducible intro _)|with_reducible apply And.intro))<;>(exact zA)
structure qG (Q:af→Prop) (l:cr):Prop where
 ln:l.bA.length≤5000
 q:∀m∈l.bA,Q m.ba
structure gT (Q:af→Prop) (n:aR):Prop where
 ln:n.bU.length≤40000
 l:∀l∈n.bU,qG Q l
def Iq (n:aR):Prop:=n.bU.length≤16384∧∀l∈n.bU,l.bA.length≤4096
def PH (ls:List cr) (i:Nat):Prop:=((0≤(ls.getD i default).nJ∧(ls.getD i default).nJ≤127)∧(0≤(ls.getD i default).To∧(ls.getD i default).To≤127))∧(ls.getD i default).bA.length≤4096∧(0 < i→LJ (ls.getD (i - 1) default) (ls.getD i default).nJ (ls.getD i default).To=true)
theorem Ip {n:aR} (h:∀i,i < n.bU.length→PH n.bU i):Iq n:=by
 refine ⟨?_,fun l hl=>?_⟩
 ·have key:∀i,i < n.bU.length→(i:Int)≤(n.bU.getD i default).nJ*128+(n.bU.getD i default).To:=fun i=>by
   induction i with
   |zero=>intro hi;have:=(h 0 hi).1;omega
   |succ i ih=>
    intro hi;have h1:=ih (by omega);have h2:=h (i+1) hi;have h3:=(h i (by omega)).1;have h4:=h2.2.2 (by omega);simp only [Nat.add_sub_cancel,LJ,Bool.or_eq_true,Bool.and_eq_true,decide_eq_true_eq,beq_iff_eq] at h4;have h5:=h2.1;omega
  by_cases h0:n.bU.length=0
  ·omega
  ·have h1:=key (n.bU.length - 1) (by omega);have h2:=(h (n.bU.length - 1) (by omega)).1;omega
 ·obtain ⟨i,hi,rfl⟩:=List.mem_iff_getElem.1 hl;have:=(h i hi).2.1;simpa [getD,hi] using this
theorem f5 {Q:af→Prop} (n:aR) (hn:gT Q n):EC prog 49 [.agg n.c] [] fun r N=>N=[]∧∃b:Bool,(b=true→Iq n)∧r= .bool b:=by
 refine EC.bh ?_;refine nW ab (ca 49) func49 ntmps49 results49 ?_;have hln:=hn.ln;(repeat' (with_reducible intro _));refine bV ab [1,8,9] 10 n.bU.length (fun i=>∀j,j < i→PH n.bU j) (fun j hj=>absurd hj (not_lt_zero j)) (by omega) ?_;intro i hI hi hw;simp only [hw,push_cast,simprocAttr];refine ⟨fun hc fr=>⟨⟨by omega,hc⟩,?_⟩,fun hc=>⟨true,fun _=>Ip fun j hj=>hI j (by simp at hc;omega),Lt.bool rfl⟩⟩;have hi0:0 < (i:Int)→IntKind.i64.wrap ((i:Int) - 1)=((i - 1:Nat):Int):=fun h=>by rw [bu (by omega)];omega
 (repeat' (first|with_reducible (first|intro _|apply And.intro)|refine eK ab ?_|refine EC.use (jU _) ?_|refine EC.use (n4 _ _ _) ?_|refine dN ab [] [] [0,1,2,3,4,5,6,7,8,9,10,11,12,13,14,15] bZ fun R hR=>?_|refine dR ab [14,15] ?_|(refine hR _ _ ?_;refine sA ?_)|refine wA ab ?_|fail))<;>(first|(exact ⟨false,by simp,Lt.bool rfl⟩)|omega|(simp_all;done)|skip)
 all_goals
  rename_i g1 g2 g3 g4;have hq:(n.bU.getD i default).bA.length≤4096:=by simp [g1,-List.getD_eq_getElem?_getD] at g2;omega
  have hv:PH n.bU i:=by
   refine ⟨⟨by simpa [oz] using g1,?_⟩,hq,fun h=>?_⟩
   ·have:oz (n.bU.getD i default).To=true:=by simp [g1,-List.getD_eq_getElem?_getD] at g2;exact g2.1.1
    simpa [oz] using this
   ·first
     |(rw [hi0 g3,Int.toNat_natCast] at g4;simpa [h,-List.getD_eq_getElem?_getD] using g4)
     |(simp at g3;omega)
  clear g1 g2 g3 g4 hR;have hI':∀j,j < i+1→PH n.bU j:=fun j hj=>by
   rcases lt_or_ge j i with h|h
   ·exact hI j h
   ·rw [show j=i by omega];exact hv
  refine bV ab [1,4,8,9,10,59,60] 61 (n.bU.getD i default).bA.length (fun _=>True) trivial (by omega) ?_;intro j _ hj hw2;simp only [hw2,push_cast,simprocAttr];(repeat' (with_reducible (first|intro _|apply And.intro)))<;>(first|(exact ⟨false,by simp,Lt.bool rfl⟩)|omega|((try simp only [hw]);(try simp only [hw2]);first|exact cO trivial|exact cO hI'))
theorem Lt.nil {α:Type} {B:List aI} {e e':Nat} {fl:Bool} {cells:α→List SV} {d:α} {f:Nat→List SV}:Lt B (.sl fl e' 0 f) (bG e cells d []):=⟨trivial,cB⟩
theorem Lt.lk {B:List aI} {x y:cr} (h:x=y):Lt B (.agg x.c) (.agg y.c):=by subst h;exact Lt.agg (eU.obj (cs:=x.c) (fun s B=>by rw [cr.fk]) (fun s B=>by rw [cr.fz]))
theorem a6.nt {B:List aI} {x y:aR} (h:x=y):a6 B (.agg x.c) (.agg y.c):=by subst h;exact a6.agg (eU.obj (cs:=x.c) (fun s B=>by rw [aR.fk]) (fun s B=>by rw [aR.fz]))
theorem a6.ms {B:List aI} {x y:aA} (h:x=y):a6 B (.agg x.c) (.agg y.c):=by subst h;exact a6.agg (eU.obj (cs:=x.c) (fun s B=>by rw [aA.fk]) (fun s B=>by rw [aA.fz]))
theorem qG.no {Q:af→Prop} {l:cr} (h:l.bA=[]):qG Q l:=⟨by rw [h];exact zero_le _,by rw [h];simp⟩
theorem jV {Q:af→Prop} (n:aR) (f t:Int) (hn:gT Q n):EC prog 51 [.agg n.c,.int .i64 f,.int .i64 t] [] fun r N=>N=[]∧∃l:cr,(qG Q l∧(Iq n→l.bA.length≤4096))∧r= .agg l.c:=by
 refine EC.bh ?_;refine nW ab (ca 51) func51 ntmps51 results51 ?_;have hln:=hn.ln;(repeat' (with_reducible intro _));refine bV ab [1,2,6,10,11] 12 n.bU.length (fun _=>True) trivial (by omega) ?_;intro i _ hi hw;have hmem:i < n.bU.length→n.bU.getD i default∈n.bU:=fun h=>bk h;simp only [hw,push_cast,simprocAttr];(repeat' (with_reducible (first|intro _|apply And.intro)))<;>(first|omega|((try simp only [hw]);exact cO trivial)|(exact ⟨_,⟨hn.l _ (hmem (by omega)),fun h=>h.2 _ (hmem (by omega))⟩,Lt.lk rfl⟩)|(exact ⟨_,⟨qG.no rfl,fun _=>zero_le _⟩,Lt.lk rfl⟩))
def E5:Env:={E with zr:=fun T=>if T=35 then [tY] else E.zr T}
theorem Hv:cI prog E5:=⟨ab.ty,fun T h=>by
 simp only [E5] at h ⊢
 split
 ·rename_i e;subst e;kernel_rfl
 ·rename_i e;simp only [e,if_false] at h;exact ab.zr T h,ab.lv⟩
theorem Pn (T:Nat):E5.ty T=E.ty T:=rfl
theorem Po:E5.kp=E.kp:=rfl
theorem Pm:E5.zr 35=[tY]:=rfl
theorem LZ:E5.zr 114=E.zr 114:=rfl
attribute [push_cast] Pn Po Pm LZ
theorem eO {α:Type} (c:α→List SV) (m:List α) (x:α):map c m ++ [c x]=map c (m ++ [x]):=by simp
theorem dG {α:Type} (c:α→List SV) (m:List α) (x:α):take (m.length+1) (map c (m ++ [x]))=map c (m ++ [x]):=take_of_length_le (by simp)
attribute [local push_cast] eO dG
theorem Lt.nt {B:List aI} {i n E:Nat} {h:aN} {xs:List (List SV)} {l:List cr} (hB:au B i= .row h E 4 xs) (hx:xs=l.map cr.c) (hn:n=l.length):Lt B (.agg [.row i h 4 0 n]) (.agg (aR.mk l).c):=
 Lt.agg ((eU.obj (cs:=(aR.mk []).c) (fun s B=>by rw [aR.fk]) (fun s B=>by rw [aR.fz])).put 0 (gY.row hB hx hn) rfl)
theorem gq {Q:af→Prop} (n:aR) (x:cr) (hn:n.bU.length≤100000):EC prog 52 [.agg n.c,.agg x.c] [] fun r N=>N=[]∧∃y:aR,(y.bU.length≤n.bU.length+1∧∀l∈y.bU,l=x∨l∈n.bU)∧r= .agg y.c:=by
 refine EC.bh ?_;(refine nW Hv (ca 52) func52 ntmps52 results52 ?_);(repeat' (with_reducible intro _));refine eY 3 0 0 114 4 (by simp) rfl rfl rfl ?_;intro hh;simp only [set_cons_succ,set_cons_zero,length_cons,length_nil,cons_append,nil_append,zero_add,Nat.reduceAdd];refine aT Hv [3,4,5,19,20] (fun s:Nat×Bool×List cr×Nat×aN=>[(21,.int .i64 s.1),(6,.bool s.2.1)]) (fun B s=>cW (cP B 3 [[.row 4 s.2.2.2.2 4 0 s.2.2.2.1]]) 4 s.2.2.2.2 (s.2.2.1.map cr.c)) (fun s=>s.1≤n.bU.length∧s.2.2.2.1=s.2.2.1.length∧s.2.2.1.length≤s.1+(bif s.2.1 then 1 else 0)∧∀y∈s.2.2.1,y=x∨y∈n.bU) (fun s=>n.bU.length - s.1) (0,_,[],0,hh) ⟨zero_le _,rfl,zero_le _,fun y hy=>(nomatch hy)⟩ ?_;rintro ⟨i,b,m,km,hr⟩ ⟨hi,hk,hm,hy⟩;replace hi:i≤n.bU.length:=hi;obtain rfl:km=m.length:=hk;replace hm:m.length≤i+(bif b then 1 else 0):=hm;replace hy:∀y∈m,y=x∨y∈n.bU:=hy;have hb1:(bif b then 1 else 0)≤1:=by cases b<;>decide
 have hw:=wI i;simp only [hw,push_cast,simprocAttr];(repeat' (first|(with_reducible intro hh;first|subst hh|(revert hh;intro _))|with_reducible apply And.intro|refine eK Hv ?_|refine EC.use (n4 _ _ _) ?_|contradiction))<;>(first|omega|((try simp only [hw]);refine a7 (i+1,_,_,_,_) ?_)|skip)
 all_goals try
  refine ⟨by show i+1≤_;omega,by simp,?_,?_⟩
  ·show List.length _≤i+1+_;simp at hm ⊢
   try omega
  ·have hmem:=bk (l:=n.bU) (i:=i) (by omega);intro y h;simp only [mem_append,mem_singleton] at h;grind
 all_goals
  (try simp at hm);refine ⟨⟨_⟩,⟨?_,?_⟩,Lt.nt rfl rfl (by simp)⟩
  ·first|omega|(simp;omega)|(simp at hb1;omega)
  ·intro y h;simp only [mem_append,mem_singleton] at h;grind
theorem bE.K3 {α:Type} {m:Nat} {B:List aI} {i E e n o:Nat} {h:aN} {xs:List (List SV)} {cells:α→List SV} {d:α} {l:List α} {cs ds:List SV} (hm:m≤i) (hB:au B i= .row h E e xs) (hx:xs=l.map cells) (hn:n=l.length)
  (hfk:∀sel B,bC sel B cs) (hfz:∀sel B,ew sel B cs=cs) (he:aJ cs o [bG e cells d l]=ds):bE m B (.agg (aJ cs o [.row i h e 0 n])) (.agg ds):=by
 subst hx hn;have hsel:bc m i=true:=by simpa [bc] using hm
 refine bE.agg (lj _ _ _ _ _ (hfk _ _) ⟨by simp only [cf,hsel,hB];exact ⟨trivial,trivial,by simp⟩,trivial⟩) ?_;rw [mS,hfz];refine eD.put (eD.refl _) o ?_ he;simp only [gl,hsel,hB];exact bq.sl (fun h=>h) (.inr rfl) fun k hk=>by simp [getD,hk,cA]
theorem bE.obj {m:Nat} {B:List aI} {cs:List SV} (hfk:∀sel B,bC sel B cs=True) (hfz:∀sel B,ew sel B cs=cs):bE m B (.agg cs) (.agg cs):=bE.agg (by rw [hfk];trivial) (by rw [hfz];exact eD.refl _)
theorem d_.two {m:Nat} {B:List aI} {a:List SV} {c:SV} {r r':List SV} (h:bE m B (.agg a) c) (hr:d_ m B r r'):d_ m B (.agg a :: r) (c :: r'):=d_.cons h.1 h.2 hr
theorem bE.Ru {m:Nat} {B:List aI} {l:cr} {q:List aA} {i n E:Nat} {h:aN} {xs:List (List SV)} (hm:m≤i) (hB:au B i= .row h E 45 xs) (hx:xs=q.map aA.c) (hn:n=q.length):bE m B (.agg (aJ l.c 3 [.row i h 45 0 n])) (.agg (cr.c {l with bA:=q})):=
 bE.K3 hm hB hx hn (fun s B=>by rw [cr.fk];trivial) (fun s B=>by rw [cr.fz]) rfl
theorem bE.nt {m:Nat} {B:List aI} {n:aR}:bE m B (.agg n.c) (.agg n.c):=bE.obj (fun s B=>by rw [aR.fk]) (fun s B=>by rw [aR.fz])
theorem R4 (l:cr) (s:SV):take 4 (aJ l.c 3 [s])=aJ l.c 3 [s]:=take_of_length_le (by rw [cd];exact le_refl _)
theorem ND {α:Type} (c:α→List SV) (d:α) (l:List α):map (cA c d (l.drop 1)) (range (l.length - 1))=(l.drop 1).map c:=by
 rw [show l.length - 1=(l.drop 1).length by simp];exact zm c d _
attribute [local push_cast] R4 ND
theorem gT.put {Q:af→Prop} {n y:aR} {x:cr} (hn:gT Q n) (hv:Iq n) (hx:qG Q x) (h1:y.bU.length≤n.bU.length+1) (h2:∀l∈y.bU,l=x∨l∈n.bU):gT Q y:=
 ⟨by have:=hv.1;omega,fun l hl=>(h2 l hl).elim (fun e=>e▸hx) (hn.l l)⟩
theorem xJ {Q:af→Prop} (n:aR) (m:aA) (hn:gT Q n) (hm:Q m.ba):EC prog 187 [.agg n.c,.agg m.c] [] fun r N=>N=[]∧∃x:aR×Int,(x.2=0→gT Q x.1)∧r= .bS [.agg x.1.c,.int .i64 x.2]:=by
 refine EC.bh ?_;refine nW ab (ca 187) func187 ntmps187 results187 ?_;(repeat' (first|(with_reducible intro hh;first|subst hh|(revert hh;intro _))|with_reducible apply And.intro|refine eK ab ?_|((refine EC.aM (f5 n hn) ?_;rintro bv hv))|refine EC.use (jU _) ?_|((refine EC.aM (jV n _ _ hn) ?_;rintro l ⟨⟨hlq,hq⟩,hl4⟩))|refine dM ab 7 [0,1,2,3,4,5,6,7,8,9,10,11,12,13] [0] bZ fun R hR=>?_|refine bT ab 1 3 ?_ ?_|refine bT ab 2 3 ?_ ?_|refine bT ab 1 4 ?_ ?_|refine dC ab 3 ?_|refine bT ab 2 4 ?_ ?_|refine dC ab 1 ?_|refine dR ab [4,5,6,7] ?_|refine dR ab [2,5,6,7] ?_|(refine hR _ _ ?_;refine sA ?_)|refine wA ab ?_|fail))<;>(first|(exact ⟨(_,_),by simp,Lt.t2 (a6.nt rfl) a6.int⟩)|assumption|omega|(simp_all;done)|skip)
 all_goals
  have hv':=hv (by simpa using ‹(!bv)=false›);have hlen:l.bA.length < 4096:=by have:=‹decide (4096≤(l.bA.length:Int))=false›;simp at this;omega
  have hx:qG Q {l with bA:=l.bA ++ [m]}:=⟨by simp;omega,fun y hy=>by
   rcases List.mem_append.1 hy with h|h
   ·exact hq y h
   ·rw [List.mem_singleton.1 h];exact hm⟩
  refine EC.mu 3 (d_.two bE.nt (d_.two (bE.Ru (by decide) rfl rfl (by simp)) .nil)) ?_;refine EC.aM (gq (Q:=Q) n {l with bA:=l.bA ++ [m]} (by have:=hn.ln;omega)) ?_;rintro y ⟨h1,h2⟩;(repeat' (first|refine eK ab ?_|fail))<;>((exact ⟨(y,0),fun _=>hn.put hv' hx h1 h2,Lt.t2 (a6.nt rfl) a6.int⟩))
theorem lH {Q:af→Prop} (n:aR) (hn:gT Q n):EC prog 74 [.agg n.c] [] fun r N=>N=[]∧∃x:List cV,x.length≤16384∧r=bG 2 cV.c default x:=by
 refine EC.bh ?_;refine nW ab (ca 74) func74 ntmps74 results74 ?_;(repeat' (first|(with_reducible intro hh;first|subst hh|(revert hh;intro _))|with_reducible apply And.intro|refine eK ab ?_|(refine EC.aM (f5 n hn) ?_;rintro _ _)|fail))<;>(first|(exact ⟨[],zero_le _,Lt.nil⟩)|skip);rename_i f1 bv hv hb;have hv':=hv (by simpa using hb);have hln:=hv'.1;refine cw 3 73 2 rfl ?_;intro hh;refine aT ab [10,11] (fun s:Nat×List cV×Nat×aN=>[(12,.int .i64 s.1),(3,.row 1 s.2.2.2 2 0 s.2.2.1)]) (fun B s=>cW B 1 s.2.2.2 (s.2.1.map cV.c)) (fun s=>s.1≤n.bU.length∧s.2.2.1=s.2.1.length∧s.2.1.length≤s.1) (fun s=>n.bU.length - s.1) (0,[],0,hh) ⟨zero_le _,rfl,zero_le _⟩ ?_;rintro ⟨i,m,km,hr⟩ ⟨hi,hk,hm⟩;replace hi:i≤n.bU.length:=hi;obtain rfl:km=m.length:=hk;replace hm:m.length≤i:=hm;have hw:=wI i;simp only [hw,push_cast,simprocAttr];(repeat' (with_reducible (first|intro _|apply And.intro)))<;>(first|omega|((try simp only [hw]);refine a7 (i+1,_,_,_) ?_)|(exact ⟨m,by omega,Lt.row rfl rfl rfl⟩))
 all_goals exact ⟨by show i+1≤_;omega,by simp,by simp;omega⟩
theorem sR {Q:af→Prop} (n:aR) (f t:Int) (hn:gT Q n):EC prog 138 [.agg n.c,.int .i64 f,.int .i64 t] [] fun r N=>N=[]∧∃x:aA×aR×Int,(x.2.2=0→Q x.1.ba∧gT Q x.2.1)∧r= .bS [.agg x.1.c,.agg x.2.1.c,.int .i64 x.2.2]:=by
 refine EC.bh ?_;refine nW ab (ca 138) func138 ntmps138 results138 ?_;(repeat' (first|(with_reducible intro hh;first|subst hh|(revert hh;intro _))|with_reducible apply And.intro|refine eK ab ?_|((refine EC.aM (f5 n hn) ?_;rintro bv hv))|((refine EC.aM (jV n _ _ hn) ?_;rintro l ⟨⟨hlq,hq⟩,hl4⟩))|fail))<;>(first|(exact ⟨(_,_,_),by simp,Lt.t3 (a6.ms rfl) (a6.nt rfl) a6.int⟩)|omega|(have hz:=‹((l.bA.length:Int) == 0)=false›;rw [beq_eq_false_iff_ne] at hz;omega)|skip);have hv':=hv (by simpa using ‹(!bv)=false›);have hlen:0 < l.bA.length:=by have hz:=‹((l.bA.length:Int) == 0)=false›;rw [beq_eq_false_iff_ne] at hz;omega
 have hm:Q (l.bA.getD 0 default).ba:=hq _ (bk hlen);generalize l.bA.getD 0 default=m at hm;have hx:qG Q {l with bA:=l.bA.drop 1}:=⟨by simp;omega,fun y hy=>hq y (List.mem_of_mem_drop hy)⟩;(repeat' (first|((refine EC.mu 5 (d_.two bE.nt (d_.two (bE.Ru (by decide) rfl rfl (by simp)) .nil)) ?_;refine EC.aM (gq (Q:=Q) n {l with bA:=l.bA.drop 1} (by have:=hn.ln;omega)) ?_;rintro y ⟨h1,h2⟩))|refine dM ab 7 [0,1,2,3,4,5,6,7,8,9,10,11,12,13] [] bZ fun R hR=>?_|refine mV ab 0 1 2 ?_ ?_ ?_|refine bT ab 1 2 ?_ ?_|refine bT ab 0 2 ?_ ?_|refine bT ab 0 1 ?_ ?_|refine dC ab 2 ?_|refine dC ab 1 ?_|refine bT ab 0 3 ?_ ?_|refine dR ab [3,4,5,6] ?_|refine dR ab [4,5,6] ?_|refine dC ab 0 ?_|(refine hR _ _ ?_;refine sA ?_)|refine wA ab ?_|fail))<;>((exact ⟨(m,y,0),fun _=>⟨hm,hn.put hv' hx h1 h2⟩,Lt.t3 (a6.ms rfl) (a6.nt rfl) a6.int⟩))
theorem QQ (l:cr) {f:Nat→List SV}:eD (aJ l.c 3 [.sl true 0 0 f]) (cr.c {l with bA:=[]}):=eD.put (eD.refl _) 3 (cB (cells:=aA.c) (d:=default)) rfl
theorem um {Q:af→Prop} (n:aR) (g:Int) (hn:gT Q n):EC prog 152 [.agg n.c,.int .i64 g] [] fun r N=>N=[]∧∃y:aR,gT Q y∧r= .agg y.c:=by
 refine EC.bh ?_;refine nW ab (ca 152) func152 ntmps152 results152 ?_;have hlt:∀{B:List aI} (y:aR),Lt B (.agg y.c) (.agg y.c):=fun y=>Lt.agg (eU.obj (cs:=y.c) (fun s B=>by rw [aR.fk]) (fun s B=>by rw [aR.fz]));(repeat' (first|(with_reducible intro hh;first|subst hh|(revert hh;intro _))|with_reducible apply And.intro|refine eK ab ?_|((refine EC.aM (f5 n hn) ?_;rintro bv hv))|fail))<;>(first|(exact ⟨n,hn,hlt n⟩)|skip);have hv':=hv (by simpa using ‹(!bv)=false›);have hln:=hv'.1;refine aT ab [1,4,5,14,15] (fun s:Nat×aR=>[(16,.int .i64 s.1)]) (fun B s=>cP B 2 [s.2.c]) (fun s=>s.1≤n.bU.length∧s.2.bU.length≤n.bU.length+s.1∧∀l∈s.2.bU,qG Q l) (fun s=>n.bU.length - s.1) (0,n) ⟨zero_le _,le_refl _,hn.l⟩ ?_;rintro ⟨i,o⟩ ⟨hi,ho,hq⟩;replace hi:i≤n.bU.length:=hi;replace ho:o.bU.length≤n.bU.length+i:=ho;replace hq:∀l∈o.bU,qG Q l:=hq;have hw:=wI i;simp only [hw,push_cast,simprocAttr];(repeat' (first|with_reducible (first|intro _|apply And.intro)|refine eK ab ?_|((refine EC.args (.cons (bq.refl _) (.cons (bq.agg (QQ _)) .nil)) ?_;refine EC.aM (gq (Q:=Q) o {(n.bU.getD i default) with bA:=[]} (by omega)) ?_;rintro y ⟨h1,h2⟩))|fail))<;>(first|omega|((try simp only [hw]);refine a7 (i+1,y) ⟨by show i+1≤_;omega,by show y.bU.length≤_+(i+1);omega,fun l hl=>(h2 l hl).elim (fun e=>e▸qG.no rfl) (hq l)⟩)|((try simp only [hw]);refine a7 (i+1,o) ⟨by show i+1≤_;omega,by show o.bU.length≤_+(i+1);omega,hq⟩)|(exact ⟨o,⟨by omega,hq⟩,hlt o⟩))
theorem D1 {σ:Type} {V:σ→aV} {R:σ→List aI} {Inv:σ→Prop} {live t':aV} {B':List aI} (s:σ) (hI:Inv s)
  (hw:kA t' (V s ++ live):=by first|(simp [kA,dd,List.take_length];done)|((repeat (first|exact trivial|refine And.intro (by first|rfl|(simp only [dd,push_cast,simprocAttr];done)|(simp [dd];done)|fail) ?_));done)|fail)
  (hb:B'.take (R s).length=R s:=by first|rfl|fail):MT V R Inv live t' B':=⟨s,hI,hw,hb⟩
theorem Ac {Q:af→Prop} (n:aR) (a b:Int) (c:Bool) (hn:gT Q n):EC prog 24 [.agg n.c,.int .i64 a,.int .i64 b,.bool c] [] fun r N=>N=[]∧∃x:aR×Int,(x.2=0→gT Q x.1)∧r= .bS [.agg x.1.c,.int .i64 x.2]:=by
 refine EC.bh ?_;refine nW ab (ca 24) func24 ntmps24 results24 ?_;(repeat' (first|(with_reducible intro hh;first|subst hh|(revert hh;intro _))|with_reducible apply And.intro|refine eK ab ?_|((refine EC.aM (f5 n hn) ?_;rintro bv hv))|refine EC.use (jU _) ?_|fail))<;>(first|(exact ⟨(_,_),by simp,Lt.t2 (a6.nt rfl) a6.int⟩)|assumption|(simp_all;done)|skip);have hv':=hv (by simpa using ‹(!bv)=false›);refine dB (σ:=Bool×aN×aN×cr×cr) [3,4,8] (fun s=>[(10,.bx (bif s.1 then 2 else 3) s.2.1 4 0 0),(11,.bx (bif s.1 then 3 else 2) s.2.2.1 4 0 0)]) (fun B s=>B ++ [bif s.1 then .row s.2.1 114 4 [s.2.2.2.1.c] else .row s.2.2.1 114 4 [s.2.2.2.2.c],bif s.1 then .row s.2.2.1 114 4 [s.2.2.2.2.c] else .row s.2.1 114 4 [s.2.2.2.1.c]]) (fun s=>qG Q s.2.2.2.1∧qG Q s.2.2.2.2) ?_ ?_;rotate_left 1
 ·(repeat' (first|with_reducible intro _|((refine EC.aM (jV n _ _ hn) ?_;rintro l ⟨hl,-⟩))|refine dM ab 6 [] [0,1,2,4,5,6] bZ fun R hR=>?_|refine mV ab 3 8 9 ?_ ?_ ?_|refine mV ab 7 8 9 ?_ ?_ ?_|refine bT ab 3 9 ?_ ?_|refine bT ab 3 8 ?_ ?_|refine bT ab 8 9 ?_ ?_|refine bT ab 7 9 ?_ ?_|refine bT ab 7 8 ?_ ?_|refine dR ab [3,7,10,11] ?_|refine dR ab [7,10,11] ?_|refine dR ab [10,11] ?_|refine dR ab [9,10,11] ?_|refine dR ab [8,10,11] ?_|(refine hR _ _ ?_;refine sA ?_)|fail))<;>(first|(refine D1 (true,_,_,_,_) ?_;exact ⟨by assumption,by assumption⟩)|(refine D1 (false,_,_,_,_) ?_;exact ⟨by assumption,by assumption⟩))
 rintro ⟨q,g1,g2,l1,l2⟩ ⟨hl1,hl2⟩;simp only [bK,dd,push_cast,simprocAttr]
 cases q
 all_goals (repeat' (first|((refine EC.aM (gq (Q:=Q) n {l1 with Cut:=c} (by have:=hn.ln;omega)) ?_;rintro y ⟨h1,h2⟩))|((refine EC.aM (gq (Q:=Q) y {l2 with Cut:=c} (by have:=hv'.1;omega)) ?_;rintro z ⟨h3,h4⟩))|refine dN ab [5] [] [0,1,3,2,4,5,6] bZ fun R hR=>?_|refine dR ab [4,5,6] ?_|refine dR ab [5,6] ?_|(refine hR _ _ ?_;refine sA ?_)|refine wA ab ?_|fail))
 all_goals
  refine ⟨(z,0),fun _=>⟨by have:=hv'.1;show z.bU.length≤_;omega,fun l hl=>?_⟩,Lt.t2 (a6.nt rfl) a6.int⟩;rcases h4 l hl with e|hl
  ·subst e;exact ⟨hl2.ln,hl2.q⟩
  ·rcases h2 l hl with e|hl
   ·subst e;exact ⟨hl1.ln,hl1.q⟩
   ·exact hn.l l hl
end
section
attribute [local irreducible] EC EV PN
def E9:Env:={E with zr:=fun T=>if T=61 then [tY,tY,.int .i64 0] else E.zr T}
theorem iB:cI prog E9:=⟨ab.ty,fun T h=>by
 simp only [E9] at h ⊢
 split
 ·rename_i e;subst e;kernel_rfl
 ·rename_i e;simp only [e,if_false] at h;exact ab.zr T h,ab.lv⟩
theorem Sj (T:Nat):E9.ty T=E.ty T:=rfl
theorem Sk (T:Nat):E9.lv T=E.lv T:=rfl
theorem Sl:E9.kp=E.kp:=rfl
theorem Si:E9.zr 61=[tY,tY,.int .i64 0]:=rfl
theorem Sh:E9.zr 162=E.zr 162:=rfl
theorem Sn (a b c x:SV):aJ [a,b,c] 0 [x]=[x,b,c]∧aJ [a,b,c] 1 [x]=[a,x,c]∧aJ [a,b,c] 2 [x]=[a,b,x]:=⟨rfl,rfl,rfl⟩
theorem Sm (a b c x y z:SV):aJ [a,b,c] 0 [x,y,z]=[x,y,z]:=rfl
attribute [local push_cast] Sj Sk Sl Si Sh Sn Sm eO dG
theorem qv (h:aN) (d:WK) (names:List (List UInt8)) (hnm:names.length=6):EC prog 84 [.bx 0 h 2 0 0,bG 1 jz default names] [f' h d.1] fun r N=>∃x:aP×WK,Ez x.1∧r= .agg x.1.c∧N=[f' h x.2.1]:=by
 refine EC.cM ?_;(refine nW iB (ca 84) func84 ntmps84 results84 ?_);(repeat' (first|with_reducible (first|intro _|apply And.intro)|refine eK iB ?_|((refine aE 0 (c8 h _ _ ?_) rfl ?_;(focus (constructor<;>decide));rintro ⟨pg,d2⟩ ⟨hpg1,hpg2⟩))|((refine aE 0 (js h _ _ _ ?_) rfl ?_;(focus (refine ⟨?_,?_,?_⟩<;>decide));rintro ⟨n,d3⟩ ⟨hn1,hn2⟩))|fail))<;>(first|rfl|skip);obtain ⟨n,hnn⟩:=Int.eq_ofNat_of_zero_le (show 0≤n by omega);subst hnn;replace hn2:(n:Int)≤9:=hn2;refine eY 2 0 0 162 4 (by simp) rfl rfl rfl ?_;intro hh;simp only [set_cons_succ,set_cons_zero,length_cons,length_nil,cons_append,nil_append,zero_add,Nat.reduceAdd];refine aT iB [0,4,5,6] (fun s:Nat×List bp×Nat×aN×WK=>[(7,.int .i64 s.1)]) (fun B s=>cW (cP (cP B 0 [s.2.2.2.2.1.c]) 2 [[.row 3 s.2.2.2.1 4 0 s.2.2.1,bG 1 jz default names,.int .i64 pg]]) 3 s.2.2.2.1 (s.2.1.map bp.c)) (fun s=>s.1≤n∧s.2.2.1=s.2.1.length∧s.2.1.length≤s.1) (fun s=>n - s.1) (0,[],0,hh,d3) ⟨zero_le _,rfl,le_refl _⟩ ?_;rintro ⟨i,m,km,hr,d4⟩ ⟨hi,hk,hm⟩;replace hi:i≤n:=hi;obtain rfl:km=m.length:=hk;replace hm:m.length≤i:=hm;have hw:=wI i;have hwn:IntKind.i64.wrap ((n:Int)+1)=((n+1:Nat):Int):=by rw [bu (by omega)];omega
 simp only [hw,push_cast,simprocAttr];(repeat' (first|with_reducible (first|intro _|apply And.intro)|refine eK iB ?_|((refine aE 0 (c8 h _ _ ?_) rfl ?_;(focus (first|(constructor<;>decide)|((try simp only [hwn]);constructor<;>omega)));rintro ⟨v,d5⟩ hv))|((refine aE 0 (js h _ _ _ ?_) rfl ?_;(focus (refine ⟨?_,?_,?_⟩<;>decide));rintro ⟨v,d5⟩ hv))|(refine EC.aM (o4 _ _) ?_;rintro _ _)|(refine EC.aM (tL _ _) ?_;rintro _ _)|(refine EC.aM (tM _ _ _) ?_;rintro _ _)|(refine EC.aM (rM _ _ _) ?_;rintro _ _)|(refine EC.aM (qu _ _ _) ?_;rintro _ _)|refine dJ iB 6 [9] [0,3] [0,1,2,3] bZ fun R hR=>?_|refine dJ iB 6 [10] [0,3] [0,1,2,3,4] bZ fun R hR=>?_|refine dJ iB 6 [11] [0,3] [0,1,2,3,4,5] bZ fun R hR=>?_|refine kh iB 4 ?_|refine kh iB 5 ?_|refine kh iB 6 ?_|refine kh iB 7 ?_|refine dR iB [8,9] ?_|refine kh iB 8 ?_|refine dR iB [9,10] ?_|refine kh iB 9 ?_|refine dR iB [10,11] ?_|(refine hR _ _ ?_;refine sA ?_)|fail))<;>(first|omega|((try simp only [hw]);exact a7 (i+1,m ++ [_],m.length+1,_,_) ⟨by show i+1≤_;omega,by simp,by simp;omega⟩)|(exact ⟨(⟨m,names,pg⟩,d4),⟨by show m.length≤100;omega,by show names.length≤8;omega,hpg1,hpg2⟩,Lk.Cf (gw.cons (jv.row (by decide) rfl rfl rfl) (gw.cons jv.sl (gw.cons jv.int gw.nil))),rfl⟩)|skip)
 all_goals
  (repeat' (first|with_reducible (first|intro _|apply And.intro)|((refine aE 0 (js h _ _ _ ?_) rfl ?_;(focus (refine ⟨?_,?_,?_⟩<;>decide));rintro ⟨v,d5⟩ hv))|(refine EC.aM (rN _) ?_;rintro _ _)|refine dJ iB 6 [8] [0,3] [0,1,2] bZ fun R hR=>?_|refine kh iB 3 ?_|refine kh iB 4 ?_|refine kh iB 5 ?_|refine kh iB 6 ?_|refine dR iB [7,8] ?_|(refine hR _ _ ?_;refine sA ?_)|fail))<;>(first|omega|((try simp only [hw]);exact a7 (i+1,m ++ [_],m.length+1,_,_) ⟨by show i+1≤_;omega,by simp,by simp;omega⟩))
theorem fP (h:aN) (d:WK):EC prog 26 [.bx 0 h 2 0 0] [f' h d.1] fun r N=>∃x:List Int×WK,x.1.length≤4∧r=bG 1 (aS .i64) default x.1∧N=[f' h x.2.1]:=by
 refine EC.cM ?_;refine nW ab (ca 26) func26 ntmps26 results26 ?_;(repeat' (done));refine cw 3 3 1 rfl ?_;intro hh;refine aT ab [0] (fun s:Nat×List Int×Nat×aN×WK=>[(4,.int .i64 s.1),(3,.row 1 s.2.2.2.1 1 0 s.2.2.1)]) (fun B s=>cW (cP B 0 [s.2.2.2.2.1.c]) 1 s.2.2.2.1 (s.2.1.map (aS .i64))) (fun s=>s.1≤4∧s.2.2.1=s.2.1.length∧s.2.1.length≤s.1) (fun s=>4 - s.1) (0,[],0,hh,d) ⟨zero_le _,rfl,le_refl _⟩ ?_;rintro ⟨i,m,km,hr,d1⟩ ⟨hi,hk,hm⟩;replace hi:i≤4:=hi;obtain rfl:km=m.length:=hk;replace hm:m.length≤i:=hm;have hw:=wI i;simp only [hw,push_cast,simprocAttr];(repeat' (first|with_reducible (first|intro _|apply And.intro)|refine eK ab ?_|((refine aE 0 (c8 h d1 _ ?_) rfl ?_;(focus (constructor<;>decide));rintro ⟨v,d2⟩ hv))|fail))<;>(first|omega|((try simp only [hw]);exact a7 (i+1,m ++ [_],m.length+1,_,d2) ⟨by show i+1≤_;omega,by simp,by simp;omega⟩)|((try simp only [hw]);exact a7 (i+1,m,m.length,hr,d2) ⟨by show i+1≤_;omega,rfl,by show m.length≤i+1;omega⟩)|(exact ⟨(m,d1),by show m.length≤4;omega,Pb.row (by decide) rfl rfl rfl,rfl⟩))
end
def vr (E:Nat) (B:List aI) (M:SV) (l:List aA):Prop:=
 (∃i h n xs,M= .row i h 45 0 n∧au B i= .row h E 45 xs∧xs=l.map aA.c∧n=l.length)∨(∃f,M= .sl true 45 0 f∧l=[])∨(∃f,M= .sl true 0 0 f∧l=[])
theorem EC.G' {P:Program} {f:Nat} {args:List SV} {α:Type} {A:α→SV} {T:α→List SV} {E:Nat} {C:α×List aA→Prop}
  (h:EC P f args [] fun r B'=>∃s,C s∧∃M,r= .bS (A s.1 :: M :: T s.1)∧vr E B' M s.2):
  EC P f args [] fun r N=>∃s:(α×List aA)×aN,C s.1∧r= .bS (A s.1.1 :: .row 0 s.2 45 0 s.1.2.length :: T s.1.1)∧N=[.row s.2 E 45 (s.1.2.map aA.c)]:=by
 refine ⟨h.1,fun X w vs hs hd=>(h.2 X w vs hs hd).mono ?_⟩;rintro ex w' ⟨v,r,X',B',he,⟨s,hC,M,rfl,hM⟩,hsat,hden,hext⟩;have key:∀u,Den X' w' M u→∃hh,Den X' w' (.row 0 hh 45 0 s.2.length) u∧((∃i,au B' i= .row hh E 45 (s.2.map aA.c))∨∃a,hh= .void a∧s.2=[]):=by
  intro u hu;rcases hM with ⟨i,hh,n,xs,rfl,hB,rfl,rfl⟩|⟨f,rfl,hl⟩|⟨f,rfl,hl⟩
  ·refine ⟨hh,?_,.inl ⟨i,hB⟩⟩;generalize s.2.length=n at hu ⊢
   cases hu with
   |dh i a esz lo=>exact .dh _ _ _ _
   |rowAt i b cap esz n h=>exact .rowAt _ _ _ _ _ h
  ·cases hu with
   |@gC _ _ _ a cap hf=>
    obtain rfl:=hf rfl;rw [hl];exact ⟨.void a,.dh _ _ _ _,.inr ⟨a,rfl,rfl⟩⟩
   |na _ hn=>exact absurd hn (Nat.lt_irrefl 0)
  ·cases hu with
   |@gC _ _ _ a cap hf=>
    obtain rfl:=hf rfl;rw [hl];exact ⟨.void a,.dh _ _ _ _,.inr ⟨a,rfl,rfl⟩⟩
   |na _ hn=>exact absurd hn (Nat.lt_irrefl 0)
 cases hden with
 |@bS _ vs' hsz hc=>
  obtain ⟨hh,hd2,hB⟩:=key _ (hc 1 M rfl);have hbl:∀i b,b∈(au [aI.row hh E 45 (s.2.map aA.c)] i).blocks→i=0∧∃j,b∈(au B' j).blocks:=by
   intro i b hb
   cases i with
   |succ i=>simp [au,aI.blocks] at hb
   |zero=>
    refine ⟨rfl,?_⟩;rcases hB with ⟨j,hj⟩|⟨a,rfl,_⟩
    ·exact ⟨j,by rw [hj];exact hb⟩
    ·simp [au,aI.blocks] at hb
  refine ⟨_,_,X',_,he,⟨(s,hh),hC,rfl,rfl⟩,⟨fun i j b h1 h2=>(hbl i b h1).1.trans (hbl j b h2).1.symm,fun i b h1=>?_,hsat.xg,fun b hx ⟨i,hb⟩=>?_,fun i=>?_⟩,.bS (by simpa using hsz) fun i c hi=>?_,
   ⟨hext.os,hext.tape,hext.output,hext.size,hext.block,hext.AS,hext.pT,fun b ⟨i,hb⟩=>?_⟩⟩
  ·obtain ⟨_,j,hj⟩:=hbl i b h1;exact hsat.lt j b hj
  ·obtain ⟨_,j,hj⟩:=hbl i b hb;exact hsat.apart b hx ⟨j,hj⟩
  ·cases i with
   |succ i=>exact trivial
   |zero=>
    rcases hB with ⟨j,hj⟩|⟨a,rfl,hl⟩
    ·have:=hsat.ok j;rw [hj] at this;exact this
    ·show map aA.c s.2=[];rw [hl];rfl
  ·match i,hi with
   |0,hi=>exact hc 0 c hi
   |1,hi=>simp at hi;subst hi;exact hd2
   |i+2,hi=>exact hc (i+2) c hi
  ·obtain ⟨_,j,hj⟩:=hbl i b hb;exact hext.own b ⟨j,hj⟩
theorem vr.nil {E:Nat} {B:List aI} {f:Nat→List SV}:vr E B (.sl true 0 0 f) []:= .inr (.inr ⟨_,rfl,rfl⟩)
theorem vr.row {E:Nat} {B:List aI} {i n:Nat} {h:aN} {xs:List (List SV)} {l:List aA} (hB:au B i= .row h E 45 xs) (hx:xs=l.map aA.c) (hn:n=l.length):vr E B (.row i h 45 0 n) l:= .inl ⟨i,h,n,xs,rfl,hB,hx,hn⟩
section
attribute [local irreducible] EC EV
attribute [local push_cast] eO dG
theorem mA (n:Int):EC prog 177 [.int .i64 n] [] fun r N=>N=[]∧r= .bool (oz n):=by
 refine EC.cQ ?_;refine nK ab (ca 177) func177 ntmps177 results177 ?_;(repeat' (first|refine zL ?_|fail))<;>(exact zA)
def JD (n:Int):Bool:=n == 1 || n == 2
theorem gP (n:Int):EC prog 188 [.int .i64 n] [] fun r N=>N=[]∧r= .bool (JD n):=by
 refine EC.cQ ?_;refine nK ab (ca 188) func188 ntmps188 results188 ?_;(repeat' (first|refine zL ?_|fail))<;>(exact zA)
def kO (o:af):Bool:=o.ID == 0 && (o.aU == 0 && ia o)
theorem mz (o:af):EC prog 213 [.agg o.c] [] fun r N=>N=[]∧r= .bool (kO o):=by
 refine EC.cQ ?_;refine nK ab (ca 213) func213 ntmps213 results213 ?_;(repeat' (first|refine eK ab ?_|refine EC.use (cZ o) ?_|refine zL ?_|(with_reducible intro _)|with_reducible apply And.intro))<;>(first|exact zA|(simp_all [kO];done))
theorem vZ (x:bw):EC prog 176 [.agg x.c] [] fun r N=>N=[]∧∃b:Bool,True∧r= .bool b:=by
 refine EC.bh ?_;refine nW ab (ca 176) func176 ntmps176 results176 ?_;(repeat' (first|with_reducible (first|intro _|apply And.intro)|refine eK ab ?_|refine EC.use (gP _) ?_|refine EC.use (mz _) ?_|fail))<;>(first|(exact ⟨_,Lt.bool rfl⟩)|assumption|(simp only [*];rfl)|(simp_all;done)|grind)
theorem Lt.tk {B:List aI} {x y:bw} (h:x=y):Lt B (.agg x.c) (.agg y.c):=by subst h;exact Lt.agg (eU.obj (cs:=x.c) (fun s B=>by rw [bw.fk]) (fun s B=>by rw [bw.fz]))
theorem a6.uY {B:List aI} {x y:a9} (h:x=y):a6 B (.agg x.c) (.agg y.c):=by subst h;exact a6.agg (eU.obj (cs:=x.c) (fun s B=>by rw [a9.fk]) (fun s B=>by rw [a9.fz]))
def Lc (t:a9):Prop:=(t.aD.map (·.ID)).Nodup
theorem LK {α:Type} [Inhabited α] {f:α→Int} {l:List α} (h:∀j,j < l.length→0 < j→f (l.getD (j - 1) default) < f (l.getD j default)):(l.map f).Nodup:=by
 have key:∀k j,j+k < l.length→0 < k→f (l.getD j default) < f (l.getD (j+k) default):=fun k=>by
  induction k with
  |zero=>intro j _ h0;omega
  |succ k ih=>
   intro j hj _;have h1:=h (j+(k+1)) hj (by omega);rw [show j+(k+1) - 1=j+k by omega] at h1;by_cases h0:0 < k
   ·exact Int.lt_trans (ih j (by omega) h0) h1
   ·rw [show k=0 by omega] at h1 ⊢;exact h1
 rw [List.nodup_iff_pairwise_ne,List.pairwise_iff_getElem];intro i j hi hj hij;simp only [List.length_map] at hi hj;have h1:=key (j - i) i (by omega) (by omega);rw [show i+(j - i)=j by omega] at h1;simp only [getD,hi,hj,List.getElem?_eq_getElem,Option.getD_some] at h1;simp only [List.getElem_map];omega
theorem fx (t:a9) (hl:t.aD.length≤1099511627776):EC prog 118 [.agg t.c] [] fun r N=>N=[]∧∃b:Bool,(b=true→Lc t)∧r= .bool b:=by
 refine EC.bh ?_;refine nW ab (ca 118) func118 ntmps118 results118 ?_;(repeat' (with_reducible intro _));refine bV ab [1,6,7] 8 t.aD.length (fun i=>∀j,j < i→0 < j→(t.aD.getD (j - 1) default).ID < (t.aD.getD j default).ID) (fun j hj=>absurd hj (not_lt_zero j)) (by omega) ?_;intro i hI hi hw;have hi0:0 < (i:Int)→IntKind.i64.wrap ((i:Int) - 1)=((i - 1:Nat):Int):=fun h=>by rw [bu (by omega)];omega
 have hfin:∀{b:Bool},(b=true→i=t.aD.length)→b=true→Lc t:=fun h hb=>LK fun j hj h0=>hI j (by have:=h hb;omega) h0;simp only [hw,push_cast,simprocAttr];(repeat' (first|(with_reducible intro hh;first|subst hh|(revert hh;intro _))|with_reducible apply And.intro|refine eK ab ?_|(refine EC.aM (vZ _) ?_;rintro _ _)|refine EC.use (mA _) ?_|refine dN ab [] [] [0,1,2,3,4,5,6,7,8,9,10,11,12,13,14,15,16,17,18] bZ fun R hR=>?_|refine dR ab [2,3,4,5,6,7,8,9,10,11,12,13,14,15,16,17,18] ?_|(refine hR _ _ ?_;refine sA ?_)|refine wA ab ?_|fail))<;>(first|(exact ⟨false,fun h=>(nomatch h),Lt.bool rfl⟩)|(refine ⟨_,hfin fun _=>?_,Lt.bool rfl⟩;have hz:=‹decide ((i:Int) < _)=false›;simp at hz;omega)|omega|(have hz:=‹(_ && decide (0 < (i:Int)))=true›;simp only [Bool.and_eq_true,decide_eq_true_eq] at hz;rw [hi0 hz.2];omega)|rfl|skip)
 all_goals try (simp_all;done)
 all_goals
  (try simp only [hw]);rename_i hz;refine cO fun j hj h0=>?_;rcases lt_or_ge j i with h|h
  ·exact hI j h h0
  ·obtain rfl:j=i:=by omega
   rw [hi0 (by omega),Int.toNat_natCast] at hz;simp only [Bool.or_eq_false_iff,Bool.and_eq_false_iff,decide_eq_false_iff_not] at hz;have:=hz.2;omega
theorem fc {Q:af→Prop} (t:a9) (id:Int) (hl:t.aD.length≤1099511627776) (hq:∀x∈t.aD,Q x.ba) (h0:Q default):EC prog 120 [.agg t.c,.int .u64 id] [] fun r N=>N=[]∧∃x:bw,Q x.ba∧r= .agg x.c:=by
 refine EC.bh ?_;refine nW ab (ca 120) func120 ntmps120 results120 ?_;(repeat' (with_reducible intro _));refine bV ab [1,4,8,9] 10 t.aD.length (fun _=>True) trivial (by omega) ?_;intro i _ hi hw;have hmem:i < t.aD.length→t.aD.getD i default∈t.aD:=fun h=>bk h;simp only [hw,push_cast,simprocAttr];(repeat' (with_reducible (first|intro _|apply And.intro)))<;>(first|omega|((try simp only [hw]);exact cO trivial)|(exact ⟨_,hq _ (hmem (by omega)),Lt.tk rfl⟩)|(exact ⟨_,h0,Lt.tk rfl⟩))
theorem oS {Q:af→Prop} (t:a9) (id m:Int) (hl:t.aD.length≤1099511627776) (hq:∀x∈t.aD,Q x.ba) (h0:Q default):EC prog 146 [.agg t.c,.int .u64 id,.int .i64 m] [] fun r N=>N=[]∧∃b:Bool,True∧r= .bool b:=by
 refine EC.bh ?_;refine nW ab (ca 146) func146 ntmps146 results146 ?_;(repeat' (first|with_reducible (first|intro _|apply And.intro)|refine eK ab ?_|refine EC.use (gP _) ?_|(refine EC.aM (fc t _ hl hq h0) ?_;rintro _ _)|fail))<;>(first|(exact ⟨_,Lt.bool rfl⟩)|assumption|(simp_all;done))
theorem gp {Q:af→Prop} (t:a9) (id:Int) (hl:t.aD.length≤1099511627776) (hq:∀x∈t.aD,Q x.ba) (h0:Q default):EC prog 126 [.agg t.c,.int .u64 id] [] fun r N=>N=[]∧∃x:af×Int,Q x.1∧r= .bS [.agg x.1.c,.int .i64 x.2]:=by
 refine EC.bh ?_;refine nW ab (ca 126) func126 ntmps126 results126 ?_;(repeat' (first|with_reducible (first|intro _|apply And.intro)|refine eK ab ?_|refine EC.use (gP _) ?_|(refine EC.aM (fc t _ hl hq h0) ?_;rintro _ _)|fail))<;>((exact ⟨(_,_),‹Q _›,Lt.t2 (a6.tf rfl) a6.int⟩))
def E6:Env:={E with zr:=fun T=>if T=135 then [.int .i64 0,tY] else E.zr T}
theorem lW:cI prog E6:=⟨ab.ty,fun T h=>by
 simp only [E6] at h ⊢
 split
 ·rename_i e;subst e;kernel_rfl
 ·rename_i e;simp only [e,if_false] at h;exact ab.zr T h,ab.lv⟩
theorem Pk (T:Nat):E6.ty T=E.ty T:=rfl
theorem Pl:E6.kp=E.kp:=rfl
theorem Pj:E6.zr 135=[.int .i64 0,tY]:=rfl
theorem LX:E6.zr 205=E.zr 205:=rfl
theorem Qt (a b x:SV):aJ [a,b] 0 [x]=[x,b]:=rfl
theorem Qs (a b x:SV):aJ [a,b] 1 [x]=[a,x]:=rfl
theorem Qr (a b x y:SV):aJ [a,b] 0 [x,y]=[x,y]:=rfl
attribute [push_cast] Pk Pl Pj LX Qt Qs Qr
theorem Lt.uY {B:List aI} {i n E:Nat} {h:aN} {xs:List (List SV)} {l:List bw} {nd:Int} (hB:au B i= .row h E 41 xs) (hx:xs=l.map bw.c) (hn:n=l.length):Lt B (.agg [.int .i64 nd,.row i h 41 0 n]) (.agg (a9.mk nd l).c):=
 Lt.agg ((eU.obj (cs:=(a9.mk nd []).c) (fun s B=>by rw [a9.fk]) (fun s B=>by rw [a9.fz])).put 1 (gY.row hB hx hn) rfl)
structure Eu (t:a9) (x:bw) (y:a9):Prop where
 nd:y.bW=t.bW
 ln:y.aD.length≤t.aD.length+1
 mem:∀l∈y.aD,l=x∨l∈t.aD
 nu:Lc t→Lc y
structure pU (t:a9) (x:bw) (i:Nat) (b:Bool) (m:List bw):Prop where
 ln:m.length≤i+(bif b then 1 else 0)
 mem:∀l∈m,l=x∨l∈t.aD.take i∧l.ID≠x.ID
 nu:Lc t→(m.map (·.ID)).Nodup
 nx:b=false→∀l∈m,l.ID≠x.ID
theorem pU.zero {t:a9} {x:bw} {b:Bool}:pU t x 0 b []:=⟨zero_le _,fun l h=>(nomatch h),fun _=>List.nodup_nil,fun _ l h=>(nomatch h)⟩
theorem pU.x {t:a9} {x:bw} {i:Nat} {m:List bw} (h:pU t x i false m):pU t x i true (m ++ [x]):=
 ⟨by have:=h.ln;simp at this ⊢;omega,fun l hl=>by
  rcases List.mem_append.1 hl with hl|hl
  ·exact h.mem l hl
  ·exact .inl (List.mem_singleton.1 hl),fun hn=>by
  rw [map_append,List.nodup_append];refine ⟨h.nu hn,by simp,fun a ha b hb=>?_⟩;obtain ⟨l,hl,rfl⟩:=List.mem_map.1 ha;simp only [List.map_cons,map_nil,mem_singleton] at hb;subst hb
  exact h.nx rfl l hl,fun e=>by cases e⟩
theorem pU.Lo {t:a9} {x:bw} {i:Nat} {b:Bool} {m:List bw} (h:pU t x i b m):pU t x (i+1) b m:=
 ⟨by have:=h.ln;omega,fun l hl=>(h.mem l hl).imp_right fun hh=>⟨List.mem_of_mem_take (i:=i) (by rw [List.take_take];simpa using hh.1),hh.2⟩,h.nu,h.nx⟩
theorem pU.y {t:a9} {x:bw} {i:Nat} {b:Bool} {m:List bw} (h:pU t x i b m) (hi:i < t.aD.length) (hx:(t.aD.getD i default).ID≠x.ID):pU t x (i+1) b (m ++ [t.aD.getD i default]):=by
 have e:t.aD.getD i default=t.aD[i]:=by simp [getD,hi]
 refine ⟨by have:=h.ln;simp;omega,fun l hl=>?_,fun hn=>?_,fun hb l hl=>?_⟩
 ·rcases List.mem_append.1 hl with hl|hl
  ·exact h.Lo.mem l hl
  ·rw [List.mem_singleton.1 hl];exact .inr ⟨by rw [e];exact List.mem_take_iff_getElem.2 ⟨i,by omega,rfl⟩,hx⟩
 ·rw [map_append,List.nodup_append];refine ⟨h.nu hn,by simp,fun a ha b hb=>?_⟩;obtain ⟨l,hl,rfl⟩:=List.mem_map.1 ha;simp only [List.map_cons,map_nil,mem_singleton] at hb;subst hb;rcases h.mem l hl with rfl|⟨hm,-⟩
  ·exact fun he=>hx he.symm
  ·obtain ⟨j,hj,rfl⟩:=List.mem_take_iff_getElem.1 hm;rw [e];unfold Lc at hn;rw [List.nodup_iff_pairwise_ne,List.pairwise_iff_getElem] at hn;have:=hn j i (by simp;omega) (by simpa using hi) (by omega);simpa using this
 ·rcases List.mem_append.1 hl with hl|hl
  ·exact h.nx hb l hl
  ·rw [List.mem_singleton.1 hl];exact hx
theorem pU.fin {t:a9} {x:bw} {b:Bool} {m:List bw} (h:pU t x t.aD.length b m):Eu t x ⟨t.bW,m⟩:=
 ⟨rfl,le_trans h.ln (by cases b<;>simp),fun l hl=>(h.mem l hl).imp_right fun hh=>by have:=hh.1;rwa [List.take_length] at this,h.nu⟩
theorem nG (t:a9) (x:bw) (hn:t.aD.length≤1073741824):EC prog 121 [.agg t.c,.agg x.c] [] fun r N=>N=[]∧∃y:a9,Eu t x y∧r= .agg y.c:=by
 refine EC.bh ?_;(refine nW lW (ca 121) func121 ntmps121 results121 ?_);(repeat' (with_reducible (first|intro _|apply And.intro)))<;>(first|rfl|skip);refine eY 3 0 1 205 41 (by simp) rfl rfl rfl ?_;intro hh;simp only [set_cons_succ,set_cons_zero,length_cons,length_nil,cons_append,nil_append,zero_add,Nat.reduceAdd];refine aT lW [3,4,5,21,22] (fun s:Nat×Bool×List bw×Nat×aN=>[(23,.int .i64 s.1),(6,.bool s.2.1)]) (fun B s=>cW (cP B 3 [[.int .i64 t.bW,.row 4 s.2.2.2.2 41 0 s.2.2.2.1]]) 4 s.2.2.2.2 (s.2.2.1.map bw.c)) (fun s=>s.1≤t.aD.length∧s.2.2.2.1=s.2.2.1.length∧pU t x s.1 s.2.1 s.2.2.1) (fun s=>t.aD.length - s.1) (0,_,[],0,hh) ⟨zero_le _,rfl,pU.zero⟩ ?_;rintro ⟨i,b,m,km,hr⟩ ⟨hi,hk,hm⟩;replace hi:i≤t.aD.length:=hi;obtain rfl:km=m.length:=hk;replace hm:pU t x i b m:=hm;have hln:=hm.ln;have hb1:(bif b then 1 else 0)≤1:=by cases b<;>decide
 have hw:=wI i;simp only [hw,push_cast,simprocAttr];(repeat' (first|(with_reducible intro hh;first|subst hh|(revert hh;intro _))|with_reducible apply And.intro))<;>(first|omega|((try simp only [hw]);refine a7 (i+1,_,_,_,_) ?_)|skip)
 all_goals try omega
 all_goals try (have hz:=‹(!b && decide (x.ID≤_))=true›;simp only [Bool.and_eq_true,Bool.not_eq_true'] at hz;obtain ⟨rfl,-⟩:=hz;replace hln:m.length≤i:=hln)
 all_goals try omega
 all_goals try (simp only [length_append,length_cons,length_nil];omega)
 all_goals try refine ⟨by show i+1≤_;omega,by simp,?_⟩
 all_goals try (have hz:=‹(_ !=x.ID)=true›;simp only [bne_iff_ne] at hz)
 all_goals try first|exact hm.x.y (by omega) hz|exact hm.y (by omega) hz|exact hm.x.Lo|exact hm.Lo
 all_goals
  obtain rfl:i=t.aD.length:=by (have hz:=‹decide ((i:Int) < _)=false›;simp at hz;omega)
  first|exact ⟨_,hm.fin,Lt.uY rfl rfl rfl⟩|exact ⟨_,hm.x.fin,Lt.uY rfl rfl (length_append ..).symm⟩|exact ⟨⟨t.bW,m ++ [x]⟩,hm.x.fin,Lt.uY rfl rfl (by simp)⟩
structure yA (Q:af→Prop) (k:Nat) (t y:a9):Prop where
 nd:y.bW=t.bW
 ln:y.aD.length≤t.aD.length+k
 q:∀l∈y.aD,Q l.ba
theorem yA.refl {Q:af→Prop} {k:Nat} {t:a9} (hq:∀x∈t.aD,Q x.ba):yA Q k t t:=⟨rfl,Nat.le_add_right _ _,hq⟩
theorem Eu.tk {Q:af→Prop} {t y:a9} {x:bw} (h:Eu t x y) (hq:∀x∈t.aD,Q x.ba) (hx:Q x.ba):yA Q 1 t y:=
 ⟨h.nd,h.ln,fun l hl=>(h.mem l hl).elim (fun e=>e▸hx) (hq l)⟩
theorem gO {Q:af→Prop} (t:a9) (x:bw) (hn:t.aD.length≤1073741824) (hq:∀x∈t.aD,Q x.ba) (hx:Q x.ba):EC prog 121 [.agg t.c,.agg x.c] [] fun r N=>N=[]∧∃y:a9,yA Q 1 t y∧r= .agg y.c:=
 (nG t x hn).mono fun r N ⟨h1,y,h2,h3⟩=>⟨h1,y,h2.tk hq hx,h3⟩
theorem bd {p:Prop} {c:Int} (h:(c == 0)=false):c=0→p:=fun e=>by rw [e] at h;simp at h
structure dU (Q:af→Prop) (k:Nat) (l:List aA):Prop where
 ln:l.length≤k
 q:∀m∈l,Q m.ba
theorem dU.nil {Q:af→Prop} {k:Nat}:dU Q k []:=⟨zero_le _,fun m h=>(nomatch h)⟩
theorem dU.one {Q:af→Prop} {m:aA} (h:Q m.ba):dU Q 1 [m]:=⟨le_refl _,fun x hx=>by rw [List.mem_singleton.1 hx];exact h⟩
theorem a6.Ep {B:List aI} {α:Type} {i e E:Nat} {h:aN} {cells:α→List SV} {d x:α} (hB:au B i= .row h E e [cells x]):a6 B (.row i h e 0 1) (Go.Lift.bG e cells d [x]):=a6.row (l:=[x]) hB rfl rfl
attribute [local irreducible] kO JD
def CK (x:a9×List aA×Int):SV:= .bS [.agg x.1.c,bG 45 aA.c default x.2.1,.int .i64 x.2.2]
section
variable {Q:af→Prop} (t:a9) (hl:t.aD.length≤1073741824) (hq:∀x∈t.aD,Q x.ba) (h0:Q default)
include hl hq h0
theorem xG (id m home:Int):EC prog 241 [.agg t.c,.int .u64 id,.int .i64 m,.int .i64 home] [] fun r N=>N=[]∧∃x:a9×List aA×Int,(x.2.2=0→yA Q 1 t x.1∧dU Q 1 x.2.1)∧r=CK x:=by
 refine EC.bh ?_;refine nW ab (ca 241) func241 ntmps241 results241 ?_;(repeat' (first|(with_reducible intro hh;first|subst hh|(revert hh;intro _))|with_reducible apply And.intro|refine eK ab ?_|(refine EC.aM (fx t (by omega)) ?_;rintro _ _)|refine EC.use (gP _) ?_|refine EC.use (mA _) ?_|(refine EC.aM (fc t _ (by omega) hq h0) ?_;rintro _ _)|((refine EC.aM (gO t _ hl hq ?_) ?_;(focus (assumption));rintro y hy))|refine dM ab 5 [1] [0,1,3,4,5,6,7,8] bZ fun R hR=>?_|refine bT ab 2 9 ?_ ?_|refine bT ab 9 10 ?_ ?_|refine dR ab [2,10,11,12] ?_|refine dR ab [10,11,12] ?_|refine dR ab [9,11,12] ?_|(refine hR _ _ ?_;refine sA ?_)|refine wA ab ?_|fail))<;>(first|(exact ⟨(_,[],_),bd rfl,Lt.t3 (a6.uY rfl) a6.nil a6.int⟩)|(exact ⟨(t,[],0),fun _=>⟨yA.refl hq,dU.nil⟩,Lt.t3 (a6.uY rfl) a6.nil a6.int⟩)|(refine ⟨(_,[_],0),fun _=>⟨hy,dU.one ?_⟩,Lt.t3 (a6.uY rfl) (a6.Ep rfl) a6.int⟩;exact h0)|(simp_all;done))
theorem v3 (m:aA) (hm:Q m.ba):EC prog 210 [.agg t.c,.agg m.c] [] fun r N=>N=[]∧∃x:a9×Int,(x.2=0→yA Q 1 t x.1)∧r= .bS [.agg x.1.c,.int .i64 x.2]:=by
 refine EC.bh ?_;refine nW ab (ca 210) func210 ntmps210 results210 ?_;(repeat' (first|(with_reducible intro hh;first|subst hh|(revert hh;intro _))|with_reducible apply And.intro|refine eK ab ?_|refine EC.use (gP _) ?_|refine EC.use (mz _) ?_|(refine EC.aM (fx t (by omega)) ?_;rintro _ _)|(refine EC.aM (fc t _ (by omega) hq h0) ?_;rintro _ _)|((refine EC.aM (gO t _ hl hq ?_) ?_;(focus (exact hm));rintro y hy))|refine dM ab 6 [0,1,2,3,4,5,6,7,8,9,10,11,12,13] [0,2] bZ fun R hR=>?_|refine bT ab 1 3 ?_ ?_|refine dP ab 4 [4] ?_|refine bT ab 3 5 ?_ ?_|refine dC ab 1 ?_|refine dR ab [5,6,7] ?_|refine dC ab 3 ?_|refine dR ab [4,5,6,7] ?_|refine dR ab [6,7] ?_|(refine hR _ _ ?_;refine sA ?_)|refine wA ab ?_|fail))<;>(first|(exact ⟨(_,_),bd rfl,Lt.t2 (a6.uY rfl) a6.int⟩)|(exact ⟨(_,0),fun _=>hy,Lt.t2 (a6.uY rfl) a6.int⟩)|assumption|(simp_all;done))
theorem qh (x:bw) (home:Int) (hx:Q x.ba):EC prog 283 [.agg t.c,.agg x.c,.int .i64 home] [] fun r N=>N=[]∧∃y:a9×aA,((∃z:bw,z.ID=x.ID∧Eu t z y.1∧yA Q 1 t y.1)∧Q y.2.ba)∧r= .bS [.agg y.1.c,.agg y.2.c]:=by
 refine EC.bh ?_;refine nW ab (ca 283) func283 ntmps283 results283 ?_;(repeat' (first|with_reducible (first|intro _|apply And.intro)|((refine EC.aM (nG t _ hl) ?_;rintro y hy))|refine dN ab [] [2,3] [0,1,2,3,4,5,7,6,8,9] bZ fun R hR=>?_|refine dR ab [8,9] ?_|(refine hR _ _ ?_;refine sA ?_)|refine wA ab ?_|fail))<;>((refine ⟨(_,_),⟨⟨_,?_,hy,hy.tk hq ?_⟩,?_⟩,Lt.t2 (a6.uY rfl) (a6.ms rfl)⟩<;>first|rfl|exact hx|exact h0))
theorem uj (m:aA):EC prog 211 [.agg t.c,.agg m.c] [] fun r N=>N=[]∧∃x:a9×List aA×Int,(x.2.2=0→yA Q 1 t x.1∧dU Q 1 x.2.1)∧r=CK x:=by
 refine EC.bh ?_;refine nW ab (ca 211) func211 ntmps211 results211 ?_;(repeat' (first|(with_reducible intro hh;first|subst hh|(revert hh;intro _))|with_reducible apply And.intro|refine eK ab ?_|(refine EC.aM (fx t (by omega)) ?_;rintro _ _)|(refine EC.aM (fc t _ (by omega) hq h0) ?_;rintro _ _)|((refine EC.aM (gO t _ hl hq ?_) ?_;(focus (assumption));rintro y hy))|((refine EC.aM (qh t hl hq h0 _ _ ?_) ?_;(focus assumption);rintro ⟨y,o⟩ ⟨⟨z,-,-,hy⟩,ho⟩))|refine dM ab 6 [0,1,2,3,4,5,6,7,8,9,10,11,12,13] [] bZ fun R hR=>?_|refine bT ab 0 1 ?_ ?_|refine bT ab 1 3 ?_ ?_|refine bT ab 0 2 ?_ ?_|refine bT ab 2 3 ?_ ?_|refine dC ab 1 ?_|refine dC ab 0 ?_|refine dR ab [3,4,5] ?_|refine dR ab [2,4,5] ?_|(refine hR _ _ ?_;refine sA ?_)|refine wA ab ?_|fail))<;>(first|(exact ⟨(_,[],_),bd rfl,Lt.t3 (a6.uY rfl) a6.nil a6.int⟩)|(exact ⟨(t,[],0),fun _=>⟨yA.refl hq,dU.nil⟩,Lt.t3 (a6.uY rfl) a6.nil a6.int⟩)|(exact ⟨(_,[_],0),fun _=>⟨hy,dU.one ho⟩,Lt.t3 (a6.uY rfl) (a6.Ep rfl) a6.int⟩)|(exact ⟨(_,[],0),fun _=>⟨hy,dU.nil⟩,Lt.t3 (a6.uY rfl) a6.nil a6.int⟩))
theorem z_ (id m:Int):EC prog 185 [.agg t.c,.int .u64 id,.int .i64 m] [] fun r N=>N=[]∧∃x:a9×Int,(x.2=0→yA Q 1 t x.1)∧r= .bS [.agg x.1.c,.int .i64 x.2]:=by
 refine EC.bh ?_;refine nW ab (ca 185) func185 ntmps185 results185 ?_;(repeat' (first|(with_reducible intro hh;first|subst hh|(revert hh;intro _))|with_reducible apply And.intro|refine eK ab ?_|refine EC.use (gP _) ?_|(refine EC.aM (fx t (by omega)) ?_;rintro _ _)|(refine EC.aM (fc t _ (by omega) hq h0) ?_;rintro _ _)|((refine EC.aM (gO t _ hl hq ?_) ?_;(focus (assumption));rintro y hy))|fail))<;>(first|(exact ⟨(_,_),bd rfl,Lt.t2 (a6.uY rfl) a6.int⟩)|(exact ⟨(_,0),fun _=>hy,Lt.t2 (a6.uY rfl) a6.int⟩))
theorem rJ (id:Int) (o:af) (ho:Q o):EC prog 148 [.agg t.c,.int .u64 id,.agg o.c] [] fun r N=>N=[]∧∃x:a9×Int,(x.2=0→yA Q 1 t x.1)∧(x.2≠0→x.1=default)∧r= .bS [.agg x.1.c,.int .i64 x.2]:=by
 refine (EC.mono (Q:=fun r N=>N=[]∧∃x:a9×Int,((x.2=0→yA Q 1 t x.1)∧(x.2≠0→x.1=default))∧r= .bS [.agg x.1.c,.int .i64 x.2]) ?_ fun r N ⟨h1,x,⟨h2,h3⟩,h4⟩=>⟨h1,x,h2,h3,h4⟩);refine EC.bh ?_;refine nW ab (ca 148) func148 ntmps148 results148 ?_;(repeat' (first|(with_reducible intro hh;first|subst hh|(revert hh;intro _))|with_reducible apply And.intro|refine eK ab ?_|refine EC.use (mz _) ?_|(refine EC.aM (fx t (by omega)) ?_;rintro _ _)|(refine EC.aM (fc t _ (by omega) hq h0) ?_;rintro _ _)|((refine EC.aM (gO t _ hl hq ?_) ?_;(focus (exact ho));rintro y hy))|fail))<;>(first|(exact ⟨(default,_),⟨bd rfl,fun _=>rfl⟩,Lt.t2 (a6.uY rfl) a6.int⟩)|(exact ⟨(_,0),⟨fun _=>hy,fun h=>absurd rfl h⟩,Lt.t2 (a6.uY rfl) a6.int⟩))
omit hl hq h0 in
theorem lN (id:Int):EC prog 119 [.int .u64 id] [] fun r N=>N=[]∧∃x:Int×Int×Int,True∧r= .bS [.int .i64 x.1,.int .i64 x.2.1,.int .i64 x.2.2]:=by
 refine EC.bh ?_;refine nW ab (ca 119) func119 ntmps119 results119 ?_;(repeat' (done))<;>((exact ⟨(_,_,_),Lt.t3 a6.int a6.int a6.int⟩))
theorem mB (o:af) (ho:Q o):EC prog 71 [.agg t.c,.agg o.c] [] fun r N=>N=[]∧∃x:a9×Int,((x.2=0→yA Q 1 t x.1)∧(x.2≠0→x.1=default))∧r= .bS [.agg x.1.c,.int .i64 x.2]:=by
 refine EC.bh ?_;refine nW ab (ca 71) func71 ntmps71 results71 ?_;(repeat' (first|(with_reducible intro hh;first|subst hh|(revert hh;intro _))|with_reducible apply And.intro|refine eK ab ?_|(refine EC.aM (lN _) ?_;rintro ⟨_,_,_⟩ _)|(refine EC.aM (fx t (by omega)) ?_;rintro _ _)|(refine EC.aM (fc t _ (by omega) hq h0) ?_;rintro _ _)|((refine EC.aM (gO t _ hl hq ?_) ?_;(focus (exact ho));rintro y hy))|fail))<;>(first|(exact ⟨(default,_),⟨bd rfl,fun _=>rfl⟩,Lt.t2 (a6.uY rfl) a6.int⟩)|(exact ⟨(_,0),⟨fun _=>hy,fun h=>absurd rfl h⟩,Lt.t2 (a6.uY rfl) a6.int⟩))
end
def pZ (l:List bw):Nat:=(l.filter (·.mI)).length
theorem y9 {l:List bw} {i:Nat} (h:i < l.length):pZ (l.take (i+1))=pZ (l.take i)+bif (l.getD i default).mI then 1 else 0:=by
 have e:l.getD i default=l[i]:=by simp [getD,h]
 rw [e,List.take_succ_eq_append_getElem h];unfold pZ;rw [List.filter_append,length_append]
 cases hd:l[i].mI<;>simp [hd]
theorem II {l:List bw}:pZ l≤l.length:=List.length_filter_le _ _
theorem rQ {l:List bw} {i:Nat}:pZ (l.take i)≤pZ l:=(List.Sublist.filter _ (List.take_sublist i l)).length_le
theorem EU {l m:List Int} (h:l.Nodup) (hs:l ⊆ m):l.length≤m.length:=by
 induction l generalizing m with
 |nil=>simp
 |cons x l ih=>
  have hx:x∈m:=hs (by simp);have h2:=List.nodup_cons.1 h;have h3:=ih h2.2 (m:=m.erase x) (fun y hy=>(List.mem_erase_of_ne (by rintro rfl;exact h2.1 hy)).2 (hs (by simp [hy])));rw [List.length_erase_of_mem hx] at h3;have:=List.length_pos_of_mem hx;simp;omega
theorem Lb {a b:List bw} (ha:(a.map (·.ID)).Nodup) (h:∀x∈a,∃y∈b,y.ID=x.ID):a.length≤b.length:=by
 have:(a.map (·.ID)) ⊆ b.map (·.ID):=fun i hi=>by
  obtain ⟨x,hx,rfl⟩:=List.mem_map.1 hi;obtain ⟨y,hy,e⟩:=h x hx;exact List.mem_map.2 ⟨y,hy,e⟩
 simpa using EU ha this
structure Js (Q:af→Prop) (t y:a9):Prop where
 nd:y.bW=t.bW
 q:∀l∈y.aD,Q l.ba
 nu:Lc y
 sub:∀x∈y.aD,∃z∈t.aD,z.ID=x.ID
theorem Js.len {Q:af→Prop} {t y:a9} (h:Js Q t y):y.aD.length≤t.aD.length:=Lb h.nu h.sub
theorem Js.put {Q:af→Prop} {t y z:a9} {x w:bw} (h:Js Q t y) (hp:Eu y x z) (hx:∀l∈z.aD,Q l.ba) (hw:w∈t.aD) (he:w.ID=x.ID):Js Q t z:=
 ⟨hp.nd.trans h.nd,hx,hp.nu h.nu,fun l hl=>(hp.mem l hl).elim (fun e=>⟨w,hw,by rw [e];exact he⟩) (h.sub l)⟩
section
variable {Q:af→Prop} (t:a9) (hl:t.aD.length≤1000000000) (hq:∀x∈t.aD,Q x.ba) (h0:Q default)
include hl hq h0
theorem ui (homes:List Int) (hh:homes.length≤1099511627776):EC prog 275 [.agg t.c,bG 1 (aS .i64) default homes] [] fun r N=>∃s:((a9×Int)×List aA)×aN,(s.1.1.2=0→yA Q 0 t s.1.1.1∧dU Q t.aD.length s.1.2)∧r= .bS [.agg s.1.1.1.c,.row 0 s.2 45 0 s.1.2.length,.int .i64 s.1.1.2]∧N=[.row s.2 179 45 (s.1.2.map aA.c)]:=by
 refine EC.G' (α:=a9×Int) (A:=fun x=> .agg x.1.c) (T:=fun x=>[.int .i64 x.2]) (C:=fun s=>s.1.2=0→yA Q 0 t s.1.1∧dU Q t.aD.length s.2) ?_;refine nW ab (ca 275) func275 ntmps275 results275 ?_;(repeat' (first|(with_reducible intro hh;first|subst hh|(revert hh;intro _))|with_reducible apply And.intro|refine eK ab ?_|(refine EC.aM (fx t (by omega)) ?_;rintro _ _)|fail))<;>(first|(exact ⟨((_,_),[]),bd rfl,_,rfl,vr.nil⟩)|skip);rename_i hv _;have hcl:=II (l:=t.aD);have hnd:=hv (by simpa using ‹(!_)=false›);refine aT ab [1,2,4,24,25] (fun s:Nat×Nat=>[(26,.int .i64 s.1),(7,.int .i64 s.2)]) (fun B _=>B) (fun s=>s.1≤t.aD.length∧s.2=pZ (t.aD.take s.1)) (fun s=>t.aD.length - s.1) (0,0) ⟨zero_le _,rfl⟩ ?_;rintro ⟨i,c⟩ ⟨hi,hc⟩;replace hi:i≤t.aD.length:=hi;replace hc:c=pZ (t.aD.take i):=hc;have hw:=wI i;have hca:=rQ (l:=t.aD) (i:=i);have hw2:IntKind.i64.wrap ((c:Int)+1)=((c+1:Nat):Int):=by rw [bu (by omega)];omega
 have hcs:=y9 (l:=t.aD) (i:=i);simp only [hw,hw2,push_cast,simprocAttr];(repeat' (with_reducible (first|intro _|apply And.intro)))<;>(first|omega|((try simp only [hw,hw2]);refine a7 (i+1,c+1) ⟨by show i+1≤_;omega,?_⟩;show c+1=pZ (t.aD.take (i+1));rw [hcs (by omega),‹(t.aD.getD i default).mI=true›,hc];rfl)|((try simp only [hw,hw2]);refine a7 (i+1,c) ⟨by show i+1≤_;omega,?_⟩;show c=pZ (t.aD.take (i+1));rw [hcs (by omega),‹(t.aD.getD i default).mI=false›,hc];rfl)|skip);have hic:i=t.aD.length:=by have hz:=‹decide ((i:Int) < _)=false›;simp at hz;omega
 rw [hic,List.take_length] at hc;subst hc;clear hic hcs hw2 hca hw hi;have hwl:IntKind.i64.wrap (homes.length:Int)=homes.length:=bu (by omega);refine aT ab [1,2,4,39,40] (fun s:Nat×Bool=>[(41,.int .i64 s.1),(10,.bool s.2)]) (fun B _=>B) (fun s=>s.1≤homes.length∧(s.2=false→pZ t.aD=homes.length)) (fun s=>homes.length - s.1) (0,(pZ t.aD:Int) !=homes.length) ⟨zero_le _,fun h=>by simp at h;omega⟩ ?_;rintro ⟨j,b⟩ ⟨hj,hb⟩;replace hj:j≤homes.length:=hj;replace hb:b=false→pZ t.aD=homes.length:=hb;have hw:=wI j;simp only [hw,push_cast,simprocAttr];(repeat' (first|(with_reducible intro hh;first|subst hh|(revert hh;intro _))|with_reducible apply And.intro|refine eK ab ?_|refine EC.use (mA _) ?_|contradiction))<;>(first|omega|((try simp only [hw]);refine a7 (j+1,_) ⟨by show j+1≤_;omega,?_⟩)|(exact ⟨((_,_),[]),bd rfl,_,rfl,vr.nil⟩)|skip)
 all_goals try first|(intro _;exact hb rfl)|(intro he;cases he)
 have hcn:=hb rfl;have hun:Js Q t t:=⟨rfl,hq,hnd,fun x hx=>⟨x,hx,rfl⟩⟩;refine cw 13 179 45 rfl ?_;intro hr;refine aT ab [1,4,14,56,57] (fun s:Nat×List aA×Nat×aN×a9=>[(58,.int .i64 s.1),(13,.row 3 s.2.2.2.1 45 0 s.2.2.1)]) (fun B s=>cW (cP B 2 [s.2.2.2.2.c]) 3 s.2.2.2.1 (s.2.1.map aA.c)) (fun s=>s.1≤t.aD.length∧s.2.2.1=s.2.1.length∧s.2.1.length=pZ (t.aD.take s.1)∧(∀x∈s.2.1,Q x.ba)∧Js Q t s.2.2.2.2) (fun s=>t.aD.length - s.1) (0,[],0,hr,t) ⟨zero_le _,rfl,rfl,fun x hx=>(nomatch hx),hun⟩ ?_;rintro ⟨k,m,km,h3,y⟩ ⟨hk,hkm,hm,hmq,hy⟩;replace hk:k≤t.aD.length:=hk;obtain rfl:km=m.length:=hkm;replace hm:m.length=pZ (t.aD.take k):=hm;replace hmq:∀x∈m,Q x.ba:=hmq;replace hy:Js Q t y:=hy;have hyl:=hy.len;have hw3:IntKind.i64.wrap ((k:Int)+1)=((k+1:Nat):Int):=by rw [bu (by omega)];omega
 have hw4:IntKind.i64.wrap (m.length:Int)=m.length:=bu (by have:=rQ (l:=t.aD) (i:=k);omega);have hcs:=y9 (l:=t.aD) (i:=k);have hca:=rQ (l:=t.aD) (i:=k+1);have hmem:k < t.aD.length→t.aD.getD k default∈t.aD:=fun h=>bk h;simp only [hw3,hw4,push_cast,simprocAttr];(repeat' (first|with_reducible (first|intro _|apply And.intro)|refine eK ab ?_|((refine EC.aM (nG y _ (by omega)) ?_;rintro z hz))|((refine EC.aM (qh y (by omega) hy.q h0 (t.aD.getD k default) _ (hq _ (hmem (by omega)))) ?_;rintro ⟨z,o⟩ ⟨⟨w,hwi,hz,hzq⟩,ho⟩))|refine dM ab 8 [] [0,1,2,3,4,5,6] bZ fun R hR=>?_|refine dN ab [] [2,3] [0,1,2,3,4,5,6] bZ fun R hR=>?_|refine mV ab 7 11 12 ?_ ?_ ?_|refine dP ab 4 [8,9,10] ?_|refine bT ab 11 12 ?_ ?_|refine bT ab 7 12 ?_ ?_|refine bT ab 7 11 ?_ ?_|refine dR ab [12,13,14] ?_|refine dR ab [11,13,14] ?_|refine dR ab [8,9,10,12,13,14] ?_|refine dR ab [7,8,9,10,13,14] ?_|refine dR ab [8,9,10,13,14] ?_|refine dR ab [8,9,10,11,13,14] ?_|(refine hR _ _ ?_;refine sA ?_)|fail))<;>(first|omega|skip)
 all_goals try (have h1:=hcs (by omega);rw [‹(t.aD.getD k default).mI=true›] at h1;simp only [cond_true] at h1;(try simp only [hw3]);first|omega|(refine a7 (k+1,m ++ [o],m.length+1,_,z) ⟨by show k+1≤_;omega,by simp,by show (m ++ [o]).length=pZ (t.aD.take (k+1));simp;omega,fun x hx=>?_,hy.put hz hzq.q (hmem (by omega)) hwi.symm⟩;rcases List.mem_append.1 hx with hx|hx;exact hmq x hx;rw [List.mem_singleton.1 hx];exact ho))
 ·have h1:=hcs (by omega);rw [‹(t.aD.getD k default).mI=false›] at h1;simp only [cond_false,Nat.add_zero] at h1;simp only [hw3];exact a7 (k+1,m,_,_,z) ⟨by show k+1≤_;omega,rfl,hm.trans h1.symm,hmq,hy.put hz (hz.tk hy.q (show Q (t.aD.getD k default).ba from hq _ (hmem (by omega)))).q (hmem (by omega)) rfl⟩
 ·exact ⟨((y,0),m),fun _=>⟨⟨hy.nd,hyl,hy.q⟩,⟨by have:=rQ (l:=t.aD) (i:=k);show m.length≤_;omega,hmq⟩⟩,_,rfl,vr.row rfl rfl rfl⟩
end
end
section
attribute [local irreducible] EC EV
attribute [local push_cast] eO dG eu gS List.length_range bM
theorem iI (n:Int):EC prog 277 [.int .i64 n] [] fun r N=>N=[]∧r= .bool (oz n):=by
 refine EC.cQ ?_;refine nK ab (ca 277) func277 ntmps277 results277 ?_;(repeat' (first|refine eK ab ?_|refine zL ?_|apply Lt.t2|apply Lt.t3|apply Lt.t4|apply Lt.fS|apply a6.fS|(with_reducible intro _)|with_reducible apply And.intro|exact trivial))<;>(first|exact zA|exact ([]:List aI)|(simp [oz, *];done)|(simp_all [oz];done)|skip)
theorem qj (o:af):EC prog 281 [.agg o.c] [] fun r N=>N=[]∧r= .bool (kO o):=by
 refine EC.cQ ?_;refine nK ab (ca 281) func281 ntmps281 results281 ?_;(repeat' (first|refine eK ab ?_|refine EC.use (cZ o) ?_|refine zL ?_|apply Lt.t2|apply Lt.t3|apply Lt.t4|apply Lt.fS|apply a6.fS|(with_reducible intro _)|with_reducible apply And.intro|exact trivial))<;>(first|exact zA|exact ([]:List aI)|(simp [kO, *];done)|(simp_all [kO];done)|skip)
theorem IS {l:List Int} (h:∀i,i < l.length→(0≤l.getD i default∧l.getD i default≤127)∧(0 < i→l.getD (i - 1) default < l.getD i default)):l.length≤128:=by
 have key:∀i,i < l.length→(i:Int)≤l.getD i default:=fun i=>by
  induction i with
  |zero=>intro hi;have:=(h 0 hi).1;omega
  |succ i ih=>
   intro hi;have h1:=ih (by omega);have h2:=(h (i+1) hi).2 (by omega);rw [Nat.add_sub_cancel] at h2;omega
 by_cases h0:l.length=0
 ·omega
 ·have h1:=key (l.length - 1) (by omega);have h2:=(h (l.length - 1) (by omega)).1;omega
theorem oU (l:List Int) (hl:l.length≤1099511627776):EC prog 353 [bG 1 (aS .i64) default l] [] fun r N=>N=[]∧∃b:Bool,(b=true→l.length≤128)∧r= .bool b:=by
 refine EC.bh ?_;refine nW ab (ca 353) func353 ntmps353 results353 ?_;(repeat' (first|(with_reducible intro hh;first|subst hh|(revert hh;intro _))|with_reducible apply And.intro|refine eK ab ?_|refine wA ab ?_|exact trivial|contradiction));refine bV ab [0,5,6] 7 l.length (fun i=>∀j,j < i→(0≤l.getD j default∧l.getD j default≤127)∧(0 < j→l.getD (j - 1) default < l.getD j default)) (fun j hj=>absurd hj (not_lt_zero j)) (by omega) ?_;intro i hI hi hw;have hi0:0 < (i:Int)→IntKind.i64.wrap ((i:Int) - 1)=((i - 1:Nat):Int):=fun h=>by rw [bu (by omega)];omega
 simp only [hw,push_cast,simprocAttr];(repeat' (first|(with_reducible intro hh;first|subst hh|(revert hh;intro _))|with_reducible apply And.intro|refine eK ab ?_|refine EC.use (iI _) ?_|refine wA ab ?_|exact trivial|contradiction))<;>(first|(exact ⟨false,fun h=>(nomatch h),Lt.bool rfl⟩)|(refine ⟨true,fun _=>IS fun j hj=>hI j (by have hz:=‹decide ((i:Int) < _)=false›;simp at hz;omega),Lt.bool rfl⟩)|(rw [hi0 (by omega)];omega)|(have hz:=‹(_ && decide (0 < (i:Int)))=true›;simp only [Bool.and_eq_true,decide_eq_true_eq] at hz;first|exact hz.1|omega|(rw [hi0 hz.2];omega))|omega|assumption|rfl|(show (_:Bool)=true;first|(simp_all;done)|grind)|(show False;first|(simp_all;done)|grind)|(simp_all;done)|skip)
 all_goals
  (try simp only [hw]);rename_i hz1 hz;refine cO fun j hj=>?_;rcases lt_or_ge j i with h|h
  ·exact hI j h
  ·obtain rfl:j=i:=by omega
   have hn:oz (l.getD j default)=true:=by
    cases hb:oz (l.getD j default)
    ·rw [hb] at hz;simp at hz
    ·rfl
   rw [hn] at hz;simp only [Bool.not_true,Bool.false_or,Bool.and_eq_false_iff,decide_eq_false_iff_not] at hz;refine ⟨by simpa [oz] using hn,fun h0=>?_⟩;have h1:=hi0 (by omega);rw [h1,Int.toNat_natCast] at hz;omega
theorem nH (l:List Int) (n:Int) (hl:l.length≤1099511627776):EC prog 279 [bG 1 (aS .i64) default l,.int .i64 n] [] fun r N=>N=[]∧∃b:Bool,True∧r= .bool b:=by
 refine EC.bh ?_;refine nW ab (ca 279) func279 ntmps279 results279 ?_;(repeat' (first|(with_reducible intro hh;first|subst hh|(revert hh;intro _))|with_reducible apply And.intro|refine eK ab ?_|refine wA ab ?_|exact trivial|contradiction));refine bV ab [1,7,8] 9 l.length (fun i=>True) trivial (by omega) ?_;intro i hI hi hw;simp only [hw,push_cast,simprocAttr];(repeat' (first|(with_reducible intro hh;first|subst hh|(revert hh;intro _))|with_reducible apply And.intro|refine eK ab ?_|refine wA ab ?_|exact trivial|contradiction))<;>(first|(exact ⟨_,Lt.bool rfl⟩)|omega|((try simp only [hw]);exact cO trivial)|skip)
theorem zf {n:Int} {l:List Int} {i:Nat} (h:i < l.length):dZ n (l.take (i+1))=dZ n (l.take i) ++ bif l.getD i default !=n then [l.getD i default] else []:=by
 have e:l.getD i default=l[i]:=by simp [getD,h]
 rw [e,List.take_succ_eq_append_getElem h];unfold dZ;rw [List.filter_append]
 cases hd:(l[i] !=n)<;>simp [hd]
theorem l4 {n:Int} {l:List Int}:(dZ n l).length≤l.length:=List.length_filter_le _ _
theorem iw (l:List Int) (n:Int) (hl:l.length≤1099511627776):EC prog 282 [bG 1 (aS .i64) default l,.int .i64 n] [] fun r N=>N=[]∧r=bG 1 (aS .i64) default (dZ n l):=by
 refine EC.cQ ?_;refine nW ab (ca 282) func282 ntmps282 results282 ?_;(repeat' (first|(with_reducible intro hh;first|subst hh|(revert hh;intro _))|with_reducible apply And.intro|refine eK ab ?_|refine wA ab ?_|exact trivial|contradiction));refine cw 5 3 1 rfl ?_;intro hh;refine aT ab [1,8,9] (fun s:Nat×List (Int)×Nat×aN=>[(10,.int .i64 s.1),(5,.row 0 s.2.2.2 1 0 s.2.2.1)]) (fun B s=>cW B 0 s.2.2.2 (s.2.1.map (aS .i64))) (fun s=>s.1≤l.length∧s.2.2.1=s.2.1.length∧(s.2.1=dZ n (l.take s.1))) (fun s=>l.length - s.1) (0,[],0,hh) ⟨zero_le _,rfl,rfl⟩ ?_;rintro ⟨i,m,km,hr⟩ ⟨hi,hk,hI⟩;replace hi:i≤l.length:=hi;obtain rfl:km=m.length:=hk;replace hI:m=dZ n (l.take i):=hI;have hw:=wI i;simp only [hw,push_cast,simprocAttr];have hml:m.length≤i:=by rw [hI];exact le_trans l4 (by simp;omega)
 have hs:=zf (n:=n) (l:=l) (i:=i);(repeat' (first|(with_reducible intro hh;first|subst hh|(revert hh;intro _))|with_reducible apply And.intro|refine eK ab ?_|refine wA ab ?_|exact trivial|contradiction))<;>(first|omega|((try simp only [hw]);have h1:=hs (by omega);rw [‹(l.getD i default !=n)=true›] at h1;refine a7 (i+1,m ++ [_],m.length+1,_) ⟨by show i+1≤_;omega,by simp,?_⟩;show _=dZ n (l.take (i+1));rw [h1,hI];rfl)|((try simp only [hw]);have h1:=hs (by omega);rw [‹(l.getD i default !=n)=false›] at h1;refine a7 (i+1,m,m.length,hr) ⟨by show i+1≤_;omega,rfl,?_⟩;show _=dZ n (l.take (i+1));rw [h1,hI];simp)|skip);have hz:=‹decide ((i:Int) < _)=false›;obtain rfl:i=l.length:=by simp at hz;omega
 rw [List.take_length] at hI;rw [←hI];exact Lt.row rfl rfl rfl
theorem xI (l:List Int) (n:Int) (hl:l.length≤1099511627776):EC prog 335 [bG 1 (aS .i64) default l,.int .i64 n] [] fun r N=>N=[]∧∃x:List Int,x.length≤l.length+1∧r=bG 1 (aS .i64) default x:=by
 refine EC.bh ?_;refine nW ab (ca 335) func335 ntmps335 results335 ?_;(repeat' (first|(with_reducible intro hh;first|subst hh|(revert hh;intro _))|with_reducible apply And.intro|refine eK ab ?_|refine wA ab ?_|exact trivial|contradiction));refine bV ab [0,1] 5 l.length (fun _=>True) trivial (by omega) ?_;intro i hI hi hw;simp only [hw,push_cast,simprocAttr];(repeat' (first|(with_reducible intro hh;first|subst hh|(revert hh;intro _))|with_reducible apply And.intro|refine eK ab ?_|refine dM ab 5 [] [0,1,2,4,7,8,9] bZ fun R hR=>?_|refine bT ab 3 5 ?_ ?_|refine dR ab [5,6,10,11] ?_|refine dR ab [3,6,10,11] ?_|(refine hR _ _ ?_;refine sA ?_)|refine wA ab ?_|exact trivial|contradiction))<;>(first|omega|((try simp only [hw]);have hz:=‹(decide ((i:Int) < _) && _)=true›;simp at hz;exact cO trivial (by omega))|(exact ⟨l,le_succ _,Lt.row rfl rfl rfl⟩)|skip)
 all_goals first
  |(simp [bM];done)
  |(simp [bM];omega)
  |(refine ⟨take (i+1) (take i (eE default l 0 i) ++ [n]) ++ eE default l i (l.length - i),by simp [bM];omega,Lt.row rfl (by simp [List.map_take,aS]) (by simp [bM])⟩)
def mQ (Q:af→Prop) (n:Nat) (e:bg):Prop:=Q e.ba∧e.br.length≤100000000000∧e.bX.length≤100000000000∧e.bA.length≤n
theorem v5 (e:bg) (hr:e.br.length≤1000000000000) (hw:e.bX.length≤1000000000000) (hq:e.bA.length≤1000000000000):EC prog 334 [.agg e.c] [] fun r N=>N=[]∧∃b:Bool,(b=true→e.br.length≤128∧e.bX.length≤128)∧r= .bool b:=by
 refine EC.bh ?_;refine nW ab (ca 334) func334 ntmps334 results334 ?_;(repeat' (first|(with_reducible intro hh;first|subst hh|(revert hh;intro _))|with_reducible apply And.intro|refine eK ab ?_|(refine EC.aM (oU e.br (by omega)) ?_;rintro _ _)|(refine EC.aM (oU e.bX (by omega)) ?_;rintro _ _)|refine EC.use (qj _) ?_|refine wA ab ?_|exact trivial|contradiction))<;>(first|(exact ⟨false,fun h=>(nomatch h),Lt.bool rfl⟩)|omega|assumption|rfl|(show (_:Bool)=true;first|(simp_all;done)|grind)|(show False;first|(simp_all;done)|grind)|(simp_all;done)|skip)
 all_goals
  have hfin:e.br.length≤128∧e.bX.length≤128:=by grind
  refine bV ab [1,76,77] 78 e.bX.length (fun i=>True) trivial (by omega) ?_;intro i hI hi hw;simp only [hw,push_cast,simprocAttr];(repeat' (first|(with_reducible intro hh;first|subst hh|(revert hh;intro _))|with_reducible apply And.intro|refine eK ab ?_|(refine EC.aM (nH e.br _ (by omega)) ?_;rintro _ _)|refine wA ab ?_|exact trivial|contradiction))<;>(first|(exact ⟨false,fun h=>(nomatch h),Lt.bool rfl⟩)|((try simp only [hw]);exact cO trivial)|omega|assumption|rfl|(show (_:Bool)=true;first|(simp_all;done)|grind)|(show False;first|(simp_all;done)|grind)|(simp_all;done)|skip)
 all_goals
  refine bV ab [95,96] 97 e.bA.length (fun i=>True) trivial (by omega) ?_;intro i hI hi hw;simp only [hw,push_cast,simprocAttr];(repeat' (first|(with_reducible intro hh;first|subst hh|(revert hh;intro _))|with_reducible apply And.intro|refine eK ab ?_|refine EC.use (iI _) ?_|refine wA ab ?_|exact trivial|contradiction))<;>(first|(exact ⟨false,fun h=>(nomatch h),Lt.bool rfl⟩)|(exact ⟨true,fun _=>hfin,Lt.bool rfl⟩)|((try simp only [hw]);exact cO trivial)|omega|assumption|rfl|(show (_:Bool)=true;first|(simp_all;done)|grind)|(show False;first|(simp_all;done)|grind)|(simp_all;done)|skip)
structure q_ (Q:af→Prop) (n:Nat) (d:aW):Prop where
 ln:d.Entries.length≤n
 e:∀e∈d.Entries,mQ Q n e
theorem oT {Q:af→Prop} {n:Nat} (d:aW) (hd:q_ Q n d) (hn:n≤1000000000):EC prog 276 [.agg d.c] [] fun r N=>N=[]∧∃b:Bool,(b=true→∀e∈d.Entries,e.br.length≤128∧e.bX.length≤128)∧r= .bool b:=by
 refine EC.bh ?_;refine nW ab (ca 276) func276 ntmps276 results276 ?_;(repeat' (first|(with_reducible intro hh;first|subst hh|(revert hh;intro _))|with_reducible apply And.intro|refine eK ab ?_|refine wA ab ?_|exact trivial|contradiction));have hln:=hd.ln;refine bV ab [1,6,7] 8 d.Entries.length (fun i=>∀j,j < i→(d.Entries.getD j default).br.length≤128∧(d.Entries.getD j default).bX.length≤128) (fun j hj=>absurd hj (not_lt_zero j)) (by omega) ?_;intro i hI hi hw;have hi0:0 < (i:Int)→IntKind.i64.wrap ((i:Int) - 1)=((i - 1:Nat):Int):=fun h=>by rw [bu (by omega)];omega
 have hmem:i < d.Entries.length→mQ Q n (d.Entries.getD i default):=fun h=>hd.e _ (bk h);have hfin:∀{b:Bool},(b=true→i=d.Entries.length)→b=true→∀e∈d.Entries,e.br.length≤128∧e.bX.length≤128:=fun h hb e he=>by
  obtain ⟨j,hj,rfl⟩:=List.mem_iff_getElem.1 he;have:=hI j (by have:=h hb;omega);simpa [getD,hj] using this
 simp only [hw,push_cast,simprocAttr];(repeat' (first|(with_reducible intro hh;first|subst hh|(revert hh;intro _))|with_reducible apply And.intro|refine eK ab ?_|refine EC.use (iI _) ?_|((refine EC.aM (v5 (d.Entries.getD i default) (by have:=hmem (by omega);exact le_trans this.2.1 (by decide)) (by have:=hmem (by omega);exact le_trans this.2.2.1 (by decide)) (by have:=hmem (by omega);exact le_trans this.2.2.2 (by omega))) ?_;rintro bv hv))|refine dN ab [] [] [0,1,2,3,4,5,6,7,8,9,10,11,12,13,14,15,16,17,18] bZ fun R hR=>?_|refine dR ab [2,3,4,5,6,7,8,9,10,11,12,13,14,15,16,17,18] ?_|(refine hR _ _ ?_;refine sA ?_)|refine wA ab ?_|exact trivial|contradiction))<;>(first|(exact ⟨false,fun h=>(nomatch h),Lt.bool rfl⟩)|(refine ⟨_,hfin fun _=>?_,Lt.bool rfl⟩;have hz:=‹decide ((i:Int) < _)=false›;simp at hz;omega)|(rw [hi0 (by omega)];omega)|(have hz:=‹(_ && decide (0 < (i:Int)))=true›;simp only [Bool.and_eq_true,decide_eq_true_eq] at hz;first|exact hz.1|omega|(rw [hi0 hz.2];omega))|omega|assumption|rfl|(show (_:Bool)=true;first|(simp_all;done)|grind)|(show False;first|(simp_all;done)|grind)|(simp_all;done)|skip)
 all_goals
  (try simp only [hw]);refine cO fun j hj=>?_;rcases lt_or_ge j i with h|h
  ·exact hI j h
  ·obtain rfl:j=i:=by omega
   exact hv (by cases bv<;>simp_all)
theorem Lt.en {B:List aI} {x y:bg} (h:x=y):Lt B (.agg x.c) (.agg y.c):=by subst h;exact Lt.agg (eU.obj (cs:=x.c) (fun s B=>by rw [bg.fk]) (fun s B=>by rw [bg.fz]))
theorem a6.dr {B:List aI} {x y:aW} (h:x=y):a6 B (.agg x.c) (.agg y.c):=by subst h;exact a6.agg (eU.obj (cs:=x.c) (fun s B=>by rw [aW.fk]) (fun s B=>by rw [aW.fz]))
theorem mQ.new {Q:af→Prop} {n:Nat} {i o:Int} (h0:Q default):mQ Q n {(default:bg) with ID:=i,m8:=o}:=⟨h0,zero_le _,zero_le _,zero_le _⟩
theorem oV {Q:af→Prop} {n:Nat} (d:aW) (id:Int) (hd:q_ Q n d) (hn:n≤1000000000) (h0:Q default):EC prog 278 [.agg d.c,.int .u64 id] [] fun r N=>N=[]∧∃e:bg,(e∈d.Entries∨e.br.length≤128∧e.bX.length≤128)∧mQ Q n e∧r= .agg e.c:=by
 refine (EC.mono (Q:=fun r N=>N=[]∧∃e:bg,((e∈d.Entries∨e.br.length≤128∧e.bX.length≤128)∧mQ Q n e)∧r= .agg e.c) ?_ fun r N ⟨h1,x,⟨h2,h3⟩,h4⟩=>⟨h1,x,h2,h3,h4⟩);refine EC.bh ?_;refine nW ab (ca 278) func278 ntmps278 results278 ?_;(repeat' (first|(with_reducible intro hh;first|subst hh|(revert hh;intro _))|with_reducible apply And.intro|refine eK ab ?_|refine wA ab ?_|exact trivial|contradiction));have hln:=hd.ln;refine bV ab [1,4,12,13] 14 d.Entries.length (fun _=>True) trivial (by omega) ?_;intro i _ hi hw;have hmem:i < d.Entries.length→d.Entries.getD i default∈d.Entries:=fun h=>bk h;simp only [hw,push_cast,simprocAttr];(repeat' (first|(with_reducible intro hh;first|subst hh|(revert hh;intro _))|with_reducible apply And.intro|refine eK ab ?_|(refine EC.aM (lN _) ?_;rintro ⟨_,_,_⟩ _)|refine EC.use (iI _) ?_|refine wA ab ?_|exact trivial|contradiction))<;>(first|omega|((try simp only [hw]);exact cO trivial)|(exact ⟨_,⟨.inl (hmem (by omega)),hd.e _ (hmem (by omega))⟩,Lt.en rfl⟩)|(exact ⟨_,⟨.inr ⟨zero_le _,zero_le _⟩,mQ.new h0⟩,Lt.en rfl⟩)|skip)
def E7:Env:={E with zr:=fun T=>if T=138 then [.int .i64 0,tY] else E.zr T}
theorem zd:cI prog E7:=⟨ab.ty,fun T h=>by
 simp only [E7] at h ⊢
 split
 ·rename_i e;subst e;kernel_rfl
 ·rename_i e;simp only [e,if_false] at h;exact ab.zr T h,ab.lv⟩
theorem Pg (T:Nat):E7.ty T=E.ty T:=rfl
theorem Ph:E7.kp=E.kp:=rfl
theorem Pf:E7.zr 138=[.int .i64 0,tY]:=rfl
theorem LW:E7.zr 334=E.zr 334:=rfl
attribute [push_cast] Pg Ph Pf LW
theorem Lt.QY {B:List aI} {i n E:Nat} {h:aN} {xs:List (List SV)} {l:List bg} {nd:Int} (hB:au B i= .row h E 41 xs) (hx:xs=l.map bg.c) (hn:n=l.length):Lt B (.agg [.int .i64 nd,.row i h 41 0 n]) (.agg (aW.mk nd l).c):=
 Lt.agg ((eU.obj (cs:=(aW.mk nd []).c) (fun s B=>by rw [aW.fk]) (fun s B=>by rw [aW.fz])).put 1 (gY.row hB hx hn) rfl)
theorem Aa (d:aW) (x:bg) (hn:d.Entries.length≤1073741824):EC prog 336 [.agg d.c,.agg x.c] [] fun r N=>N=[]∧∃y:aW,(y.Entries.length≤d.Entries.length+1∧∀l∈y.Entries,l=x∨l∈d.Entries)∧r= .agg y.c:=by
 refine EC.bh ?_;(refine nW zd (ca 336) func336 ntmps336 results336 ?_);(repeat' (first|(with_reducible intro hh;first|subst hh|(revert hh;intro _))|with_reducible apply And.intro|refine eK zd ?_|refine wA zd ?_|exact trivial|contradiction))<;>(first|rfl|skip);refine eY 3 0 1 334 41 (by simp) rfl rfl rfl ?_;intro hh;simp only [set_cons_succ,set_cons_zero,length_cons,length_nil,cons_append,nil_append,zero_add,Nat.reduceAdd];refine aT zd [3,4,5,13,14] (fun s:Nat×Bool×List bg×Nat×aN=>[(15,.int .i64 s.1),(6,.bool s.2.1)]) (fun B s=>cW (cP B 3 [[.int .i64 d.bW,.row 4 s.2.2.2.2 41 0 s.2.2.2.1]]) 4 s.2.2.2.2 (s.2.2.1.map bg.c)) (fun s=>s.1≤d.Entries.length∧s.2.2.2.1=s.2.2.1.length∧s.2.2.1.length≤s.1+(bif s.2.1 then 1 else 0)∧∀y∈s.2.2.1,y=x∨y∈d.Entries) (fun s=>d.Entries.length - s.1) (0,_,[],0,hh) ⟨zero_le _,rfl,zero_le _,fun y hy=>(nomatch hy)⟩ ?_;rintro ⟨i,b,m,km,hr⟩ ⟨hi,hk,hm,hy⟩;replace hi:i≤d.Entries.length:=hi;obtain rfl:km=m.length:=hk;replace hm:m.length≤i+(bif b then 1 else 0):=hm;replace hy:∀y∈m,y=x∨y∈d.Entries:=hy;have hb1:(bif b then 1 else 0)≤1:=by cases b<;>decide
 have hw:=wI i;simp only [hw,push_cast,simprocAttr];(repeat' (first|(with_reducible intro hh;first|subst hh|(revert hh;intro _))|with_reducible apply And.intro|refine eK zd ?_|refine wA zd ?_|exact trivial|contradiction))<;>(first|omega|(exfalso;simp_all;done)|((try simp only [hw]);refine a7 (i+1,_,_,_,_) ?_)|skip)
 all_goals try omega
 all_goals try (have hz:=‹(!b && decide (x.ID≤_))=true›;simp only [Bool.and_eq_true,Bool.not_eq_true'] at hz;obtain ⟨rfl,-⟩:=hz;replace hm:m.length≤i:=hm)
 all_goals have hmem:i < d.Entries.length→d.Entries.getD i default∈d.Entries:=fun h=>bk h
 all_goals try omega
 all_goals try refine ⟨by show i+1≤_;omega,by simp,?_,?_⟩
 all_goals try first|refine ⟨aW.mk d.bW (m ++ [x]),⟨?_,?_⟩,Lt.QY rfl rfl (by simp)⟩|refine ⟨aW.mk d.bW m,⟨?_,?_⟩,Lt.QY rfl rfl rfl⟩
 all_goals try (simp only [length_append,length_cons,length_nil,cond_true,cond_false] at hm ⊢;omega)
 all_goals try (cases b<;>(simp only [length_append,length_cons,length_nil,cond_true,cond_false] at hm ⊢;omega))
 all_goals try (intro y hx;simp only [mem_append,List.mem_cons,List.not_mem_nil,or_false] at hx;grind)
structure PF (Q:af→Prop) (q r:Nat) (e:bg) (m:List aA):Prop where
 o:Q e.ba
 mq:∀x∈m,Q x.ba
 ql:e.bA.length≤q
 rl:e.br.length+e.bA.length≤r+q
 wl:e.bX.length≤r+q+200
 ml:m.length+(if e.bX.length=0 then e.bA.length else 0)≤q+(if e.bX.length=0 then 0 else r+q+200)
theorem tK {Q:af→Prop} {n:Nat} (d:aW) (e:bg) (hd:d.Entries.length≤n) (hn:n≤1000000000) (h0:Q default) (he:Q e.ba) (hr:e.br.length≤128) (hw:e.bX.length≤128) (hq:e.bA.length≤n):EC prog 280 [.agg d.c,.agg e.c] [] fun r N=>N=[]∧∃x:aW×List aA,((x.1.Entries.length≤d.Entries.length+1∧∀l∈x.1.Entries,l∈d.Entries∨mQ Q n l)∧dU Q 10000000000 x.2)∧r= .bS [.agg x.1.c,bG 45 aA.c default x.2]:=by
 refine EC.bh ?_;refine nW ab (ca 280) func280 ntmps280 results280 ?_;intro fr0;(repeat' (first|(with_reducible intro hh;first|subst hh|(revert hh;intro _))|with_reducible apply And.intro|refine eK ab ?_|refine wA ab ?_|exact trivial|contradiction));refine cw 6 179 45 rfl ?_;intro hm;refine Hp [2,3,4] (fun s:bg×List aA×aN=>[(6,.row 3 s.2.2 45 0 s.2.1.length)]) (fun B s=>cW (cP B 1 [s.1.c]) 3 s.2.2 (s.2.1.map aA.c)) (fun s=>PF Q e.bA.length e.br.length s.1 s.2.1) (fun s=>s.1.bA.length+(if s.1.bX.length=0 then 1 else 0)) (e,[],hm) ⟨he,fun x hx=>(nomatch hx),le_refl _,le_refl _,by show e.bX.length≤_;omega,by show 0+(if e.bX.length=0 then e.bA.length else 0)≤e.bA.length+_;split<;>omega⟩ ?_;rintro ⟨y,m,hr⟩ hI;replace hI:PF Q e.bA.length e.br.length y m:=hI;simp only [bK,dd,push_cast,simprocAttr];refine pR ?_;refine bN ab ?_;refine sA ?_;refine ⟨fun hc=>?_,fun hc=>?_⟩
 ·refine D6 ?_;refine pR ?_;refine bN ab ?_;refine sA ?_;intro fr1;have hwq:(y.bX.length=0)∧0 < y.bA.length:=by
   simp only [Bool.and_eq_true,beq_iff_eq,decide_eq_true_eq] at hc;omega
  have hI1:=hI.ql;have hI2:=hI.rl;have hI3:=hI.ml;rw [if_pos hwq.1,if_pos hwq.1] at hI3;refine ⟨by omega,?_⟩;have hgd:∀m':List aA,(m'.length+y.bA.length≤2*e.bA.length+e.br.length+200)→m'.length≤9000000000:=fun m' h=>by omega
  refine dy [2,3,4] (fun s:bg×List aA×aN=>[(6,.row 3 s.2.2 45 0 s.2.1.length)]) (fun B s=>[aI.row (fr0 0) 138 2 [d.c],aI.row (fr0 1) 334 41 [s.1.c],aI.row (fr0 2) 138 2 [(default:aW).c],aI.row s.2.2 179 45 (s.2.1.map aA.c)]) (fun s=>PF Q e.bA.length e.br.length s.1 s.2.1∧(s.1.bX.length=0→s.1.bA.length < y.bA.length)∧s.1.bA.length≤y.bA.length∧s.2.1.length≤e.bA.length) ?_ ?_;rotate_left 1
  ·refine D6 ?_;refine pR ?_;refine bN ab ?_;refine sA ?_;(apply az;exact rfl;all_goals intro h)
   ·refine bN ab ?_;refine sA ?_;intro fr2;refine du 4 ({y with bX:=[y.m8]},m,hr) ⟨⟨hI.o,hI.mq,hI.ql,hI.rl,?_,?_⟩,?_,le_refl _,by show m.length≤_;omega⟩ ⟨So,⟨by decide,wY.EI rfl (by rw [cd,bg.len];decide) (gw.put (gw.obj (fun s B=>by rw [bg.fk]) (fun s B=>by rw [bg.fz])) 39 (jv.row (l:=[y.m8]) (by decide) rfl rfl rfl) rfl)⟩,⟨by decide,wY.id rfl⟩,⟨by decide,wY.id rfl⟩,trivial⟩
    ·show 1≤_;omega
    ·show m.length+(if 1=0 then _ else 0)≤_+(if 1=0 then _ else _);simp;omega
    ·intro h;cases h
   refine pR ?_;refine bN ab ?_
   cases hm2:((y.bA.getD 0 default).gb == 2)
   all_goals
    simp only [hm2,push_cast,simprocAttr];(repeat' (first|(with_reducible intro hh;first|subst hh|(revert hh;intro _))|with_reducible apply And.intro|refine eK ab ?_|((refine EC.use (iw y.br _ (by omega)) ?_;refine jy (m:=0) ab ?_;simp only [hm2,push_cast,simprocAttr]))|exact trivial|contradiction))
   all_goals (apply az;exact rfl;all_goals intro h)
   ·cases h
   rotate_left 1
   ·refine bN ab ?_;refine sA ?_;refine EC.use (iw y.br _ (by omega)) ?_;refine eK ab ?_;refine du 4 ({y with bX:=dZ (y.bA.getD 0 default).bW y.br},m,hr) ⟨⟨hI.o,hI.mq,hI.ql,hI.rl,?_,?_⟩,?_,le_refl _,by show m.length≤_;omega⟩ ⟨So,So,So,So,trivial⟩
    all_goals
     have hwl:=l4 (n:=(y.bA.getD 0 default).bW) (l:=y.br);have hw0:0 < (dZ (y.bA.getD 0 default).bW y.br).length:=by simpa using h
    ·show (dZ _ y.br).length≤_;omega
    ·show m.length+(if (dZ (y.bA.getD 0 default).bW y.br).length=0 then _ else 0)≤_+(if (dZ (y.bA.getD 0 default).bW y.br).length=0 then 0 else _);rw [if_neg (by omega),if_neg (by omega)];omega
    ·intro h;replace h:(dZ (y.bA.getD 0 default).bW y.br).length=0:=h;omega
   all_goals
    refine pR ?_;refine bN ab ?_;refine sA ?_;intro fr3;refine ⟨by omega,?_⟩;refine dy [2,3,4,6] (fun s:bg=>[]) (fun B s=>[aI.row (fr0 0) 138 2 [d.c],aI.row (fr0 1) 334 41 [s.c],aI.row (fr0 2) 138 2 [(default:aW).c],aI.row (fr3 13) 179 45 ((m ++ [aA.mk d.bW (y.bA.getD 0 default).bW 2 y.ID (y.bA.getD 0 default).gb y.ba (default:aA).Number (default:aA).Value (default:aA).ae (default:aA).ea]).map aA.c)]) (fun s=>Q s.ba∧s.br.length≤y.br.length+1∧s.bX=y.bX∧s.bA=y.bA) ?_ ?_;rotate_left 1
    ·refine pR ?_;refine bN ab ?_;refine sA ?_;refine bN ab ?_;refine sA ?_;refine ⟨fun h4=>?_,fun h4=>?_⟩
     ·refine EC.aM (xI y.br _ (by omega)) ?_;rintro x hx;refine eK ab ?_;exact du 4 {y with br:=x} ⟨hI.o,hx,rfl,rfl⟩ ⟨So,So,So,So,trivial⟩
     ·exact du 4 {y with m8:=(y.bA.getD 0 default).bW,br:=[],ba:=default} ⟨h0,zero_le _,rfl,rfl⟩ ⟨So,⟨by decide,wY.EI rfl (by simp only [cd,bg.len];decide) (gw.tW (ds:=bg.c {y with m8:=(y.bA.getD 0 default).bW,br:=[]}) (gw.put (gw.obj (cs:=bg.c {y with m8:=(y.bA.getD 0 default).bW}) (fun s B=>by rw [bg.fk]) (fun s B=>by rw [bg.fz])) 2 (jv.nil (cells:=aS .i64) (d:=default)) rfl) 3 (gw.obj (cs:=(default:af).c) (fun s B=>by rw [af.fk]) (fun s B=>by rw [af.fz])) (bg.Ju _ _))⟩,⟨by decide,wY.id rfl⟩,⟨by decide,wY.id rfl⟩,trivial⟩
    rintro z ⟨hz1,hz2,hz3,hz4⟩;simp only [bK,dd,push_cast,simprocAttr];refine bN ab ?_;refine sA ?_;intro fr4;refine ⟨by rw [hz4];omega,by rw [hz4];omega,?_⟩;refine du 4 ({z with bA:=eE default z.bA 1 (z.bA.length - 1)},m ++ [_],fr3 13) ⟨⟨hz1,?_,?_,?_,?_,?_⟩,?_,?_,by simp;omega⟩ ⟨So,⟨by decide,wY.EI rfl (by rw [cd,bg.len];decide) (gw.put (gw.obj (fun s B=>by rw [bg.fk]) (fun s B=>by rw [bg.fz])) 40 (jv.row (l:=eE default z.bA 1 (z.bA.length - 1)) (by decide) rfl rfl (bM _ _ _ _).symm) rfl)⟩,⟨by decide,wY.id rfl⟩,⟨by decide,wY.id rfl⟩,trivial⟩
    ·intro x hx;rcases List.mem_append.1 hx with hx|hx
     ·exact hI.mq x hx
     ·rw [List.mem_singleton.1 hx];exact hI.o
    ·show (eE default z.bA 1 (z.bA.length - 1)).length≤_;rw [bM,hz4];omega
    ·show z.br.length+(eE default z.bA 1 (z.bA.length - 1)).length≤_;rw [bM,hz4];omega
    ·show z.bX.length≤_;rw [hz3];omega
    ·show (m ++ [_]).length+(if z.bX.length=0 then (eE default z.bA 1 (z.bA.length - 1)).length else 0)≤_+(if z.bX.length=0 then 0 else _);rw [hz3,if_pos hwq.1,if_pos hwq.1,bM,hz4];simp;omega
    ·intro _;show (eE default z.bA 1 (z.bA.length - 1)).length < _;rw [bM,hz4];omega
    ·show (eE default z.bA 1 (z.bA.length - 1)).length≤_;rw [bM,hz4];omega
  rintro ⟨z,m2,hr2⟩ ⟨hJ,hzq,hzl,hmq⟩;replace hmq:m2.length≤e.bA.length:=hmq;replace hJ:PF Q e.bA.length e.br.length z m2:=hJ;replace hzq:z.bX.length=0→z.bA.length < y.bA.length:=hzq;replace hzl:z.bA.length≤y.bA.length:=hzl;have hJ1:=hJ.ml;have hJ2:=hJ.wl;simp only [bK,dd,push_cast,simprocAttr];refine bN ab ?_;refine sA ?_;refine aT ab [2,3,4,86,87] (fun s:Nat×List aA×Nat×aN=>[(88,.int .i64 s.1),(6,.row 3 s.2.2.2 45 0 s.2.2.1)]) (fun B s=>cW B 3 s.2.2.2 (s.2.1.map aA.c)) (fun s=>s.1≤z.bX.length∧s.2.2.1=s.2.1.length∧s.2.1.length=m2.length+s.1∧∀x∈s.2.1,Q x.ba) (fun s=>z.bX.length - s.1) (0,m2,m2.length,hr2) ⟨zero_le _,rfl,rfl,hJ.mq⟩ ?_;rintro ⟨i,m3,km,h3⟩ ⟨hi,hk,hm3,hm3q⟩;replace hi:i≤z.bX.length:=hi;obtain rfl:km=m3.length:=hk;replace hm3:m3.length=m2.length+i:=hm3;replace hm3q:∀x∈m3,Q x.ba:=hm3q;have hm2l:m2.length≤4000000000:=by split at hJ1<;>omega
  have hw3:IntKind.i64.wrap ((i:Int)+1)=((i+1:Nat):Int):=by rw [bu (by omega)];omega
  simp only [hw3,push_cast,simprocAttr];(repeat' (first|(with_reducible intro hh;first|subst hh|(revert hh;intro _))|with_reducible apply And.intro|refine eK ab ?_|refine wA ab ?_|exact trivial|contradiction))<;>(first|omega|skip)
  ·(try simp only [hw3]);refine a7 (i+1,m3 ++ [_],m3.length+1,_) ⟨by show i+1≤_;omega,by simp,by simp;omega,fun x hx=>?_⟩;rcases List.mem_append.1 hx with hx|hx
   ·exact hm3q x hx
   ·rw [List.mem_singleton.1 hx];exact h0
  ·have hz:=‹decide ((i:Int) < _)=false›;obtain rfl:i=z.bX.length:=by simp at hz;omega
   refine a7 (z,m3,h3) ⟨hJ.o,hm3q,hJ.ql,hJ.rl,hJ.wl,?_⟩ (hm:=?_)
   ·show m3.length+(if z.bX.length=0 then z.bA.length else 0)≤e.bA.length+(if z.bX.length=0 then 0 else e.br.length+e.bA.length+200);by_cases h:z.bX.length=0
    ·rw [if_pos h,if_pos h] at *;omega
    ·rw [if_neg h,if_neg h] at *;omega
   ·show z.bA.length+_ < y.bA.length+(if y.bX.length=0 then 1 else 0);rw [if_pos hwq.1]
    split
    ·have:=hzq ‹_›;omega
    ·omega
 ·(repeat' (first|(with_reducible intro hh;first|subst hh|(revert hh;intro _))|with_reducible apply And.intro|refine eK ab ?_|((refine EC.aM (Aa d y (by omega)) ?_;rintro z ⟨hz1,hz2⟩))|refine wA ab ?_|exact trivial|contradiction));have hI1:=hI.ql;have hI2:=hI.rl;have hI3:=hI.ml;have hI4:=hI.wl;refine ⟨(z,m),⟨⟨hz1,fun l hl=>(hz2 l hl).symm.imp_right fun e=>?_⟩,⟨?_,hI.mq⟩⟩,Lt.t2 (a6.dr rfl) (a6.row rfl rfl rfl)⟩
  ·subst e;exact ⟨hI.o,by omega,by omega,by omega⟩
  ·show m.length≤_;split at hI3<;>omega
def Dz (x:aW×List aA×Int):SV:= .bS [.agg x.1.c,bG 45 aA.c default x.2.1,.int .i64 x.2.2]
theorem q_.on {Q:af→Prop} {n k:Nat} {d y:aW} (hd:q_ Q n d) (hk:n≤k) (h1:y.Entries.length≤d.Entries.length+1) (hk1:n+1≤k) (h2:∀l∈y.Entries,l∈d.Entries∨mQ Q k l):q_ Q k y:=
 ⟨by have:=hd.ln;omega,fun l hl=>(h2 l hl).elim (fun h=>by obtain ⟨a,b,c,e⟩:=hd.e l h;exact ⟨a,b,c,by omega⟩) id⟩
theorem bE.en {m:Nat} {B:List aI} {e:bg} {q:List gK} {i n E:Nat} {h:aN} {xs:List (List SV)} (hm:m≤i) (hB:au B i= .row h E 2 xs) (hx:xs=q.map gK.c) (hn:n=q.length):bE m B (.agg (aJ e.c 40 [.row i h 2 0 n])) (.agg (bg.c {e with bA:=q})):=
 bE.K3 hm hB hx hn (fun s B=>by rw [bg.fk];trivial) (fun s B=>by rw [bg.fz]) rfl
theorem bE.dr {m:Nat} {B:List aI} {n:aW}:bE m B (.agg n.c) (.agg n.c):=bE.obj (fun s B=>by rw [aW.fk]) (fun s B=>by rw [aW.fz])
theorem R8 (l:bg) (k:Nat) (s:List SV):take 41 (aJ l.c k s)=aJ l.c k s:=take_of_length_le (by rw [cd];exact le_refl _)
attribute [local push_cast] R8
theorem Ab {Q:af→Prop} {n:Nat} (d:aW) (id nd mode:Int) (hd:q_ Q n d) (hn:n≤900000000) (h0:Q default):EC prog 208 [.agg d.c,.int .u64 id,.int .i64 nd,.int .i64 mode] [] fun r N=>N=[]∧∃x:aW×List aA×Int,(x.2.2=0→q_ Q (n+1) x.1∧dU Q 10000000000 x.2.1)∧r=Dz x:=by
 refine EC.bh ?_;refine nW ab (ca 208) func208 ntmps208 results208 ?_;(repeat' (first|(with_reducible intro hh;first|subst hh|(revert hh;intro _))|with_reducible apply And.intro|refine eK ab ?_|((refine EC.aM (oT d hd (by omega)) ?_;rintro bv hv))|refine EC.use (iI _) ?_|((refine EC.aM (EC.mono (oV d id hd (by omega) h0) fun r N ⟨h1,x,h2,h3,h4⟩=>⟨h1,x,And.intro h2 h3,h4⟩) ?_;rintro e ⟨he1,he2⟩))|(refine EC.aM (nH e.br _ (le_trans he2.2.1 (by decide))) ?_;rintro _ _)|refine wA ab ?_|exact trivial|contradiction))<;>(first|(exact ⟨(_,[],_),bd rfl,Lt.t3 (a6.dr rfl) a6.nil a6.int⟩)|omega|assumption|rfl|(show (_:Bool)=true;first|(simp_all;done)|grind)|(show False;first|(simp_all;done)|grind)|(simp_all;done)|skip)
 all_goals
  have h128:e.br.length≤128∧e.bX.length≤128:=he1.elim (fun h=>hv (by simpa using ‹(!bv)=false›) e h) (fun h=>h);have heq:=he2.2.2.2;have hdl:=hd.ln;refine aT ab [1,2,3,4,8,11,54,55] (fun s:Nat×Bool=>[(56,.int .i64 s.1),(12,.bool s.2)]) (fun B _=>B) (fun s=>s.1≤e.bA.length) (fun s=>e.bA.length - s.1) (0,_) (zero_le _) ?_;rintro ⟨i,b⟩ hi;replace hi:i≤e.bA.length:=hi;have hw:=wI i;simp only [hw,push_cast,simprocAttr];(repeat' (first|(with_reducible intro hh;first|subst hh|(revert hh;intro _))|with_reducible apply And.intro|refine eK ab ?_|refine wA ab ?_|exact trivial|contradiction))<;>(first|((try simp only [hw]);refine a7 (i+1,_) (by show i+1≤_;omega))|(exact ⟨(_,[],_),bd rfl,Lt.t3 (a6.dr rfl) a6.nil a6.int⟩)|omega|assumption|rfl|(show (_:Bool)=true;first|(simp_all;done)|grind)|(show False;first|(simp_all;done)|grind)|(simp_all;done)|skip)
 all_goals
  refine EC.mu 3 (d_.two bE.dr (d_.two (bE.en (q:=e.bA ++ [⟨nd,mode⟩]) (by decide) rfl rfl (by simp)) .nil)) ?_;refine EC.aM (tK (n:=n+1) d {e with bA:=e.bA ++ [⟨nd,mode⟩]} (by omega) (by omega) h0 he2.1 h128.1 h128.2 (by simp;omega)) ?_;rintro ⟨y,ms⟩ ⟨⟨hy1,hy2⟩,hms⟩;(repeat' (first|(with_reducible intro hh;first|subst hh|(revert hh;intro _))|with_reducible apply And.intro|refine eK ab ?_|refine wA ab ?_|exact trivial|contradiction))<;>(first|(exact ⟨(y,ms,0),fun _=>⟨hd.on (le_succ _) hy1 (le_refl _) hy2,hms⟩,Lt.t3 (a6.dr rfl) a6.bG a6.int⟩)|skip)
theorem uk {Q:af→Prop} {n:Nat} (d:aW) (id nd:Int) (o:af) (ho:Q o) (hd:q_ Q n d) (hn:n≤900000000) (h0:Q default):EC prog 209 [.agg d.c,.int .u64 id,.int .i64 nd,.agg o.c] [] fun r N=>N=[]∧∃x:aW×List aA×Int,(x.2.2=0→q_ Q (n+1) x.1∧dU Q 10000000000 x.2.1)∧r=Dz x:=by
 refine EC.bh ?_;refine nW ab (ca 209) func209 ntmps209 results209 ?_;(repeat' (first|(with_reducible intro hh;first|subst hh|(revert hh;intro _))|with_reducible apply And.intro|refine eK ab ?_|((refine EC.aM (oT d hd (by omega)) ?_;rintro bv hv))|refine EC.use (qj _) ?_|((refine EC.aM (EC.mono (oV d id hd (by omega) h0) fun r N ⟨h1,x,h2,h3,h4⟩=>⟨h1,x,And.intro h2 h3,h4⟩) ?_;rintro e ⟨he1,he2⟩))|(refine EC.aM (nH e.br _ (le_trans he2.2.1 (by decide))) ?_;rintro _ _)|refine EC.use (iw e.br _ (le_trans he2.2.1 (by decide))) ?_|refine EC.use (iw e.bX _ (le_trans he2.2.2.1 (by decide))) ?_|refine dM ab 4 [0,1,2,3,4,5,6,7,8,9,10,11,12,13] [1] bZ fun R hR=>?_|refine bT ab 0 2 ?_ ?_|refine dR ab [2,3,4] ?_|refine dC ab 0 ?_|refine dR ab [3,4] ?_|(refine hR _ _ ?_;refine sA ?_)|refine wA ab ?_|exact trivial|contradiction))<;>(first|(exact ⟨(_,[],_),bd rfl,Lt.t3 (a6.dr rfl) a6.nil a6.int⟩)|omega|assumption|rfl|(show (_:Bool)=true;first|(simp_all;done)|grind)|(show False;first|(simp_all;done)|grind)|(simp_all;done)|skip)
 all_goals
  have h128:e.br.length≤128∧e.bX.length≤128:=he1.elim (fun h=>hv (by simpa using ‹(!bv)=false›) e h) (fun h=>h);have heq:=he2.2.2.2;have hdl:=hd.ln;have hwr:=l4 (n:=nd) (l:=e.br);have hww:=l4 (n:=nd) (l:=e.bX);refine EC.aM (tK (n:=n+1) d _ (by omega) (by omega) h0 ?_ ?_ ?_ ?_) ?_;rotate_left 4
  ·rintro ⟨y,ms⟩ ⟨⟨hy1,hy2⟩,hms⟩;(repeat' (first|(with_reducible intro hh;first|subst hh|(revert hh;intro _))|with_reducible apply And.intro|refine eK ab ?_|refine dM ab 4 [0,1,2,3,4,5,6,7,8,9,10,11,12,13] [1] bZ fun R hR=>?_|refine bT ab 0 2 ?_ ?_|refine dR ab [2,3,4] ?_|refine dC ab 0 ?_|refine dR ab [3,4] ?_|(refine hR _ _ ?_;refine sA ?_)|refine wA ab ?_|exact trivial|contradiction))<;>(first|(exact ⟨(y,ms,0),fun _=>⟨hd.on (le_succ _) hy1 (le_refl _) hy2,hms⟩,Lt.t3 (a6.dr rfl) a6.bG a6.int⟩)|skip)
  all_goals first|exact ho|exact he2.1|(show (dZ nd _).length≤_;omega)|(show e.bA.length≤_;omega)
end
section
attribute [local irreducible] EC EV
theorem yj (a b:List (List UInt8)) (ha:a.length≤1099511627776) (hb:b.length≤1099511627776):EC prog 286 [bG 1 jz default a,bG 1 jz default b] [] fun r N=>N=[]∧∃c:Bool,(a=b→c=true)∧r= .bool c:=by
 refine EC.bh ?_;refine nW ab (ca 286) func286 ntmps286 results286 ?_;have hsame:∀{B:List aI} (v:Bool),(a=b→v=true)→∃c:Bool,(a=b→c=true)∧Lt B (.bool v) (.bool c):=fun v h=>⟨v,h,Lt.bool rfl⟩;(repeat' (with_reducible (first|intro _|apply And.intro)))<;>(first|(refine hsame false fun h=>?_;subst h;simp_all;done)|skip);refine bV ab [0,1,12] 13 a.length (fun i=>True) trivial (by omega) ?_;intro i hI hi hw;simp only [hw,push_cast,simprocAttr];have hlab:a.length=b.length:=by (have hz:=‹((a.length:Int) !=_)=false›;simp at hz;omega)
 (repeat' (first|with_reducible (first|intro _|apply And.intro)|refine dN ab [] [] [0,1,2,3,4,5,6,7,8] bZ fun R hR=>?_|(refine hR _ _ ?_;refine sA ?_)|refine wA ab ?_|fail))<;>(first|(refine hsame false fun h=>?_;subst h;simp_all;done)|(exact hsame true fun _=>rfl)|((try simp only [hw]);exact cO trivial)|omega)
theorem wb (a b:List Int) (ha:a.length≤1099511627776) (hb:b.length≤1099511627776):EC prog 166 [bG 1 (aS .i64) default a,bG 1 (aS .i64) default b] [] fun r N=>N=[]∧∃c:Bool,(a=b→c=true)∧r= .bool c:=by
 refine EC.bh ?_;refine nW ab (ca 166) func166 ntmps166 results166 ?_;have hsame:∀{B:List aI} (v:Bool),(a=b→v=true)→∃c:Bool,(a=b→c=true)∧Lt B (.bool v) (.bool c):=fun v h=>⟨v,h,Lt.bool rfl⟩;(repeat' (with_reducible (first|intro _|apply And.intro)))<;>(first|(refine hsame false fun h=>?_;subst h;simp_all;done)|skip);refine bV ab [0,1,12] 13 a.length (fun i=>True) trivial (by omega) ?_;intro i hI hi hw;simp only [hw,push_cast,simprocAttr];have hlab:a.length=b.length:=by (have hz:=‹((a.length:Int) !=_)=false›;simp at hz;omega)
 (repeat' (first|with_reducible (first|intro _|apply And.intro)|refine dN ab [] [] [0,1,2,3,4,5,6,7,8] bZ fun R hR=>?_|(refine hR _ _ ?_;refine sA ?_)|refine wA ab ?_|fail))<;>(first|(refine hsame false fun h=>?_;subst h;simp_all;done)|(exact hsame true fun _=>rfl)|((try simp only [hw]);exact cO trivial)|omega)
theorem yi (a b:aP) (ha:a.Code.length≤1099511627776) (hb:b.Code.length≤1099511627776) (ha2:a.Strings.length≤1099511627776) (hb2:b.Strings.length≤1099511627776):EC prog 224 [.agg a.c,.agg b.c] [] fun r N=>N=[]∧∃c:Bool,(a=b→c=true)∧r= .bool c:=by
 refine EC.bh ?_;refine nW ab (ca 224) func224 ntmps224 results224 ?_;have hsame:∀{B:List aI} (v:Bool),(a=b→v=true)→∃c:Bool,(a=b→c=true)∧Lt B (.bool v) (.bool c):=fun v h=>⟨v,h,Lt.bool rfl⟩;(repeat' (first|with_reducible (first|intro _|apply And.intro)|refine eK ab ?_|(refine EC.aM (yj a.Strings b.Strings ha2 hb2) ?_;rintro _ _)|fail))<;>(first|(refine hsame false fun h=>?_;subst h;simp_all;done)|(show False;first|(simp_all;done)|grind)|skip)
 all_goals
  refine bV ab [2,3,30] 31 a.Code.length (fun i=>True) trivial (by omega) ?_;intro i hI hi hw;simp only [hw,push_cast,simprocAttr];have hlab:a.Code.length=b.Code.length:=by grind
  (repeat' (first|with_reducible (first|intro _|apply And.intro)|refine dN ab [] [] [0,1,2,3,4,5,6,7,8,9,10] bZ fun R hR=>?_|(refine hR _ _ ?_;refine sA ?_)|refine wA ab ?_|fail))<;>(first|(refine hsame false fun h=>?_;subst h;simp_all;done)|(exact hsame true fun _=>rfl)|((try simp only [hw]);exact cO trivial)|omega)
theorem ya (a b:List a8) (ha:a.length≤1099511627776) (hb:b.length≤1099511627776) (han:∀n∈a,n.kN.length≤1000000) (hbn:∀n∈b,n.kN.length≤1000000):EC prog 168 [bG 3 a8.c default a,bG 3 a8.c default b] [] fun r N=>N=[]∧∃c:Bool,(a=b→c=true)∧r= .bool c:=by
 refine EC.bh ?_;refine nW ab (ca 168) func168 ntmps168 results168 ?_;have hsame:∀{B:List aI} (v:Bool),(a=b→v=true)→∃c:Bool,(a=b→c=true)∧Lt B (.bool v) (.bool c):=fun v h=>⟨v,h,Lt.bool rfl⟩;(repeat' (with_reducible (first|intro _|apply And.intro)))<;>(first|(refine hsame false fun h=>?_;subst h;simp_all;done)|skip);refine bV ab [0,1,13] 14 a.length (fun i=>True) trivial (by omega) ?_;intro i hI hi hw;simp only [hw,push_cast,simprocAttr];have hlab:a.length=b.length:=by (have hz:=‹((a.length:Int) !=_)=false›;simp at hz;omega)
 have hmem:i < a.length→(a.getD i default).kN.length≤1000000:=fun h=>han _ (bk h);(repeat' (first|with_reducible (first|intro _|apply And.intro)|refine dN ab [] [] [0,1,2,3,4,5,6,7,8,9,10,11,12,13,14,15,16,17,18,19,20,21,22,23,24,25,26,27,28,29,30,31,32,33,34,35,36,37,38] bZ fun R hR=>?_|(refine hR _ _ ?_;refine sA ?_)|refine wA ab ?_|fail))<;>(first|(refine hsame false fun h=>?_;subst h;simp_all;done)|(exact hsame true fun _=>rfl)|omega|skip);have hlid:(a.getD i default).kN.length=(b.getD i default).kN.length:=by grind
 have hli:=hmem (by omega);refine bV ab [0,1,5,13,14,61] 62 (a.getD i default).kN.length (fun i=>True) trivial (by omega) ?_;intro j _ hj hw2;simp only [hw2,push_cast,simprocAttr];(repeat' (first|with_reducible (first|intro _|apply And.intro)|refine dN ab [] [] [0,1,2,3,4,5,6,7,8,9,10,11,12,13,14,15,16] bZ fun R hR=>?_|(refine hR _ _ ?_;refine sA ?_)|refine wA ab ?_|fail))<;>(first|(refine hsame false fun h=>?_;subst h;simp_all;done)|((try simp only [hw]);(try simp only [hw2]);exact cO trivial)|omega)
theorem o3 (a b:List Int) (ha:a.length≤1099511627776) (hb:b.length≤1099511627776):EC prog 167 [bG 1 (aS .u64) default a,bG 1 (aS .u64) default b] [] fun r N=>N=[]∧∃c:Bool,(a=b→c=true)∧r= .bool c:=by
 refine EC.bh ?_;refine nW ab (ca 167) func167 ntmps167 results167 ?_;have hsame:∀{B:List aI} (v:Bool),(a=b→v=true)→∃c:Bool,(a=b→c=true)∧Lt B (.bool v) (.bool c):=fun v h=>⟨v,h,Lt.bool rfl⟩;(repeat' (with_reducible (first|intro _|apply And.intro)))<;>(first|(refine hsame false fun h=>?_;subst h;simp_all;done)|skip);refine bV ab [0,1,12] 13 a.length (fun i=>True) trivial (by omega) ?_;intro i hI hi hw;simp only [hw,push_cast,simprocAttr];have hlab:a.length=b.length:=by (have hz:=‹((a.length:Int) !=_)=false›;simp at hz;omega)
 (repeat' (first|with_reducible (first|intro _|apply And.intro)|refine dN ab [] [] [0,1,2,3,4,5,6,7,8] bZ fun R hR=>?_|(refine hR _ _ ?_;refine sA ?_)|refine wA ab ?_|fail))<;>(first|(refine hsame false fun h=>?_;subst h;simp_all;done)|(exact hsame true fun _=>rfl)|((try simp only [hw]);exact cO trivial)|omega)
theorem xQ (a b:aC) (ha:CA a) (hb:CA b):EC prog 165 [.agg a.c,.agg b.c] [] fun r N=>N=[]∧∃c:Bool,(a=b→c=true)∧r= .bool c:=by
 refine EC.bh ?_;refine nW ab (ca 165) func165 ntmps165 results165 ?_;have hsame:∀{B:List aI} (v:Bool),(a=b→v=true)→∃c:Bool,(a=b→c=true)∧Lt B (.bool v) (.bool c):=fun v h=>⟨v,h,Lt.bool rfl⟩;(repeat' (first|with_reducible (first|intro _|apply And.intro)|refine eK ab ?_|(refine EC.aM (o3 _ _ (le_trans ha.1 (by decide)) (le_trans hb.1 (by decide))) ?_;rintro _ _)|(refine EC.aM (yi a.Program b.Program (le_trans ha.2.1 (by decide)) (le_trans hb.2.1 (by decide)) (le_trans ha.2.2.1 (by decide)) (le_trans hb.2.2.1 (by decide))) ?_;rintro _ _)|refine EC.use (yg _ _ ha.2.2.2.1 hb.2.2.2.1) ?_|refine EC.use (x8 _ _ ha.2.2.2.2 hb.2.2.2.2) ?_|fail))<;>(first|(refine hsame _ fun h=>?_;subst h;simp_all;done)|(show False;first|(simp_all;done)|grind))
theorem eW (a b:af) (ha:cS a) (hb:cS b):EC prog 104 [.agg a.c,.agg b.c] [] fun r N=>N=[]∧∃c:Bool,(a=b→c=true)∧r= .bool c:=by
 refine EC.bh ?_;refine nW ab (ca 104) func104 ntmps104 results104 ?_;have hsame:∀{B:List aI} (v:Bool),(a=b→v=true)→∃c:Bool,(a=b→c=true)∧Lt B (.bool v) (.bool c):=fun v h=>⟨v,h,Lt.bool rfl⟩;(repeat' (first|with_reducible (first|intro _|apply And.intro)|refine eK ab ?_|(refine EC.aM (xQ _ _ ha.1 hb.1) ?_;rintro _ _)|(refine EC.aM (wb _ _ (le_trans ha.2.1 (by decide)) (le_trans hb.2.1 (by decide))) ?_;rintro _ _)|(refine EC.aM (o3 _ _ (le_trans ha.2.2.2.1 (by decide)) (le_trans hb.2.2.2.1 (by decide))) ?_;rintro _ _)|(refine EC.aM (ya _ _ (le_trans ha.2.2.2.2.2.2.1 (by decide)) (le_trans hb.2.2.2.2.2.2.1 (by decide)) (fun n hn=>(ha.2.2.2.2.2.2.2 n hn).1) (fun n hn=>(hb.2.2.2.2.2.2.2 n hn).1)) ?_;rintro _ _)|fail))<;>(first|(refine hsame _ fun h=>?_;subst h;simp_all;done)|(show False;first|(simp_all;done)|grind))
end
section
attribute [local irreducible] EC EV gW
attribute [local push_cast] eO dG iX l5 j7 l6
structure mh (o:af):Prop where
 s:cS o
 p:nO o
theorem cG.sp {I D:Int→Prop} {o:af} (h:cG I D o):mh o:=⟨h.sm,h.pd⟩
theorem kj (o:af) (ho:mh o):EC prog 239 [.agg o.c] [] fun r N=>N=[]∧∃c:Bool,True∧r= .bool c:=by
 refine EC.bh ?_;refine nW ab (ca 239) func239 ntmps239 results239 ?_;(repeat' (first|with_reducible (first|intro _|apply And.intro)|refine eK ab ?_|refine EC.use (cH o ho.s ho.p) ?_|refine EC.use (jr o ho.s) ?_|refine EC.use (jq o ho.s) ?_|refine EC.use (lM o) ?_|refine EC.use (jl o ho.s) ?_|refine EC.use (gr o ho.s) ?_|refine EC.use (eH o ho.s) ?_|refine EC.use (jk o) ?_|refine EC.use (jj o) ?_|(refine EC.aM (lL o ho.s.2.2.2.2.2.2.1 ho.s.2.2.2.2.2.2.2) ?_;rintro _ _)|fail))<;>((exact ⟨_,Lt.bool rfl⟩))
theorem qn (a b:aG) (ha:a.ah.length≤1000000000) (hb:b.ah.length≤1000000000) (hao:∀o∈a.ah,mh o) (hbo:∀o∈b.ah,mh o):EC prog 61 [.agg a.c,.agg b.c] [] fun r N=>N=[]∧∃c:Bool,(a=b→c=true)∧r= .bool c:=by
 refine EC.bh ?_;refine nW ab (ca 61) func61 ntmps61 results61 ?_;have hsame:∀{B:List aI} (v:Bool),(a=b→v=true)→∃c:Bool,(a=b→c=true)∧Lt B (.bool v) (.bool c):=fun v h=>⟨v,h,Lt.bool rfl⟩;(repeat' (with_reducible (first|intro _|apply And.intro)))<;>(first|(refine hsame false fun h=>?_;subst h;simp_all;done)|skip);refine bV ab [2,3,15] 16 a.ah.length (fun i=>True) trivial (by omega) ?_;intro i hI hi hw;simp only [hw,push_cast,simprocAttr];have hlab:a.ah.length=b.ah.length:=by (have hz:=‹((a.ah.length:Int) !=_)=false›;simp at hz;omega)
 have hma:i < a.ah.length→mh (a.ah.getD i default):=fun h=>hao _ (bk h);have hmb:i < b.ah.length→mh (b.ah.getD i default):=fun h=>hbo _ (bk h);(repeat' (first|(with_reducible intro hh;first|subst hh|(revert hh;intro _))|with_reducible apply And.intro|((refine EC.aM (eW (a.ah.getD i default) (b.ah.getD i default) (hma (by omega)).s (hmb (by omega)).s) ?_;rintro c hc))|refine dN ab [] [] [0,1,2,3,4,5,6,7,8,9,10,11] bZ fun R hR=>?_|refine dR ab [11] ?_|(refine hR _ _ ?_;refine sA ?_)|refine wA ab ?_|fail))<;>(first|(refine hsame false fun h=>?_;subst h;simp_all;done)|(exact hsame true fun _=>rfl)|((try simp only [hw]);exact cO trivial)|omega)
def dA (t:List aK):List Int:=t.foldl (fun out s=>if s.aU=1∧s.bn ∉ out then out ++ [s.bn] else out) []
theorem oH {t:List aK} {i:Nat} (h:i < t.length):dA (t.take (i+1))=if (t.getD i default).aU=1∧(t.getD i default).bn ∉ dA (t.take i) then dA (t.take i) ++ [(t.getD i default).bn] else dA (t.take i):=by
 have e:t.getD i default=t[i]:=by simp [getD,h]
 rw [e,List.take_succ_eq_append_getElem h];unfold dA;rw [List.foldl_append];rfl
theorem qJ {t:List aK}:∀i,i≤t.length→(dA (t.take i)).length≤i
 |0,_=>by simp [dA]
 |i+1,h=>by
  have:=qJ (t:=t) i (by omega);rw [oH (by omega)]
  split
  ·simp;omega
  ·omega
theorem CY {t:List aK} {s:aK} (hs:s∈t) (hk:s.aU=1):s.bn∈dA t:=by
 have key:∀i,i≤t.length→∀j,j < i→(t.getD j default).aU=1→(t.getD j default).bn∈dA (t.take i):=fun i=>by
  induction i with
  |zero=>intro _ j hj;omega
  |succ i ih=>
   intro hi j hj hk;rw [oH (by omega)];rcases lt_or_ge j i with h|h
   ·have:=ih (by omega) j h hk
    split
    ·exact List.mem_append_left _ this
    ·exact this
   ·obtain rfl:j=i:=by omega
    split
    ·simp
    ·rename_i g;by_cases hm:(t.getD j default).bn∈dA (t.take j)
     ·exact hm
     ·exact absurd ⟨hk,hm⟩ g
 obtain ⟨j,hj,rfl⟩:=List.mem_iff_getElem.1 hs;have:=key t.length (le_refl _) j hj;rw [List.take_length] at this;simp only [getD,hj,List.getElem?_eq_getElem,Option.getD_some] at this;exact this hk
theorem ji (p:aC) (hp:p.aH.length≤1000000):EC prog 219 [.agg p.c] [] fun r N=>N=[]∧r=bG 1 (aS .u64) default (dA p.aH):=by
 refine EC.cQ ?_;refine nW ab (ca 219) func219 ntmps219 results219 ?_;(repeat' (with_reducible intro _));refine cw 3 42 1 rfl ?_;intro hh;refine aT ab [1] (fun s:Nat×List (Int)×Nat×aN=>[(4,.int .i64 s.1),(3,.row 1 s.2.2.2 1 0 s.2.2.1)]) (fun B s=>cW B 1 s.2.2.2 (s.2.1.map (aS .u64))) (fun s=>s.1≤p.aH.length∧s.2.2.1=s.2.1.length∧(s.2.1=dA (p.aH.take s.1))) (fun s=>p.aH.length - s.1) (0,[],0,hh) ⟨zero_le _,rfl,rfl⟩ ?_;rintro ⟨i,m,km,hr⟩ ⟨hi,hk,hI⟩;replace hi:i≤p.aH.length:=hi;obtain rfl:km=m.length:=hk;replace hI:m=dA (p.aH.take i):=hI;have hw:=wI i;simp only [hw,push_cast,simprocAttr];have hml:=qJ (t:=p.aH) i hi;rw [←hI] at hml;have hs:=oH (t:=p.aH) (i:=i);(repeat' (with_reducible (first|intro _|apply And.intro)))<;>(first|omega|skip)
 ·refine aT ab [1,3,4,5] (fun s:Nat×Bool=>[(7,.int .i64 s.1),(6,.bool s.2)]) (fun B _=>B) (fun s=>s.1≤m.length∧s.2=((p.aH.getD i default).aU !=1 || decide ((p.aH.getD i default).bn∈m.take s.1))) (fun s=>m.length - s.1) (0,(p.aH.getD i default).aU !=1) ⟨zero_le _,by simp⟩ ?_;rintro ⟨k,b⟩ ⟨hk,hb⟩;replace hk:k≤m.length:=hk;replace hb:b=((p.aH.getD i default).aU !=1 || decide ((p.aH.getD i default).bn∈m.take k)):=hb;have hw2:IntKind.i64.wrap ((k:Int)+1)=((k+1:Nat):Int):=by rw [bu (by omega)];omega
  have hsd:k < m.length→(decide ((p.aH.getD i default).bn∈m.take (k+1)))=(decide ((p.aH.getD i default).bn∈m.take k) || m.getD k default == (p.aH.getD i default).bn):=fun h=>by
   have e:m.getD k default=m[k]:=by simp [getD,h]
   rw [e,List.take_succ_eq_append_getElem h,Bool.eq_iff_iff];simp only [decide_eq_true_eq,mem_append,mem_singleton,Bool.or_eq_true,beq_iff_eq];exact or_congr Iff.rfl eq_comm
  rcases lt_or_ge k m.length with hlt|hge
  ·have hsd:=hsd hlt;obtain ⟨x,rfl⟩:∃x:{k:Nat // k < m.length},x.1=k:=⟨⟨k,hlt⟩,rfl⟩;simp only [hw2,push_cast,simprocAttr];(repeat' (first|refine dN ab [] [] [0,1,2,3,4,5,6,7,8,9,10] bZ fun R hR=>?_|(refine hR _ _ ?_;refine sA ?_)|fail))<;>(skip);(try simp only [hw2]);refine a7 (x.1+1,_) ⟨by show x.1+1≤_;omega,?_⟩;show _=(_ || decide (_∈take (x.1+1) m));rw [hsd,hb]
   cases ((p.aH.getD i default).aU !=1)<;>cases decide ((p.aH.getD i default).bn∈take x.1 m)<;>rfl
  ·obtain rfl:k=m.length:=by omega
   rw [List.take_length] at hb;simp only [hw2,Int.lt_irrefl,decide_false,push_cast,simprocAttr];(repeat' (first|(with_reducible intro hh;first|subst hh|(revert hh;intro _))|with_reducible apply And.intro))<;>(first|omega|skip)
   ·have hs:=hs (by omega);rw [←hI,if_pos (by simp at hb;exact hb)] at hs;(try simp only [hw]);exact a7 (i+1,m ++ [_],m.length+1,_) ⟨by show i+1≤_;omega,by simp,hs.symm⟩
   ·have hs:=hs (by omega);rw [show b=true by simpa using ‹(!b)=false›] at hb;rw [←hI,if_neg (fun h=>by simp [h.1,h.2,-List.getD_eq_getElem?_getD] at hb)] at hs;(try simp only [hw]);exact a7 (i+1,m,m.length,hr) ⟨by show i+1≤_;omega,rfl,hs.symm⟩
 ·obtain rfl:i=p.aH.length:=by (have hz:=‹decide ((i:Int) < _)=false›;simp at hz;omega)
  rw [List.take_length] at hI;rw [←hI];exact Lt.row rfl rfl rfl
theorem xE (p:aC) (o:af) (hp:p.aH.length≤1000000):EC prog 240 [.agg p.c,.agg o.c] [] fun r N=>N=[]∧∃c:Bool,True∧r= .bool c:=by
 refine EC.bh ?_;refine nW ab (ca 240) func240 ntmps240 results240 ?_;(repeat' (with_reducible intro _));refine bV ab [2,3] 5 p.aH.length (fun i=>True) trivial (by omega) ?_;intro i hI hi hw;simp only [hw,push_cast,simprocAttr];(repeat' (with_reducible (first|intro _|apply And.intro)))<;>(first|(exact ⟨_,Lt.bool rfl⟩)|((try simp only [hw]);exact cO trivial)|omega)
structure i9 (Q:af→Prop) (c:ax):Prop where
 p:Q c.ae
 pl:c.aQ.length≤1000000
 fl:c.dt.length≤1000000
 pq:∀o∈c.aQ,Q o
 fq:∀o∈c.dt,Q o
structure Sd (c:ax):Prop where
 pr:gW c.ae=true
 st:c.ae.ae.State=1
 pl:c.aQ.length=(cC c.ae.ae.aQ).length
 fl:c.dt.length=(dA c.ae.ae.aH).length
 pk:∀o∈c.aQ,o.aU=2
 fk:∀o∈c.dt,o.aU=4
theorem oR {Q:af→Prop} (c:ax) (hc:i9 Q c) (hQ:∀o,Q o→mh o):EC prog 179 [.agg c.c] [] fun r N=>N=[]∧∃b:Bool,(b=true→Sd c)∧r= .bool b:=by
 refine EC.bh ?_;refine nW ab (ca 179) func179 ntmps179 results179 ?_;have hp:=hQ _ hc.p;(repeat' (first|with_reducible (first|intro _|apply And.intro)|refine eK ab ?_|refine EC.use (cH _ hp.s hp.p) ?_|refine EC.use (dp _ hp.s.1.2.2.2.1) ?_|refine EC.use (ji _ hp.s.1.2.2.2.2) ?_|refine dN ab [] [] [0,1,2,4,5,3,6,7,8] bZ fun R hR=>?_|refine dR ab [6,7,8] ?_|refine dR ab [7,8] ?_|(refine hR _ _ ?_;refine sA ?_)|refine wA ab ?_|fail))<;>(first|(exact ⟨false,fun h=>(nomatch h),Lt.bool rfl⟩)|(show (_:Bool)=true;first|(simp_all;done)|grind)|skip);have hz1:=‹(!gW c.ae || c.ae.ae.State !=1)=false›;have hz2:c.aQ.length=(cC c.ae.ae.aQ).length∧c.dt.length=(dA c.ae.ae.aH).length:=by grind
 have hpl:=hc.pl;have hfl:=hc.fl;refine bV ab [1,3,4,5] 6 (cC c.ae.ae.aQ).length (fun i=>∀j,j < i→(c.aQ.getD j default).aU=2) (fun j hj=>absurd hj (not_lt_zero j)) (by omega) ?_;intro i hI hi hw;have hmem:i < c.aQ.length→mh (c.aQ.getD i default):=fun h=>hQ _ (hc.pq _ (bk h));simp only [hw,push_cast,simprocAttr];(repeat' (first|with_reducible (first|intro _|apply And.intro)|((refine EC.aM (kj _ (hmem (by omega))) ?_;rintro bv -))|refine dN ab [] [] [0,1,2,3,4,5,6,7,8,9,10,11,12,13,14,15,16] bZ fun R hR=>?_|refine dR ab [2,3,4,5,6,7,8,9,10,11,12,13,14,15,16] ?_|(refine hR _ _ ?_;refine sA ?_)|refine wA ab ?_|fail))<;>(first|(exact ⟨false,fun h=>(nomatch h),Lt.bool rfl⟩)|omega|(show (_:Bool)=true;first|(simp_all;done)|grind)|skip)
 ·(try simp only [hw]);have hz:=‹(!bv || _ || _)=false›;refine cO fun j hj=>?_;rcases lt_or_ge j i with h|h
  ·exact hI j h
  ·obtain rfl:j=i:=by omega
   simp only [Bool.or_eq_false_iff,bne_eq_false_iff_eq] at hz;exact hz.1.2
 have hpk:∀o∈c.aQ,o.aU=2:=fun o ho=>by
  obtain ⟨j,hj,rfl⟩:=List.mem_iff_getElem.1 ho;have hz:=‹decide ((i:Int) < _)=false›;have:=hI j (by simp at hz;omega);simpa [getD,hj] using this
 refine bV ab [1,3,5] 8 (dA c.ae.ae.aH).length (fun i=>∀j,j < i→(c.dt.getD j default).aU=4) (fun j hj=>absurd hj (not_lt_zero j)) (by omega) ?_;intro k hK hk hw2;have hmem2:k < c.dt.length→mh (c.dt.getD k default):=fun h=>hQ _ (hc.fq _ (bk h));simp only [hw2,push_cast,simprocAttr];(repeat' (first|with_reducible (first|intro _|apply And.intro)|((refine EC.aM (kj _ (hmem2 (by omega))) ?_;rintro bv -))|((refine EC.aM (xE _ _ hp.s.1.2.2.2.2) ?_;rintro bv2 -))|refine dN ab [] [] [0,1,2,3,4,5,6,7,8,9,10,11,12,13,14,15,16,17,18,19,20,21,22,23] bZ fun R hR=>?_|refine dR ab [2,3,4,5,6,7,8,9,10,11,12,13,14,15,16,17,18,19,20,21,22,23] ?_|refine dR ab [22,23] ?_|(refine hR _ _ ?_;refine sA ?_)|refine wA ab ?_|fail))<;>(first|(exact ⟨false,fun h=>(nomatch h),Lt.bool rfl⟩)|omega|(show (_:Bool)=true;first|(simp_all;done)|grind)|(show False;first|(simp_all;done)|grind)|skip)
 ·(try simp only [hw2]);have hz:=‹(!bv || _ || _ || _)=false›;refine cO fun j hj=>?_;rcases lt_or_ge j k with h|h
  ·exact hK j h
  ·obtain rfl:j=k:=by omega
   simp only [Bool.or_eq_false_iff,bne_eq_false_iff_eq] at hz;exact hz.1.1.2
 ·refine ⟨true,fun _=>⟨by grind,by grind,hz2.1,hz2.2,hpk,fun o ho=>?_⟩,Lt.bool rfl⟩;obtain ⟨j,hj,rfl⟩:=List.mem_iff_getElem.1 ho;have hz:=‹decide ((k:Int) < _)=false›;have:=hK j (by simp at hz;omega);simpa [getD,hj] using this
theorem qg (a b:List af) (ha:a.length≤1000000000) (hb:b.length≤1000000000) (hao:∀o∈a,mh o) (hbo:∀o∈b,mh o):EC prog 105 [bG 36 af.c default a,bG 36 af.c default b] [] fun r N=>N=[]∧∃c:Bool,(a=b→c=true)∧r= .bool c:=by
 refine EC.bh ?_;refine nW ab (ca 105) func105 ntmps105 results105 ?_;(repeat' (first|refine eK ab ?_|((refine EC.aM (qn ⟨a⟩ ⟨b⟩ ha hb hao hbo) ?_;rintro c hc))|fail))<;>((exact ⟨c,fun h=>hc (by rw [h]),Lt.bool rfl⟩))
theorem xF {Q:af→Prop} (a b:ax) (ha:i9 Q a) (hb:i9 Q b) (hQ:∀o,Q o→mh o):EC prog 62 [.agg a.c,.agg b.c] [] fun r N=>N=[]∧∃c:Bool,(a=b→c=true)∧r= .bool c:=by
 refine EC.bh ?_;refine nW ab (ca 62) func62 ntmps62 results62 ?_;have hsame:∀{B:List aI} (v:Bool),(a=b→v=true)→∃c:Bool,(a=b→c=true)∧Lt B (.bool v) (.bool c):=fun v h=>⟨v,h,Lt.bool rfl⟩;have hap:=ha.pl;have haf:=ha.fl;have hbp:=hb.pl;have hbf:=hb.fl;(repeat' (first|(with_reducible intro hh;first|subst hh|(revert hh;intro _))|with_reducible apply And.intro|refine eK ab ?_|(refine EC.aM (eW a.ae b.ae (hQ _ ha.p).s (hQ _ hb.p).s) ?_;rintro _ _)|(refine EC.aM (qg a.aQ b.aQ (by omega) (by omega) (fun o ho=>hQ _ (ha.pq o ho)) (fun o ho=>hQ _ (hb.pq o ho))) ?_;rintro _ _)|(refine EC.aM (qg a.dt b.dt (by omega) (by omega) (fun o ho=>hQ _ (ha.fq o ho)) (fun o ho=>hQ _ (hb.fq o ho))) ?_;rintro _ _)|fail))<;>((refine hsame _ fun h=>?_;subst h;simp_all;done))
end
end Go.Proofs.YteejbbfaphcgiaaGreat
