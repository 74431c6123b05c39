/- Part 2. -/
import Derived.Test.YteejbbfaphcgiaaGreatRows
import Derived.Test.YteejbbfaphcgiaaGreatV01
namespace Go.Proofs.YteejbbfaphcgiaaGreat
open Go.Lift _root_.Go.Proofs.Tryz
set_option linter.unusedSimpArgs false
set_option linter.unusedVariables false
abbrev pI (l:List SV) (k:Nat) (f:Int→List SV):Prop:=∀v,aJ l k [.int .i64 v]=f v
theorem cj {p:Prop} (h:p:=by repeat' first|exact rfl|(intro;exact rfl)|apply And.intro):p:=h
@[ext] structure bp where
 Op:Int
 A:Int
 B:Int
 C:Int
 deriving Inhabited,DecidableEq
def bp.c (x:bp):List SV:=[.int .i64 x.Op,.int .i64 x.A,.int .i64 x.B,.int .i64 x.C]
theorem bp.len (x:bp):x.c.length=4:=rfl
theorem bp.gR (x:bp):bt x.c=true:=rfl
theorem bp.t (x:bp):x.c.take 4=x.c:=rfl
theorem bp.g (x:bp) (d:SV):x.c.getD 0 d= .int .i64 x.Op∧x.c.getD 1 d= .int .i64 x.A∧x.c.getD 2 d= .int .i64 x.B∧x.c.getD 3 d= .int .i64 x.C:=cj
theorem bp.q (x v:bp):aJ x.c 0 v.c=v.c:=bb (by simp only [bp.len];decide) rfl
theorem bp.p (x:bp):pI x.c 0 (fun v=>bp.c {x with Op:=v})∧pI x.c 1 (fun v=>bp.c {x with A:=v})∧pI x.c 2 (fun v=>bp.c {x with B:=v})∧pI x.c 3 (fun v=>bp.c {x with C:=v}):=cj
theorem bp.fz (sel:Nat→Bool) (B:List aI) (x:bp):ew sel B x.c=x.c:=rfl
theorem bp.fk (sel:Nat→Bool) (B:List aI) (x:bp):bC sel B x.c=True:=by simp [bp.c,bC,cf]
theorem bp.kd (x:bp):kinds x.c=[1,1,1,1]:=rfl
theorem bp.e1 (x y:bp):(b9 x.c y.c).1=(x == y):=by
 apply Bool.eq_iff_iff.2;obtain ⟨a0,a1,a2,a3⟩:=x;obtain ⟨b0,b1,b2,b3⟩:=y;simp [bp.c,b9,e_]
theorem bp.e2 (x y:bp):(b9 x.c y.c).2=True:=by simp [bp.c,b9,e_]
@[ext] structure aP where
 Code:List bp
 Strings:List (List UInt8)
 aQ:Int
 deriving Inhabited,DecidableEq
def aP.c (x:aP):List SV:=[.sl false 4 x.Code.length (cA bp.c default x.Code),.sl false 1 x.Strings.length (cA jz default x.Strings),.int .i64 x.aQ]
theorem aP.eta (x:aP):(aP.mk x.Code x.Strings x.aQ)=x:=rfl
theorem aP.len (x:aP):x.c.length=3:=rfl
theorem aP.gR (x:aP):bt x.c=true:=rfl
theorem aP.t (x:aP):x.c.take 3=x.c:=rfl
theorem aP.g (x:aP) (d:SV):x.c.getD 0 d= .sl false 4 x.Code.length (cA bp.c default x.Code)∧x.c.getD 1 d= .sl false 1 x.Strings.length (cA jz default x.Strings)∧x.c.getD 2 d= .int .i64 x.aQ:=cj
theorem aP.q (x v:aP):aJ x.c 0 v.c=v.c:=bb (by simp only [aP.len];decide) rfl
theorem aP.p (x:aP):(∀v,aJ x.c 0 [.sl false 4 v.length (cA bp.c default v)]=aP.c {x with Code:=v})∧(∀v,aJ x.c 1 [.sl false 1 v.length (cA jz default v)]=aP.c {x with Strings:=v})∧pI x.c 2 (fun v=>aP.c {x with aQ:=v}):=cj
theorem aP.fz (sel:Nat→Bool) (B:List aI) (x:aP):ew sel B x.c=x.c:=rfl
theorem aP.fk (sel:Nat→Bool) (B:List aI) (x:aP):bC sel B x.c=True:=by simp [aP.c,bC,cf]
@[ext] structure ey where
 x0:Int
 x1:Int
 x2:Int
 x3:Int
 x4:Int
 x5:Int
 x6:Int
 x7:Int
 deriving Inhabited,DecidableEq
def ey.c (x:ey):List SV:=[.int .i64 x.x0,.int .i64 x.x1,.int .i64 x.x2,.int .i64 x.x3,.int .i64 x.x4,.int .i64 x.x5,.int .i64 x.x6,.int .i64 x.x7]
theorem ey.len (x:ey):x.c.length=8:=rfl
theorem ey.t (x:ey):x.c.take 8=x.c:=rfl
theorem ey.g (x:ey) (d:SV):x.c.getD 0 d= .int .i64 x.x0∧x.c.getD 1 d= .int .i64 x.x1∧x.c.getD 2 d= .int .i64 x.x2∧x.c.getD 3 d= .int .i64 x.x3∧x.c.getD 4 d= .int .i64 x.x4∧x.c.getD 5 d= .int .i64 x.x5∧x.c.getD 6 d= .int .i64 x.x6∧x.c.getD 7 d= .int .i64 x.x7:=cj
theorem ey.q (x v:ey):aJ x.c 0 v.c=v.c:=bb (by simp only [ey.len];decide) rfl
theorem ey.p (x:ey):pI x.c 0 (fun v=>ey.c {x with x0:=v})∧pI x.c 1 (fun v=>ey.c {x with x1:=v})∧pI x.c 2 (fun v=>ey.c {x with x2:=v})∧pI x.c 3 (fun v=>ey.c {x with x3:=v})∧pI x.c 4 (fun v=>ey.c {x with x4:=v})∧pI x.c 5 (fun v=>ey.c {x with x5:=v})∧pI x.c 6 (fun v=>ey.c {x with x6:=v})∧pI x.c 7 (fun v=>ey.c {x with x7:=v}):=cj
theorem ey.fk (sel:Nat→Bool) (B:List aI) (x:ey):bC sel B x.c=True:=by simp [ey.c,bC,cf]
@[ext] structure cb where
 PC:Int
 cu:ey
 deriving Inhabited,DecidableEq
def cb.c (x:cb):List SV:=[.int .i64 x.PC,.int .i64 x.cu.x0,.int .i64 x.cu.x1,.int .i64 x.cu.x2,.int .i64 x.cu.x3,.int .i64 x.cu.x4,.int .i64 x.cu.x5,.int .i64 x.cu.x6,.int .i64 x.cu.x7]
theorem cb.len (x:cb):x.c.length=9:=rfl
theorem cb.gR (x:cb):bt x.c=true:=rfl
theorem cb.t (x:cb):x.c.take 9=x.c:=rfl
theorem cb.g (x:cb) (d:SV):x.c.getD 0 d= .int .i64 x.PC∧x.c.getD 1 d= .int .i64 x.cu.x0∧x.c.getD 2 d= .int .i64 x.cu.x1∧x.c.getD 3 d= .int .i64 x.cu.x2∧x.c.getD 4 d= .int .i64 x.cu.x3∧x.c.getD 5 d= .int .i64 x.cu.x4∧x.c.getD 6 d= .int .i64 x.cu.x5∧x.c.getD 7 d= .int .i64 x.cu.x6∧x.c.getD 8 d= .int .i64 x.cu.x7:=cj
theorem cb.q (x v:cb):aJ x.c 0 v.c=v.c:=bb (by simp only [cb.len];decide) rfl
theorem cb.p (x:cb):pI x.c 0 (fun v=>cb.c {x with PC:=v})∧pI x.c 1 (fun v=>cb.c {x with cu:={x.cu with x0:=v}})∧pI x.c 2 (fun v=>cb.c {x with cu:={x.cu with x1:=v}})∧pI x.c 3 (fun v=>cb.c {x with cu:={x.cu with x2:=v}})∧pI x.c 4 (fun v=>cb.c {x with cu:={x.cu with x3:=v}})∧pI x.c 5 (fun v=>cb.c {x with cu:={x.cu with x4:=v}})∧pI x.c 6 (fun v=>cb.c {x with cu:={x.cu with x5:=v}})∧pI x.c 7 (fun v=>cb.c {x with cu:={x.cu with x6:=v}})∧pI x.c 8 (fun v=>cb.c {x with cu:={x.cu with x7:=v}}):=cj
theorem cb.fk (sel:Nat→Bool) (B:List aI) (x:cb):bC sel B x.c=True:=by simp [cb.c,bC,cf]
theorem cb.kd (x:cb):kinds x.c=[1,1,1,1,1,1,1,1,1]:=rfl
theorem cb.e1 (x y:cb):(b9 x.c y.c).1=(x == y):=by
 apply Bool.eq_iff_iff.2;rw [beq_iff_eq,cb.ext_iff];simp [cb.c,b9,e_,ey.ext_iff,and_assoc]
theorem cb.e2 (x y:cb):(b9 x.c y.c).2=True:=by simp [cb.c,b9,e_]
@[ext] structure ay where
 ID:Int
 eS:Bool
 deriving Inhabited,DecidableEq
def ay.c (x:ay):List SV:=[.int .u64 x.ID,.bool x.eS]
theorem ay.len (x:ay):x.c.length=2:=rfl
theorem ay.gR (x:ay):bt x.c=true:=rfl
theorem ay.t (x:ay):x.c.take 2=x.c:=rfl
theorem ay.g (x:ay) (d:SV):x.c.getD 0 d= .int .u64 x.ID∧x.c.getD 1 d= .bool x.eS:=cj
theorem ay.q (x v:ay):aJ x.c 0 v.c=v.c:=bb (by simp only [ay.len];decide) rfl
theorem ay.p (x:ay):(∀v,aJ x.c 0 [.int .u64 v]=ay.c {x with ID:=v})∧(∀v,aJ x.c 1 [.bool v]=ay.c {x with eS:=v}):=cj
theorem ay.fk (sel:Nat→Bool) (B:List aI) (x:ay):bC sel B x.c=True:=by simp [ay.c,bC,cf]
theorem ay.kd (x:ay):kinds x.c=[1,0]:=rfl
theorem ay.e1 (x y:ay):(b9 x.c y.c).1=(x == y):=by
 apply Bool.eq_iff_iff.2;obtain ⟨a0,a1⟩:=x;obtain ⟨b0,b1⟩:=y;simp [ay.c,b9,e_]
theorem ay.e2 (x y:ay):(b9 x.c y.c).2=True:=by simp [ay.c,b9,e_]
@[ext] structure aK where
 aU:Int
 bn:Int
 Target:Int
 End:Int
 deriving Inhabited,DecidableEq
def aK.c (x:aK):List SV:=[.int .i64 x.aU,.int .u64 x.bn,.int .u64 x.Target,.int .i64 x.End]
theorem aK.len (x:aK):x.c.length=4:=rfl
theorem aK.gR (x:aK):bt x.c=true:=rfl
theorem aK.t (x:aK):x.c.take 4=x.c:=rfl
theorem aK.g (x:aK) (d:SV):x.c.getD 0 d= .int .i64 x.aU∧x.c.getD 1 d= .int .u64 x.bn∧x.c.getD 2 d= .int .u64 x.Target∧x.c.getD 3 d= .int .i64 x.End:=cj
theorem aK.q (x v:aK):aJ x.c 0 v.c=v.c:=bb (by simp only [aK.len];decide) rfl
theorem aK.p (x:aK):pI x.c 0 (fun v=>aK.c {x with aU:=v})∧(∀v,aJ x.c 1 [.int .u64 v]=aK.c {x with bn:=v})∧(∀v,aJ x.c 2 [.int .u64 v]=aK.c {x with Target:=v})∧pI x.c 3 (fun v=>aK.c {x with End:=v}):=cj
theorem aK.fz (sel:Nat→Bool) (B:List aI) (x:aK):ew sel B x.c=x.c:=rfl
theorem aK.fk (sel:Nat→Bool) (B:List aI) (x:aK):bC sel B x.c=True:=by simp [aK.c,bC,cf]
theorem aK.kd (x:aK):kinds x.c=[1,1,1,1]:=rfl
theorem aK.e1 (x y:aK):(b9 x.c y.c).1=(x == y):=by
 apply Bool.eq_iff_iff.2;obtain ⟨a0,a1,a2,a3⟩:=x;obtain ⟨b0,b1,b2,b3⟩:=y;simp [aK.c,b9,e_]
theorem aK.e2 (x y:aK):(b9 x.c y.c).2=True:=by simp [aK.c,b9,e_]
@[ext] structure aC where
 State:Int
 dg:Int
 aZ:List Int
 Program:aP
 d9:cb
 aQ:List ay
 aH:List aK
 cy:Int
 eP:Int
 Status:Int
 deriving Inhabited,DecidableEq
def aC.c (x:aC):List SV:=[.int .i64 x.State,.int .u64 x.dg,.sl false 1 x.aZ.length (cA (aS .u64) default x.aZ)] ++ x.Program.c ++ x.d9.c ++ [.sl false 2 x.aQ.length (cA ay.c default x.aQ),.sl false 4 x.aH.length (cA aK.c default x.aH),.int .i64 x.cy,.int .i64 x.eP,.int .i64 x.Status]
theorem aC.eta (x:aC):(aC.mk x.State x.dg x.aZ x.Program x.d9 x.aQ x.aH x.cy x.eP x.Status)=x:=rfl
theorem aC.len (x:aC):x.c.length=20:=rfl
theorem aC.gR (x:aC):bt x.c=true:=rfl
theorem aC.t (x:aC):x.c.take 20=x.c:=rfl
theorem aC.g (x:aC) (d:SV):x.c.getD 0 d= .int .i64 x.State∧x.c.getD 1 d= .int .u64 x.dg∧x.c.getD 2 d= .sl false 1 x.aZ.length (cA (aS .u64) default x.aZ)∧x.c.getD 3 d= .sl false 4 x.Program.Code.length (cA bp.c default x.Program.Code)∧x.c.getD 4 d= .sl false 1 x.Program.Strings.length (cA jz default x.Program.Strings)∧x.c.getD 5 d= .int .i64 x.Program.aQ∧x.c.getD 6 d= .int .i64 x.d9.PC∧x.c.getD 7 d= .int .i64 x.d9.cu.x0∧x.c.getD 8 d= .int .i64 x.d9.cu.x1∧x.c.getD 9 d= .int .i64 x.d9.cu.x2∧x.c.getD 10 d= .int .i64 x.d9.cu.x3∧x.c.getD 11 d= .int .i64 x.d9.cu.x4∧x.c.getD 12 d= .int .i64 x.d9.cu.x5∧x.c.getD 13 d= .int .i64 x.d9.cu.x6∧x.c.getD 14 d= .int .i64 x.d9.cu.x7∧x.c.getD 15 d= .sl false 2 x.aQ.length (cA ay.c default x.aQ)∧x.c.getD 16 d= .sl false 4 x.aH.length (cA aK.c default x.aH)∧x.c.getD 17 d= .int .i64 x.cy∧x.c.getD 18 d= .int .i64 x.eP∧x.c.getD 19 d= .int .i64 x.Status:=cj
theorem aC.Q_ (x:aC):(x.c.drop 3).take 3=aP.c x.Program:=rfl
theorem aC.Qk (x:aC) (v:aP):aJ x.c 3 v.c=aC.c {x with Program:=v}:=bb (by simp only [aC.len,aP.len];decide) rfl
theorem aC.Q6 (x:aC):(x.c.drop 6).take 9=cb.c x.d9:=rfl
theorem aC.Qh (x:aC) (v:cb):aJ x.c 6 v.c=aC.c {x with d9:=v}:=bb (by simp only [aC.len,cb.len];decide) rfl
theorem aC.q (x v:aC):aJ x.c 0 v.c=v.c:=bb (by simp only [aC.len];decide) rfl
theorem aC.p (x:aC):pI x.c 0 (fun v=>aC.c {x with State:=v})∧(∀v,aJ x.c 1 [.int .u64 v]=aC.c {x with dg:=v})∧(∀v,aJ x.c 2 [.sl false 1 v.length (cA (aS .u64) default v)]=aC.c {x with aZ:=v})∧(∀v,aJ x.c 3 [.sl false 4 v.length (cA bp.c default v)]=aC.c {x with Program:={x.Program with Code:=v}})∧(∀v,aJ x.c 4 [.sl false 1 v.length (cA jz default v)]=aC.c {x with Program:={x.Program with Strings:=v}})∧pI x.c 5 (fun v=>aC.c {x with Program:={x.Program with aQ:=v}})∧pI x.c 6 (fun v=>aC.c {x with d9:={x.d9 with PC:=v}})∧pI x.c 7 (fun v=>aC.c {x with d9:={x.d9 with cu:={x.d9.cu with x0:=v}}})∧pI x.c 8 (fun v=>aC.c {x with d9:={x.d9 with cu:={x.d9.cu with x1:=v}}})∧pI x.c 9 (fun v=>aC.c {x with d9:={x.d9 with cu:={x.d9.cu with x2:=v}}})∧pI x.c 10 (fun v=>aC.c {x with d9:={x.d9 with cu:={x.d9.cu with x3:=v}}})∧pI x.c 11 (fun v=>aC.c {x with d9:={x.d9 with cu:={x.d9.cu with x4:=v}}})∧pI x.c 12 (fun v=>aC.c {x with d9:={x.d9 with cu:={x.d9.cu with x5:=v}}})∧pI x.c 13 (fun v=>aC.c {x with d9:={x.d9 with cu:={x.d9.cu with x6:=v}}})∧pI x.c 14 (fun v=>aC.c {x with d9:={x.d9 with cu:={x.d9.cu with x7:=v}}})∧(∀v,aJ x.c 15 [.sl false 2 v.length (cA ay.c default v)]=aC.c {x with aQ:=v})∧(∀v,aJ x.c 16 [.sl false 4 v.length (cA aK.c default v)]=aC.c {x with aH:=v})∧pI x.c 17 (fun v=>aC.c {x with cy:=v})∧pI x.c 18 (fun v=>aC.c {x with eP:=v})∧pI x.c 19 (fun v=>aC.c {x with Status:=v}):=cj
theorem aC.fz (sel:Nat→Bool) (B:List aI) (x:aC):ew sel B x.c=x.c:=rfl
theorem aC.fk (sel:Nat→Bool) (B:List aI) (x:aC):bC sel B x.c=True:=by simp [aC.c,bC,cf,aP.c,cb.c,ey.c]
@[ext] structure dO where
 x0:List Int
 x1:List Int
 deriving Inhabited,DecidableEq
def dO.c (x:dO):List SV:=[.sl false 1 x.x0.length (cA (aS .u8) default x.x0),.sl false 1 x.x1.length (cA (aS .u8) default x.x1)]
theorem dO.eta (x:dO):(dO.mk x.x0 x.x1)=x:=rfl
theorem dO.len (x:dO):x.c.length=2:=rfl
theorem dO.gR (x:dO):bt x.c=true:=rfl
theorem dO.t (x:dO):x.c.take 2=x.c:=rfl
theorem dO.g (x:dO) (d:SV):x.c.getD 0 d= .sl false 1 x.x0.length (cA (aS .u8) default x.x0)∧x.c.getD 1 d= .sl false 1 x.x1.length (cA (aS .u8) default x.x1):=cj
theorem dO.q (x v:dO):aJ x.c 0 v.c=v.c:=bb (by simp only [dO.len];decide) rfl
theorem dO.p (x:dO):(∀v,aJ x.c 0 [.sl false 1 v.length (cA (aS .u8) default v)]=dO.c {x with x0:=v})∧(∀v,aJ x.c 1 [.sl false 1 v.length (cA (aS .u8) default v)]=dO.c {x with x1:=v}):=cj
theorem dO.fk (sel:Nat→Bool) (B:List aI) (x:dO):bC sel B x.c=True:=by simp [dO.c,bC,cf]
@[ext] structure cV where
 x0:Int
 x1:Int
 deriving Inhabited,DecidableEq
def cV.c (x:cV):List SV:=[.int .i64 x.x0,.int .i64 x.x1]
theorem cV.len (x:cV):x.c.length=2:=rfl
theorem cV.gR (x:cV):bt x.c=true:=rfl
theorem cV.t (x:cV):x.c.take 2=x.c:=rfl
theorem cV.g (x:cV) (d:SV):x.c.getD 0 d= .int .i64 x.x0∧x.c.getD 1 d= .int .i64 x.x1:=cj
theorem cV.q (x v:cV):aJ x.c 0 v.c=v.c:=bb (by simp only [cV.len];decide) rfl
theorem cV.p (x:cV):pI x.c 0 (fun v=>cV.c {x with x0:=v})∧pI x.c 1 (fun v=>cV.c {x with x1:=v}):=cj
theorem cV.fk (sel:Nat→Bool) (B:List aI) (x:cV):bC sel B x.c=True:=by simp [cV.c,bC,cf]
theorem cV.kd (x:cV):kinds x.c=[1,1]:=rfl
theorem cV.e1 (x y:cV):(b9 x.c y.c).1=(x == y):=by
 apply Bool.eq_iff_iff.2;obtain ⟨a0,a1⟩:=x;obtain ⟨b0,b1⟩:=y;simp [cV.c,b9,e_]
theorem cV.e2 (x y:cV):(b9 x.c y.c).2=True:=by simp [cV.c,b9,e_]
@[ext] structure a8 where
 Path:List UInt8
 aU:Int
 kN:List Int
 deriving Inhabited,DecidableEq
def a8.c (x:a8):List SV:=[.str x.Path,.int .i64 x.aU,.sl false 1 x.kN.length (cA (aS .u64) default x.kN)]
theorem a8.eta (x:a8):(a8.mk x.Path x.aU x.kN)=x:=rfl
theorem a8.len (x:a8):x.c.length=3:=rfl
theorem a8.gR (x:a8):bt x.c=true:=rfl
theorem a8.t (x:a8):x.c.take 3=x.c:=rfl
theorem a8.g (x:a8) (d:SV):x.c.getD 0 d= .str x.Path∧x.c.getD 1 d= .int .i64 x.aU∧x.c.getD 2 d= .sl false 1 x.kN.length (cA (aS .u64) default x.kN):=cj
theorem a8.q (x v:a8):aJ x.c 0 v.c=v.c:=bb (by simp only [a8.len];decide) rfl
theorem a8.p (x:a8):(∀v,aJ x.c 0 [.str v]=a8.c {x with Path:=v})∧pI x.c 1 (fun v=>a8.c {x with aU:=v})∧(∀v,aJ x.c 2 [.sl false 1 v.length (cA (aS .u64) default v)]=a8.c {x with kN:=v}):=cj
theorem a8.p2 (x:a8) (v:List Int):aJ x.c 2 [.sl false 1 v.length (cA (aS .u64) default v)]=a8.c {x with kN:=v}:=rfl
theorem a8.fz (sel:Nat→Bool) (B:List aI) (x:a8):ew sel B x.c=x.c:=rfl
theorem a8.fk (sel:Nat→Bool) (B:List aI) (x:a8):bC sel B x.c=True:=by simp [a8.c,bC,cf]
@[ext] structure af where
 ID:Int
 aU:Int
 Refs:Int
 ae:aC
 fF:List Int
 Data:List Int
 Offset:Int
 Target:Int
 br:Int
 ef:Int
 bI:List Int
 bj:dO
 Ends:cV
 fG:Int
 cN:List a8
 deriving Inhabited,DecidableEq
def af.c (x:af):List SV:=[.int .u64 x.ID,.int .i64 x.aU,.int .i64 x.Refs,.int .i64 x.ae.State,.int .u64 x.ae.dg,.sl false 1 x.ae.aZ.length (cA (aS .u64) default x.ae.aZ),.sl false 4 x.ae.Program.Code.length (cA bp.c default x.ae.Program.Code),.sl false 1 x.ae.Program.Strings.length (cA jz default x.ae.Program.Strings),.int .i64 x.ae.Program.aQ,.int .i64 x.ae.d9.PC,.int .i64 x.ae.d9.cu.x0,.int .i64 x.ae.d9.cu.x1,.int .i64 x.ae.d9.cu.x2,.int .i64 x.ae.d9.cu.x3,.int .i64 x.ae.d9.cu.x4,.int .i64 x.ae.d9.cu.x5,.int .i64 x.ae.d9.cu.x6,.int .i64 x.ae.d9.cu.x7,.sl false 2 x.ae.aQ.length (cA ay.c default x.ae.aQ),.sl false 4 x.ae.aH.length (cA aK.c default x.ae.aH),.int .i64 x.ae.cy,.int .i64 x.ae.eP,.int .i64 x.ae.Status,.sl false 1 x.fF.length (cA (aS .i64) default x.fF),.sl false 1 x.Data.length (cA (aS .u8) default x.Data),.int .i64 x.Offset,.int .u64 x.Target,.int .i64 x.br,.int .i64 x.ef,.sl false 1 x.bI.length (cA (aS .u64) default x.bI),.sl false 1 x.bj.x0.length (cA (aS .u8) default x.bj.x0),.sl false 1 x.bj.x1.length (cA (aS .u8) default x.bj.x1),.int .i64 x.Ends.x0,.int .i64 x.Ends.x1,.int .i64 x.fG,.sl false 3 x.cN.length (cA a8.c default x.cN)]
theorem af.eta (x:af):(af.mk x.ID x.aU x.Refs x.ae x.fF x.Data x.Offset x.Target x.br x.ef x.bI x.bj x.Ends x.fG x.cN)=x:=rfl
theorem af.len (x:af):x.c.length=36:=rfl
theorem af.gR (x:af):bt x.c=true:=rfl
theorem af.t (x:af):x.c.take 36=x.c:=rfl
theorem af.g (x:af) (d:SV):x.c.getD 0 d= .int .u64 x.ID∧x.c.getD 1 d= .int .i64 x.aU∧x.c.getD 2 d= .int .i64 x.Refs∧x.c.getD 3 d= .int .i64 x.ae.State∧x.c.getD 4 d= .int .u64 x.ae.dg∧x.c.getD 5 d= .sl false 1 x.ae.aZ.length (cA (aS .u64) default x.ae.aZ)∧x.c.getD 6 d= .sl false 4 x.ae.Program.Code.length (cA bp.c default x.ae.Program.Code)∧x.c.getD 9 d= .int .i64 x.ae.d9.PC∧x.c.getD 10 d= .int .i64 x.ae.d9.cu.x0∧x.c.getD 11 d= .int .i64 x.ae.d9.cu.x1∧x.c.getD 12 d= .int .i64 x.ae.d9.cu.x2∧x.c.getD 13 d= .int .i64 x.ae.d9.cu.x3∧x.c.getD 14 d= .int .i64 x.ae.d9.cu.x4∧x.c.getD 15 d= .int .i64 x.ae.d9.cu.x5∧x.c.getD 16 d= .int .i64 x.ae.d9.cu.x6∧x.c.getD 17 d= .int .i64 x.ae.d9.cu.x7∧x.c.getD 18 d= .sl false 2 x.ae.aQ.length (cA ay.c default x.ae.aQ)∧x.c.getD 19 d= .sl false 4 x.ae.aH.length (cA aK.c default x.ae.aH)∧x.c.getD 20 d= .int .i64 x.ae.cy∧x.c.getD 21 d= .int .i64 x.ae.eP∧x.c.getD 22 d= .int .i64 x.ae.Status∧x.c.getD 23 d= .sl false 1 x.fF.length (cA (aS .i64) default x.fF)∧x.c.getD 24 d= .sl false 1 x.Data.length (cA (aS .u8) default x.Data)∧x.c.getD 25 d= .int .i64 x.Offset∧x.c.getD 26 d= .int .u64 x.Target∧x.c.getD 27 d= .int .i64 x.br∧x.c.getD 28 d= .int .i64 x.ef∧x.c.getD 29 d= .sl false 1 x.bI.length (cA (aS .u64) default x.bI)∧x.c.getD 30 d= .sl false 1 x.bj.x0.length (cA (aS .u8) default x.bj.x0)∧x.c.getD 31 d= .sl false 1 x.bj.x1.length (cA (aS .u8) default x.bj.x1)∧x.c.getD 32 d= .int .i64 x.Ends.x0∧x.c.getD 33 d= .int .i64 x.Ends.x1∧x.c.getD 34 d= .int .i64 x.fG∧x.c.getD 35 d= .sl false 3 x.cN.length (cA a8.c default x.cN):=cj
theorem af.Hc (x:af):(x.c.drop 3).take 20=aC.c x.ae:=rfl
theorem af.NR (x:af) (v:aC):aJ x.c 3 v.c=af.c {x with ae:=v}:=bb (by simp only [af.len,aC.len];decide) rfl
theorem af.Q7 (x:af):(x.c.drop 6).take 3=aP.c x.ae.Program:=rfl
theorem af.Qi (x:af) (v:aP):aJ x.c 6 v.c=af.c {x with ae:={x.ae with Program:=v}}:=bb (by simp only [af.len,aP.len];decide) rfl
theorem af.QZ (x:af):(x.c.drop 9).take 9=cb.c x.ae.d9:=rfl
theorem af.Qe (x:af) (v:cb):aJ x.c 9 v.c=af.c {x with ae:={x.ae with d9:=v}}:=bb (by simp only [af.len,cb.len];decide) rfl
theorem af.NT (x:af) (v:dO):aJ x.c 30 v.c=af.c {x with bj:=v}:=bb (by simp only [af.len,dO.len];decide) rfl
theorem af.ON (x:af):(x.c.drop 32).take 2=cV.c x.Ends:=rfl
theorem af.NS (x:af) (v:cV):aJ x.c 32 v.c=af.c {x with Ends:=v}:=bb (by simp only [af.len,cV.len];decide) rfl
theorem af.q (x v:af):aJ x.c 0 v.c=v.c:=bb (by simp only [af.len];decide) rfl
theorem af.p (x:af):(∀v,aJ x.c 0 [.int .u64 v]=af.c {x with ID:=v})∧pI x.c 1 (fun v=>af.c {x with aU:=v})∧pI x.c 2 (fun v=>af.c {x with Refs:=v})∧pI x.c 3 (fun v=>af.c {x with ae:={x.ae with State:=v}})∧(∀v,aJ x.c 4 [.int .u64 v]=af.c {x with ae:={x.ae with dg:=v}})∧(∀v,aJ x.c 5 [.sl false 1 v.length (cA (aS .u64) default v)]=af.c {x with ae:={x.ae with aZ:=v}})∧(∀v,aJ x.c 6 [.sl false 4 v.length (cA bp.c default v)]=af.c {x with ae:={x.ae with Program:={x.ae.Program with Code:=v}}})∧pI x.c 9 (fun v=>af.c {x with ae:={x.ae with d9:={x.ae.d9 with PC:=v}}})∧pI x.c 10 (fun v=>af.c {x with ae:={x.ae with d9:={x.ae.d9 with cu:={x.ae.d9.cu with x0:=v}}}})∧pI x.c 11 (fun v=>af.c {x with ae:={x.ae with d9:={x.ae.d9 with cu:={x.ae.d9.cu with x1:=v}}}})∧pI x.c 12 (fun v=>af.c {x with ae:={x.ae with d9:={x.ae.d9 with cu:={x.ae.d9.cu with x2:=v}}}})∧pI x.c 13 (fun v=>af.c {x with ae:={x.ae with d9:={x.ae.d9 with cu:={x.ae.d9.cu with x3:=v}}}})∧pI x.c 14 (fun v=>af.c {x with ae:={x.ae with d9:={x.ae.d9 with cu:={x.ae.d9.cu with x4:=v}}}})∧pI x.c 15 (fun v=>af.c {x with ae:={x.ae with d9:={x.ae.d9 with cu:={x.ae.d9.cu with x5:=v}}}})∧pI x.c 16 (fun v=>af.c {x with ae:={x.ae with d9:={x.ae.d9 with cu:={x.ae.d9.cu with x6:=v}}}})∧pI x.c 17 (fun v=>af.c {x with ae:={x.ae with d9:={x.ae.d9 with cu:={x.ae.d9.cu with x7:=v}}}})∧(∀v,aJ x.c 18 [.sl false 2 v.length (cA ay.c default v)]=af.c {x with ae:={x.ae with aQ:=v}})∧(∀v,aJ x.c 19 [.sl false 4 v.length (cA aK.c default v)]=af.c {x with ae:={x.ae with aH:=v}})∧pI x.c 20 (fun v=>af.c {x with ae:={x.ae with cy:=v}})∧pI x.c 21 (fun v=>af.c {x with ae:={x.ae with eP:=v}})∧(∀v,aJ x.c 23 [.sl false 1 v.length (cA (aS .i64) default v)]=af.c {x with fF:=v})∧(∀v,aJ x.c 24 [.sl false 1 v.length (cA (aS .u8) default v)]=af.c {x with Data:=v})∧pI x.c 25 (fun v=>af.c {x with Offset:=v})∧(∀v,aJ x.c 26 [.int .u64 v]=af.c {x with Target:=v})∧pI x.c 27 (fun v=>af.c {x with br:=v})∧pI x.c 28 (fun v=>af.c {x with ef:=v})∧(∀v,aJ x.c 29 [.sl false 1 v.length (cA (aS .u64) default v)]=af.c {x with bI:=v})∧(∀v,aJ x.c 30 [.sl false 1 v.length (cA (aS .u8) default v)]=af.c {x with bj:={x.bj with x0:=v}})∧(∀v,aJ x.c 31 [.sl false 1 v.length (cA (aS .u8) default v)]=af.c {x with bj:={x.bj with x1:=v}})∧pI x.c 32 (fun v=>af.c {x with Ends:={x.Ends with x0:=v}})∧pI x.c 33 (fun v=>af.c {x with Ends:={x.Ends with x1:=v}})∧pI x.c 34 (fun v=>af.c {x with fG:=v})∧(∀v,aJ x.c 35 [.sl false 3 v.length (cA a8.c default v)]=af.c {x with cN:=v}):=cj
theorem af.Qv (x:af) (v:List Int):aJ x.c 23 [.sl false 1 v.length (cA (aS .i64) default v)]=af.c {x with fF:=v}:=rfl
theorem af.R5 {x:af} {v:List Int} {cs:List SV} {s:SV} (h:eD cs x.c) (hs:bq s (.sl false 1 v.length (cA (aS .i64) default v))):eD (aJ cs 23 [s]) (af.c {x with fF:=v}):=eD.put h 23 hs rfl
theorem af.N1 (x:af) (v:List Int):aJ x.c 24 [.sl false 1 v.length (cA (aS .u8) default v)]=af.c {x with Data:=v}:=rfl
theorem af.Qu (x:af) (v:List Int):aJ x.c 29 [.sl false 1 v.length (cA (aS .u64) default v)]=af.c {x with bI:=v}:=rfl
theorem af.PE (x:af) (v:List Int):aJ x.c 30 [.sl false 1 v.length (cA (aS .u8) default v)]=af.c {x with bj:={x.bj with x0:=v}}:=rfl
theorem af.PD (x:af) (v:List Int):aJ x.c 31 [.sl false 1 v.length (cA (aS .u8) default v)]=af.c {x with bj:={x.bj with x1:=v}}:=rfl
theorem af.Rw {x:af} {v:List a8} {cs:List SV} {s:SV} (h:eD cs x.c) (hs:bq s (.sl false 3 v.length (cA a8.c default v))):eD (aJ cs 35 [s]) (af.c {x with cN:=v}):=eD.put h 35 hs rfl
theorem af.fz (sel:Nat→Bool) (B:List aI) (x:af):ew sel B x.c=x.c:=rfl
theorem af.fk (sel:Nat→Bool) (B:List aI) (x:af):bC sel B x.c=True:=by simp [af.c,bC,cf]
@[ext] structure aG where
 ah:List af
 deriving Inhabited,DecidableEq
def aG.c (x:aG):List SV:=[.sl false 36 x.ah.length (cA af.c default x.ah)]
theorem aG.eta (x:aG):(aG.mk x.ah)=x:=rfl
theorem aG.len (x:aG):x.c.length=1:=rfl
theorem aG.gR (x:aG):bt x.c=true:=rfl
theorem aG.t (x:aG):x.c.take 1=x.c:=rfl
theorem aG.g (x:aG) (d:SV):x.c.getD 0 d= .sl false 36 x.ah.length (cA af.c default x.ah):=cj
theorem aG.q (x v:aG):aJ x.c 0 v.c=v.c:=bb (by simp only [aG.len];decide) rfl
theorem aG.p (x:aG):(∀v,aJ x.c 0 [.sl false 36 v.length (cA af.c default v)]=aG.c {x with ah:=v}):=cj
theorem aG.p0 (x:aG) (v:List af):aJ x.c 0 [.sl false 36 v.length (cA af.c default v)]=aG.c {x with ah:=v}:=rfl
theorem aG.fz (sel:Nat→Bool) (B:List aI) (x:aG):ew sel B x.c=x.c:=rfl
theorem aG.fk (sel:Nat→Bool) (B:List aI) (x:aG):bC sel B x.c=True:=by simp [aG.c,bC,cf]
@[ext] structure b8 where
 ae:Int
 bW:Int
 deriving Inhabited,DecidableEq
def b8.c (x:b8):List SV:=[.int .u64 x.ae,.int .i64 x.bW]
theorem b8.len (x:b8):x.c.length=2:=rfl
theorem b8.gR (x:b8):bt x.c=true:=rfl
theorem b8.t (x:b8):x.c.take 2=x.c:=rfl
theorem b8.g (x:b8) (d:SV):x.c.getD 0 d= .int .u64 x.ae∧x.c.getD 1 d= .int .i64 x.bW:=cj
theorem b8.q (x v:b8):aJ x.c 0 v.c=v.c:=bb (by simp only [b8.len];decide) rfl
theorem b8.p (x:b8):(∀v,aJ x.c 0 [.int .u64 v]=b8.c {x with ae:=v})∧pI x.c 1 (fun v=>b8.c {x with bW:=v}):=cj
theorem b8.fk (sel:Nat→Bool) (B:List aI) (x:b8):bC sel B x.c=True:=by simp [b8.c,bC,cf]
theorem b8.kd (x:b8):kinds x.c=[1,1]:=rfl
theorem b8.e1 (x y:b8):(b9 x.c y.c).1=(x == y):=by
 apply Bool.eq_iff_iff.2;obtain ⟨a0,a1⟩:=x;obtain ⟨b0,b1⟩:=y;simp [b8.c,b9,e_]
theorem b8.e2 (x y:b8):(b9 x.c y.c).2=True:=by simp [b8.c,b9,e_]
@[ext] structure cn where
 bW:Int
 lU:Int
 deriving Inhabited,DecidableEq
def cn.c (x:cn):List SV:=[.int .i64 x.bW,.int .i64 x.lU]
theorem cn.len (x:cn):x.c.length=2:=rfl
theorem cn.gR (x:cn):bt x.c=true:=rfl
theorem cn.t (x:cn):x.c.take 2=x.c:=rfl
theorem cn.g (x:cn) (d:SV):x.c.getD 0 d= .int .i64 x.bW∧x.c.getD 1 d= .int .i64 x.lU:=cj
theorem cn.q (x v:cn):aJ x.c 0 v.c=v.c:=bb (by simp only [cn.len];decide) rfl
theorem cn.p (x:cn):pI x.c 0 (fun v=>cn.c {x with bW:=v})∧pI x.c 1 (fun v=>cn.c {x with lU:=v}):=cj
theorem cn.fk (sel:Nat→Bool) (B:List aI) (x:cn):bC sel B x.c=True:=by simp [cn.c,bC,cf]
theorem cn.kd (x:cn):kinds x.c=[1,1]:=rfl
theorem cn.e1 (x y:cn):(b9 x.c y.c).1=(x == y):=by
 apply Bool.eq_iff_iff.2;obtain ⟨a0,a1⟩:=x;obtain ⟨b0,b1⟩:=y;simp [cn.c,b9,e_]
theorem cn.e2 (x y:cn):(b9 x.c y.c).2=True:=by simp [cn.c,b9,e_]
@[ext] structure ax where
 ae:af
 aQ:List af
 dt:List af
 deriving Inhabited,DecidableEq
def ax.c (x:ax):List SV:=x.ae.c ++ [.sl false 36 x.aQ.length (cA af.c default x.aQ),.sl false 36 x.dt.length (cA af.c default x.dt)]
theorem ax.eta (x:ax):(ax.mk x.ae x.aQ x.dt)=x:=rfl
theorem ax.len (x:ax):x.c.length=38:=rfl
theorem ax.gR (x:ax):bt x.c=true:=rfl
theorem ax.t (x:ax):x.c.take 38=x.c:=rfl
theorem ax.g (x:ax) (d:SV):x.c.getD 0 d= .int .u64 x.ae.ID∧x.c.getD 3 d= .int .i64 x.ae.ae.State∧x.c.getD 9 d= .int .i64 x.ae.ae.d9.PC∧x.c.getD 18 d= .sl false 2 x.ae.ae.aQ.length (cA ay.c default x.ae.ae.aQ)∧x.c.getD 19 d= .sl false 4 x.ae.ae.aH.length (cA aK.c default x.ae.ae.aH)∧x.c.getD 20 d= .int .i64 x.ae.ae.cy∧x.c.getD 36 d= .sl false 36 x.aQ.length (cA af.c default x.aQ)∧x.c.getD 37 d= .sl false 36 x.dt.length (cA af.c default x.dt):=cj
theorem ax.OQ (x:ax):x.c.take 36=af.c x.ae:=rfl
theorem ax.N0 (x:ax) (v:af):aJ x.c 0 v.c=ax.c {x with ae:=v}:=bb (by simp only [ax.len,af.len];decide) rfl
theorem ax.Hc (x:ax):(x.c.drop 3).take 20=aC.c x.ae.ae:=rfl
theorem ax.q (x v:ax):aJ x.c 0 v.c=v.c:=bb (by simp only [ax.len];decide) rfl
theorem ax.p (x:ax):(∀v,aJ x.c 0 [.int .u64 v]=ax.c {x with ae:={x.ae with ID:=v}})∧pI x.c 3 (fun v=>ax.c {x with ae:={x.ae with ae:={x.ae.ae with State:=v}}})∧pI x.c 9 (fun v=>ax.c {x with ae:={x.ae with ae:={x.ae.ae with d9:={x.ae.ae.d9 with PC:=v}}}})∧pI x.c 20 (fun v=>ax.c {x with ae:={x.ae with ae:={x.ae.ae with cy:=v}}})∧(∀v,aJ x.c 36 [.sl false 36 v.length (cA af.c default v)]=ax.c {x with aQ:=v})∧(∀v,aJ x.c 37 [.sl false 36 v.length (cA af.c default v)]=ax.c {x with dt:=v}):=cj
theorem ax.fz (sel:Nat→Bool) (B:List aI) (x:ax):ew sel B x.c=x.c:=rfl
theorem ax.fk (sel:Nat→Bool) (B:List aI) (x:ax):bC sel B x.c=True:=by simp [ax.c,bC,cf,af.c,aC.c,aP.c,cb.c,ey.c,dO.c,cV.c]
@[ext] structure aO where
 ea:Int
 bL:List Int
 bz:aG
 cz:List b8
 b_:List cn
 cX:List ax
 deriving Inhabited,DecidableEq
def aO.c (x:aO):List SV:=[.int .i64 x.ea,.sl false 1 x.bL.length (cA (aS .i64) default x.bL)] ++ x.bz.c ++ [.sl false 2 x.cz.length (cA b8.c default x.cz),.sl false 2 x.b_.length (cA cn.c default x.b_),.sl false 38 x.cX.length (cA ax.c default x.cX)]
theorem aO.eta (x:aO):(aO.mk x.ea x.bL x.bz x.cz x.b_ x.cX)=x:=rfl
theorem aO.len (x:aO):x.c.length=6:=rfl
theorem aO.gR (x:aO):bt x.c=true:=rfl
theorem aO.t (x:aO):x.c.take 6=x.c:=rfl
theorem aO.g (x:aO) (d:SV):x.c.getD 0 d= .int .i64 x.ea∧x.c.getD 1 d= .sl false 1 x.bL.length (cA (aS .i64) default x.bL)∧x.c.getD 2 d= .sl false 36 x.bz.ah.length (cA af.c default x.bz.ah)∧x.c.getD 3 d= .sl false 2 x.cz.length (cA b8.c default x.cz)∧x.c.getD 4 d= .sl false 2 x.b_.length (cA cn.c default x.b_)∧x.c.getD 5 d= .sl false 38 x.cX.length (cA ax.c default x.cX):=cj
theorem aO.Lw (x:aO):(x.c.drop 2).take 1=aG.c x.bz:=rfl
theorem aO.Qm (x:aO) (v:aG):aJ x.c 2 v.c=aO.c {x with bz:=v}:=bb (by simp only [aO.len,aG.len];decide) rfl
theorem aO.q (x v:aO):aJ x.c 0 v.c=v.c:=bb (by simp only [aO.len];decide) rfl
theorem aO.p (x:aO):pI x.c 0 (fun v=>aO.c {x with ea:=v})∧(∀v,aJ x.c 1 [.sl false 1 v.length (cA (aS .i64) default v)]=aO.c {x with bL:=v})∧(∀v,aJ x.c 2 [.sl false 36 v.length (cA af.c default v)]=aO.c {x with bz:={x.bz with ah:=v}})∧(∀v,aJ x.c 3 [.sl false 2 v.length (cA b8.c default v)]=aO.c {x with cz:=v})∧(∀v,aJ x.c 4 [.sl false 2 v.length (cA cn.c default v)]=aO.c {x with b_:=v})∧(∀v,aJ x.c 5 [.sl false 38 v.length (cA ax.c default v)]=aO.c {x with cX:=v}):=cj
theorem aO.fz (sel:Nat→Bool) (B:List aI) (x:aO):ew sel B x.c=x.c:=rfl
theorem aO.fk (sel:Nat→Bool) (B:List aI) (x:aO):bC sel B x.c=True:=by simp [aO.c,bC,cf,aG.c]
@[ext] structure aA where
 nJ:Int
 To:Int
 aU:Int
 ID:Int
 gb:Int
 ba:af
 Number:Int
 Value:Int
 ae:Int
 ea:Int
 deriving Inhabited,DecidableEq
def aA.c (x:aA):List SV:=[.int .i64 x.nJ,.int .i64 x.To,.int .i64 x.aU,.int .u64 x.ID,.int .i64 x.gb] ++ x.ba.c ++ [.int .u64 x.Number,.int .i64 x.Value,.int .u64 x.ae,.int .i64 x.ea]
theorem aA.len (x:aA):x.c.length=45:=rfl
theorem aA.gR (x:aA):bt x.c=true:=rfl
theorem aA.t (x:aA):x.c.take 45=x.c:=rfl
theorem aA.g (x:aA) (d:SV):x.c.getD 0 d= .int .i64 x.nJ∧x.c.getD 1 d= .int .i64 x.To∧x.c.getD 2 d= .int .i64 x.aU∧x.c.getD 3 d= .int .u64 x.ID∧x.c.getD 4 d= .int .i64 x.gb∧x.c.getD 5 d= .int .u64 x.ba.ID∧x.c.getD 7 d= .int .i64 x.ba.Refs∧x.c.getD 14 d= .int .i64 x.ba.ae.d9.PC∧x.c.getD 39 d= .int .i64 x.ba.fG∧x.c.getD 41 d= .int .u64 x.Number∧x.c.getD 42 d= .int .i64 x.Value∧x.c.getD 43 d= .int .u64 x.ae∧x.c.getD 44 d= .int .i64 x.ea:=cj
theorem aA.OJ (x:aA):(x.c.drop 5).take 36=af.c x.ba:=rfl
theorem aA.NP (x:aA) (v:af):aJ x.c 5 v.c=aA.c {x with ba:=v}:=bb (by simp only [aA.len,af.len];decide) rfl
theorem aA.q (x v:aA):aJ x.c 0 v.c=v.c:=bb (by simp only [aA.len];decide) rfl
theorem aA.p (x:aA):pI x.c 0 (fun v=>aA.c {x with nJ:=v})∧pI x.c 1 (fun v=>aA.c {x with To:=v})∧pI x.c 2 (fun v=>aA.c {x with aU:=v})∧(∀v,aJ x.c 3 [.int .u64 v]=aA.c {x with ID:=v})∧pI x.c 4 (fun v=>aA.c {x with gb:=v})∧pI x.c 7 (fun v=>aA.c {x with ba:={x.ba with Refs:=v}})∧pI x.c 14 (fun v=>aA.c {x with ba:={x.ba with ae:={x.ba.ae with d9:={x.ba.ae.d9 with PC:=v}}}})∧pI x.c 39 (fun v=>aA.c {x with ba:={x.ba with fG:=v}})∧(∀v,aJ x.c 41 [.int .u64 v]=aA.c {x with Number:=v})∧pI x.c 42 (fun v=>aA.c {x with Value:=v})∧(∀v,aJ x.c 43 [.int .u64 v]=aA.c {x with ae:=v})∧pI x.c 44 (fun v=>aA.c {x with ea:=v}):=cj
theorem aA.fz (sel:Nat→Bool) (B:List aI) (x:aA):ew sel B x.c=x.c:=rfl
theorem aA.fk (sel:Nat→Bool) (B:List aI) (x:aA):bC sel B x.c=True:=by simp [aA.c,bC,cf,af.c,aC.c,aP.c,cb.c,ey.c,dO.c,cV.c]
@[ext] structure cr where
 nJ:Int
 To:Int
 Cut:Bool
 bA:List aA
 deriving Inhabited,DecidableEq
def cr.c (x:cr):List SV:=[.int .i64 x.nJ,.int .i64 x.To,.bool x.Cut,.sl false 45 x.bA.length (cA aA.c default x.bA)]
theorem cr.len (x:cr):x.c.length=4:=rfl
theorem cr.gR (x:cr):bt x.c=true:=rfl
theorem cr.t (x:cr):x.c.take 4=x.c:=rfl
theorem cr.g (x:cr) (d:SV):x.c.getD 0 d= .int .i64 x.nJ∧x.c.getD 1 d= .int .i64 x.To∧x.c.getD 2 d= .bool x.Cut∧x.c.getD 3 d= .sl false 45 x.bA.length (cA aA.c default x.bA):=cj
theorem cr.q (x v:cr):aJ x.c 0 v.c=v.c:=bb (by simp only [cr.len];decide) rfl
theorem cr.p (x:cr):pI x.c 0 (fun v=>cr.c {x with nJ:=v})∧pI x.c 1 (fun v=>cr.c {x with To:=v})∧(∀v,aJ x.c 2 [.bool v]=cr.c {x with Cut:=v})∧(∀v,aJ x.c 3 [.sl false 45 v.length (cA aA.c default v)]=cr.c {x with bA:=v}):=cj
theorem cr.fz (sel:Nat→Bool) (B:List aI) (x:cr):ew sel B x.c=x.c:=rfl
theorem cr.fk (sel:Nat→Bool) (B:List aI) (x:cr):bC sel B x.c=True:=by simp [cr.c,bC,cf]
@[ext] structure aR where
 bU:List cr
 deriving Inhabited,DecidableEq
def aR.c (x:aR):List SV:=[.sl false 4 x.bU.length (cA cr.c default x.bU)]
theorem aR.len (x:aR):x.c.length=1:=rfl
theorem aR.gR (x:aR):bt x.c=true:=rfl
theorem aR.t (x:aR):x.c.take 1=x.c:=rfl
theorem aR.g (x:aR) (d:SV):x.c.getD 0 d= .sl false 4 x.bU.length (cA cr.c default x.bU):=cj
theorem aR.q (x v:aR):aJ x.c 0 v.c=v.c:=bb (by simp only [aR.len];decide) rfl
theorem aR.p (x:aR):(∀v,aJ x.c 0 [.sl false 4 v.length (cA cr.c default v)]=aR.c {x with bU:=v}):=cj
theorem aR.fz (sel:Nat→Bool) (B:List aI) (x:aR):ew sel B x.c=x.c:=rfl
theorem aR.fk (sel:Nat→Bool) (B:List aI) (x:aR):bC sel B x.c=True:=by simp [aR.c,bC,cf]
@[ext] structure aL where
 bW:Int
 fR:Int
 bP:Int
 deriving Inhabited,DecidableEq
def aL.c (x:aL):List SV:=[.int .i64 x.bW,.int .i64 x.fR,.int .i64 x.bP]
theorem aL.len (x:aL):x.c.length=3:=rfl
theorem aL.gR (x:aL):bt x.c=true:=rfl
theorem aL.t (x:aL):x.c.take 3=x.c:=rfl
theorem aL.g (x:aL) (d:SV):x.c.getD 0 d= .int .i64 x.bW∧x.c.getD 1 d= .int .i64 x.fR∧x.c.getD 2 d= .int .i64 x.bP:=cj
theorem aL.q (x v:aL):aJ x.c 0 v.c=v.c:=bb (by simp only [aL.len];decide) rfl
theorem aL.p (x:aL):pI x.c 0 (fun v=>aL.c {x with bW:=v})∧pI x.c 1 (fun v=>aL.c {x with fR:=v})∧pI x.c 2 (fun v=>aL.c {x with bP:=v}):=cj
theorem aL.fk (sel:Nat→Bool) (B:List aI) (x:aL):bC sel B x.c=True:=by simp [aL.c,bC,cf]
@[ext] structure bw where
 ID:Int
 gb:Int
 ba:af
 Ea:Int
 Pinned:Bool
 mI:Bool
 deriving Inhabited,DecidableEq
def bw.c (x:bw):List SV:=[.int .u64 x.ID,.int .i64 x.gb] ++ x.ba.c ++ [.int .i64 x.Ea,.bool x.Pinned,.bool x.mI]
theorem bw.len (x:bw):x.c.length=41:=rfl
theorem bw.gR (x:bw):bt x.c=true:=rfl
theorem bw.t (x:bw):x.c.take 41=x.c:=rfl
theorem bw.g (x:bw) (d:SV):x.c.getD 0 d= .int .u64 x.ID∧x.c.getD 1 d= .int .i64 x.gb∧x.c.getD 2 d= .int .u64 x.ba.ID∧x.c.getD 4 d= .int .i64 x.ba.Refs∧x.c.getD 11 d= .int .i64 x.ba.ae.d9.PC∧x.c.getD 36 d= .int .i64 x.ba.fG∧x.c.getD 38 d= .int .i64 x.Ea∧x.c.getD 39 d= .bool x.Pinned∧x.c.getD 40 d= .bool x.mI:=cj
theorem bw.OO (x:bw):(x.c.drop 2).take 36=af.c x.ba:=rfl
theorem bw.NU (x:bw) (v:af):aJ x.c 2 v.c=bw.c {x with ba:=v}:=bb (by simp only [bw.len,af.len];decide) rfl
theorem bw.q (x v:bw):aJ x.c 0 v.c=v.c:=bb (by simp only [bw.len];decide) rfl
theorem bw.p (x:bw):(∀v,aJ x.c 0 [.int .u64 v]=bw.c {x with ID:=v})∧pI x.c 1 (fun v=>bw.c {x with gb:=v})∧pI x.c 4 (fun v=>bw.c {x with ba:={x.ba with Refs:=v}})∧pI x.c 11 (fun v=>bw.c {x with ba:={x.ba with ae:={x.ba.ae with d9:={x.ba.ae.d9 with PC:=v}}}})∧pI x.c 36 (fun v=>bw.c {x with ba:={x.ba with fG:=v}})∧pI x.c 38 (fun v=>bw.c {x with Ea:=v})∧(∀v,aJ x.c 39 [.bool v]=bw.c {x with Pinned:=v})∧(∀v,aJ x.c 40 [.bool v]=bw.c {x with mI:=v}):=cj
theorem bw.fz (sel:Nat→Bool) (B:List aI) (x:bw):ew sel B x.c=x.c:=rfl
theorem bw.fk (sel:Nat→Bool) (B:List aI) (x:bw):bC sel B x.c=True:=by simp [bw.c,bC,cf,af.c,aC.c,aP.c,cb.c,ey.c,dO.c,cV.c]
@[ext] structure a9 where
 bW:Int
 aD:List bw
 deriving Inhabited,DecidableEq
def a9.c (x:a9):List SV:=[.int .i64 x.bW,.sl false 41 x.aD.length (cA bw.c default x.aD)]
theorem a9.len (x:a9):x.c.length=2:=rfl
theorem a9.gR (x:a9):bt x.c=true:=rfl
theorem a9.t (x:a9):x.c.take 2=x.c:=rfl
theorem a9.g (x:a9) (d:SV):x.c.getD 0 d= .int .i64 x.bW∧x.c.getD 1 d= .sl false 41 x.aD.length (cA bw.c default x.aD):=cj
theorem a9.q (x v:a9):aJ x.c 0 v.c=v.c:=bb (by simp only [a9.len];decide) rfl
theorem a9.p (x:a9):pI x.c 0 (fun v=>a9.c {x with bW:=v})∧(∀v,aJ x.c 1 [.sl false 41 v.length (cA bw.c default v)]=a9.c {x with aD:=v}):=cj
theorem a9.fz (sel:Nat→Bool) (B:List aI) (x:a9):ew sel B x.c=x.c:=rfl
theorem a9.fk (sel:Nat→Bool) (B:List aI) (x:a9):bC sel B x.c=True:=by simp [a9.c,bC,cf]
@[ext] structure gK where
 bW:Int
 gb:Int
 deriving Inhabited,DecidableEq
def gK.c (x:gK):List SV:=[.int .i64 x.bW,.int .i64 x.gb]
theorem gK.len (x:gK):x.c.length=2:=rfl
theorem gK.gR (x:gK):bt x.c=true:=rfl
theorem gK.t (x:gK):x.c.take 2=x.c:=rfl
theorem gK.g (x:gK) (d:SV):x.c.getD 0 d= .int .i64 x.bW∧x.c.getD 1 d= .int .i64 x.gb:=cj
theorem gK.q (x v:gK):aJ x.c 0 v.c=v.c:=bb (by simp only [gK.len];decide) rfl
theorem gK.p (x:gK):pI x.c 0 (fun v=>gK.c {x with bW:=v})∧pI x.c 1 (fun v=>gK.c {x with gb:=v}):=cj
theorem gK.fk (sel:Nat→Bool) (B:List aI) (x:gK):bC sel B x.c=True:=by simp [gK.c,bC,cf]
@[ext] structure bg where
 ID:Int
 m8:Int
 br:List Int
 ba:af
 bX:List Int
 bA:List gK
 deriving Inhabited,DecidableEq
def bg.c (x:bg):List SV:=[.int .u64 x.ID,.int .i64 x.m8,.sl false 1 x.br.length (cA (aS .i64) default x.br)] ++ x.ba.c ++ [.sl false 1 x.bX.length (cA (aS .i64) default x.bX),.sl false 2 x.bA.length (cA gK.c default x.bA)]
theorem bg.len (x:bg):x.c.length=41:=rfl
theorem bg.gR (x:bg):bt x.c=true:=rfl
theorem bg.t (x:bg):x.c.take 41=x.c:=rfl
theorem bg.g (x:bg) (d:SV):x.c.getD 0 d= .int .u64 x.ID∧x.c.getD 1 d= .int .i64 x.m8∧x.c.getD 2 d= .sl false 1 x.br.length (cA (aS .i64) default x.br)∧x.c.getD 3 d= .int .u64 x.ba.ID∧x.c.getD 5 d= .int .i64 x.ba.Refs∧x.c.getD 12 d= .int .i64 x.ba.ae.d9.PC∧x.c.getD 37 d= .int .i64 x.ba.fG∧x.c.getD 39 d= .sl false 1 x.bX.length (cA (aS .i64) default x.bX)∧x.c.getD 40 d= .sl false 2 x.bA.length (cA gK.c default x.bA):=cj
theorem bg.OL (x:bg):(x.c.drop 3).take 36=af.c x.ba:=rfl
theorem bg.Ju (x:bg) (v:af):aJ x.c 3 v.c=bg.c {x with ba:=v}:=bb (by simp only [bg.len,af.len];decide) rfl
theorem bg.q (x v:bg):aJ x.c 0 v.c=v.c:=bb (by simp only [bg.len];decide) rfl
theorem bg.p (x:bg):(∀v,aJ x.c 0 [.int .u64 v]=bg.c {x with ID:=v})∧pI x.c 1 (fun v=>bg.c {x with m8:=v})∧(∀v,aJ x.c 2 [.sl false 1 v.length (cA (aS .i64) default v)]=bg.c {x with br:=v})∧pI x.c 5 (fun v=>bg.c {x with ba:={x.ba with Refs:=v}})∧pI x.c 12 (fun v=>bg.c {x with ba:={x.ba with ae:={x.ba.ae with d9:={x.ba.ae.d9 with PC:=v}}}})∧pI x.c 37 (fun v=>bg.c {x with ba:={x.ba with fG:=v}})∧(∀v,aJ x.c 39 [.sl false 1 v.length (cA (aS .i64) default v)]=bg.c {x with bX:=v})∧(∀v,aJ x.c 40 [.sl false 2 v.length (cA gK.c default v)]=bg.c {x with bA:=v}):=cj
theorem bg.fz (sel:Nat→Bool) (B:List aI) (x:bg):ew sel B x.c=x.c:=rfl
theorem bg.fk (sel:Nat→Bool) (B:List aI) (x:bg):bC sel B x.c=True:=by simp [bg.c,bC,cf,af.c,aC.c,aP.c,cb.c,ey.c,dO.c,cV.c]
@[ext] structure aW where
 bW:Int
 Entries:List bg
 deriving Inhabited,DecidableEq
def aW.c (x:aW):List SV:=[.int .i64 x.bW,.sl false 41 x.Entries.length (cA bg.c default x.Entries)]
theorem aW.len (x:aW):x.c.length=2:=rfl
theorem aW.gR (x:aW):bt x.c=true:=rfl
theorem aW.t (x:aW):x.c.take 2=x.c:=rfl
theorem aW.g (x:aW) (d:SV):x.c.getD 0 d= .int .i64 x.bW∧x.c.getD 1 d= .sl false 41 x.Entries.length (cA bg.c default x.Entries):=cj
theorem aW.q (x v:aW):aJ x.c 0 v.c=v.c:=bb (by simp only [aW.len];decide) rfl
theorem aW.p (x:aW):pI x.c 0 (fun v=>aW.c {x with bW:=v})∧(∀v,aJ x.c 1 [.sl false 41 v.length (cA bg.c default v)]=aW.c {x with Entries:=v}):=cj
theorem aW.fz (sel:Nat→Bool) (B:List aI) (x:aW):ew sel B x.c=x.c:=rfl
theorem aW.fk (sel:Nat→Bool) (B:List aI) (x:aW):bC sel B x.c=True:=by simp [aW.c,bC,cf]
@[ext] structure bB where
 ID:Int
 gb:Int
 deriving Inhabited,DecidableEq
def bB.c (x:bB):List SV:=[.int .u64 x.ID,.int .i64 x.gb]
theorem bB.len (x:bB):x.c.length=2:=rfl
theorem bB.gR (x:bB):bt x.c=true:=rfl
theorem bB.t (x:bB):x.c.take 2=x.c:=rfl
theorem bB.g (x:bB) (d:SV):x.c.getD 0 d= .int .u64 x.ID∧x.c.getD 1 d= .int .i64 x.gb:=cj
theorem bB.q (x v:bB):aJ x.c 0 v.c=v.c:=bb (by simp only [bB.len];decide) rfl
theorem bB.p (x:bB):(∀v,aJ x.c 0 [.int .u64 v]=bB.c {x with ID:=v})∧pI x.c 1 (fun v=>bB.c {x with gb:=v}):=cj
theorem bB.fk (sel:Nat→Bool) (B:List aI) (x:bB):bC sel B x.c=True:=by simp [bB.c,bC,cf]
theorem bB.kd (x:bB):kinds x.c=[1,1]:=rfl
theorem bB.e1 (x y:bB):(b9 x.c y.c).1=(x == y):=by
 apply Bool.eq_iff_iff.2;obtain ⟨a0,a1⟩:=x;obtain ⟨b0,b1⟩:=y;simp [bB.c,b9,e_]
theorem bB.e2 (x y:bB):(b9 x.c y.c).2=True:=by simp [bB.c,b9,e_]
@[ext] structure eg where
 ae:Int
 kU:List bB
 Pinned:Int
 Hn:Bool
 deriving Inhabited,DecidableEq
def eg.c (x:eg):List SV:=[.int .u64 x.ae,.sl false 2 x.kU.length (cA bB.c default x.kU),.int .i64 x.Pinned,.bool x.Hn]
theorem eg.len (x:eg):x.c.length=4:=rfl
theorem eg.gR (x:eg):bt x.c=true:=rfl
theorem eg.t (x:eg):x.c.take 4=x.c:=rfl
theorem eg.g (x:eg) (d:SV):x.c.getD 0 d= .int .u64 x.ae∧x.c.getD 1 d= .sl false 2 x.kU.length (cA bB.c default x.kU)∧x.c.getD 2 d= .int .i64 x.Pinned∧x.c.getD 3 d= .bool x.Hn:=cj
theorem eg.q (x v:eg):aJ x.c 0 v.c=v.c:=bb (by simp only [eg.len];decide) rfl
theorem eg.p (x:eg):(∀v,aJ x.c 0 [.int .u64 v]=eg.c {x with ae:=v})∧pI x.c 2 (fun v=>eg.c {x with Pinned:=v}):=cj
theorem eg.fk (sel:Nat→Bool) (B:List aI) (x:eg):bC sel B x.c=True:=by simp [eg.c,bC,cf]
@[ext] structure aj where
 fR:Int
 ea:Int
 bD:aL
 aD:a9
 dq:aW
 cT:List Int
 FG:Int
 Task:eg
 deriving Inhabited,DecidableEq
def aj.c (x:aj):List SV:=[.int .i64 x.fR,.int .i64 x.ea] ++ x.bD.c ++ x.aD.c ++ x.dq.c ++ [.sl false 1 x.cT.length (cA (aS .u64) default x.cT),.int .u64 x.FG] ++ x.Task.c
theorem aj.len (x:aj):x.c.length=15:=rfl
theorem aj.gR (x:aj):bt x.c=true:=rfl
theorem aj.t (x:aj):x.c.take 15=x.c:=rfl
theorem aj.g (x:aj) (d:SV):x.c.getD 0 d= .int .i64 x.fR∧x.c.getD 1 d= .int .i64 x.ea∧x.c.getD 3 d= .int .i64 x.bD.fR∧x.c.getD 5 d= .int .i64 x.aD.bW∧x.c.getD 6 d= .sl false 41 x.aD.aD.length (cA bw.c default x.aD.aD)∧x.c.getD 7 d= .int .i64 x.dq.bW∧x.c.getD 8 d= .sl false 41 x.dq.Entries.length (cA bg.c default x.dq.Entries)∧x.c.getD 9 d= .sl false 1 x.cT.length (cA (aS .u64) default x.cT)∧x.c.getD 10 d= .int .u64 x.FG∧x.c.getD 11 d= .int .u64 x.Task.ae∧x.c.getD 12 d= .sl false 2 x.Task.kU.length (cA bB.c default x.Task.kU)∧x.c.getD 13 d= .int .i64 x.Task.Pinned∧x.c.getD 14 d= .bool x.Task.Hn:=cj
theorem aj.Ra (x:aj):(x.c.drop 2).take 3=aL.c x.bD:=rfl
theorem aj.Ql (x:aj) (v:aL):aJ x.c 2 v.c=aj.c {x with bD:=v}:=bb (by simp only [aj.len,aL.len];decide) rfl
theorem aj.Q9 (x:aj):(x.c.drop 5).take 2=a9.c x.aD:=rfl
theorem aj.Qj (x:aj) (v:a9):aJ x.c 5 v.c=aj.c {x with aD:=v}:=bb (by simp only [aj.len,a9.len];decide) rfl
theorem aj.Q4 (x:aj):(x.c.drop 7).take 2=aW.c x.dq:=rfl
theorem aj.Qf (x:aj) (v:aW):aJ x.c 7 v.c=aj.c {x with dq:=v}:=bb (by simp only [aj.len,aW.len];decide) rfl
theorem aj.NY (x:aj) (v:eg):aJ x.c 11 v.c=aj.c {x with Task:=v}:=bb (by simp only [aj.len,eg.len];decide) rfl
theorem aj.q (x v:aj):aJ x.c 0 v.c=v.c:=bb (by simp only [aj.len];decide) rfl
theorem aj.p (x:aj):pI x.c 0 (fun v=>aj.c {x with fR:=v})∧pI x.c 1 (fun v=>aj.c {x with ea:=v})∧pI x.c 5 (fun v=>aj.c {x with aD:={x.aD with bW:=v}})∧(∀v,aJ x.c 6 [.sl false 41 v.length (cA bw.c default v)]=aj.c {x with aD:={x.aD with aD:=v}})∧pI x.c 7 (fun v=>aj.c {x with dq:={x.dq with bW:=v}})∧(∀v,aJ x.c 8 [.sl false 41 v.length (cA bg.c default v)]=aj.c {x with dq:={x.dq with Entries:=v}})∧(∀v,aJ x.c 9 [.sl false 1 v.length (cA (aS .u64) default v)]=aj.c {x with cT:=v})∧(∀v,aJ x.c 10 [.int .u64 v]=aj.c {x with FG:=v})∧(∀v,aJ x.c 11 [.int .u64 v]=aj.c {x with Task:={x.Task with ae:=v}})∧(∀v,aJ x.c 12 [.sl false 2 v.length (cA bB.c default v)]=aj.c {x with Task:={x.Task with kU:=v}})∧pI x.c 13 (fun v=>aj.c {x with Task:={x.Task with Pinned:=v}})∧(∀v,aJ x.c 14 [.bool v]=aj.c {x with Task:={x.Task with Hn:=v}}):=cj
theorem aj.fz (sel:Nat→Bool) (B:List aI) (x:aj):ew sel B x.c=x.c:=rfl
theorem aj.fk (sel:Nat→Bool) (B:List aI) (x:aj):bC sel B x.c=True:=by simp [aj.c,bC,cf,aL.c,a9.c,aW.c,eg.c]
@[ext] structure ao where
 aY:aO
 aq:List aj
 bQ:aR
 deriving Inhabited,DecidableEq
def ao.c (x:ao):List SV:=x.aY.c ++ [.sl false 15 x.aq.length (cA aj.c default x.aq)] ++ x.bQ.c
theorem ao.len (x:ao):x.c.length=8:=rfl
theorem ao.gR (x:ao):bt x.c=true:=rfl
theorem ao.t (x:ao):x.c.take 8=x.c:=rfl
theorem ao.g (x:ao) (d:SV):x.c.getD 0 d= .int .i64 x.aY.ea∧x.c.getD 1 d= .sl false 1 x.aY.bL.length (cA (aS .i64) default x.aY.bL)∧x.c.getD 2 d= .sl false 36 x.aY.bz.ah.length (cA af.c default x.aY.bz.ah)∧x.c.getD 3 d= .sl false 2 x.aY.cz.length (cA b8.c default x.aY.cz)∧x.c.getD 5 d= .sl false 38 x.aY.cX.length (cA ax.c default x.aY.cX)∧x.c.getD 6 d= .sl false 15 x.aq.length (cA aj.c default x.aq)∧x.c.getD 7 d= .sl false 4 x.bQ.bU.length (cA cr.c default x.bQ.bU):=cj
theorem ao.Rb (x:ao):x.c.take 6=aO.c x.aY:=rfl
theorem ao.Qn (x:ao) (v:aO):aJ x.c 0 v.c=ao.c {x with aY:=v}:=bb (by simp only [ao.len,aO.len];decide) rfl
theorem ao.Lw (x:ao):(x.c.drop 2).take 1=aG.c x.aY.bz:=rfl
theorem ao.Q5 (x:ao):(x.c.drop 7).take 1=aR.c x.bQ:=rfl
theorem ao.Qg (x:ao) (v:aR):aJ x.c 7 v.c=ao.c {x with bQ:=v}:=bb (by simp only [ao.len,aR.len];decide) rfl
theorem ao.q (x v:ao):aJ x.c 0 v.c=v.c:=bb (by simp only [ao.len];decide) rfl
theorem ao.p (x:ao):pI x.c 0 (fun v=>ao.c {x with aY:={x.aY with ea:=v}})∧(∀v,aJ x.c 2 [.sl false 36 v.length (cA af.c default v)]=ao.c {x with aY:={x.aY with bz:={x.aY.bz with ah:=v}}})∧(∀v,aJ x.c 3 [.sl false 2 v.length (cA b8.c default v)]=ao.c {x with aY:={x.aY with cz:=v}})∧(∀v,aJ x.c 6 [.sl false 15 v.length (cA aj.c default v)]=ao.c {x with aq:=v}):=cj
theorem ao.fz (sel:Nat→Bool) (B:List aI) (x:ao):ew sel B x.c=x.c:=rfl
theorem ao.fk (sel:Nat→Bool) (B:List aI) (x:ao):bC sel B x.c=True:=by simp [ao.c,bC,cf,aO.c,aG.c,aR.c]
@[ext] structure aB where
 aU:Int
 ae:Int
 bW:Int
 N:Int
 kN:List Int
 Program:aP
 Code:Int
 cX:ax
 deriving Inhabited,DecidableEq
def aB.c (x:aB):List SV:=[.int .i64 x.aU,.int .u64 x.ae,.int .i64 x.bW,.int .i64 x.N,.sl false 1 x.kN.length (cA (aS .u64) default x.kN)] ++ x.Program.c ++ [.int .i64 x.Code] ++ x.cX.c
theorem aB.len (x:aB):x.c.length=47:=rfl
theorem aB.gR (x:aB):bt x.c=true:=rfl
theorem aB.t (x:aB):x.c.take 47=x.c:=rfl
theorem aB.g (x:aB) (d:SV):x.c.getD 0 d= .int .i64 x.aU∧x.c.getD 1 d= .int .u64 x.ae∧x.c.getD 2 d= .int .i64 x.bW∧x.c.getD 3 d= .int .i64 x.N∧x.c.getD 4 d= .sl false 1 x.kN.length (cA (aS .u64) default x.kN)∧x.c.getD 5 d= .sl false 4 x.Program.Code.length (cA bp.c default x.Program.Code)∧x.c.getD 6 d= .sl false 1 x.Program.Strings.length (cA jz default x.Program.Strings)∧x.c.getD 7 d= .int .i64 x.Program.aQ∧x.c.getD 8 d= .int .i64 x.Code∧x.c.getD 45 d= .sl false 36 x.cX.aQ.length (cA af.c default x.cX.aQ)∧x.c.getD 46 d= .sl false 36 x.cX.dt.length (cA af.c default x.cX.dt):=cj
theorem aB.Gw (x:aB) (v:aP):aJ x.c 5 v.c=aB.c {x with Program:=v}:=bb (by simp only [aB.len,aP.len];decide) rfl
theorem aB.NO (x:aB) (v:ax):aJ x.c 9 v.c=aB.c {x with cX:=v}:=bb (by simp only [aB.len,ax.len];decide) rfl
theorem aB.q (x v:aB):aJ x.c 0 v.c=v.c:=bb (by simp only [aB.len];decide) rfl
theorem aB.p (x:aB):pI x.c 0 (fun v=>aB.c {x with aU:=v})∧(∀v,aJ x.c 1 [.int .u64 v]=aB.c {x with ae:=v})∧pI x.c 2 (fun v=>aB.c {x with bW:=v})∧pI x.c 3 (fun v=>aB.c {x with N:=v})∧(∀v,aJ x.c 4 [.sl false 1 v.length (cA (aS .u64) default v)]=aB.c {x with kN:=v})∧(∀v,aJ x.c 5 [.sl false 4 v.length (cA bp.c default v)]=aB.c {x with Program:={x.Program with Code:=v}})∧(∀v,aJ x.c 6 [.sl false 1 v.length (cA jz default v)]=aB.c {x with Program:={x.Program with Strings:=v}})∧pI x.c 7 (fun v=>aB.c {x with Program:={x.Program with aQ:=v}})∧pI x.c 8 (fun v=>aB.c {x with Code:=v}):=cj
theorem aB.fz (sel:Nat→Bool) (B:List aI) (x:aB):ew sel B x.c=x.c:=rfl
theorem aB.fk (sel:Nat→Bool) (B:List aI) (x:aB):bC sel B x.c=True:=by simp [aB.c,bC,cf,aP.c,ax.c,af.c,aC.c,cb.c,ey.c,dO.c,cV.c]
@[ext] structure c9 where
 iV:List aB
 ld:ao
 deriving Inhabited,DecidableEq
def c9.c (x:c9):List SV:=[.sl false 47 x.iV.length (cA aB.c default x.iV)] ++ x.ld.c
theorem c9.len (x:c9):x.c.length=9:=rfl
theorem c9.gR (x:c9):bt x.c=true:=rfl
theorem c9.t (x:c9):x.c.take 9=x.c:=rfl
theorem c9.g (x:c9) (d:SV):x.c.getD 0 d= .sl false 47 x.iV.length (cA aB.c default x.iV)∧x.c.getD 4 d= .sl false 2 x.ld.aY.cz.length (cA b8.c default x.ld.aY.cz)∧x.c.getD 8 d= .sl false 4 x.ld.bQ.bU.length (cA cr.c default x.ld.bQ.bU):=cj
theorem c9.q (x v:c9):aJ x.c 0 v.c=v.c:=bb (by simp only [c9.len];decide) rfl
theorem c9.p (x:c9):(∀v,aJ x.c 0 [.sl false 47 v.length (cA aB.c default v)]=c9.c {x with iV:=v})∧(∀v,aJ x.c 8 [.sl false 4 v.length (cA cr.c default v)]=c9.c {x with ld:={x.ld with bQ:={x.ld.bQ with bU:=v}}}):=cj
theorem c9.fk (sel:Nat→Bool) (B:List aI) (x:c9):bC sel B x.c=True:=by simp [c9.c,bC,cf,ao.c,aO.c,aG.c,aR.c]
@[ext] structure cm where
 Steps:Int
 dF:Int
 DZ:Int
 rU:Int
 D3:Int
 uO:Int
 deriving Inhabited,DecidableEq
def cm.c (x:cm):List SV:=[.int .i64 x.Steps,.int .i64 x.dF,.int .i64 x.DZ,.int .i64 x.rU,.int .i64 x.D3,.int .i64 x.uO]
theorem cm.len (x:cm):x.c.length=6:=rfl
theorem cm.gR (x:cm):bt x.c=true:=rfl
theorem cm.t (x:cm):x.c.take 6=x.c:=rfl
theorem cm.g (x:cm) (d:SV):x.c.getD 0 d= .int .i64 x.Steps∧x.c.getD 1 d= .int .i64 x.dF∧x.c.getD 2 d= .int .i64 x.DZ∧x.c.getD 3 d= .int .i64 x.rU∧x.c.getD 4 d= .int .i64 x.D3∧x.c.getD 5 d= .int .i64 x.uO:=cj
theorem cm.q (x v:cm):aJ x.c 0 v.c=v.c:=bb (by simp only [cm.len];decide) rfl
theorem cm.p (x:cm):pI x.c 0 (fun v=>cm.c {x with Steps:=v})∧pI x.c 1 (fun v=>cm.c {x with dF:=v})∧pI x.c 2 (fun v=>cm.c {x with DZ:=v})∧pI x.c 3 (fun v=>cm.c {x with rU:=v})∧pI x.c 4 (fun v=>cm.c {x with D3:=v})∧pI x.c 5 (fun v=>cm.c {x with uO:=v}):=cj
theorem cm.fk (sel:Nat→Bool) (B:List aI) (x:cm):bC sel B x.c=True:=by simp [cm.c,bC,cf]
theorem cm.kd (x:cm):kinds x.c=[1,1,1,1,1,1]:=rfl
theorem cm.e1 (x y:cm):(b9 x.c y.c).1=(x == y):=by
 apply Bool.eq_iff_iff.2;obtain ⟨a0,a1,a2,a3,a4,a5⟩:=x;obtain ⟨b0,b1,b2,b3,b4,b5⟩:=y;simp [cm.c,b9,e_]
theorem cm.e2 (x y:cm):(b9 x.c y.c).2=True:=by simp [cm.c,b9,e_]
@[ext] structure bO where
 aU:Int
 bW:Int
 To:Int
 ae:Int
 N:Int
 Program:aP
 bL:List Int
 deriving Inhabited,DecidableEq
def bO.c (x:bO):List SV:=[.int .i64 x.aU,.int .i64 x.bW,.int .i64 x.To,.int .u64 x.ae,.int .i64 x.N] ++ x.Program.c ++ [.sl false 1 x.bL.length (cA (aS .i64) default x.bL)]
theorem bO.len (x:bO):x.c.length=9:=rfl
theorem bO.gR (x:bO):bt x.c=true:=rfl
theorem bO.t (x:bO):x.c.take 9=x.c:=rfl
theorem bO.g (x:bO) (d:SV):x.c.getD 0 d= .int .i64 x.aU∧x.c.getD 1 d= .int .i64 x.bW∧x.c.getD 2 d= .int .i64 x.To∧x.c.getD 3 d= .int .u64 x.ae∧x.c.getD 4 d= .int .i64 x.N∧x.c.getD 5 d= .sl false 4 x.Program.Code.length (cA bp.c default x.Program.Code)∧x.c.getD 6 d= .sl false 1 x.Program.Strings.length (cA jz default x.Program.Strings)∧x.c.getD 7 d= .int .i64 x.Program.aQ∧x.c.getD 8 d= .sl false 1 x.bL.length (cA (aS .i64) default x.bL):=cj
theorem bO.Q8 (x:bO):(x.c.drop 5).take 3=aP.c x.Program:=rfl
theorem bO.Gw (x:bO) (v:aP):aJ x.c 5 v.c=bO.c {x with Program:=v}:=bb (by simp only [bO.len,aP.len];decide) rfl
theorem bO.q (x v:bO):aJ x.c 0 v.c=v.c:=bb (by simp only [bO.len];decide) rfl
theorem bO.p (x:bO):pI x.c 0 (fun v=>bO.c {x with aU:=v})∧pI x.c 1 (fun v=>bO.c {x with bW:=v})∧pI x.c 2 (fun v=>bO.c {x with To:=v})∧(∀v,aJ x.c 3 [.int .u64 v]=bO.c {x with ae:=v})∧pI x.c 4 (fun v=>bO.c {x with N:=v})∧(∀v,aJ x.c 5 [.sl false 4 v.length (cA bp.c default v)]=bO.c {x with Program:={x.Program with Code:=v}})∧(∀v,aJ x.c 6 [.sl false 1 v.length (cA jz default v)]=bO.c {x with Program:={x.Program with Strings:=v}})∧pI x.c 7 (fun v=>bO.c {x with Program:={x.Program with aQ:=v}})∧(∀v,aJ x.c 8 [.sl false 1 v.length (cA (aS .i64) default v)]=bO.c {x with bL:=v}):=cj
theorem bO.fz (sel:Nat→Bool) (B:List aI) (x:bO):ew sel B x.c=x.c:=rfl
theorem bO.fk (sel:Nat→Bool) (B:List aI) (x:bO):bC sel B x.c=True:=by simp [bO.c,bC,cf,aP.c]
@[ext] structure fe where
 L:List Int
 At:Int
 deriving Inhabited,DecidableEq
def fe.c (x:fe):List SV:=[.sl false 1 x.L.length (cA (aS .i64) default x.L),.int .i64 x.At]
theorem fe.len (x:fe):x.c.length=2:=rfl
theorem fe.gR (x:fe):bt x.c=true:=rfl
theorem fe.t (x:fe):x.c.take 2=x.c:=rfl
theorem fe.g (x:fe) (d:SV):x.c.getD 0 d= .sl false 1 x.L.length (cA (aS .i64) default x.L)∧x.c.getD 1 d= .int .i64 x.At:=cj
theorem fe.q (x v:fe):aJ x.c 0 v.c=v.c:=bb (by simp only [fe.len];decide) rfl
theorem fe.p (x:fe):(∀v,aJ x.c 0 [.sl false 1 v.length (cA (aS .i64) default v)]=fe.c {x with L:=v})∧pI x.c 1 (fun v=>fe.c {x with At:=v}):=cj
theorem fe.fk (sel:Nat→Bool) (B:List aI) (x:fe):bC sel B x.c=True:=by simp [fe.c,bC,cf]
@[ext] structure bY where
 dF:Bool
 Used:Int
 zc:Bool
 deriving Inhabited,DecidableEq
def bY.c (x:bY):List SV:=[.bool x.dF,.int .i64 x.Used,.bool x.zc]
theorem bY.len (x:bY):x.c.length=3:=rfl
theorem bY.gR (x:bY):bt x.c=true:=rfl
theorem bY.t (x:bY):x.c.take 3=x.c:=rfl
theorem bY.g (x:bY) (d:SV):x.c.getD 0 d= .bool x.dF∧x.c.getD 1 d= .int .i64 x.Used∧x.c.getD 2 d= .bool x.zc:=cj
theorem bY.q (x v:bY):aJ x.c 0 v.c=v.c:=bb (by simp only [bY.len];decide) rfl
theorem bY.p (x:bY):(∀v,aJ x.c 0 [.bool v]=bY.c {x with dF:=v})∧pI x.c 1 (fun v=>bY.c {x with Used:=v})∧(∀v,aJ x.c 2 [.bool v]=bY.c {x with zc:=v}):=cj
theorem bY.fk (sel:Nat→Bool) (B:List aI) (x:bY):bC sel B x.c=True:=by simp [bY.c,bC,cf]
@[ext] structure fM where
 x0:Int
 x1:Int
 x2:Int
 deriving Inhabited,DecidableEq
def fM.c (x:fM):List SV:=[.int .i64 x.x0,.int .i64 x.x1,.int .i64 x.x2]
theorem fM.len (x:fM):x.c.length=3:=rfl
theorem fM.gR (x:fM):bt x.c=true:=rfl
theorem fM.t (x:fM):x.c.take 3=x.c:=rfl
theorem fM.g (x:fM) (d:SV):x.c.getD 0 d= .int .i64 x.x0∧x.c.getD 1 d= .int .i64 x.x1∧x.c.getD 2 d= .int .i64 x.x2:=cj
theorem fM.q (x v:fM):aJ x.c 0 v.c=v.c:=bb (by simp only [fM.len];decide) rfl
theorem fM.p (x:fM):pI x.c 0 (fun v=>fM.c {x with x0:=v})∧pI x.c 1 (fun v=>fM.c {x with x1:=v})∧pI x.c 2 (fun v=>fM.c {x with x2:=v}):=cj
theorem fM.fk (sel:Nat→Bool) (B:List aI) (x:fM):bC sel B x.c=True:=by simp [fM.c,bC,cf]
@[ext] structure a_ where
 aU:Int
 iN:Int
 O':Int
 Value:Int
 Number:Int
 eT:fM
 deriving Inhabited,DecidableEq
def a_.c (x:a_):List SV:=[.int .i64 x.aU,.int .i64 x.iN,.int .i64 x.O',.int .i64 x.Value,.int .i64 x.Number,.int .i64 x.eT.x0,.int .i64 x.eT.x1,.int .i64 x.eT.x2]
theorem a_.len (x:a_):x.c.length=8:=rfl
theorem a_.gR (x:a_):bt x.c=true:=rfl
theorem a_.t (x:a_):x.c.take 8=x.c:=rfl
theorem a_.g (x:a_) (d:SV):x.c.getD 0 d= .int .i64 x.aU∧x.c.getD 1 d= .int .i64 x.iN∧x.c.getD 2 d= .int .i64 x.O'∧x.c.getD 3 d= .int .i64 x.Value∧x.c.getD 4 d= .int .i64 x.Number∧x.c.getD 5 d= .int .i64 x.eT.x0∧x.c.getD 6 d= .int .i64 x.eT.x1∧x.c.getD 7 d= .int .i64 x.eT.x2:=cj
theorem a_.Gw (x:a_) (v:fM):aJ x.c 5 v.c=a_.c {x with eT:=v}:=bb (by simp only [a_.len,fM.len];decide) rfl
theorem a_.q (x v:a_):aJ x.c 0 v.c=v.c:=bb (by simp only [a_.len];decide) rfl
theorem a_.p (x:a_):pI x.c 0 (fun v=>a_.c {x with aU:=v})∧pI x.c 1 (fun v=>a_.c {x with iN:=v})∧pI x.c 2 (fun v=>a_.c {x with O':=v})∧pI x.c 3 (fun v=>a_.c {x with Value:=v})∧pI x.c 4 (fun v=>a_.c {x with Number:=v})∧pI x.c 5 (fun v=>a_.c {x with eT:={x.eT with x0:=v}})∧pI x.c 6 (fun v=>a_.c {x with eT:={x.eT with x1:=v}})∧pI x.c 7 (fun v=>a_.c {x with eT:={x.eT with x2:=v}}):=cj
theorem a_.fk (sel:Nat→Bool) (B:List aI) (x:a_):bC sel B x.c=True:=by simp [a_.c,bC,cf]
@[ext] structure aF where
 s:aG
 o:af
 fresh:List Int
 out:bY
 deriving Inhabited,DecidableEq
def aF.c (x:aF):List SV:=x.s.c ++ x.o.c ++ [.sl false 1 x.fresh.length (cA (aS .u64) default x.fresh)] ++ x.out.c
theorem aF.len (x:aF):x.c.length=41:=rfl
theorem aF.gR (x:aF):bt x.c=true:=rfl
theorem aF.t (x:aF):x.c.take 41=x.c:=rfl
theorem aF.g (x:aF) (d:SV):x.c.getD 1 d= .int .u64 x.o.ID∧x.c.getD 5 d= .int .u64 x.o.ae.dg∧x.c.getD 6 d= .sl false 1 x.o.ae.aZ.length (cA (aS .u64) default x.o.ae.aZ)∧x.c.getD 8 d= .sl false 1 x.o.ae.Program.Strings.length (cA jz default x.o.ae.Program.Strings)∧x.c.getD 19 d= .sl false 2 x.o.ae.aQ.length (cA ay.c default x.o.ae.aQ)∧x.c.getD 20 d= .sl false 4 x.o.ae.aH.length (cA aK.c default x.o.ae.aH)∧x.c.getD 37 d= .sl false 1 x.fresh.length (cA (aS .u64) default x.fresh)∧x.c.getD 39 d= .int .i64 x.out.Used∧x.c.getD 40 d= .bool x.out.zc:=cj
theorem aF.Rc (x:aF):x.c.take 1=aG.c x.s:=rfl
theorem aF.Qo (x:aF) (v:aG):aJ x.c 0 v.c=aF.c {x with s:=v}:=bb (by simp only [aF.len,aG.len];decide) rfl
theorem aF.OP (x:aF):(x.c.drop 1).take 36=af.c x.o:=rfl
theorem aF.NV (x:aF) (v:af):aJ x.c 1 v.c=aF.c {x with o:=v}:=bb (by simp only [aF.len,af.len];decide) rfl
theorem aF.OK (x:aF):(x.c.drop 4).take 20=aC.c x.o.ae:=rfl
theorem aF.NQ (x:aF) (v:aC):aJ x.c 4 v.c=aF.c {x with o:={x.o with ae:=v}}:=bb (by simp only [aF.len,aC.len];decide) rfl
theorem aF.NZ (x:aF) (v:cb):aJ x.c 10 v.c=aF.c {x with o:={x.o with ae:={x.o.ae with d9:=v}}}:=bb (by simp only [aF.len,cb.len];decide) rfl
theorem aF.OM (x:aF):(x.c.drop 38).take 3=bY.c x.out:=rfl
theorem aF.q (x v:aF):aJ x.c 0 v.c=v.c:=bb (by simp only [aF.len];decide) rfl
theorem aF.p (x:aF):(∀v,aJ x.c 19 [.sl false 2 v.length (cA ay.c default v)]=aF.c {x with o:={x.o with ae:={x.o.ae with aQ:=v}}})∧(∀v,aJ x.c 20 [.sl false 4 v.length (cA aK.c default v)]=aF.c {x with o:={x.o with ae:={x.o.ae with aH:=v}}})∧(∀v,aJ x.c 37 [.sl false 1 v.length (cA (aS .u64) default v)]=aF.c {x with fresh:=v})∧pI x.c 39 (fun v=>aF.c {x with out:={x.out with Used:=v}})∧(∀v,aJ x.c 40 [.bool v]=aF.c {x with out:={x.out with zc:=v}}):=cj
theorem aF.fz (sel:Nat→Bool) (B:List aI) (x:aF):ew sel B x.c=x.c:=rfl
theorem aF.fk (sel:Nat→Bool) (B:List aI) (x:aF):bC sel B x.c=True:=by simp [aF.c,bC,cf,aG.c,af.c,aC.c,aP.c,cb.c,ey.c,dO.c,cV.c,bY.c]
@[ext] structure bJ where
 bW:Int
 gb:Int
 ID:Int
 deriving Inhabited,DecidableEq
def bJ.c (x:bJ):List SV:=[.int .i64 x.bW,.int .i64 x.gb,.int .u64 x.ID]
theorem bJ.len (x:bJ):x.c.length=3:=rfl
theorem bJ.gR (x:bJ):bt x.c=true:=rfl
theorem bJ.t (x:bJ):x.c.take 3=x.c:=rfl
theorem bJ.g (x:bJ) (d:SV):x.c.getD 0 d= .int .i64 x.bW∧x.c.getD 1 d= .int .i64 x.gb∧x.c.getD 2 d= .int .u64 x.ID:=cj
theorem bJ.q (x v:bJ):aJ x.c 0 v.c=v.c:=bb (by simp only [bJ.len];decide) rfl
theorem bJ.p (x:bJ):pI x.c 0 (fun v=>bJ.c {x with bW:=v})∧pI x.c 1 (fun v=>bJ.c {x with gb:=v})∧(∀v,aJ x.c 2 [.int .u64 v]=bJ.c {x with ID:=v}):=cj
theorem bJ.fk (sel:Nat→Bool) (B:List aI) (x:bJ):bC sel B x.c=True:=by simp [bJ.c,bC,cf]
theorem bJ.kd (x:bJ):kinds x.c=[1,1,1]:=rfl
theorem bJ.e1 (x y:bJ):(b9 x.c y.c).1=(x == y):=by
 apply Bool.eq_iff_iff.2;obtain ⟨a0,a1,a2⟩:=x;obtain ⟨b0,b1,b2⟩:=y;simp [bJ.c,b9,e_]
theorem bJ.e2 (x y:bJ):(b9 x.c y.c).2=True:=by simp [bJ.c,b9,e_]
@[ext] structure dK where
 x0:List Int
 x1:List Int
 deriving Inhabited,DecidableEq
def dK.c (x:dK):List SV:=[.sl false 1 x.x0.length (cA (aS .i64) default x.x0),.sl false 1 x.x1.length (cA (aS .i64) default x.x1)]
theorem dK.len (x:dK):x.c.length=2:=rfl
theorem dK.t (x:dK):x.c.take 2=x.c:=rfl
theorem dK.g (x:dK) (d:SV):x.c.getD 0 d= .sl false 1 x.x0.length (cA (aS .i64) default x.x0)∧x.c.getD 1 d= .sl false 1 x.x1.length (cA (aS .i64) default x.x1):=cj
theorem dK.q (x v:dK):aJ x.c 0 v.c=v.c:=bb (by simp only [dK.len];decide) rfl
theorem dK.p (x:dK):(∀v,aJ x.c 0 [.sl false 1 v.length (cA (aS .i64) default v)]=dK.c {x with x0:=v})∧(∀v,aJ x.c 1 [.sl false 1 v.length (cA (aS .i64) default v)]=dK.c {x with x1:=v}):=cj
theorem dK.fz (sel:Nat→Bool) (B:List aI) (x:dK):ew sel B x.c=x.c:=rfl
theorem dK.fk (sel:Nat→Bool) (B:List aI) (x:dK):bC sel B x.c=True:=by simp [dK.c,bC,cf]
attribute [push_cast] bp.len bp.gR bp.t bp.g bp.q bp.p bp.kd bp.e1 bp.e2 aP.eta aP.len aP.gR aP.t aP.g aP.q aP.p cb.len cb.gR cb.t cb.g cb.q cb.p cb.kd cb.e1 cb.e2 ay.len ay.gR ay.t ay.g ay.q ay.p ay.kd ay.e1 ay.e2 aK.len aK.gR aK.t aK.g aK.q aK.p aK.fz aK.fk aK.kd aK.e1 aK.e2 aC.eta aC.len aC.gR aC.t aC.g aC.Q_ aC.Qk aC.Q6 aC.Qh aC.q aC.p aC.fz aC.fk dO.eta dO.len dO.gR cV.len cV.gR cV.t cV.g cV.q cV.p cV.kd cV.e1 cV.e2 a8.eta a8.len a8.gR a8.t a8.g a8.q a8.p a8.fz a8.fk af.eta af.len af.gR af.t af.g af.Hc af.NR af.Q7 af.Qi af.QZ af.Qe af.NT af.ON af.NS af.q af.p af.fz af.fk aG.eta aG.len aG.gR aG.t aG.g aG.q aG.p b8.len b8.gR b8.t b8.g b8.q b8.kd b8.e1 b8.e2 cn.len cn.gR cn.t cn.g cn.q cn.p cn.kd cn.e1 cn.e2 ax.eta ax.len ax.gR ax.t ax.g ax.OQ ax.N0 ax.Hc ax.q ax.p aO.eta aO.len aO.gR aO.t aO.g aO.Lw aO.Qm aO.q aO.p aA.len aA.gR aA.t aA.g aA.OJ aA.NP aA.q aA.p cr.len cr.gR cr.t cr.g cr.q cr.p aR.len aR.gR aR.t aR.g aR.q aL.len aL.gR aL.t aL.g aL.q aL.p bw.len bw.gR bw.t bw.g bw.OO bw.NU bw.q bw.p a9.len a9.gR a9.t a9.g a9.q a9.p gK.len gK.gR gK.t gK.g gK.q gK.p bg.len bg.gR bg.t bg.g bg.OL bg.Ju bg.q bg.p aW.len aW.gR aW.t aW.g aW.q aW.p bB.len bB.gR bB.t bB.g bB.q bB.p bB.kd bB.e1 bB.e2 eg.len eg.gR eg.p aj.len aj.gR aj.t aj.g aj.Ra aj.Ql aj.Q9 aj.Qj aj.Q4 aj.Qf aj.NY aj.q aj.p ao.len ao.gR ao.t ao.g ao.Rb ao.Qn ao.Lw ao.Q5 ao.Qg ao.q ao.p aB.len aB.gR aB.t aB.g aB.Gw aB.NO aB.q aB.p c9.len c9.gR c9.g cm.len cm.gR cm.t cm.g cm.q cm.p cm.kd cm.e1 cm.e2 bO.len bO.gR bO.t bO.g bO.Q8 bO.Gw bO.q bO.p fe.len fe.gR fe.g fe.p bY.len bY.gR bY.t bY.g bY.q bY.p fM.len fM.gR fM.p a_.len a_.gR a_.t a_.g a_.Gw a_.q a_.p aF.len aF.gR aF.g aF.Rc aF.Qo aF.OP aF.NV aF.OK aF.NQ aF.NZ aF.OM aF.p bJ.len bJ.gR bJ.t bJ.g bJ.q bJ.p bJ.kd bJ.e1 bJ.e2
def jJ:SV:= .sl true 0 0 fun _=>[]
def Dn:List j4:=[
 .bF,
 .one,
 .int .i64,
 .int .i64,
 .bool,
 .int .u8,
 .bF,
 .bF,
 .bF,
 .string,
 .bF,
 .bF,
 .int .u64,
 .bF,
 .bF,
 .bF,
 .bF,
 .bF,
 .bF,
 .bF,
 .bF,
 .int .i32,
 .slice 3 1 8,
 .slice 80 47 632,
 .slice 76 36 464,
 .struct [(0,false,1)] 1,
 .struct [(0,false,1)] 1,
 .slice 53 2 16,
 .slice 125 2 16,
 .slice 78 38 512,
 .struct [(0,false,1),(1,false,1),(2,true,1),(3,false,1),(4,false,1),(5,false,1)] 6,
 .struct [(0,false,1),(1,false,1),(2,true,1),(3,false,1),(4,false,1),(5,false,1)] 6,
 .slice 143 15 184,
 .slice 114 4 48,
 .struct [(0,false,1)] 1,
 .struct [(0,false,1)] 1,
 .struct [(0,true,6),(6,false,1),(7,true,1)] 8,
 .struct [(0,true,6),(6,false,1),(7,true,1)] 8,
 .struct [(0,false,1),(1,true,8)] 9,
 .struct [(0,false,1),(1,true,8)] 9,
 .struct [(0,false,1),(1,false,1),(2,false,1),(3,false,1),(4,false,1),(5,false,1)] 6,
 .struct [(0,false,1),(1,false,1),(2,false,1),(3,false,1),(4,false,1),(5,false,1)] 6,
 .int .u64,
 .one,
 .slice 101 9 120,
 .bF,
 .one,
 .ptr,
 .one,
 .slice 39 9 200,
 .one,
 .slice 42 1 8,
 .struct [(0,false,1),(1,false,1)] 2,
 .struct [(0,false,1),(1,false,1)] 2,
 .one,
 .one,
 .one,
 .one,
 .slice 162 4 32,
 .slice 9 1 16,
 .struct [(0,false,1),(1,false,1),(2,false,1)] 3,
 .struct [(0,false,1),(1,false,1),(2,false,1)] 3,
 .int .i64,
 .array 8 false 1,
 .struct [(0,false,1),(1,true,8)] 9,
 .struct [(0,false,1),(1,true,8)] 9,
 .slice 337 2 16,
 .slice 298 4 32,
 .struct [(0,false,1),(1,false,1),(2,false,1),(3,true,3),(6,true,9),(15,false,1),(16,false,1),(17,false,1),(18,false,1),(19,false,1)] 20,
 .struct [(0,false,1),(1,false,1),(2,false,1),(3,true,3),(6,true,9),(15,false,1),(16,false,1),(17,false,1),(18,false,1),(19,false,1)] 20,
 .slice 2 1 8,
 .slice 5 1 1,
 .array 2 false 1,
 .array 2 false 1,
 .slice 198 3 48,
 .struct [(0,false,1),(1,false,1),(2,false,1),(3,true,20),(23,false,1),(24,false,1),(25,false,1),(26,false,1),(27,false,1),(28,false,1),(29,false,1),(30,true,2),(32,true,2),(34,false,1),(35,false,1)] 36,
 .struct [(0,false,1),(1,false,1),(2,false,1),(3,true,20),(23,false,1),(24,false,1),(25,false,1),(26,false,1),(27,false,1),(28,false,1),(29,false,1),(30,true,2),(32,true,2),(34,false,1),(35,false,1)] 36,
 .struct [(0,true,36),(36,false,1),(37,false,1)] 38,
 .struct [(0,true,36),(36,false,1),(37,false,1)] 38,
 .struct [(0,false,1),(1,false,1),(2,false,1),(3,false,1),(4,false,1),(5,true,3),(8,false,1),(9,true,38)] 47,
 .struct [(0,false,1),(1,false,1),(2,false,1),(3,false,1),(4,false,1),(5,true,3),(8,false,1),(9,true,38)] 47,
 .one,
 .one,
 .one,
 .bF,
 .one,
 .one,
 .one,
 .array 2 false 1,
 .slice 88 2 48,
 .slice 35 1 24,
 .one,
 .one,
 .one,
 .one,
 .one,
 .one,
 .one,
 .bF,
 .one,
 .struct [(0,false,1),(1,false,1),(2,false,1),(3,false,1),(4,false,1),(5,true,3),(8,false,1)] 9,
 .struct [(0,false,1),(1,false,1),(2,false,1),(3,false,1),(4,false,1),(5,true,3),(8,false,1)] 9,
 .one,
 .one,
 .bF,
 .one,
 .bF,
 .one,
 .one,
 .struct [(0,false,1),(1,false,1)] 2,
 .struct [(0,false,1),(1,false,1)] 2,
 .one,
 .slice 179 45 536,
 .struct [(0,false,1),(1,false,1),(2,false,1),(3,false,1)] 4,
 .struct [(0,false,1),(1,false,1),(2,false,1),(3,false,1)] 4,
 .one,
 .one,
 .one,
 .one,
 .one,
 .one,
 .one,
 .one,
 .one,
 .struct [(0,false,1),(1,false,1)] 2,
 .struct [(0,false,1),(1,false,1)] 2,
 .one,
 .one,
 .one,
 .one,
 .one,
 .struct [(0,false,1),(1,false,1),(2,false,1)] 3,
 .struct [(0,false,1),(1,false,1),(2,false,1)] 3,
 .slice 205 41 496,
 .struct [(0,false,1),(1,false,1)] 2,
 .struct [(0,false,1),(1,false,1)] 2,
 .slice 334 41 552,
 .struct [(0,false,1),(1,false,1)] 2,
 .struct [(0,false,1),(1,false,1)] 2,
 .slice 284 2 16,
 .struct [(0,false,1),(1,false,1),(2,false,1),(3,false,1)] 4,
 .struct [(0,false,1),(1,false,1),(2,false,1),(3,false,1)] 4,
 .struct [(0,false,1),(1,false,1),(2,true,3),(5,true,2),(7,true,2),(9,false,1),(10,false,1),(11,true,4)] 15,
 .struct [(0,false,1),(1,false,1),(2,true,3),(5,true,2),(7,true,2),(9,false,1),(10,false,1),(11,true,4)] 15,
 .bF,
 .one,
 .bF,
 .one,
 .ptr,
 .bF,
 .one,
 .bF,
 .one,
 .bF,
 .one,
 .bF,
 .one,
 .one,
 .slice 73 2 16,
 .one,
 .one,
 .struct [(0,false,1),(1,false,1),(2,false,1),(3,false,1)] 4,
 .struct [(0,false,1),(1,false,1),(2,false,1),(3,false,1)] 4,
 .one,
 .one,
 .one,
 .one,
 .one,
 .one,
 .one,
 .one,
 .one,
 .one,
 .one,
 .one,
 .one,
 .one,
 .one,
 .struct [(0,false,1),(1,false,1),(2,false,1),(3,false,1),(4,false,1),(5,true,36),(41,false,1),(42,false,1),(43,false,1),(44,false,1)] 45,
 .struct [(0,false,1),(1,false,1),(2,false,1),(3,false,1),(4,false,1),(5,true,36),(41,false,1),(42,false,1),(43,false,1),(44,false,1)] 45,
 .one,
 .one,
 .one,
 .one,
 .one,
 .one,
 .one,
 .one,
 .one,
 .bF,
 .one,
 .bF,
 .one,
 .one,
 .one,
 .bF,
 .one,
 .struct [(0,false,1),(1,false,1),(2,false,1)] 3,
 .struct [(0,false,1),(1,false,1),(2,false,1)] 3,
 .one,
 .one,
 .one,
 .bF,
 .one,
 .struct [(0,false,1),(1,false,1),(2,true,36),(38,false,1),(39,false,1),(40,false,1)] 41,
 .struct [(0,false,1),(1,false,1),(2,true,36),(38,false,1),(39,false,1),(40,false,1)] 41,
 .one,
 .one,
 .one,
 .bF,
 .one,
 .bF,
 .one,
 .one,
 .one,
 .one,
 .bF,
 .one,
 .one,
 .one,
 .struct [(0,false,1),(1,false,1),(2,false,1)] 3,
 .struct [(0,false,1),(1,false,1),(2,false,1)] 3,
 .bF,
 .one,
 .bF,
 .one,
 .one,
 .one,
 .one,
 .one,
 .one,
 .bF,
 .one,
 .one,
 .bF,
 .one,
 .one,
 .bF,
 .one,
 .one,
 .one,
 .one,
 .one,
 .one,
 .one,
 .one,
 .one,
 .one,
 .bF,
 .one,
 .bF,
 .one,
 .one,
 .slice 330 3 24,
 .one,
 .one,
 .one,
 .bF,
 .one,
 .one,
 .bF,
 .one,
 .one,
 .one,
 .bF,
 .one,
 .one,
 .one,
 .one,
 .one,
 .one,
 .one,
 .one,
 .int .u64,
 .one,
 .one,
 .bF,
 .one,
 .one,
 .one,
 .one,
 .one,
 .one,
 .struct [(0,false,1),(1,false,1)] 2,
 .struct [(0,false,1),(1,false,1)] 2,
 .one,
 .one,
 .one,
 .one,
 .one,
 .one,
 .one,
 .array 3 false 1,
 .struct [(0,false,1),(1,false,1),(2,false,1),(3,false,1),(4,false,1),(5,true,3)] 8,
 .struct [(0,false,1),(1,false,1),(2,false,1),(3,false,1),(4,false,1),(5,true,3)] 8,
 .bF,
 .one,
 .struct [(0,false,1),(1,false,1),(2,false,1),(3,false,1)] 4,
 .struct [(0,false,1),(1,false,1),(2,false,1),(3,false,1)] 4,
 .bF,
 .one,
 .one,
 .one,
 .one,
 .one,
 .ptr,
 .struct [(0,true,1),(1,true,36),(37,false,1),(38,true,3)] 41,
 .struct [(0,true,1),(1,true,36),(37,false,1),(38,true,3)] 41,
 .one,
 .one,
 .one,
 .bF,
 .one,
 .one,
 .one,
 .bF,
 .one,
 .one,
 .one,
 .bF,
 .one,
 .one,
 .one,
 .bF,
 .one,
 .bF,
 .one,
 .one,
 .one,
 .struct [(0,false,1),(1,false,1),(2,false,1)] 3,
 .struct [(0,false,1),(1,false,1),(2,false,1)] 3,
 .one,
 .slice 394 2 16,
 .struct [(0,false,1),(1,false,1),(2,false,1),(3,true,36),(39,false,1),(40,false,1)] 41,
 .struct [(0,false,1),(1,false,1),(2,false,1),(3,true,36),(39,false,1),(40,false,1)] 41,
 .one,
 .struct [(0,false,1),(1,false,1)] 2,
 .struct [(0,false,1),(1,false,1)] 2,
 .one,
 .one,
 .one,
 .bF,
 .one,
 .one,
 .one,
 .one,
 .one,
 .ptr,
 .one,
 .one,
 .one,
 .one,
 .one,
 .one,
 .one,
 .one,
 .one,
 .one,
 .one,
 .bF,
 .one,
 .one,
 .one,
 .one,
 .one,
 .one,
 .one,
 .one,
 .one,
 .bF,
 .one,
 .one,
 .one,
 .one,
 .bF,
 .one,
 .bF,
 .one,
 .one,
 .one,
 .bF,
 .one,
 .one,
 .bF,
 .one,
 .one,
 .one,
 .one,
 .bF,
 .one,
 .one,
 .one,
 .one,
 .struct [(0,false,1),(1,false,1)] 2,
 .struct [(0,false,1),(1,false,1)] 2,
 .bF,
 .one,
 .one,
 .bF,
 .one,
 .one,
 .one,
 .one,
 .one,
 .one,
 .one,
 .one,
 .one,
 .one,
 .one,
 .one,
 .one,
 .one,
 .one,
 .bF,
 .one,
 .one,
 .one,
 .bF,
 .one,
 .bF,
 .one,
 .one,
 .one,
 .one,
 .bF,
 .one,
 .bF,
 .one,
 .one,
 .one,
 .bF,
 .one,
 .one,
 .one,
 .one,
 .one,
 .one,
 .bF,
 .one,
 .bF,
 .one,
 .one,
 .one,
 .one,
 .one,
 .one,
 .bF,
 .one,
 .one,
 .one,
 .one,
 .one,
 .one,
 .bF,
 .one,
 .one,
 .one,
 .one,
 .one,
 .one,
 .one,
 .one,
 .bF,
 .bF,
 .bF,
 .bF,
 .bF,
 .one,
 .int .u32,
 .bF,
 .bF,
 .bF,
 .ptr,
 .bF,
 .bF,
 .bF,
 .bF,
 .bF]
def Cq:List (List SV):=[
 [],
 [.val .nilFunc],
 [.int .i64 0],
 [.int .i64 0],
 [.bool false],
 [.int .u8 0],
 [],
 [],
 [],
 [.str []],
 [],
 [],
 [.int .u64 0],
 [],
 [],
 [],
 [],
 [],
 [],
 [],
 [],
 [.int .i32 0],
 [jJ],
 [jJ],
 [jJ],
 aG.c default,
 aG.c default,
 [jJ],
 [jJ],
 [jJ],
 aO.c default,
 aO.c default,
 [jJ],
 [jJ],
 aR.c default,
 aR.c default,
 ao.c default,
 ao.c default,
 c9.c default,
 c9.c default,
 cm.c default,
 cm.c default,
 [.int .u64 0],
 [.val .nilFunc],
 [jJ],
 [],
 [.val .nilFunc],
 [.val (.pointer none)],
 [.val .nilFunc],
 [jJ],
 [.val .nilFunc],
 [jJ],
 b8.c default,
 b8.c default,
 [.val .nilFunc],
 [.val .nilFunc],
 [.val .nilFunc],
 [.val .nilFunc],
 [jJ],
 [jJ],
 aP.c default,
 aP.c default,
 [.int .i64 0],
 ey.c default,
 cb.c default,
 cb.c default,
 [jJ],
 [jJ],
 aC.c default,
 aC.c default,
 [jJ],
 [jJ],
 dO.c default,
 cV.c default,
 [jJ],
 af.c default,
 af.c default,
 ax.c default,
 ax.c default,
 aB.c default,
 aB.c default,
 [.val .nilFunc],
 [.val .nilFunc],
 [.val .nilFunc],
 [],
 [.val .nilFunc],
 [.val .nilFunc],
 [.val .nilFunc],
 dK.c default,
 [jJ],
 [jJ],
 [.val .nilFunc],
 [.val .nilFunc],
 [.val .nilFunc],
 [.val .nilFunc],
 [.val .nilFunc],
 [.val .nilFunc],
 [.val .nilFunc],
 [],
 [.val .nilFunc],
 bO.c default,
 bO.c default,
 [.val .nilFunc],
 [.val .nilFunc],
 [],
 [.val .nilFunc],
 [],
 [.val .nilFunc],
 [.val .nilFunc],
 fe.c default,
 fe.c default,
 [.val .nilFunc],
 [jJ],
 cr.c default,
 cr.c default,
 [.val .nilFunc],
 [.val .nilFunc],
 [.val .nilFunc],
 [.val .nilFunc],
 [.val .nilFunc],
 [.val .nilFunc],
 [.val .nilFunc],
 [.val .nilFunc],
 [.val .nilFunc],
 cn.c default,
 cn.c default,
 [.val .nilFunc],
 [.val .nilFunc],
 [.val .nilFunc],
 [.val .nilFunc],
 [.val .nilFunc],
 aL.c default,
 aL.c default,
 [jJ],
 a9.c default,
 a9.c default,
 [jJ],
 aW.c default,
 aW.c default,
 [jJ],
 eg.c default,
 eg.c default,
 aj.c default,
 aj.c default,
 [],
 [.val .nilFunc],
 [],
 [.val .nilFunc],
 [.val (.pointer none)],
 [],
 [.val .nilFunc],
 [],
 [.val .nilFunc],
 [],
 [.val .nilFunc],
 [],
 [.val .nilFunc],
 [.val .nilFunc],
 [jJ],
 [.val .nilFunc],
 [.val .nilFunc],
 bp.c default,
 bp.c default,
 [.val .nilFunc],
 [.val .nilFunc],
 [.val .nilFunc],
 [.val .nilFunc],
 [.val .nilFunc],
 [.val .nilFunc],
 [.val .nilFunc],
 [.val .nilFunc],
 [.val .nilFunc],
 [.val .nilFunc],
 [.val .nilFunc],
 [.val .nilFunc],
 [.val .nilFunc],
 [.val .nilFunc],
 [.val .nilFunc],
 aA.c default,
 aA.c default,
 [.val .nilFunc],
 [.val .nilFunc],
 [.val .nilFunc],
 [.val .nilFunc],
 [.val .nilFunc],
 [.val .nilFunc],
 [.val .nilFunc],
 [.val .nilFunc],
 [.val .nilFunc],
 [],
 [.val .nilFunc],
 [],
 [.val .nilFunc],
 [.val .nilFunc],
 [.val .nilFunc],
 [],
 [.val .nilFunc],
 a8.c default,
 a8.c default,
 [.val .nilFunc],
 [.val .nilFunc],
 [.val .nilFunc],
 [],
 [.val .nilFunc],
 bw.c default,
 bw.c default,
 [.val .nilFunc],
 [.val .nilFunc],
 [.val .nilFunc],
 [],
 [.val .nilFunc],
 [],
 [.val .nilFunc],
 [.val .nilFunc],
 [.val .nilFunc],
 [.val .nilFunc],
 [],
 [.val .nilFunc],
 [.val .nilFunc],
 [.val .nilFunc],
 bY.c default,
 bY.c default,
 [],
 [.val .nilFunc],
 [],
 [.val .nilFunc],
 [.val .nilFunc],
 [.val .nilFunc],
 [.val .nilFunc],
 [.val .nilFunc],
 [.val .nilFunc],
 [],
 [.val .nilFunc],
 [.val .nilFunc],
 [],
 [.val .nilFunc],
 [.val .nilFunc],
 [],
 [.val .nilFunc],
 [.val .nilFunc],
 [.val .nilFunc],
 [.val .nilFunc],
 [.val .nilFunc],
 [.val .nilFunc],
 [.val .nilFunc],
 [.val .nilFunc],
 [.val .nilFunc],
 [.val .nilFunc],
 [],
 [.val .nilFunc],
 [],
 [.val .nilFunc],
 [.val .nilFunc],
 [jJ],
 [.val .nilFunc],
 [.val .nilFunc],
 [.val .nilFunc],
 [],
 [.val .nilFunc],
 [.val .nilFunc],
 [],
 [.val .nilFunc],
 [.val .nilFunc],
 [.val .nilFunc],
 [],
 [.val .nilFunc],
 [.val .nilFunc],
 [.val .nilFunc],
 [.val .nilFunc],
 [.val .nilFunc],
 [.val .nilFunc],
 [.val .nilFunc],
 [.val .nilFunc],
 [.int .u64 0],
 [.val .nilFunc],
 [.val .nilFunc],
 [],
 [.val .nilFunc],
 [.val .nilFunc],
 [.val .nilFunc],
 [.val .nilFunc],
 [.val .nilFunc],
 [.val .nilFunc],
 bB.c default,
 bB.c default,
 [.val .nilFunc],
 [.val .nilFunc],
 [.val .nilFunc],
 [.val .nilFunc],
 [.val .nilFunc],
 [.val .nilFunc],
 [.val .nilFunc],
 fM.c default,
 a_.c default,
 a_.c default,
 [],
 [.val .nilFunc],
 aK.c default,
 aK.c default,
 [],
 [.val .nilFunc],
 [.val .nilFunc],
 [.val .nilFunc],
 [.val .nilFunc],
 [.val .nilFunc],
 [.val (.pointer none)],
 aF.c default,
 aF.c default,
 [.val .nilFunc],
 [.val .nilFunc],
 [.val .nilFunc],
 [],
 [.val .nilFunc],
 [.val .nilFunc],
 [.val .nilFunc],
 [],
 [.val .nilFunc],
 [.val .nilFunc],
 [.val .nilFunc],
 [],
 [.val .nilFunc],
 [.val .nilFunc],
 [.val .nilFunc],
 [],
 [.val .nilFunc],
 [],
 [.val .nilFunc],
 [.val .nilFunc],
 [.val .nilFunc],
 bJ.c default,
 bJ.c default,
 [.val .nilFunc],
 [jJ],
 bg.c default,
 bg.c default,
 [.val .nilFunc],
 ay.c default,
 ay.c default,
 [.val .nilFunc],
 [.val .nilFunc],
 [.val .nilFunc],
 [],
 [.val .nilFunc],
 [.val .nilFunc],
 [.val .nilFunc],
 [.val .nilFunc],
 [.val .nilFunc],
 [.val (.pointer none)],
 [.val .nilFunc],
 [.val .nilFunc],
 [.val .nilFunc],
 [.val .nilFunc],
 [.val .nilFunc],
 [.val .nilFunc],
 [.val .nilFunc],
 [.val .nilFunc],
 [.val .nilFunc],
 [.val .nilFunc],
 [.val .nilFunc],
 [],
 [.val .nilFunc],
 [.val .nilFunc],
 [.val .nilFunc],
 [.val .nilFunc],
 [.val .nilFunc],
 [.val .nilFunc],
 [.val .nilFunc],
 [.val .nilFunc],
 [.val .nilFunc],
 [],
 [.val .nilFunc],
 [.val .nilFunc],
 [.val .nilFunc],
 [.val .nilFunc],
 [],
 [.val .nilFunc],
 [],
 [.val .nilFunc],
 [.val .nilFunc],
 [.val .nilFunc],
 [],
 [.val .nilFunc],
 [.val .nilFunc],
 [],
 [.val .nilFunc],
 [.val .nilFunc],
 [.val .nilFunc],
 [.val .nilFunc],
 [],
 [.val .nilFunc],
 [.val .nilFunc],
 [.val .nilFunc],
 [.val .nilFunc],
 gK.c default,
 gK.c default,
 [],
 [.val .nilFunc],
 [.val .nilFunc],
 [],
 [.val .nilFunc],
 [.val .nilFunc],
 [.val .nilFunc],
 [.val .nilFunc],
 [.val .nilFunc],
 [.val .nilFunc],
 [.val .nilFunc],
 [.val .nilFunc],
 [.val .nilFunc],
 [.val .nilFunc],
 [.val .nilFunc],
 [.val .nilFunc],
 [.val .nilFunc],
 [.val .nilFunc],
 [.val .nilFunc],
 [],
 [.val .nilFunc],
 [.val .nilFunc],
 [.val .nilFunc],
 [],
 [.val .nilFunc],
 [],
 [.val .nilFunc],
 [.val .nilFunc],
 [.val .nilFunc],
 [.val .nilFunc],
 [],
 [.val .nilFunc],
 [],
 [.val .nilFunc],
 [.val .nilFunc],
 [.val .nilFunc],
 [],
 [.val .nilFunc],
 [.val .nilFunc],
 [.val .nilFunc],
 [.val .nilFunc],
 [.val .nilFunc],
 [.val .nilFunc],
 [],
 [.val .nilFunc],
 [],
 [.val .nilFunc],
 [.val .nilFunc],
 [.val .nilFunc],
 [.val .nilFunc],
 [.val .nilFunc],
 [.val .nilFunc],
 [],
 [.val .nilFunc],
 [.val .nilFunc],
 [.val .nilFunc],
 [.val .nilFunc],
 [.val .nilFunc],
 [.val .nilFunc],
 [],
 [.val .nilFunc],
 [.val .nilFunc],
 [.val .nilFunc],
 [.val .nilFunc],
 [.val .nilFunc],
 [.val .nilFunc],
 [.val .nilFunc],
 [.val .nilFunc],
 [],
 [],
 [],
 [],
 [],
 [.val .nilFunc],
 [.int .u32 0],
 [],
 [],
 [],
 [.val (.pointer none)],
 [],
 [],
 [],
 [],
 []]
def DH:List (List Nat):=[
 [],
 [],
 [],
 [],
 [],
 [],
 [],
 [],
 [],
 [],
 [],
 [],
 [],
 [],
 [],
 [],
 [],
 [],
 [],
 [],
 [],
 [],
 [],
 [],
 [],
 [],
 [],
 [],
 [],
 [],
 [],
 [],
 [],
 [],
 [],
 [],
 [],
 [],
 [],
 [],
 [1,1,1,1,1,1],
 [1,1,1,1,1,1],
 [],
 [],
 [],
 [],
 [],
 [],
 [],
 [],
 [],
 [],
 [1,1],
 [1,1],
 [],
 [],
 [],
 [],
 [],
 [],
 [],
 [],
 [],
 [1,1,1,1,1,1,1,1],
 [1,1,1,1,1,1,1,1,1],
 [1,1,1,1,1,1,1,1,1],
 [],
 [],
 [],
 [],
 [],
 [],
 [],
 [1,1],
 [],
 [],
 [],
 [],
 [],
 [],
 [],
 [],
 [],
 [],
 [],
 [],
 [],
 [],
 [],
 [],
 [],
 [],
 [],
 [],
 [],
 [],
 [],
 [],
 [],
 [],
 [],
 [],
 [],
 [],
 [],
 [],
 [],
 [],
 [],
 [],
 [],
 [],
 [],
 [],
 [],
 [],
 [],
 [],
 [],
 [],
 [],
 [],
 [],
 [],
 [1,1],
 [1,1],
 [],
 [],
 [],
 [],
 [],
 [1,1,1],
 [1,1,1],
 [],
 [],
 [],
 [],
 [],
 [],
 [],
 [],
 [],
 [],
 [],
 [],
 [],
 [],
 [],
 [],
 [],
 [],
 [],
 [],
 [],
 [],
 [],
 [],
 [],
 [],
 [],
 [],
 [1,1,1,1],
 [1,1,1,1],
 [],
 [],
 [],
 [],
 [],
 [],
 [],
 [],
 [],
 [],
 [],
 [],
 [],
 [],
 [],
 [],
 [],
 [],
 [],
 [],
 [],
 [],
 [],
 [],
 [],
 [],
 [],
 [],
 [],
 [],
 [],
 [],
 [],
 [],
 [],
 [],
 [],
 [],
 [],
 [],
 [],
 [],
 [],
 [],
 [],
 [],
 [],
 [],
 [],
 [],
 [],
 [],
 [],
 [],
 [],
 [],
 [],
 [0,1,0],
 [0,1,0],
 [],
 [],
 [],
 [],
 [],
 [],
 [],
 [],
 [],
 [],
 [],
 [],
 [],
 [],
 [],
 [],
 [],
 [],
 [],
 [],
 [],
 [],
 [],
 [],
 [],
 [],
 [],
 [],
 [],
 [],
 [],
 [],
 [],
 [],
 [],
 [],
 [],
 [],
 [],
 [],
 [],
 [],
 [],
 [],
 [],
 [],
 [],
 [],
 [],
 [],
 [],
 [],
 [],
 [],
 [],
 [],
 [],
 [],
 [],
 [],
 [],
 [1,1],
 [1,1],
 [],
 [],
 [],
 [],
 [],
 [],
 [],
 [1,1,1],
 [1,1,1,1,1,1,1,1],
 [1,1,1,1,1,1,1,1],
 [],
 [],
 [1,1,1,1],
 [1,1,1,1],
 [],
 [],
 [],
 [],
 [],
 [],
 [],
 [],
 [],
 [],
 [],
 [],
 [],
 [],
 [],
 [],
 [],
 [],
 [],
 [],
 [],
 [],
 [],
 [],
 [],
 [],
 [],
 [],
 [],
 [],
 [1,1,1],
 [1,1,1],
 [],
 [],
 [],
 [],
 [],
 [1,0],
 [1,0],
 [],
 [],
 [],
 [],
 [],
 [],
 [],
 [],
 [],
 [],
 [],
 [],
 [],
 [],
 [],
 [],
 [],
 [],
 [],
 [],
 [],
 [],
 [],
 [],
 [],
 [],
 [],
 [],
 [],
 [],
 [],
 [],
 [],
 [],
 [],
 [],
 [],
 [],
 [],
 [],
 [],
 [],
 [],
 [],
 [],
 [],
 [],
 [],
 [],
 [],
 [],
 [],
 [],
 [],
 [],
 [1,1],
 [1,1],
 [],
 [],
 [],
 [],
 [],
 [],
 [],
 [],
 [],
 [],
 [],
 [],
 [],
 [],
 [],
 [],
 [],
 [],
 [],
 [],
 [],
 [],
 [],
 [],
 [],
 [],
 [],
 [],
 [],
 [],
 [],
 [],
 [],
 [],
 [],
 [],
 [],
 [],
 [],
 [],
 [],
 [],
 [],
 [],
 [],
 [],
 [],
 [],
 [],
 [],
 [],
 [],
 [],
 [],
 [],
 [],
 [],
 [],
 [],
 [],
 [],
 [],
 [],
 [],
 [],
 [],
 [],
 [],
 [],
 [],
 [],
 [],
 [],
 [],
 [],
 [],
 [],
 [],
 [],
 [],
 [],
 [],
 [],
 []]
def E:Env:=rD Dn Cq DH
theorem Ri:E.kp=false:=rfl
attribute [push_cast] Ri
set_option maxRecDepth 100000 in
theorem ab:cI prog E:=Hb (by kernel_rfl)
theorem PW:E.ty 2= .int .i64:=rfl
theorem PM:E.zr 2=[.int .i64 0]:=rfl
theorem PV:E.ty 3= .int .i64:=rfl
theorem PL:E.zr 3=[.int .i64 0]:=rfl
theorem PU:E.ty 4= .bool:=rfl
theorem PT:E.ty 5= .int .u8:=rfl
theorem PK:E.zr 5=[.int .u8 0]:=rfl
theorem PS:E.ty 9= .string:=rfl
theorem PJ:E.zr 9=[.str []]:=rfl
theorem Nf:E.ty 22= .slice 3 1 8:=rfl
theorem Nd:E.ty 23= .slice 80 47 632:=rfl
theorem Nc:E.ty 24= .slice 76 36 464:=rfl
theorem Nb:E.ty 26= .struct [(0,false,1)] 1:=rfl
theorem MD:E.zr 26=aG.c default:=rfl
theorem Na:E.ty 27= .slice 53 2 16:=rfl
theorem M':E.ty 28= .slice 125 2 16:=rfl
theorem M_:E.ty 29= .slice 78 38 512:=rfl
theorem M9:E.ty 31= .struct [(0,false,1),(1,false,1),(2,true,1),(3,false,1),(4,false,1),(5,false,1)] 6:=rfl
theorem MC:E.zr 31=aO.c default:=rfl
theorem M8:E.ty 32= .slice 143 15 184:=rfl
theorem M7:E.ty 33= .slice 114 4 48:=rfl
theorem M6:E.ty 35= .struct [(0,false,1)] 1:=rfl
theorem MB:E.zr 35=aR.c default:=rfl
theorem M5:E.ty 37= .struct [(0,true,6),(6,false,1),(7,true,1)] 8:=rfl
theorem MA:E.zr 37=ao.c default:=rfl
theorem M4:E.ty 39= .struct [(0,false,1),(1,true,8)] 9:=rfl
theorem Mz:E.zr 39=c9.c default:=rfl
theorem M3:E.ty 41= .struct [(0,false,1),(1,false,1),(2,false,1),(3,false,1),(4,false,1),(5,false,1)] 6:=rfl
theorem My:E.zr 41=cm.c default:=rfl
theorem Oi:E.lv 41=[1,1,1,1,1,1]:=rfl
theorem M1:E.ty 42= .int .u64:=rfl
theorem Mx:E.zr 42=[.int .u64 0]:=rfl
theorem M0:E.ty 44= .slice 101 9 120:=rfl
theorem MZ:E.ty 51= .slice 42 1 8:=rfl
theorem MY:E.ty 53= .struct [(0,false,1),(1,false,1)] 2:=rfl
theorem Mw:E.zr 53=b8.c default:=rfl
theorem Oh:E.lv 53=[1,1]:=rfl
theorem MX:E.ty 58= .slice 162 4 32:=rfl
theorem MW:E.ty 59= .slice 9 1 16:=rfl
theorem MV:E.ty 61= .struct [(0,false,1),(1,false,1),(2,false,1)] 3:=rfl
theorem Mv:E.zr 61=aP.c default:=rfl
theorem MU:E.ty 62= .int .i64:=rfl
theorem MS:E.ty 63= .array 8 false 1:=rfl
theorem MR:E.ty 65= .struct [(0,false,1),(1,true,8)] 9:=rfl
theorem Mu:E.zr 65=cb.c default:=rfl
theorem Og:E.lv 65=[1,1,1,1,1,1,1,1,1]:=rfl
theorem MQ:E.ty 66= .slice 337 2 16:=rfl
theorem MP:E.ty 67= .slice 298 4 32:=rfl
theorem MO:E.ty 69= .struct [(0,false,1),(1,false,1),(2,false,1),(3,true,3),(6,true,9),(15,false,1),(16,false,1),(17,false,1),(18,false,1),(19,false,1)] 20:=rfl
theorem Mt:E.zr 69=aC.c default:=rfl
theorem MN:E.ty 70= .slice 2 1 8:=rfl
theorem MM:E.ty 71= .slice 5 1 1:=rfl
theorem ML:E.ty 72= .array 2 false 1:=rfl
theorem Ms:E.zr 72=dO.c default:=rfl
theorem MK:E.ty 73= .array 2 false 1:=rfl
theorem Mr:E.zr 73=cV.c default:=rfl
theorem Of:E.lv 73=[1,1]:=rfl
theorem MJ:E.ty 74= .slice 198 3 48:=rfl
theorem MI:E.ty 76= .struct [(0,false,1),(1,false,1),(2,false,1),(3,true,20),(23,false,1),(24,false,1),(25,false,1),(26,false,1),(27,false,1),(28,false,1),(29,false,1),(30,true,2),(32,true,2),(34,false,1),(35,false,1)] 36:=rfl
theorem Mq:E.zr 76=af.c default:=rfl
theorem MH:E.ty 78= .struct [(0,true,36),(36,false,1),(37,false,1)] 38:=rfl
theorem Mp:E.zr 78=ax.c default:=rfl
theorem MG:E.ty 80= .struct [(0,false,1),(1,false,1),(2,false,1),(3,false,1),(4,false,1),(5,true,3),(8,false,1),(9,true,38)] 47:=rfl
theorem Mo:E.zr 80=aB.c default:=rfl
theorem KL:E.ty 101= .struct [(0,false,1),(1,false,1),(2,false,1),(3,false,1),(4,false,1),(5,true,3),(8,false,1)] 9:=rfl
theorem Kb:E.zr 101=bO.c default:=rfl
theorem KK:E.ty 110= .struct [(0,false,1),(1,false,1)] 2:=rfl
theorem Ka:E.zr 110=fe.c default:=rfl
theorem KJ:E.ty 112= .slice 179 45 536:=rfl
theorem KI:E.ty 114= .struct [(0,false,1),(1,false,1),(2,false,1),(3,false,1)] 4:=rfl
theorem J':E.zr 114=cr.c default:=rfl
theorem KH:E.ty 125= .struct [(0,false,1),(1,false,1)] 2:=rfl
theorem J_:E.zr 125=cn.c default:=rfl
theorem Lj:E.lv 125=[1,1]:=rfl
theorem KG:E.ty 132= .struct [(0,false,1),(1,false,1),(2,false,1)] 3:=rfl
theorem J9:E.zr 132=aL.c default:=rfl
theorem KF:E.ty 133= .slice 205 41 496:=rfl
theorem KE:E.ty 135= .struct [(0,false,1),(1,false,1)] 2:=rfl
theorem J8:E.zr 135=a9.c default:=rfl
theorem KD:E.ty 136= .slice 334 41 552:=rfl
theorem KC:E.ty 138= .struct [(0,false,1),(1,false,1)] 2:=rfl
theorem J7:E.zr 138=aW.c default:=rfl
theorem KB:E.ty 139= .slice 284 2 16:=rfl
theorem KA:E.ty 141= .struct [(0,false,1),(1,false,1),(2,false,1),(3,false,1)] 4:=rfl
theorem J6:E.zr 141=eg.c default:=rfl
theorem Kz:E.ty 143= .struct [(0,false,1),(1,false,1),(2,true,3),(5,true,2),(7,true,2),(9,false,1),(10,false,1),(11,true,4)] 15:=rfl
theorem J5:E.zr 143=aj.c default:=rfl
theorem Ky:E.ty 158= .slice 73 2 16:=rfl
theorem Kx:E.ty 162= .struct [(0,false,1),(1,false,1),(2,false,1),(3,false,1)] 4:=rfl
theorem J4:E.zr 162=bp.c default:=rfl
theorem Li:E.lv 162=[1,1,1,1]:=rfl
theorem Kw:E.ty 179= .struct [(0,false,1),(1,false,1),(2,false,1),(3,false,1),(4,false,1),(5,true,36),(41,false,1),(42,false,1),(43,false,1),(44,false,1)] 45:=rfl
theorem J3:E.zr 179=aA.c default:=rfl
theorem Kv:E.ty 198= .struct [(0,false,1),(1,false,1),(2,false,1)] 3:=rfl
theorem J2:E.zr 198=a8.c default:=rfl
theorem Ku:E.ty 205= .struct [(0,false,1),(1,false,1),(2,true,36),(38,false,1),(39,false,1),(40,false,1)] 41:=rfl
theorem J1:E.zr 205=bw.c default:=rfl
theorem Kt:E.ty 221= .struct [(0,false,1),(1,false,1),(2,false,1)] 3:=rfl
theorem J0:E.zr 221=bY.c default:=rfl
theorem Ks:E.ty 253= .slice 330 3 24:=rfl
theorem Kr:E.ty 284= .struct [(0,false,1),(1,false,1)] 2:=rfl
theorem JZ:E.zr 284=bB.c default:=rfl
theorem Lh:E.lv 284=[1,1]:=rfl
theorem Kq:E.ty 292= .array 3 false 1:=rfl
theorem JY:E.zr 292=fM.c default:=rfl
theorem Kp:E.ty 294= .struct [(0,false,1),(1,false,1),(2,false,1),(3,false,1),(4,false,1),(5,true,3)] 8:=rfl
theorem JX:E.zr 294=a_.c default:=rfl
theorem Ko:E.ty 298= .struct [(0,false,1),(1,false,1),(2,false,1),(3,false,1)] 4:=rfl
theorem JW:E.zr 298=aK.c default:=rfl
theorem Lg:E.lv 298=[1,1,1,1]:=rfl
theorem Km:E.ty 307= .struct [(0,true,1),(1,true,36),(37,false,1),(38,true,3)] 41:=rfl
theorem JV:E.zr 307=aF.c default:=rfl
theorem Kl:E.ty 330= .struct [(0,false,1),(1,false,1),(2,false,1)] 3:=rfl
theorem JU:E.zr 330=bJ.c default:=rfl
theorem Lf:E.lv 330=[1,1,1]:=rfl
theorem Kk:E.ty 332= .slice 394 2 16:=rfl
theorem Kj:E.ty 334= .struct [(0,false,1),(1,false,1),(2,false,1),(3,true,36),(39,false,1),(40,false,1)] 41:=rfl
theorem JT:E.zr 334=bg.c default:=rfl
theorem Ki:E.ty 337= .struct [(0,false,1),(1,false,1)] 2:=rfl
theorem JS:E.zr 337=ay.c default:=rfl
theorem Le:E.lv 337=[1,0]:=rfl
theorem Kh:E.ty 394= .struct [(0,false,1),(1,false,1)] 2:=rfl
theorem JR:E.zr 394=gK.c default:=rfl
attribute [push_cast] PW PV PU PT PS Nf Nd Nc Nb Na M' M_ M9 M8 M7 M6 M5 M4 M3 M1 M0 MZ MY MX MW MV MU MS MR MQ MP MO MN MM ML MK MJ MI MH MG KL KK KJ KI KH KG KF KE KD KC KB KA Kz Ky Kx Kw Kv Ku Kt Ks Kr Kq Kp Ko Km Kl Kk Kj Ki Kh PM PL PK PJ MD MC MB MA Mz My Mx Mw Mv Mu Mt Ms Mr Mq Mp Mo Kb Ka J' J_ J9 J8 J7 J6 J5 J4 J3 J2 J1 J0 JZ JY JX JW JV JU JT JS JR Oi Oh Og Of Lj Li Lh Lg Lf Le
theorem wI (i:Nat) (h:(i:Int)≤9223372036854775806:=by omega):IntKind.i64.wrap ((i:Int)+1)=((i+1:Nat):Int):=by rw [bu (by omega)];omega
theorem ca (i) (h:fK prog i=true:=by kernel_rfl):fK prog i=true:=h
end Go.Proofs.YteejbbfaphcgiaaGreat
