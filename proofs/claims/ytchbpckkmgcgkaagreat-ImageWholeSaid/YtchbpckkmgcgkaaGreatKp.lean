/- Part of the proof of ImageWhole: the machine, shown to be the model's, and plain models. No conditions. -/
import Derived.Test.YtchbpckkmgcgkaaGreatJp
import Derived.Test.YtchbpckkmgcgkaaGreatIp
import Derived.Below
import Derived.ChangeSame
import Derived.ProofKit
import Derived.Test.YtchbpckkmgcgkaaGreatGp
import Derived.WideKeyArgs
set_option linter.unusedSimpArgs false
set_option linter.unusedVariables false
section
namespace Go.Proofs.YtchbpckkmgcgkaaGreat.b
open Go.K
noncomputable section
structure cF where
 ax:Int
 t4:(Sl bk)
 l:(Sl bK)
 i:Int
 t:bk
instance:Inhabited cF:=⟨⟨default,default,default,default,default⟩⟩
def JM (x:cF):List KV:=[.int .i64 x.ax,fL 178 mo x.t4,fL 177 pN x.l,.int .i64 x.i]
def JN (x:cF):List (List KV):=[Za x.t]
def Tu (vs:List KV) (rs:List (List KV)):cF:=⟨intOf (v9 vs 0),fg oG (v9 vs 1),fg kP (v9 vs 2),intOf (v9 vs 3),Zb (r9 rs 0)⟩
def VU:aQ:=⟨[(0,w9 i9),(4,w9 (n9 178)),(5,⟨false,[.aZ 177]⟩),(6,w9 i9)],[(3,[i9,i9,i9,i9,i9,i9,i9,i9,i9,i9,i9,i9,i9,i9,i9],5)],[(3,0,0)]⟩
def afJ:=uj [(165,SJ)] [] 107 58 VU
def QG (x:cF):=p9 x.ax x.t.e0 x.t.e0
def Hy (x:cF):=p9 x.ax x.t.e0 x.t.e1
def Hz (x:cF):=p9 x.ax x.t.e1 x.t.e0
def HA (x:cF):=p9 x.ax x.t.e0 x.t.e2
def HB (x:cF):=p9 x.ax x.t.e2 x.t.e0
def QH (x:cF):=p9 x.ax x.t.e1 x.t.e1
def HC (x:cF):=p9 x.ax x.t.e1 x.t.e2
def HD (x:cF):=p9 x.ax x.t.e2 x.t.e1
def QI (x:cF):=p9 x.ax x.t.e2 x.t.e2
def nw (x:cF) (aA bA:bK) (pA qA:(Option bK)):aJ cF:=(cond (aC ((x.l.n+1)+1)) (.next ⟨x.ax,x.t4,((x.l.push aA).push (pA.getD default)),(ak (x.i+1)),x.t⟩) .fail)
def ny (x:cF) (aA bA:bK) (pA qA:(Option bK)):aJ cF:=(cond (aC (x.l.n+1)) (.next ⟨x.ax,x.t4,(x.l.push aA),(ak (x.i+1)),x.t⟩) .fail)
def nz (x:cF) (aA bA:bK) (pA qA:(Option bK)):aJ cF:=(cond (decide (aA.p.z >= x.ax)) (cond (decide (bA.p.z < x.ax)) (cond qA.isSome (cond (nm 40 (x.l.n+1) 1) (cond (aC ((x.l.n+1)+1)) (.next ⟨x.ax,x.t4,((x.l.push aA).push (qA.getD default)),(ak (x.i+1)),x.t⟩) .fail) .fail) .fail)
  (ny x aA bA pA qA))
  (ny x aA bA pA qA))
def nA (x:cF) (aA bA:bK) (pA qA:(Option bK)):aJ cF:=(cond (aC (x.l.n+1)) (.next ⟨x.ax,x.t4,(x.l.push (pA.getD default)),(ak (x.i+1)),x.t⟩) .fail)
def nB (x:cF) (aA bA:bK) (pA qA:(Option bK)):aJ cF:=(cond (decide (aA.p.z >= x.ax)) (cond (decide (bA.p.z < x.ax)) (cond qA.isSome (cond (nm 40 x.l.n 1) (cond (aC (x.l.n+1)) (.next ⟨x.ax,x.t4,(x.l.push (qA.getD default)),(ak (x.i+1)),x.t⟩) .fail) .fail) .fail) (cond (aC x.l.n) (.next ⟨x.ax,x.t4,x.l,(ak (x.i+1)),x.t⟩) .fail)) (cond (aC x.l.n) (.next ⟨x.ax,x.t4,x.l,(ak (x.i+1)),x.t⟩) .fail))
def gR (x:cF) (aA bA:bK) (pA qA:(Option bK)):aJ cF:=(cond (decide (aA.p.z >= x.ax)) (cond (nm 40 x.l.n 1) (cond (decide (aA.p.z < x.ax)) (cond (decide (bA.p.z >= x.ax)) (cond pA.isSome (cond (nm 40 (x.l.n+1) 1) (cond (decide (aA.p.z >= x.ax)) (cond (decide (bA.p.z < x.ax)) (cond qA.isSome (cond (nm 40 ((x.l.n+1)+1) 1) (cond (aC (((x.l.n+1)+1)+1)) (.next ⟨x.ax,x.t4,(((x.l.push aA).push (pA.getD default)).push (qA.getD default)),(ak (x.i+1)),x.t⟩) .fail) .fail) .fail)
     (nw x aA bA pA qA))
     (nw x aA bA pA qA)) .fail) .fail)
   (nz x aA bA pA qA))
   (nz x aA bA pA qA)) .fail) (cond (decide (aA.p.z < x.ax)) (cond (decide (bA.p.z >= x.ax)) (cond pA.isSome (cond (nm 40 x.l.n 1) (cond (decide (aA.p.z >= x.ax)) (cond (decide (bA.p.z < x.ax)) (cond qA.isSome (cond (nm 40 (x.l.n+1) 1) (cond (aC ((x.l.n+1)+1)) (.next ⟨x.ax,x.t4,((x.l.push (pA.getD default)).push (qA.getD default)),(ak (x.i+1)),x.t⟩) .fail) .fail) .fail)
     (nA x aA bA pA qA))
    (nA x aA bA pA qA)) .fail) .fail)
   (nB x aA bA pA qA))
  (nB x aA bA pA qA)))
def ib (x:cF):aJ cF:=(cond (decide (x.i < 3)) (cond (decide (x.i=0)) (cond (decide ((Int.tmod (ak (x.i+1)) 3)=0)) (gR x x.t.e0 x.t.e0 (QG x) (QG x)) (cond (decide ((Int.tmod (ak (x.i+1)) 3)=1)) (gR x x.t.e0 x.t.e1 (Hy x) (Hz x)) (cond (decide ((Int.tmod (ak (x.i+1)) 3)=2)) (gR x x.t.e0 x.t.e2 (HA x) (HB x)) .fail))) (cond (decide (x.i=1)) (cond (decide ((Int.tmod (ak (x.i+1)) 3)=0)) (gR x x.t.e1 x.t.e0 (Hz x) (Hy x)) (cond (decide ((Int.tmod (ak (x.i+1)) 3)=1)) (gR x x.t.e1 x.t.e1 (QH x) (QH x)) (cond (decide ((Int.tmod (ak (x.i+1)) 3)=2)) (gR x x.t.e1 x.t.e2 (HC x) (HD x)) .fail))) (cond (decide (x.i=2)) (cond (decide ((Int.tmod (ak (x.i+1)) 3)=0)) (gR x x.t.e2 x.t.e0 (HB x) (HA x)) (cond (decide ((Int.tmod (ak (x.i+1)) 3)=1)) (gR x x.t.e2 x.t.e1 (HD x) (HC x)) (cond (decide ((Int.tmod (ak (x.i+1)) 3)=2)) (gR x x.t.e2 x.t.e2 (QI x) (QI x)) .fail))) .fail))) (cond (aC x.l.n) (.out (aF.aq.exit 0) x) .fail))
theorem abQ (x:cF):afJ (JM x) (JN x)=aJ.enc JM JN (ib x):=by
 unfold ib gR nB nA nz ny nw nm aC
 try simp only [aJ.bz,aeA,ahU]
 kernel_rfl
def MJ:Lp:=⟨107,58,VU,fun vs rs=>bT JM JN (goN ib (Tu vs rs)) [aF.aq.exit 0],false⟩
theorem Tv:MJ.Ok PG:=tl (ao.cons OZ ao.nil) aL.nil (pa:=Tu) abQ
structure sk where
 t4:(Sl bk)
 l:(Sl bK)
 out:(Sl bk)
 i:Int
instance:Inhabited sk:=⟨⟨default,default,default,default⟩⟩
def HF (x:sk):List KV:=[fL 178 mo x.t4,fL 177 pN x.l,fL 178 mo x.out,.int .i64 x.i]
def HG (x:sk):List (List KV):=[]
def QJ (vs:List KV) (rs:List (List KV)):sk:=⟨fg oG (v9 vs 0),fg kP (v9 vs 1),fg oG (v9 vs 2),intOf (v9 vs 3)⟩
def Tw:aQ:=⟨[(4,w9 (n9 178)),(5,⟨false,[.aZ 177]⟩),(9,⟨false,[.aZ 178]⟩),(10,w9 i9)],[],[]⟩
def adK:=uj [(165,SJ)] [MJ] 107 250 Tw
def qZ (x:sk):aJ sk:=(cond (decide (x.i < (x.l.n:Int))) (cond (decide (0 < (x.l.n:Int))) (cond (bj (ak (x.i - 1)) x.l.n) (cond (bj x.i x.l.n) (cond (nm 120 x.out.n 1) (cond (cond (aC (x.out.n+1)) (aC x.l.n) false) (.next ⟨x.t4,x.l,(x.out.push ⟨(x.l.get 0),(x.l.get (Int.toNat (ak (x.i - 1)))),(x.l.get (Int.toNat x.i))⟩),(ak (x.i+1))⟩) .fail) .fail) .fail) .fail) .fail) (cond (cond (aC x.out.n) (aC x.l.n) false) (.out (aF.aq.exit 2) x) .fail))
theorem ZC (x:sk):adK (HF x) (HG x)=aJ.enc HF HG (qZ x):=by
 unfold qZ bj nm aC
 try simp only [aJ.bz,Va]
 kernel_rfl
def Tx:Lp:=⟨107,250,Tw,fun vs rs=>bT HF HG (goN qZ (QJ vs rs)) [aF.aq.exit 2],false⟩
theorem adL:Tx.Ok PG:=tl (ao.cons OZ ao.nil) (hH Tv aL.nil) (pa:=QJ) ZC
def rv (ax:Int) (t:bk):=goN ib ⟨ax,⟨0,(fun i=>⟨⟨⟨0,0,0⟩,0,0⟩,⟨⟨0,0,0⟩,0,0⟩,⟨⟨0,0,0⟩,0,0⟩⟩)⟩,⟨0,(fun i=>⟨⟨0,0,0⟩,0,0⟩)⟩,0,t⟩
def yX (ax:Int) (t:bk):=goN qZ ⟨(rv ax t).st.t4,(rv ax t).st.l,⟨0,(fun i=>⟨⟨⟨0,0,0⟩,0,0⟩,⟨⟨0,0,0⟩,0,0⟩,⟨⟨0,0,0⟩,0,0⟩⟩)⟩,2⟩
def EB (ax:Int) (t:bk):Option ((Sl bk)):=(cond ((rv ax t).by (aF.aq.exit 0)) (cond (aC (rv ax t).st.l.n) (cond ((yX ax t).by (aF.aq.exit 2)) (some ((yX ax t).st.out)) none) none) none)
theorem ajP (ax:Int) (t:bk):hJ [(165,SJ)] [MJ,Tx] 107 [(kI .i64) ax,mo t] = (EB ax t).map (fL 178 mo):=by
 unfold EB aC
 try simp only [aY]
 kernel_rfl
def VV:List KV->KR KV:=bd PG 107 (bg (fL 178 mo) fun vs=>EB (intOf (v9 vs 0)) (oG (v9 vs 1)))
theorem VW:a9 PG 107 VV:=bM (ao.cons OZ ao.nil) (hH Tv (hH adL aL.nil)) fun w=>ajP (intOf (g0 3 (w 0))) (oG (g0 178 (w 1)))
end
end Go.Proofs.YtchbpckkmgcgkaaGreat.b
end
section
namespace Go.Proofs.YtchbpckkmgcgkaaGreat.b
open Go.K Go.K.hY
open Go.aF (aq)
theorem at3 {ax:Int} {t:bk} (hn:256<=ax/\ax<=4096) (ht:D5 t) (t4:Sl bk) (l:Sl bK) (hl:l.n<=10):∃ l',ib ⟨ax,t4,l,0,t⟩ = .next ⟨ax,t4,l',1,t⟩/\bH l' = bH l++uD ax t.e0 t.e1/\l'.n<=l.n+2:=by
 have w1:ak ((0:Int)+1)=1:=aj;have m1:Int.tmod (1:Int) 3=1:=rfl;have a1:ij 40 l.n 1=true:=eZ;have a2:ij 40 (l.n+1) 1=true:=eZ;unfold ib gR nB nA nz ny nw uD nm aC;simp only [w1,m1,a1,a2,aG,ai,aw,bD,av (show (0:Int) < 3 by omega),av (show (0:Int)=0 from rfl),az (show ¬ (1:Int)=0 by omega),av (show (1:Int)=1 from rfl)];by_cases c1:t.e0.p.z >= ax
 ·have d1 : ¬ t.e0.p.z < ax:=by omega
  by_cases c2:t.e1.p.z >= ax
  ·have d2 : ¬ t.e1.p.z < ax:=by omega
   simp only [av c1,av c2,az d1,az d2,ai,aw,vX,vW];exact ⟨_,rfl,ki _ _,Dd _⟩
  ·have d2:t.e1.p.z < ax:=by omega
   have e:Hz ⟨ax,t4,l,0,t⟩=some (IY ax t.e1 t.e0):=adJ hn ht.e1 ht.e0 d2 c1;simp only [e,av c1,az c2,az d1,av d2,ai,aw,vX,vW,bD,bx,bq];exact ⟨_,rfl,Hl _ _ _,aW _⟩
 ·have d1:t.e0.p.z < ax:=by omega
  by_cases c2:t.e1.p.z >= ax
  ·have d2 : ¬ t.e1.p.z < ax:=by omega
   have e:Hy ⟨ax,t4,l,0,t⟩=some (IY ax t.e0 t.e1):=adJ hn ht.e0 ht.e1 d1 c2;simp only [e,az c1,av c2,av d1,az d2,ai,aw,vX,vW,bD,bx,bq];exact ⟨_,rfl,ki _ _,Dd _⟩
  ·have d2:t.e1.p.z < ax:=by omega
   simp only [az c1,az c2,av d1,av d2,ai,aw,vX,vW];exact ⟨_,rfl,(py _).symm,MV _ _⟩
theorem at4 {ax:Int} {t:bk} (hn:256<=ax/\ax<=4096) (ht:D5 t) (t4:Sl bk) (l:Sl bK) (hl:l.n<=10):∃ l',ib ⟨ax,t4,l,1,t⟩ = .next ⟨ax,t4,l',2,t⟩/\bH l' = bH l++uD ax t.e1 t.e2/\l'.n<=l.n+2:=by
 have w1:ak ((1:Int)+1)=2:=aj;have m1:Int.tmod (2:Int) 3=2:=rfl;have a1:ij 40 l.n 1=true:=eZ;have a2:ij 40 (l.n+1) 1=true:=eZ;unfold ib gR nB nA nz ny nw uD nm aC;simp only [w1,m1,a1,a2,aG,ai,aw,bD,av (show (1:Int) < 3 by omega),az (show ¬ (1:Int)=0 by omega),av (show (1:Int)=1 from rfl),az (show ¬ (2:Int)=0 by omega),az (show ¬ (2:Int)=1 by omega),av (show (2:Int)=2 from rfl)];by_cases c1:t.e1.p.z >= ax
 ·have d1 : ¬ t.e1.p.z < ax:=by omega
  by_cases c2:t.e2.p.z >= ax
  ·have d2 : ¬ t.e2.p.z < ax:=by omega
   simp only [av c1,av c2,az d1,az d2,ai,aw,vX,vW];exact ⟨_,rfl,ki _ _,Dd _⟩
  ·have d2:t.e2.p.z < ax:=by omega
   have e:HD ⟨ax,t4,l,1,t⟩=some (IY ax t.e2 t.e1):=adJ hn ht.e2 ht.e1 d2 c1;simp only [e,av c1,az c2,az d1,av d2,ai,aw,vX,vW,bD,bx,bq];exact ⟨_,rfl,Hl _ _ _,aW _⟩
 ·have d1:t.e1.p.z < ax:=by omega
  by_cases c2:t.e2.p.z >= ax
  ·have d2 : ¬ t.e2.p.z < ax:=by omega
   have e:HC ⟨ax,t4,l,1,t⟩=some (IY ax t.e1 t.e2):=adJ hn ht.e1 ht.e2 d1 c2;simp only [e,az c1,av c2,av d1,az d2,ai,aw,vX,vW,bD,bx,bq];exact ⟨_,rfl,ki _ _,Dd _⟩
  ·have d2:t.e2.p.z < ax:=by omega
   simp only [az c1,az c2,av d1,av d2,ai,aw,vX,vW];exact ⟨_,rfl,(py _).symm,MV _ _⟩
theorem at5 {ax:Int} {t:bk} (hn:256<=ax/\ax<=4096) (ht:D5 t) (t4:Sl bk) (l:Sl bK) (hl:l.n<=10):∃ l',ib ⟨ax,t4,l,2,t⟩ = .next ⟨ax,t4,l',3,t⟩/\bH l' = bH l++uD ax t.e2 t.e0/\l'.n<=l.n+2:=by
 have w1:ak ((2:Int)+1)=3:=aj;have m1:Int.tmod (3:Int) 3=0:=rfl;have a1:ij 40 l.n 1=true:=eZ;have a2:ij 40 (l.n+1) 1=true:=eZ;unfold ib gR nB nA nz ny nw uD nm aC;simp only [w1,m1,a1,a2,aG,ai,aw,bD,av (show (2:Int) < 3 by omega),az (show ¬ (2:Int)=0 by omega),az (show ¬ (2:Int)=1 by omega),av (show (2:Int)=2 from rfl),av (show (0:Int)=0 from rfl)];by_cases c1:t.e2.p.z >= ax
 ·have d1 : ¬ t.e2.p.z < ax:=by omega
  by_cases c2:t.e0.p.z >= ax
  ·have d2 : ¬ t.e0.p.z < ax:=by omega
   simp only [av c1,av c2,az d1,az d2,ai,aw,vX,vW];exact ⟨_,rfl,ki _ _,Dd _⟩
  ·have d2:t.e0.p.z < ax:=by omega
   have e:HA ⟨ax,t4,l,2,t⟩=some (IY ax t.e0 t.e2):=adJ hn ht.e0 ht.e2 d2 c1;simp only [e,av c1,az c2,az d1,av d2,ai,aw,vX,vW,bD,bx,bq];exact ⟨_,rfl,Hl _ _ _,aW _⟩
 ·have d1:t.e2.p.z < ax:=by omega
  by_cases c2:t.e0.p.z >= ax
  ·have d2 : ¬ t.e0.p.z < ax:=by omega
   have e:HB ⟨ax,t4,l,2,t⟩=some (IY ax t.e2 t.e0):=adJ hn ht.e2 ht.e0 d1 c2;simp only [e,az c1,av c2,av d1,az d2,ai,aw,vX,vW,bD,bx,bq];exact ⟨_,rfl,ki _ _,Dd _⟩
  ·have d2:t.e0.p.z < ax:=by omega
   simp only [az c1,az c2,av d1,av d2,ai,aw,vX,vW];exact ⟨_,rfl,(py _).symm,MV _ _⟩
theorem arY {ax:Int} {t:bk} (hn:256<=ax/\ax<=4096) (ht:D5 t):∃ z,rv ax t = .out (.exit 0) z/\bH z.l=AJ ax t/\z.l.n<=6:=by
 obtain ⟨e,z,hz,rfl,h⟩:∃ e z,rv ax t = .out e z/\(e = .exit 0/\bH z.l=AJ ax t/\z.l.n<=6):=by
  unfold rv;refine bn (step:=ib) (fun j y=>∃ (out:Sl bk) (l:Sl bK),y=⟨ax,out,l,(j:Int),t⟩/\bH l=avl ax t j/\l.n<=2 * j/\j<=3) _ 3 (by have:gd=1000000000000:=rfl; omega) (fun j y hj ⟨out,l,hy,h1,h2,h3⟩=>?_) ⟨_,_,rfl,rfl,aW _,by omega⟩;subst hy;rcases j with _ | _ | _ | j
  ·obtain ⟨l',q1,q2,q3⟩:=at3 hn ht out l (by omega)
   exact .inl ⟨_,q1,by omega,out,l',rfl,by rw [q2,h1]; rfl,by omega,by omega⟩
  ·obtain ⟨l',q1,q2,q3⟩:=at4 hn ht out l (by omega)
   exact .inl ⟨_,q1,by omega,out,l',rfl,by rw [q2,h1]; rfl,by omega,by omega⟩
  ·obtain ⟨l',q1,q2,q3⟩:=at5 hn ht out l (by omega)
   exact .inl ⟨_,q1,by omega,out,l',rfl,by rw [q2,h1]; rfl,by omega,by omega⟩
  ·have hj3:j=0:=by omega
   subst hj3;refine .inr ⟨.exit 0,⟨ax,out,l,((0+1+1+1:Nat):Int),t⟩,?_,rfl,rfl,h1,by show l.n<=6; omega⟩;unfold ib gR nB nA nz ny nw nm aC;simp only [aG,ai,aw,az (show ¬ ((((0+1+1+1:Nat):Int)) < 3) by omega)]
 exact ⟨z,hz,h⟩
theorem aom {ax:Int} {t:bk} (hn:256<=ax/\ax<=4096) (ht:D5 t):∃ r,EB ax t=some r/\bH r=Qr (AJ ax t):=by
 obtain ⟨y,hy,y1,y2⟩:=arY hn ht;have hs:(rv ax t).st=y:=by rw [hy]; rfl
 obtain ⟨e,z,hz,rfl,h⟩:∃ e z,yX ax t = .out e z/\(e = .exit 2/\bH z.out=Qr (AJ ax t)):=by
  unfold yX;rw [hs];refine bn (step:=qZ) (fun j x=>x.l=y.l/\x.i=((j+2:Nat):Int)/\(j=0\/j+2<=y.l.n)/\x.out.n=j/\bH x.out=(List.range j).map fun k=>(⟨y.l.get 0,y.l.get (k+1),y.l.get (k+2)⟩:bk)) _ 10 (by have:gd=1000000000000:=rfl; omega) (fun j x hj ⟨f1,f2,f3,f4,f5⟩=>?_) ⟨rfl,rfl,.inl rfl,rfl,rfl⟩;have w1:ak (x.i+1)=((j+1+2:Nat):Int):=by rw [aj (by omega) (by omega)]; omega
  have w2:ak (x.i - 1)=((j+1:Nat):Int):=by rw [aj (by omega) (by omega)]; omega
  have a1:ij 120 x.out.n 1=true:=eZ;unfold qZ bj nm aC;by_cases h:x.i < ((x.l.n:Nat):Int)
  ·have hln:j+2 < y.l.n:=by rw [f1] at h; omega
   simp only [w1,w2,a1,aG,ai,bD,av h,av (show (0:Int) < ((x.l.n:Nat):Int) by omega),av (show (0:Int)<=((j+1:Nat):Int) by omega),av (show ((j+1:Nat):Int) < ((x.l.n:Nat):Int) by omega),av (show (0:Int)<=x.i by omega)];refine .inl ⟨_,rfl,by omega,f1,rfl,.inr (by omega),by show x.out.n+1=_; omega,?_⟩;show bH (Sl.push _ _)=_;rw [ki,f5,QP,HM,f1,f2,bU,bU];rfl
  ·simp only [aG,ai,aw,az h]
   refine .inr ⟨_,_,rfl,rfl,rfl,?_⟩;rw [f5];unfold Qr;rw [<- y1,gg];have hjn:y.l.n - 2=j:=by rw [f1] at h; omega
   rw [hjn];refine List.map_congr_left fun k hk=>?_;have:=A4.1 hk;rw [K2 _ (by omega),K2 _ (by omega),K2 _ (by omega)]
 have b1:(rv ax t).by (.exit 0)=true:=by rw [hy]; rfl
 have b2:(yX ax t).by (.exit 2)=true:=by rw [hz]; rfl
 have b3:(yX ax t).st=z:=by rw [hz]; rfl
 refine ⟨z.out,?_,h⟩;unfold EB aC;simp only [b1,b2,b3,aG,ai]
end Go.Proofs.YtchbpckkmgcgkaaGreat.b
end
section
namespace Go.Proofs.YtchbpckkmgcgkaaGreat.b
open Go.K
noncomputable section
structure jM where
 t8:(Sl aK)
 l:(Sl bk)
 out:(Sl aK)
 i:Int
 c:aE
 x:Item
instance:Inhabited jM:=⟨by constructor<;>exact default⟩
def JO (x:jM):List KV:=[fL 62 gx x.t8,fL 178 mo x.l,fL 62 gx x.out,.int .i64 x.i]
def JP (x:jM):List (List KV):=[wL x.c,Cl x.x]
def Ty (vs:List KV) (rs:List (List KV)):jM:=⟨fg eM (v9 vs 0),fg oG (v9 vs 1),fg eM (v9 vs 2),intOf (v9 vs 3),wM (r9 rs 0),DR (r9 rs 1)⟩
def VX:aQ:=⟨[(8,w9 (n9 62)),(13,w9 (n9 178)),(14,⟨false,[.aZ 62]⟩),(15,w9 i9)],[(5,[i9,i9,i9,i9,i9,i9,i9,i9,i9,i9,i9,i9,i9,i9,i9,i9],1),(9,[n9 27,n9 181,n9 28,u9,u9,u9,u9,i9,u9,i9,b9,i9,i9,i9,i9,i9,i9,i9],1)],[(5,0,0),(9,1,0)]⟩
def afK:=uj [(110,Mb),(109,Sr),(108,OI),(107,VV),(106,Vm)] [] 50 1018 VX
def xt (x:jM):=s9 x.c (x.l.get (Int.toNat x.i)).e0
def xu (x:jM):=s9 x.c (x.l.get (Int.toNat x.i)).e1
def xv (x:jM):=s9 x.c (x.l.get (Int.toNat x.i)).e2
def BV (x:jM):=Bz ⟨((xt x).getD default),((xu x).getD default),((xv x).getD default)⟩ x.x.look.cA
def BW (x:jM):=w4 ⟨((xt x).getD default),((xu x).getD default),((xv x).getD default)⟩
def qa (x:jM):aJ jM:=(cond (decide (x.i < (x.l.n:Int))) (cond (bj x.i x.l.n) (cond (xt x).isSome (cond (bj x.i x.l.n) (cond (xu x).isSome (cond (bj x.i x.l.n) (cond (xv x).isSome (cond (BV x).isSome (cond ((BV x).getD default).fst (cond (BW x).isSome (cond (nm 120 x.out.n 1) (cond (aC (x.out.n+1)) (.next ⟨x.t8,x.l,(x.out.push ((BW x).getD default)),(ak (x.i+1)),x.c,x.x⟩) .fail) .fail) .fail) (cond (aC x.out.n) (.next ⟨x.t8,x.l,x.out,(ak (x.i+1)),x.c,x.x⟩) .fail)) .fail) .fail) .fail) .fail) .fail) .fail) .fail) (cond (aC x.out.n) (.out (aF.aq.exit 2) x) .fail))
theorem abR (x:jM):afK (JO x) (JP x)=aJ.enc JO JP (qa x):=by
 unfold qa bj nm aC
 try simp only [aJ.bz,XZ]
 kernel_rfl
def VY:Lp:=⟨50,1018,VX,fun vs rs=>bT JO JP (goN qa (Ty vs rs)) [aF.aq.exit 2],false⟩
theorem afL:VY.Ok PG:=tl (ao.cons NJ (ao.cons Td (ao.cons Qh (ao.cons VW (ao.cons Vn ao.nil))))) aL.nil (pa:=Ty) abR
def NW (s:Show) (c:aE) (item:Int) (cl:Int):=xF c ((s.items.get (Int.toNat item)).aH.get (Int.toNat ((s.items.get (Int.toNat item)).bf.get (Int.toNat cl)).e0))
def NX (s:Show) (c:aE) (item:Int) (cl:Int):=xF c ((s.items.get (Int.toNat item)).aH.get (Int.toNat ((s.items.get (Int.toNat item)).bf.get (Int.toNat cl)).e1))
def NY (s:Show) (c:aE) (item:Int) (cl:Int):=xF c ((s.items.get (Int.toNat item)).aH.get (Int.toNat ((s.items.get (Int.toNat item)).bf.get (Int.toNat cl)).e2))
def NZ (s:Show) (c:aE) (item:Int) (cl:Int):=EB c.ax ⟨⟨((NW s c item cl).getD default),((s.items.get (Int.toNat item)).uV.get (Int.toNat ((s.items.get (Int.toNat item)).bf.get (Int.toNat cl)).e0)).e0,((s.items.get (Int.toNat item)).uV.get (Int.toNat ((s.items.get (Int.toNat item)).bf.get (Int.toNat cl)).e0)).e1⟩,⟨((NX s c item cl).getD default),((s.items.get (Int.toNat item)).uV.get (Int.toNat ((s.items.get (Int.toNat item)).bf.get (Int.toNat cl)).e1)).e0,((s.items.get (Int.toNat item)).uV.get (Int.toNat ((s.items.get (Int.toNat item)).bf.get (Int.toNat cl)).e1)).e1⟩,⟨((NY s c item cl).getD default),((s.items.get (Int.toNat item)).uV.get (Int.toNat ((s.items.get (Int.toNat item)).bf.get (Int.toNat cl)).e2)).e0,((s.items.get (Int.toNat item)).uV.get (Int.toNat ((s.items.get (Int.toNat item)).bf.get (Int.toNat cl)).e2)).e1⟩⟩
def EC (s:Show) (c:aE) (item:Int) (cl:Int):=goN qa ⟨⟨0,(fun i=>⟨⟨0,0,0,0,0⟩,⟨0,0,0,0,0⟩,⟨0,0,0,0,0⟩⟩)⟩,((NZ s c item cl).getD default),⟨0,(fun i=>⟨⟨0,0,0,0,0⟩,⟨0,0,0,0,0⟩,⟨0,0,0,0,0⟩⟩)⟩,0,c,(s.items.get (Int.toNat item))⟩
def K4 (s:Show) (c:aE) (item:Int) (cl:Int):Option ((Sl aK)):=(cond (bj item s.items.n) (cond (bj cl (s.items.get (Int.toNat item)).bf.n) (cond (bj ((s.items.get (Int.toNat item)).bf.get (Int.toNat cl)).e0 (s.items.get (Int.toNat item)).aH.n) (cond (NW s c item cl).isSome (cond (bj ((s.items.get (Int.toNat item)).bf.get (Int.toNat cl)).e0 (s.items.get (Int.toNat item)).uV.n) (cond (bj ((s.items.get (Int.toNat item)).bf.get (Int.toNat cl)).e0 (s.items.get (Int.toNat item)).uV.n) (cond (bj cl (s.items.get (Int.toNat item)).bf.n) (cond (bj ((s.items.get (Int.toNat item)).bf.get (Int.toNat cl)).e1 (s.items.get (Int.toNat item)).aH.n) (cond (NX s c item cl).isSome (cond (bj ((s.items.get (Int.toNat item)).bf.get (Int.toNat cl)).e1 (s.items.get (Int.toNat item)).uV.n) (cond (bj ((s.items.get (Int.toNat item)).bf.get (Int.toNat cl)).e1 (s.items.get (Int.toNat item)).uV.n) (cond (bj cl (s.items.get (Int.toNat item)).bf.n) (cond (bj ((s.items.get (Int.toNat item)).bf.get (Int.toNat cl)).e2 (s.items.get (Int.toNat item)).aH.n) (cond (NY s c item cl).isSome (cond (bj ((s.items.get (Int.toNat item)).bf.get (Int.toNat cl)).e2 (s.items.get (Int.toNat item)).uV.n) (cond (bj ((s.items.get (Int.toNat item)).bf.get (Int.toNat cl)).e2 (s.items.get (Int.toNat item)).uV.n) (cond (NZ s c item cl).isSome (cond ((EC s c item cl).by (aF.aq.exit 2)) (some ((EC s c item cl).st.out)) none) none) none) none) none) none) none) none) none) none) none) none) none) none) none) none) none) none)
theorem aon (s:Show) (c:aE) (item:Int) (cl:Int):hJ [(110,Mb),(109,Sr),(108,OI),(107,VV),(106,Vm)] [VY] 50 [uB s,qF c,(kI .i64) item,(kI .i64) cl] = (K4 s c item cl).map (fL 62 gx):=by
 unfold K4 bj
 try simp only [aY]
 kernel_rfl
def QK:List KV->KR KV:=bd PG 50 (bg (fL 62 gx) fun vs=>K4 (kL (v9 vs 0)) (gZ (v9 vs 1)) (intOf (v9 vs 2)) (intOf (v9 vs 3)))
theorem KO:a9 PG 50 QK:=bM (ao.cons NJ (ao.cons Td (ao.cons Qh (ao.cons VW (ao.cons Vn ao.nil))))) (hH afL aL.nil) fun w=>aon (kL (g0 25 (w 0))) (gZ (g0 31 (w 1))) (intOf (g0 3 (w 2))) (intOf (g0 3 (w 3)))
end
end Go.Proofs.YtchbpckkmgcgkaaGreat.b
end
section
namespace Go.Proofs.YtchbpckkmgcgkaaGreat.b
open Go.K Go.K.hY
open Go.aF (aq)
theorem apM {c:aE} (hc:mC c) (x:jM) (hxc:x.c=c) (av3:0<=x.x.look.cA) (hq:∀ j,j < x.l.n->QOk c (x.l.get j)) (hn:x.l.n<=1000) (h0:x.i=0) (ho:x.out.n=0) :
  ∃ e z,goN qa x = .out e z/\(e = .exit 2/\bH z.out=CE c x.x.look.cA (bH x.l)):=by
 refine bn (step:=qa) (fun j y=>y.l=x.l/\y.i=(j:Int)/\j<=x.l.n/\y.c=c/\y.x=x.x/\y.out.n<=j/\bH y.out=CE c x.x.look.cA ((bH x.l).take j)) _ x.l.n (by have:gd=1000000000000:=rfl; omega) (fun j y hj ⟨f1,f3,f4,f5,f6,f7,f8⟩=>?_) ⟨rfl,h0,cP _,hxc,rfl,by omega,qv.1 (by rw [gg,ho])⟩;have w1:ak (y.i+1)=y.i+1:=aj;have a1:ij 120 y.out.n 1=true:=eZ;unfold qa bj nm aC;by_cases h:y.i < ((y.l.n:Nat):Int)
 ·have eH:j < x.l.n:=by rw [f1] at h; omega
  have hg:y.l.get (Int.toNat y.i)=x.l.get j:=by rw [f1,f3,bU]
  obtain ⟨o0,o1,o2⟩:=hq j eH;have e0:xt y=some (tC c (x.l.get j).e0):=by unfold xt; rw [hg,f5]; exact adH hc o0.1 o0.2
  have e1:xu y=some (tC c (x.l.get j).e1):=by unfold xu; rw [hg,f5]; exact adH hc o1.1 o1.2
  have e2:xv y=some (tC c (x.l.get j).e2):=by unfold xv; rw [hg,f5]; exact adH hc o2.1 o2.2
  obtain ⟨e,hs⟩:=atX (qG c (x.l.get j)) av3;have e3:BV y=some (rV (qG c (x.l.get j)) x.x.look.cA,e):=by
   unfold BV;rw [e0,e1,e2,f6];exact hs
  have tk:CE c x.x.look.cA ((bH x.l).take (j+1))=CE c x.x.look.cA ((bH x.l).take j)++cond (rV (qG c (x.l.get j)) x.x.look.cA) [AK (qG c (x.l.get j))] []:=by
   rw [K0 x.l j eH,aeQ]
  simp only [e0,e1,e2,e3,w1,a1,aG,ai,bD,bx,bq,av h,av (show (0:Int)<=y.i by omega)];cases hb:rV (qG c (x.l.get j)) x.x.look.cA with
  | true=>
   have e4:BW y=some (AK (qG c (x.l.get j))):=by
    unfold BW;rw [e0,e1,e2];exact apL ((Zq _ _).1 hb).1
   rw [hb] at tk;simp only [e4,bx,bq,ai];refine .inl ⟨_,rfl,eH,f1,by show y.i+1=_; omega,by omega,f5,f6,by show y.out.n+1<=_; omega,?_⟩;show bH (Sl.push _ _)=_;rw [ki,f8,tk];rfl
  | false=>
   rw [hb] at tk;rw [aw];refine .inl ⟨_,rfl,eH,f1,by show y.i+1=_; omega,by omega,f5,f6,by show y.out.n<=_; omega,?_⟩;show bH y.out=_;rw [f8,tk,aw,py]
 ·simp only [aG,ai,aw,az h]
  refine .inr ⟨_,_,rfl,rfl,rfl,?_⟩;rw [f8,EO (by rw [gg]; rw [f1] at h; omega)]
theorem awY (s:Show) (c:aE) (i k:Nat) (hi:i < s.items.n) (hk:k < (s.items.get i).bf.n) (hc:mC c) (hx:abp (s.items.get i)) (h8:S8 s):∃ r,K4 s c (i:Int) (k:Int)=some r/\bH r=partsOf s c i k:=by
 obtain ⟨huv,atG⟩:=hx.ok;obtain ⟨t0,t1,t2⟩:=atG k hk;obtain ⟨p0,_⟩:=adu hc hx t0;obtain ⟨p1,_⟩:=adu hc hx t1;obtain ⟨p2,_⟩:=adu hc hx t2;have v0:=hx.v (Int.toNat ((s.items.get i).bf.get k).e0) (by omega);have v1:=hx.v (Int.toNat ((s.items.get i).bf.get k).e1) (by omega);have v2:=hx.v (Int.toNat ((s.items.get i).bf.get k).e2) (by omega);have an5:D5 (adt c (s.items.get i) k):=⟨p0,p1,p2⟩
 have hn:256<=c.ax/\c.ax<=4096:=hc.1.2.2.1;have e0:NW s c i k=some (nh c ((s.items.get i).aH.get (Int.toNat ((s.items.get i).bf.get k).e0))):=by unfold NW; rw [bU,bU]; exact amc hc v0
 have e1:NX s c i k=some (nh c ((s.items.get i).aH.get (Int.toNat ((s.items.get i).bf.get k).e1))):=by unfold NX; rw [bU,bU]; exact amc hc v1
 have e2:NY s c i k=some (nh c ((s.items.get i).aH.get (Int.toNat ((s.items.get i).bf.get k).e2))):=by unfold NY; rw [bU,bU]; exact amc hc v2
 obtain ⟨r,hr,Ip⟩:=aom hn an5;have e3:NZ s c i k=some r:=by
  unfold NZ;rw [e0,e1,e2,bU,bU];exact hr
 have hrn:r.n<=1000:=by
  rw [<- gg r,Ip];unfold Qr;rw [List.length_map,List.length_range];have:=akI c.ax (adt c (s.items.get i) k);omega
 obtain ⟨e,z,hz,rfl,hzl⟩:∃ e z,EC s c i k = .out e z/\(e = .exit 2/\bH z.out=CE c (s.items.get i).look.cA (bH r)):=by
  unfold EC;rw [e3,bU];refine apM hc _ rfl (h8.cA i hi).1 (fun j hj=>?_) hrn rfl rfl;have hm:r.get j∈bH r:=FN hj;rw [Ip] at hm;obtain ⟨o0,o1,o2⟩:=aqE hn an5 hm;exact ⟨o0,o1,o2⟩
 have b1:(EC s c i k).by (.exit 2)=true:=by rw [hz]; rfl
 have b2:(EC s c i k).st=z:=by rw [hz]; rfl
 refine ⟨z.out,?_,by rw [hzl,Ip]; rfl⟩;unfold K4 bj;simp only [e0,e1,e2,e3,b1,b2,bU,bx,ai,bD,av (show 0<=(i:Int) by omega),av (show (i:Int) < ((s.items.n:Nat):Int) by omega),av (show 0<=(k:Int) by omega),av (show (k:Int) < (((s.items.get i).bf.n:Nat):Int) by omega),
  av t0.1,av t0.2,av t1.1,av t1.2,av t2.1,av t2.2,huv]
theorem akN {s:Show} {c:aE} (h:Dx s c 0):dw s c=some 0:=by
 obtain ⟨e,h1,h2⟩:=abt s c;have:=h.one h2;subst this;exact h1
end Go.Proofs.YtchbpckkmgcgkaaGreat.b
end
section
namespace Go.Proofs.YtchbpckkmgcgkaaGreat.b
open Go.K
noncomputable section
structure qp where
 t4:(Sl bc)
 out:(Sl bc)
 i:Int
 s:Show
 c:aE
instance:Inhabited qp:=⟨⟨default,default,default,default,default⟩⟩
def HH (x:qp):List KV:=[fL 200 ew x.t4,fL 200 ew x.out,.int .i64 x.i]
def HI (x:qp):List (List KV):=[sP x.s,wL x.c]
def QL (vs:List KV) (rs:List (List KV)):qp:=⟨fg eQ (v9 vs 0),fg eQ (v9 vs 1),intOf (v9 vs 2),sQ (r9 rs 0),wM (r9 rs 1)⟩
def Tz:aQ:=⟨[(4,w9 (n9 200)),(5,⟨false,[.aZ 200]⟩),(6,w9 i9)],[(2,[n9 111,n9 114],1),(3,[i9,i9,i9,i9,i9,i9,i9,i9,i9,i9,i9,i9,i9,i9,i9,i9],1)],[(2,0,0),(3,1,0)]⟩
structure lO where
 t4:(Sl bc)
 out:(Sl bc)
 i:Int
 k:Int
 s:Show
 c:aE
instance:Inhabited lO:=⟨by constructor<;>exact default⟩
def D6 (x:lO):List KV:=[fL 200 ew x.t4,fL 200 ew x.out,.int .i64 x.i,.int .i64 x.k]
def D7 (x:lO):List (List KV):=[sP x.s,wL x.c]
def MK (vs:List KV) (rs:List (List KV)):lO:=⟨fg eQ (v9 vs 0),fg eQ (v9 vs 1),intOf (v9 vs 2),intOf (v9 vs 3),sQ (r9 rs 0),wM (r9 rs 1)⟩
def N1:aQ:=⟨[(4,w9 (n9 200)),(5,⟨false,[.aZ 200]⟩),(6,w9 i9),(7,w9 i9)],[(2,[n9 111,n9 114],1),(3,[i9,i9,i9,i9,i9,i9,i9,i9,i9,i9,i9,i9,i9,i9,i9,i9],1)],[(2,0,0),(3,1,0)]⟩
structure nC where
 t4:(Sl bc)
 out:(Sl bc)
 i:Int
 k:Int
 l:(Sl aK)
 n:Int
 s:Show
 c:aE
instance:Inhabited nC:=⟨by constructor<;>exact default⟩
def AV (x:nC):List KV:=[fL 200 ew x.t4,fL 200 ew x.out,.int .i64 x.i,.int .i64 x.k,fL 62 gx x.l,.int .i64 x.n]
def AW (x:nC):List (List KV):=[sP x.s,wL x.c]
def I3 (vs:List KV) (rs:List (List KV)):nC:=⟨fg eQ (v9 vs 0),fg eQ (v9 vs 1),intOf (v9 vs 2),intOf (v9 vs 3),fg eM (v9 vs 4),intOf (v9 vs 5),sQ (r9 rs 0),wM (r9 rs 1)⟩
def Kd:aQ:=⟨[(4,w9 (n9 200)),(5,⟨false,[.aZ 200]⟩),(6,w9 i9),(7,w9 i9),(8,w9 (n9 62)),(9,w9 i9)],[(2,[n9 111,n9 114],1),(3,[i9,i9,i9,i9,i9,i9,i9,i9,i9,i9,i9,i9,i9,i9,i9,i9],1)],[(2,0,0),(3,1,0)]⟩
def VZ:=uj [(50,QK)] [] 56 477478 Kd
def jb (x:nC):aJ nC:=(cond (decide (x.n < (x.l.n:Int))) (cond (bj x.n x.l.n) (cond (nm 144 x.out.n 1) (cond (aC (x.out.n+1)) (.next ⟨x.t4,(x.out.push ⟨(x.l.get (Int.toNat x.n)),x.i,x.k,x.n⟩),x.i,x.k,x.l,(ak (x.n+1)),x.s,x.c⟩) .fail) .fail) .fail) (cond (aC x.out.n) (.out (aF.aq.exit 4) x) .fail))
theorem SK (x:nC):VZ (AV x) (AW x)=aJ.enc AV AW (jb x):=by
 unfold jb bj nm aC
 try simp only [aJ.bz,QF]
 kernel_rfl
def wa:Lp:=⟨56,477478,Kd,fun vs rs=>bT AV AW (goN jb (I3 vs rs)) [aF.aq.exit 4],false⟩
theorem AX:wa.Ok PG:=tl (ao.cons KO ao.nil) aL.nil (pa:=I3) SK
def ZD:=uj [(50,QK)] [wa] 56 3730 N1
def CH (x:lO):=K4 x.s x.c x.i x.k
def iE (x:lO):=goN jb ⟨x.t4,x.out,x.i,x.k,((CH x).getD default),0,x.s,x.c⟩
def kh (x:lO):aJ lO:=(cond (bj x.i x.s.items.n) (cond (decide (x.k < ((x.s.items.get (Int.toNat x.i)).bf.n:Int))) (cond (CH x).isSome (cond (aC x.out.n) (cond ((iE x).by (aF.aq.exit 4)) (cond (aC (iE x).st.out.n) (.next ⟨(iE x).st.t4,(iE x).st.out,(iE x).st.i,(ak ((iE x).st.k+1)),(iE x).st.s,(iE x).st.c⟩) .fail) .fail) .fail) .fail) (cond (aC x.out.n) (.out (aF.aq.exit 2) x) .fail)) .fail)
theorem V0 (x:lO):ZD (D6 x) (D7 x)=aJ.enc D6 D7 (kh x):=by
 unfold kh bj aC
 try simp only [aJ.bz]
 kernel_rfl
def Ge:Lp:=⟨56,3730,N1,fun vs rs=>bT D6 D7 (goN kh (MK vs rs)) [aF.aq.exit 2],false⟩
theorem ML:Ge.Ok PG:=tl (ao.cons KO ao.nil) (hH AX aL.nil) (pa:=MK) V0
def adM:=uj [(50,QK)] [wa,Ge] 56 58 Tz
def nH (x:qp):=goN kh ⟨x.t4,x.out,x.i,0,x.s,x.c⟩
def ra (x:qp):aJ qp:=(cond (decide (x.i < (x.s.items.n:Int))) (cond (aC x.out.n) (cond ((nH x).by (aF.aq.exit 2)) (cond (aC (nH x).st.out.n) (.next ⟨(nH x).st.t4,(nH x).st.out,(ak ((nH x).st.i+1)),(nH x).st.s,(nH x).st.c⟩) .fail) .fail) .fail) (cond (aC x.out.n) (.out (aF.aq.exit 0) x) .fail))
theorem ZE (x:qp):adM (HH x) (HI x)=aJ.enc HH HI (ra x):=by
 unfold ra aC
 try simp only [aJ.bz]
 kernel_rfl
def TA:Lp:=⟨56,58,Tz,fun vs rs=>bT HH HI (goN ra (QL vs rs)) [aF.aq.exit 0],false⟩
theorem adN:TA.Ok PG:=tl (ao.cons KO ao.nil) (hH AX (hH ML aL.nil)) (pa:=QL) ZE
def xw (s:Show) (c:aE):=goN ra ⟨⟨0,(fun i=>⟨⟨⟨0,0,0,0,0⟩,⟨0,0,0,0,0⟩,⟨0,0,0,0,0⟩⟩,0,0,0⟩)⟩,⟨0,(fun i=>⟨⟨⟨0,0,0,0,0⟩,⟨0,0,0,0,0⟩,⟨0,0,0,0,0⟩⟩,0,0,0⟩)⟩,0,s,c⟩
def BX (s:Show) (c:aE):Option ((Sl bc)):=(cond ((xw s c).by (aF.aq.exit 0)) (some ((xw s c).st.out)) none)
theorem aiZ (s:Show) (c:aE):hJ [(50,QK)] [wa,Ge,TA] 56 [uB s,qF c] = (BX s c).map (fL 200 ew):=by
 unfold BX
 try simp only [aY]
 kernel_rfl
def KP:List KV->KR KV:=bd PG 56 (bg (fL 200 ew) fun vs=>BX (kL (v9 vs 0)) (gZ (v9 vs 1)))
theorem JQ:a9 PG 56 KP:=bM (ao.cons KO ao.nil) (hH AX (hH ML (hH adN aL.nil))) fun w=>aiZ (kL (g0 25 (w 0))) (gZ (g0 31 (w 1)))
end
end Go.Proofs.YtchbpckkmgcgkaaGreat.b
end
section
namespace Go.Proofs.YtchbpckkmgcgkaaGreat.b
open Go.K Go.K.hY
open Go.aF (aq)
theorem aoo {α:Type} {a b:Sl α} (h:bH a=bH b):a.n=b.n/\∀ i,i < b.n->a.get i=b.get i:=by
 have hn:a.n=b.n:=by
  have:=congrArg List.length h;rw [gg,gg] at this;exact this
 refine ⟨hn,fun i hi=>?_⟩;have h1:=Ep a i (by omega);rw [h,Ep b i hi] at h1;exact (qw h1).symm
theorem arZ (s:Show) (c:aE) (i k:Nat) (l:Sl aK) (t4 out:Sl bc) (hl:bH l=bH (C2 s c i k)) (hn:l.n<=6) (hs:out.n<=200000) :
  ∃ (Gf:Sl bc) (n:Int),goN jb ⟨t4,out,(i:Int),(k:Int),l,0,s,c⟩ = .out (.exit 4) ⟨t4,Gf,(i:Int),(k:Int),l,n,s,c⟩/\bH Gf=bH out++(ND s c i k).map BT/\Gf.n<=out.n+6:=by
 obtain ⟨l1,l2⟩:=aoo hl;obtain ⟨e,z,hz,rfl,Gf,n,rfl,h1,h2⟩:∃ e z,goN jb ⟨t4,out,(i:Int),(k:Int),l,0,s,c⟩ = .out e z/\(e = .exit 4/\∃ (Gf:Sl bc) (n:Int),z=⟨t4,Gf,(i:Int),(k:Int),l,n,s,c⟩/\bH Gf=bH out++(ND s c i k).map BT/\Gf.n<=out.n+6):=by
  refine bn (step:=jb) (fun j y=>∃ o:Sl bc,y=⟨t4,o,(i:Int),(k:Int),l,(j:Int),s,c⟩/\j<=l.n/\bH o=bH out++(List.range j).map (fun n=>BT (partAt s c i k n))/\o.n=out.n+j) _ l.n (by have:gd=1000000000000:=rfl; omega) (fun j y hj ⟨o,hy,h1,h2,h3⟩=>?_) ⟨out,rfl,cP _,by simp,rfl⟩;subst hy;have w1:ak ((j:Int)+1)=((j+1:Nat):Int):=by rw [aj (by omega) (by omega)]; omega
  have a1:ij 144 o.n 1=true:=vc (by omega) (by omega) (by omega) (.inl (by omega));unfold jb bj nm aC;by_cases h:(j:Int) < ((l.n:Nat):Int)
  ·simp only [w1,a1,aG,bU,ai,bD,av h,av (show (0:Int)<=(j:Int) by omega)]
   refine .inl ⟨_,rfl,by omega,_,rfl,by omega,?_,by show o.n+1=_; omega⟩;rw [ki,h2,QP,HM,<- HJ,l2 j (by omega)];rfl
  ·simp only [aG,ai,aw,az h]
   refine .inr ⟨_,_,rfl,rfl,rfl,o,(j:Int),rfl,?_,by omega⟩;rw [h2,show j=(C2 s c i k).n by omega];unfold ND;rw [List.map_map];rfl
 exact ⟨Gf,n,hz,h1,h2⟩
theorem apN (s:Show) (c:aE) (h8:S8 s) (hc:mC c) (i:Nat) (hi:i < s.items.n) (hx:abp (s.items.get i)) (ht:(s.items.get i).bf.n<=64) (ha:dw s c=some 0) (t4 out:Sl bc) (hs:out.n<=150000) :
  ∃ (Gf:Sl bc) (k:Int),goN kh ⟨t4,out,(i:Int),0,s,c⟩ = .out (.exit 2) ⟨t4,Gf,(i:Int),k,s,c⟩/\bH Gf=bH out++(Jm s c i).map BT/\Gf.n<=out.n+384:=by
 obtain ⟨e,z,hz,rfl,Gf,k,rfl,h1,h2⟩:∃ e z,goN kh ⟨t4,out,(i:Int),0,s,c⟩ = .out e z/\(e = .exit 2/\∃ (Gf:Sl bc) (k:Int),z=⟨t4,Gf,(i:Int),k,s,c⟩/\bH Gf=bH out++(Jm s c i).map BT/\Gf.n<=out.n+384):=by
  refine bn (step:=kh) (fun j y=>∃ o:Sl bc,y=⟨t4,o,(i:Int),(j:Int),s,c⟩/\j<=(s.items.get i).bf.n/\bH o=bH out++((List.range j).flatMap (ND s c i)).map BT/\o.n<=out.n+6 * j) _ (s.items.get i).bf.n (by have:gd=1000000000000:=rfl; omega) (fun j y hj ⟨o,hy,h1,h2,h3⟩=>?_) ⟨out,rfl,cP _,by simp,by omega⟩;subst hy;have w1:ak ((j:Int)+1)=((j+1:Nat):Int):=by rw [aj (by omega) (by omega)]; omega
  unfold kh bj aC;by_cases h:(j:Int) < (((s.items.get i).bf.n:Nat):Int)
  ·obtain ⟨r,hr,Ip⟩:=awY s c i j hi (by omega) hc hx h8
   have hpl:bH r=bH (C2 s c i j):=by rw [Ip,akL ha hi (by omega)]
   have hr6:r.n<=6:=by
    obtain ⟨q,hq,hq6⟩:=aeJ s c i j hi (by omega) hx.ok;have:C2 s c i j=q:=by unfold C2; rw [hq]; rfl
    rw [(aoo hpl).1,this];exact hq6
   have e0:CH ⟨t4,o,(i:Int),(j:Int),s,c⟩=some r:=hr;obtain ⟨o',n,g1,g2,g3⟩:=arZ s c i j r t4 o hpl hr6 (by omega);have e1:iE ⟨t4,o,(i:Int),(j:Int),s,c⟩ = .out (.exit 4) ⟨t4,o',(i:Int),(j:Int),r,n,s,c⟩:=by
    unfold iE;rw [e0];exact g1
   simp only [e0,e1,aJ.kO,aJ.lG,gj,mK,w1,aG,bU,bx,ai,bD,av h,av (show (0:Int)<=(i:Int) by omega),av (show (i:Int) < ((s.items.n:Nat):Int) by omega)];refine .inl ⟨_,rfl,by omega,o',rfl,by omega,?_,by omega⟩;rw [g2,h2,IM,HM,HJ]
  ·simp only [aG,bU,ai,aw,bD,az h,av (show (0:Int)<=(i:Int) by omega),av (show (i:Int) < ((s.items.n:Nat):Int) by omega)]
   refine .inr ⟨_,_,rfl,rfl,rfl,o,(j:Int),rfl,?_,by omega⟩;rw [h2,show j=(s.items.get i).bf.n by omega];rfl
 exact ⟨Gf,k,hz,h1,h2⟩
theorem at6 (s:Show) (c:aE) (h8:S8 s) (ha:dw s c=some 0):∃ F,BX s c=some F/\bH F=(jc s c).map BT/\F.n<=98304:=by
 obtain ⟨hc,hm⟩:=IZ ha;obtain ⟨⟨hs1,_⟩,_⟩:=(aeK s c).elim fun e h=>h.2 (qw (h.1.symm.trans ha));obtain ⟨e,z,hz,rfl,h1,h2⟩:∃ e z,xw s c = .out e z/\(e = .exit 0/\bH z.out=(jc s c).map BT/\z.out.n<=98304):=by
  unfold xw;refine bn (step:=ra) (fun j y=>∃ (t4 o:Sl bc),y=⟨t4,o,(j:Int),s,c⟩/\j<=s.items.n/\bH o=((List.range j).flatMap (Jm s c)).map BT/\o.n<=384 * j) _ s.items.n (by have:gd=1000000000000:=rfl; omega) (fun j y hj ⟨t4,o,hy,h1,h2,h3⟩=>?_) ⟨_,_,rfl,cP _,rfl,aW _⟩;subst hy;have w1:ak ((j:Int)+1)=((j+1:Nat):Int):=by rw [aj (by omega) (by omega)]; omega
  unfold ra aC;by_cases h:(j:Int) < ((s.items.n:Nat):Int)
  ·obtain ⟨o',k,g1,g2,g3⟩:=apN s c h8 hc j (by omega) (hm j (by omega)).full (hm j (by omega)).t64 ha t4 o (by omega)
   have e0:nH ⟨t4,o,(j:Int),s,c⟩ = .out (.exit 2) ⟨t4,o',(j:Int),k,s,c⟩:=g1;simp only [e0,aJ.kO,aJ.lG,gj,mK,w1,aG,ai,av h];refine .inl ⟨_,rfl,by omega,t4,o',rfl,by omega,?_,by omega⟩;rw [g2,h2,IM,HM]
  ·simp only [aG,ai,aw,az h]
   refine .inr ⟨_,_,rfl,rfl,rfl,?_,by show o.n<=_; omega⟩;show bH o=_;rw [h2,show j=s.items.n by omega];rfl
 have b1:(xw s c).by (.exit 0)=true:=by rw [hz]; rfl
 have b2:(xw s c).st=z:=by rw [hz]; rfl
 refine ⟨z.out,?_,h1,h2⟩;unfold BX;rw [b1,b2,ai]
theorem auV {s:Show} {c:aE} {x y:Int} {l:Sl aU} (hl:bH l=ru x y (jc s c)) (hn:l.n<=98304):abO s l:=by
 refine ⟨hn,fun j hj=>QA (c:=c) (x:=x) (y:=y) (by rw [<- hl]; exact FN hj),fun j hj=>?_⟩;have hm:l.get j∈ru x y (jc s c):=by rw [<- hl]; exact FN hj
 obtain ⟨p,_,hp⟩:=List.mem_filterMap.1 hm;exact anZ hp
theorem xG.s8 {s s' : Show} (h:xG s s') (k:S8 s):S8 s':=by
 refine ⟨fun i hi=>?_,fun i hi=>?_,fun i hi=>?_⟩
 ·rw [h.n] at hi; rw [h.it i hi]; exact k.col i hi
 ·rw [h.n] at hi; rw [h.it i hi]; exact k.cA i hi
 ·rw [h.tn] at hi; rw [h.tx i hi]; exact k.tex i hi
def FOk (s:Show) (f:aU):Prop:=(0<=f.item/\f.item < (s.items.n:Int))/\(0<=f.u/\f.u<=255)/\0<=f.v/\f.v<=255
theorem xG.at7 {s s' : Show} (h:xG s s') (k:S8 s) (hl:sC s) (tG:sC s') {f:aU} (hf:FOk s f):jr s' f=jr s f:=by
 obtain ⟨h0,hu,hv⟩:=hf;have e1:=(abN hl k h0 hu hv).1;have e2:=(abN (f:=f) tG (h.s8 k) (by rw [h.n]; exact h0) hu hv).1;have hi:=(Qs (hl.2 (Int.toNat f.item) (by omega))).hi;have key:pY (s.items.get (Int.toNat f.item)).look s'.au f.u f.v=pY (s.items.get (Int.toNat f.item)).look s.au f.u f.v:=by
  unfold pY qY bj;rw [h.tn];by_cases c:(s.items.get (Int.toNat f.item)).look.iG < 0
  ·rw [av c]; rfl
  ·rw [h.tx (Int.toNat (s.items.get (Int.toNat f.item)).look.iG) (by omega)]
 unfold vt Ga bj at e1 e2;rw [h.n,h.item h0,key,e1] at e2;exact (qw e2).symm
theorem xG.avq {s s' : Show} (h:xG s s') (k:S8 s) (hl:sC s) (tG:sC s'):∀ (l:List aU) (g:Color),(∀ f∈l,FOk s f)->lz s' g l=lz s g l
 | [],_,_=>rfl
 | f::l,g,hf=>by
  show lz s' (lay (jr s' f) g) l=lz s (lay (jr s f) g) l;rw [h.at7 k hl tG (hf f (Kh ..))];exact h.avq k hl tG l _ fun q hq=>hf q (vV _ hq)
theorem xG.awZ {s s' : Show} (h:xG s s') (w:aU×Bool) (l:List aU) (n:Nat) (hf:∀ f∈l,FOk s f):si s' w l n=si s w l n:=by
 unfold si;refine NP fun b _=>List.filter_congr fun f hm=>?_;unfold zF xo;rw [h.Ai (hf f hm).1,h.bin (hf f hm).1]
theorem xG.color {s s' : Show} (h:xG s s') (k:S8 s) (hl:sC s) (tG:sC s') (l:List aU) (g:Color) (hf:∀ f∈l,FOk s f):sj s' l g=sj s l g:=by
 have hw:Go.Proofs.YtchbpckkmgcgkaaGreat.b.uE s' l=Go.Proofs.YtchbpckkmgcgkaaGreat.b.uE s l:=h.uE l _ fun f hm=>(hf f hm).1;unfold sj;rw [hw,h.awZ _ _ _ hf];have hg:cond (Go.Proofs.YtchbpckkmgcgkaaGreat.b.uE s l).2 (jr s' (Go.Proofs.YtchbpckkmgcgkaaGreat.b.uE s l).1) g=cond (Go.Proofs.YtchbpckkmgcgkaaGreat.b.uE s l).2 (jr s (Go.Proofs.YtchbpckkmgcgkaaGreat.b.uE s l).1) g:=by
  rcases WO s l with ⟨h1,_⟩ | ⟨h1,h2,_⟩
  ·rw [h1]; rfl
  ·rw [h1,ai,ai]
   exact h.at7 k hl tG (hf _ h2)
 rw [hg];refine h.avq k hl tG _ _ fun f hm=>?_;unfold si at hm;obtain ⟨b,_,hb⟩:=QQ.1 hm;exact hf f (List.mem_filter.1 hb).1
theorem aop {s:Show} {c:aE} {x y:Int} {f:aU} (hm:f∈ru x y (jc s c)):FOk s f:=by
 obtain ⟨p,_,hp⟩:=List.mem_filterMap.1 hm;exact ⟨QA hm,anZ hp⟩
end Go.Proofs.YtchbpckkmgcgkaaGreat.b
end
section
namespace Go.Proofs.YtchbpckkmgcgkaaGreat.b
open Go.K
noncomputable section
structure pj where
 t7:Int
 all:(Sl bc)
 y:Int
 s:Show
 c:aE
 ground:Color
 t6:Frame
 f:Frame
instance:Inhabited pj:=⟨by constructor<;>exact default⟩
def Gg (x:pj):List KV:=[.int .i64 x.t7,fL 200 ew x.all,.int .i64 x.y]
def Gh (x:pj):List (List KV):=[sP x.s,wL x.c,Fz x.ground,FZ x.t6,FZ x.f]
def N3 (vs:List KV) (rs:List (List KV)):pj:=⟨intOf (v9 vs 0),fg eQ (v9 vs 1),intOf (v9 vs 2),sQ (r9 rs 0),wM (r9 rs 1),FB (r9 rs 2),F1 (r9 rs 3),F1 (r9 rs 4)⟩
def QM:aQ:=⟨[(7,w9 i9),(9,w9 (n9 200)),(11,w9 i9)],[(3,[n9 111,n9 114],1),(4,[i9,i9,i9,i9,i9,i9,i9,i9,i9,i9,i9,i9,i9,i9,i9,i9],1),(5,[u9,u9,u9,u9],1),(6,[i9,i9,.aZ 33,.aZ 3,.aZ 3,.aZ 3],1),(10,[i9,i9,.aZ 33,.aZ 3,.aZ 3,.aZ 3],1)],[(3,0,0),(4,1,0),(5,2,0),(6,3,0),(10,4,0)]⟩
structure jh where
 t7:Int
 all:(Sl bc)
 y:Int
 x:Int
 s:Show
 c:aE
 ground:Color
 t6:Frame
 f:Frame
instance:Inhabited jh:=⟨by constructor<;>exact default⟩
def CI (x:jh):List KV:=[.int .i64 x.t7,fL 200 ew x.all,.int .i64 x.y,.int .i64 x.x]
def CJ (x:jh):List (List KV):=[sP x.s,wL x.c,Fz x.ground,FZ x.t6,FZ x.f]
def Ke (vs:List KV) (rs:List (List KV)):jh:=⟨intOf (v9 vs 0),fg eQ (v9 vs 1),intOf (v9 vs 2),intOf (v9 vs 3),sQ (r9 rs 0),wM (r9 rs 1),FB (r9 rs 2),F1 (r9 rs 3),F1 (r9 rs 4)⟩
def MM:aQ:=⟨[(7,w9 i9),(9,w9 (n9 200)),(11,w9 i9),(12,w9 i9)],[(3,[n9 111,n9 114],1),(4,[i9,i9,i9,i9,i9,i9,i9,i9,i9,i9,i9,i9,i9,i9,i9,i9],1),(5,[u9,u9,u9,u9],1),(6,[i9,i9,.aZ 33,.aZ 3,.aZ 3,.aZ 3],1),(10,[i9,i9,.aZ 33,.aZ 3,.aZ 3,.aZ 3],1)],[(3,0,0),(4,1,0),(5,2,0),(6,3,0),(10,4,0)]⟩
def Xt:=uj [(60,Gb),(58,AP),(55,WT),(56,KP),(49,KF)] [] 23 32402 MM
def vu (x:jh):=Hw x.s x.all x.x x.y
def mH (x:jh):=xH x.s ((vu x).getD default)
def pk (x:jh):=ud x.s ((vu x).getD default) x.ground
def jv (x:jh):aJ jh:=(cond (decide (x.x < x.c.w)) (cond (vu x).isSome (cond (mH x).isSome (cond (!((mH x).getD default).snd) (cond (pk x).isSome (cond (nm 4 x.f.color.n 1) (cond (nm 8 x.f.depth.n 1) (cond (nm 8 x.f.item.n 1) (cond (nm 8 x.f.cl.n 1) (cond (cond (cond (cond (cond (cond (cond (cond (aC (x.f.cl.n+1)) (aC (x.f.item.n+1)) false) (aC (x.f.depth.n+1)) false) (aC (x.f.color.n+1)) false) (aC x.t6.cl.n) false) (aC x.t6.item.n) false) (aC x.t6.depth.n) false) (aC x.t6.color.n) false) (.next ⟨x.t7,x.all,x.y,(ak (x.x+1)),x.s,x.c,x.ground,x.t6,⟨x.f.w,x.f.h,(x.f.color.push ((pk x).getD default)),(x.f.depth.push (-(2048:Int))),(x.f.item.push (-(1:Int))),(x.f.cl.push (-(1:Int)))⟩⟩) .fail) .fail) .fail) .fail) .fail) .fail) (cond (pk x).isSome (cond (nm 4 x.f.color.n 1) (cond (nm 8 x.f.depth.n 1) (cond (nm 8 x.f.item.n 1) (cond (nm 8 x.f.cl.n 1) (cond (cond (cond (cond (cond (cond (cond (cond (aC (x.f.cl.n+1)) (aC (x.f.item.n+1)) false) (aC (x.f.depth.n+1)) false) (aC (x.f.color.n+1)) false) (aC x.t6.cl.n) false) (aC x.t6.item.n) false) (aC x.t6.depth.n) false) (aC x.t6.color.n) false) (.next ⟨x.t7,x.all,x.y,(ak (x.x+1)),x.s,x.c,x.ground,x.t6,⟨x.f.w,x.f.h,(x.f.color.push ((pk x).getD default)),(x.f.depth.push ((mH x).getD default).fst.d),(x.f.item.push ((mH x).getD default).fst.item),(x.f.cl.push ((mH x).getD default).fst.cl)⟩⟩) .fail) .fail) .fail) .fail) .fail) .fail)) .fail) .fail) (cond (cond (cond (cond (cond (cond (cond (cond (aC x.f.cl.n) (aC x.f.item.n) false) (aC x.f.depth.n) false) (aC x.f.color.n) false) (aC x.t6.cl.n) false) (aC x.t6.item.n) false) (aC x.t6.depth.n) false) (aC x.t6.color.n) false) (.out (aF.aq.exit 2) x) .fail))
theorem TT (x:jh):Xt (CI x) (CJ x)=aJ.enc CI CJ (jv x):=by
 unfold jv nm aC
 try simp only [aJ.bz,aeF,acH]
 kernel_rfl
def D8:Lp:=⟨23,32402,MM,fun vs rs=>bT CI CJ (goN jv (Ke vs rs)) [aF.aq.exit 2],false⟩
theorem Kf:D8.Ok PG:=tl (ao.cons Gc (ao.cons xq (ao.cons SI (ao.cons JQ (ao.cons JJ ao.nil))))) aL.nil (pa:=Ke) TT
def abS:=uj [(60,Gb),(58,AP),(55,WT),(56,KP),(49,KF)] [D8] 23 506 QM
def dt (x:pj):=goN jv ⟨x.t7,x.all,x.y,0,x.s,x.c,x.ground,x.t6,x.f⟩
def qe (x:pj):aJ pj:=(cond (decide (x.y < x.c.h)) (cond (cond (cond (cond (cond (cond (cond (cond (aC x.f.cl.n) (aC x.f.item.n) false) (aC x.f.depth.n) false) (aC x.f.color.n) false) (aC x.t6.cl.n) false) (aC x.t6.item.n) false) (aC x.t6.depth.n) false) (aC x.t6.color.n) false) (cond ((dt x).by (aF.aq.exit 2)) (cond (cond (cond (cond (cond (cond (cond (cond (aC (dt x).st.f.cl.n) (aC (dt x).st.f.item.n) false) (aC (dt x).st.f.depth.n) false) (aC (dt x).st.f.color.n) false) (aC (dt x).st.t6.cl.n) false) (aC (dt x).st.t6.item.n) false) (aC (dt x).st.t6.depth.n) false) (aC (dt x).st.t6.color.n) false) (.next ⟨(dt x).st.t7,(dt x).st.all,(ak ((dt x).st.y+1)),(dt x).st.s,(dt x).st.c,(dt x).st.ground,(dt x).st.t6,(dt x).st.f⟩) .fail) .fail) .fail) (cond (cond (cond (cond (cond (cond (cond (cond (aC x.f.cl.n) (aC x.f.item.n) false) (aC x.f.depth.n) false) (aC x.f.color.n) false) (aC x.t6.cl.n) false) (aC x.t6.item.n) false) (aC x.t6.depth.n) false) (aC x.t6.color.n) false) (.out (aF.aq.exit 0) x) .fail))
theorem Xu (x:pj):abS (Gg x) (Gh x)=aJ.enc Gg Gh (qe x):=by
 unfold qe aC
 try simp only [aJ.bz]
 kernel_rfl
def QN:Lp:=⟨23,506,QM,fun vs rs=>bT Gg Gh (goN qe (N3 vs rs)) [aF.aq.exit 0],false⟩
theorem abT:QN.Ok PG:=tl (ao.cons Gc (ao.cons xq (ao.cons SI (ao.cons JQ (ao.cons JJ ao.nil))))) (hH Kf aL.nil) (pa:=N3) Xu
def AY (s:Show) (c:aE) (ground:Color):=BN s c
def MN (s:Show) (c:aE) (ground:Color):=BX s c
def xx (s:Show) (c:aE) (ground:Color):=goN qe ⟨0,((MN s c ground).getD default),0,s,c,ground,⟨0,0,⟨0,(fun i=>⟨0,0,0,0⟩)⟩,⟨0,(fun i=>0)⟩,⟨0,(fun i=>0)⟩,⟨0,(fun i=>0)⟩⟩,⟨c.w,c.h,⟨0,(fun i=>⟨0,0,0,0⟩)⟩,⟨0,(fun i=>0)⟩,⟨0,(fun i=>0)⟩,⟨0,(fun i=>0)⟩⟩⟩
def vv (s:Show) (c:aE) (ground:Color):Option (Frame×Int):=(cond (AY s c ground).isSome (cond (((AY s c ground).getD default) != 0) (some (⟨0,0,⟨0,(fun i=>⟨0,0,0,0⟩)⟩,⟨0,(fun i=>0)⟩,⟨0,(fun i=>0)⟩,⟨0,(fun i=>0)⟩⟩,((AY s c ground).getD default))) (cond (MN s c ground).isSome (cond ((xx s c ground).by (aF.aq.exit 0)) (some ((xx s c ground).st.f,0)) none) none)) none)
theorem ai0 (s:Show) (c:aE) (ground:Color):hJ [(60,Gb),(58,AP),(55,WT),(56,KP),(49,KF)] [D8,QN] 23 [uB s,qF c,fH ground] = (vv s c ground).map (fun (r:Frame×Int)=>KV.lP [WK r.1,(kI .i64) r.2]):=by
 unfold vv
 try simp only [aY]
 kernel_rfl
def abU:List KV->KR KV:=bd PG 23 (bg (fun (r:Frame×Int)=>KV.lP [WK r.1,(kI .i64) r.2]) fun vs=>vv (kL (v9 vs 0)) (gZ (v9 vs 1)) (jA (v9 vs 2)))
theorem afM:a9 PG 23 abU:=bM (ao.cons Gc (ao.cons xq (ao.cons SI (ao.cons JQ (ao.cons JJ ao.nil))))) (hH Kf (hH abT aL.nil)) fun w=>ai0 (kL (g0 25 (w 0))) (gZ (g0 31 (w 1))) (jA (g0 33 (w 2)))
end
end Go.Proofs.YtchbpckkmgcgkaaGreat.b
end
section
namespace Go.Proofs.YtchbpckkmgcgkaaGreat.b
open Go.K Go.K.hY
open Go.aF (aq)
def abV (s:Show) (c:aE) (x y:Int):List aU:=ru x y (jc s c)
structure ae1 (s:Show) (c:aE) (ground:Color) (w:Nat) (f:Frame) (n:Nat):Prop where
 fw:f.w=c.w
 fh:f.h=c.h
 nc:f.color.n=n
 nd:f.depth.n=n
 ni:f.item.n=n
 nt:f.cl.n=n
 col:∀ q,q < n->f.color.get q=sj s (abV s c ((q % w:Nat):Int) ((q / w:Nat):Int)) ground
 dep:∀ q,q < n->f.depth.get q=(xp s c ((q % w:Nat):Int) ((q / w:Nat):Int)).1.d
 it:∀ q,q < n->f.item.get q=(xp s c ((q % w:Nat):Int) ((q / w:Nat):Int)).1.item
 cl:∀ q,q < n->f.cl.get q=(xp s c ((q % w:Nat):Int) ((q / w:Nat):Int)).1.cl
structure at8 (s:Show) (c:aE) (F:Sl bc) (ground:Color):Prop where
 h8:S8 s
 hg:U8 ground
 ha:dw s c=some 0
 hF:bH F=(jc s c).map BT
 hn:F.n<=98304
theorem av4 {s:Show} {c:aE} {F:Sl bc} {ground:Color} (k:at8 s c F ground) {x y:Nat} (hx:x < 64) (hy:y < 64):∃ l,Hw s F (x:Int) (y:Int)=some l/\xH s l=some (mh s (abV s c x y))/\ud s l ground=some (sj s (abV s c x y) ground):=by
 obtain ⟨l,h1,h2⟩:=awX s c (x:Int) (y:Int) F k.ha ⟨⟨by omega,by omega⟩,by omega,by omega⟩ k.hn k.hF;have hln:l.n<=98304:=by
  have h3:=congrArg List.length h2;rw [gg] at h3;have h4:=atB (x:Int) (y:Int) (jc s c);have h5:=congrArg List.length k.hF;rw [gg,List.length_map] at h5;have:=k.hn;omega
 have cq:=auV h2 hln;refine ⟨l,h1,?_,?_⟩
 ·rw [aiX s l cq.n cq.it,h2]; rfl
 ·rw [apH s l ground (adE (KC k.ha)) k.h8 cq k.hg,h2]; rfl
theorem av5 {s:Show} {c:aE} {F:Sl bc} {ground:Color} (k:at8 s c F ground) (w yy:Nat) (hcw:c.w=(w:Int)) (hw:w<=64) (hy:yy < 64) (t7:Int) (t6 f:Frame) (hf:ae1 s c ground w f (yy * w)) :
  ∃ (x:Int) (f' : Frame),goN jv ⟨t7,F,(yy:Int),0,s,c,ground,t6,f⟩ = .out (.exit 2) ⟨t7,F,(yy:Int),x,s,c,ground,t6,f'⟩/\ae1 s c ground w f' ((yy+1) * w):=by
 obtain ⟨e,z,hz,rfl,x,f',rfl,h⟩:∃ e z,goN jv ⟨t7,F,(yy:Int),0,s,c,ground,t6,f⟩ = .out e z/\(e = .exit 2/\∃ (x:Int) (f' : Frame),z=⟨t7,F,(yy:Int),x,s,c,ground,t6,f'⟩/\ae1 s c ground w f' ((yy+1) * w)):=by
  refine bn (step:=jv) (fun j z=>∃ g,z=⟨t7,F,(yy:Int),(j:Int),s,c,ground,t6,g⟩/\j<=w/\ae1 s c ground w g (yy * w+j)) _ w (by have:gd=1000000000000:=rfl; omega) (fun j z hj ⟨g,hz,hjw,f12⟩=>?_) ⟨f,rfl,cP _,hf⟩;subst hz;have w1:ak ((j:Int)+1)=((j+1:Nat):Int):=by rw [aj (by omega) (by omega)]; omega
  have hmul:yy * w<=64 * 64:=Nat.mul_le_mul (by omega) hw;have a1:ij 4 g.color.n 1=true:=eZ (by omega) (by have:=f12.nc; omega) (by omega);have a2:ij 8 g.depth.n 1=true:=eZ (by omega) (by have:=f12.nd; omega) (by omega);have a3:ij 8 g.item.n 1=true:=eZ (by omega) (by have:=f12.ni; omega) (by omega);have a4:ij 8 g.cl.n 1=true:=eZ (by omega) (by have:=f12.nt; omega) (by omega);unfold jv nm aC;by_cases h:(j:Int) < c.w
  ·have eH:j < w:=by omega
   obtain ⟨l,q1,q2,q3⟩:=av4 k (x:=j) (y:=yy) (by omega) hy;have e0:vu ⟨t7,F,(yy:Int),(j:Int),s,c,ground,t6,g⟩=some l:=q1;have e1:mH ⟨t7,F,(yy:Int),(j:Int),s,c,ground,t6,g⟩=some (mh s (abV s c j yy)):=by unfold mH; rw [e0]; exact q2
   have e2:pk ⟨t7,F,(yy:Int),(j:Int),s,c,ground,t6,g⟩=some (sj s (abV s c j yy) ground):=by unfold pk; rw [e0]; exact q3
   have m1:(yy * w+j) % w=j:=by rw [Nat.mul_comm,Nat.mul_add_mod,Nat.mod_eq_of_lt eH]
   have m2:(yy * w+j) / w=yy:=by rw [Nat.mul_comm,Nat.mul_add_div (by omega),Nat.div_eq_of_lt eH,zh]
   obtain ⟨m3,m4,n1,n2,n3,n4,p1,p2,p3,p4⟩:=f12;simp only [e0,e1,e2,w1,a1,a2,a3,a4,aG,ai,bD,bx,bq,av h];have hb:mh s (abV s c j yy)=cond (xp s c j yy).2 (xp s c j yy) (aqK,false):=rfl;have go:∀ (d it tr:Int),d=(xp s c j yy).1.d->it=(xp s c j yy).1.item->tr=(xp s c j yy).1.cl->ae1 s c ground w ⟨g.w,g.h,g.color.push (sj s (abV s c j yy) ground),g.depth.push d,g.item.push it,g.cl.push tr⟩ (yy * w+(j+1)):=fun d it tr r1 r2 r3=>
    ⟨m3,m4,by show g.color.n+1=_; omega,by show g.depth.n+1=_; omega,by show g.item.n+1=_; omega,by show g.cl.n+1=_; omega,
     Ey (n:=yy * w+j) n1 p1 (by rw [m1,m2]),Ey (n:=yy * w+j) n2 p2 (by rw [m1,m2]; exact r1),Ey (n:=yy * w+j) n3 p3 (by rw [m1,m2]; exact r2),Ey (n:=yy * w+j) n4 p4 (by rw [m1,m2]; exact r3)⟩
   rw [hb];cases hw2:(xp s c j yy).2 with
   | false=>
    have RG:(xp s c j yy).1=agd:=by
     rcases WO s (abV s c j yy) with ⟨_,h2,_⟩ | ⟨h2,_⟩
     ·exact h2
     ·have:(xp s c j yy).2=true:=h2
      rw [hw2] at this; simp at this
    simp only [aw,rK,ai];exact .inl ⟨_,rfl,eH,_,rfl,by omega,go _ _ _ (by rw [RG]; rfl) (by rw [RG]; rfl) (by rw [RG]; rfl)⟩
   | true=>
    simp only [ai,hw2,jk,aw];exact .inl ⟨_,rfl,eH,_,rfl,by omega,go _ _ _ rfl rfl rfl⟩
  ·simp only [aG,ai,aw,az h]
   refine .inr ⟨_,_,rfl,rfl,rfl,(j:Int),g,rfl,?_⟩;rw [Nat.add_mul,Nat.one_mul];have:j=w:=by omega
   rwa [this] at f12
 exact ⟨x,f',hz,h⟩
theorem at9 (s:Show) (c:aE) (ground:Color) (h8:S8 s) (hg:U8 ground) (ha:dw s c=some 0) (hav:Dx s c 0):∃ f,vv s c ground=some (f,0)/\ae1 s c ground (Int.toNat c.w) f (Int.toNat c.h * Int.toNat c.w):=by
 obtain ⟨⟨⟨_,_,_,⟨cw1,cw2⟩,ch1,ch2⟩,_⟩,_⟩:=IZ ha;obtain ⟨F,hF,hFl,hFn⟩:=at6 s c h8 ha;have k:at8 s c F ground:=⟨h8,hg,ha,hFl,hFn⟩
 obtain ⟨e,h1,h2⟩:=aol s c;have he:=h2.one hav;subst he;have e0:AY s c ground=some 0:=h1;have e1:MN s c ground=some F:=hF;obtain ⟨e,z,hz,rfl,hq⟩:∃ e z,xx s c ground = .out e z/\(e = .exit 0/\ae1 s c ground (Int.toNat c.w) z.f (Int.toNat c.h * Int.toNat c.w)):=by
  unfold xx;rw [e1];refine bn (step:=qe) (fun j z=>∃ t7 t6 g,z=⟨t7,F,(j:Int),s,c,ground,t6,g⟩/\j<=Int.toNat c.h/\ae1 s c ground (Int.toNat c.w) g (j * Int.toNat c.w)) _ (Int.toNat c.h) (by have:gd=1000000000000:=rfl; omega) (fun j z hj ⟨t7,t6,g,hz,hjh,f7⟩=>?_) ⟨_,_,_,rfl,cP _,by rw [Nat.zero_mul]; exact ⟨rfl,rfl,rfl,rfl,rfl,rfl,fun q hq=>absurd hq (mJ _),fun q hq=>absurd hq (mJ _),fun q hq=>absurd hq (mJ _),fun q hq=>absurd hq (mJ _)⟩⟩;subst hz;have w1:ak ((j:Int)+1)=((j+1:Nat):Int):=by rw [aj (by omega) (by omega)]; omega
  unfold qe aC;by_cases h:(j:Int) < c.h
  ·obtain ⟨x,f',g1,g2⟩:=av5 k (Int.toNat c.w) j (by omega) (by omega) (by omega) t7 t6 g f7
   have e2:dt ⟨t7,F,(j:Int),s,c,ground,t6,g⟩ = .out (.exit 2) ⟨t7,F,(j:Int),x,s,c,ground,t6,f'⟩:=g1;simp only [e2,aJ.kO,aJ.lG,gj,mK,w1,aG,ai,av h];exact .inl ⟨_,rfl,by omega,t7,t6,f',rfl,by omega,g2⟩
  ·simp only [aG,ai,aw,az h]
   refine .inr ⟨_,_,rfl,rfl,rfl,?_⟩;have:j=Int.toNat c.h:=by omega
   rwa [this] at f7
 have b1:(xx s c ground).by (.exit 0)=true:=by rw [hz]; rfl
 have b2:(xx s c ground).st=z:=by rw [hz]; rfl
 refine ⟨z.f,?_,hq⟩;unfold vv;simp only [e0,e1,b1,b2,bx,bq,ai,jO,aw]
end Go.Proofs.YtchbpckkmgcgkaaGreat.b
end
section
namespace Go.Proofs.YtchbpckkmgcgkaaGreat.b
open Go.K
noncomputable section
def D9:List (Nat×(List KV->KR KV)):=[(21,Tf),(24,Qq),(23,abU),(22,Vx),(9,aeW),(8,aa9)]
def Ea:List Lp:=[]
theorem V7:ao PG D9:=(ao.cons Zm (ao.cons Xm (ao.cons afM (ao.cons abl (ao.cons aiF (ao.cons afk ao.nil))))))
theorem V8:aL PG Ea:=aL.nil
def CL (s:Show) (c:aE) (ground:Color):=vg s
def wb (s:Show) (c:aE) (ground:Color):=Ex s
def sD (s:Show) (c:aE) (ground:Color):=rI ((wb s c ground).getD default) c ground
def wc (s:Show) (c:aE) (ground:Color):=vv s c ground
def wg (s:Show) (c:aE) (ground:Color):=tB ((sD s c ground).getD default).fst ((wc s c ground).getD default).fst
def wh (s:Show) (c:aE) (ground:Color):=uK ((wb s c ground).getD default) s
def zG (s:Show) (c:aE) (ground:Color):Option (Bool):=(cond (CL s c ground).isSome (cond ((CL s c ground).getD default) (some (true)) (cond (wb s c ground).isSome (cond (sD s c ground).isSome (cond (wc s c ground).isSome (cond (wg s c ground).isSome (cond ((wg s c ground).getD default) (cond (((sD s c ground).getD default).snd==((wc s c ground).getD default).snd) (cond (wh s c ground).isSome (some (((wh s c ground).getD default))) none) (some (false))) (some (false))) none) none) none) none)) none)
theorem Xv (s:Show) (c:aE) (ground:Color):zW PG (iK PG D9 Ea) 9 9 4 [uB s,qF c,fH ground] = (zG s c ground).map kB:=by
 unfold zG
 try simp only [aY]
 kernel_rfl
theorem V9 (w:Nat->KV):Ac PG [25,31,33] w 0 = [uB (kL (g0 25 (w 0))),qF (gZ (g0 31 (w 1))),fH (jA (g0 33 (w 2)))]:=by kernel_rfl
end
end Go.Proofs.YtchbpckkmgcgkaaGreat.b
end
section
namespace Go.Proofs.YtchbpckkmgcgkaaGreat.b
open Go.K Go.K.hY
open Go.aF (aq)
theorem ar0 {s:Show} {c:aE} (ha:dw s c=some 0):Vg c/\∃ r,xD s c=some r/\F8 s c r:=by
 obtain ⟨hs,hc⟩:=(aeK s c).elim fun e h=>h.2 (qw (h.1.symm.trans ha));obtain ⟨r,hr,h3,h4,h5⟩:=arD s c hs;exact ⟨hc,r,hr,⟨adE (KC ha),h3,h4,h5⟩⟩
theorem abW (s:Show) (c:aE) (ground:Color) (h8:S8 s) (hg:U8 ground):zG s c ground=some true:=by
 obtain ⟨gr,hgr⟩:=OD (aod s);have e0:CL s c ground=some gr:=hgr;unfold zG;simp only [e0,bx,bq,ai];cases gr with
 | true=>rfl
 | false=>
 rw [aw];have hs:=al0 hgr;obtain ⟨own,ho,B9⟩:=apy hs;have e1:wb s c ground=some own:=ho;have e5:wh s c ground=some true:=by unfold wh; rw [e1]; exact arI hs B9
 have key:∃ a b e,rI own c ground=some (a,e)/\vv s c ground=some (b,e)/\atC a b:=by
  obtain ⟨e,h1,h2⟩:=abt own c;obtain ⟨e',k1,k2⟩:=aol s c;have hee:=h2.one (B9.asked k2);subst hee;by_cases he:e=0
  ·subst he
   obtain ⟨hc,r,hr,hk⟩:=ar0 h1;obtain ⟨f,f1,f2⟩:=aoc own c r ground hk hr hc h1;obtain ⟨g,g1,g2⟩:=at9 s c ground h8 hg (akN k2) k2;obtain ⟨_,_,_,⟨cw1,cw2⟩,ch1,ch2⟩:=hc;refine ⟨f,g,0,f1,g1,?_⟩;have hL:jc own c=jc s c:=B9.all c;have hW:∀ x y,xp own c x y=xp s c x y:=fun x y=>by
    unfold xp;rw [hL];exact B9.uE _ _ fun f hm=>(aop hm).1
   have hC:∀ x y,aiR r ground x y=sj s (abV s c x y) ground:=fun x y=>by
    rw [aoe own c r ground x y hk];have:sj own (ru x y (jc own c)) ground=sj s (ru x y (jc s c)) ground:=by
     rw [hL];exact B9.color h8 (adE (KC (akN k2))) hk.looks _ _ fun f hm=>aop hm
    exact this
   have hm:Int.toNat c.h * Int.toNat c.w<=64 * 64:=Nat.mul_le_mul (by omega) (by omega);have a1:=f2.nc; have a2:=f2.nd; have a3:=f2.ni; have a4:=f2.nt;have b1:=g2.nc; have b2:=g2.nd; have b3:=g2.ni; have b4:=g2.nt;exact ⟨f2.fw.trans g2.fw.symm,f2.fh.trans g2.fh.symm,by omega,by omega,fun q hq=>by rw [f2.col q (by omega),g2.col q (by omega),hC],
    by omega,by omega,fun q hq=>by rw [f2.dep q (by omega),g2.dep q (by omega),hW],
    by omega,by omega,fun q hq=>by rw [f2.it q (by omega),g2.it q (by omega),hW],
    by omega,by omega,fun q hq=>by rw [f2.cl q (by omega),g2.cl q (by omega),hW]⟩
  ·have hb:(e != (0:Int))=true:=by simpa using he
   have i0:xl own c ground=some e:=h1;have j0:AY s c ground=some e:=k1;unfold rI vv;simp only [i0,j0,bx,bq,ai,hb];exact ⟨_,_,_,rfl,rfl,rfl,rfl,rfl,cP _,fun i hi=>absurd hi (mJ _),rfl,cP _,fun i hi=>absurd hi (mJ _),rfl,cP _,fun i hi=>absurd hi (mJ _),rfl,cP _,fun i hi=>absurd hi (mJ _)⟩
 obtain ⟨a,b,e,h1,h2,h3⟩:=key;have e2:sD s c ground=some (a,e):=by unfold sD; rw [e1]; exact h1
 have e3:wc s c ground=some (b,e):=h2;have e4:wg s c ground=some true:=by unfold wg; rw [e2,e3]; exact apm h3
 simp only [e1,e2,e3,e4,e5,bx,bq,ai,QO]
end Go.Proofs.YtchbpckkmgcgkaaGreat.b
end
section
namespace Go.aF
open Go.RowKit Go.WideShapes Go.ChangeShapes
theorem aoq {H:Type} {enc:TypeId×Value->H} {P:Program} {f:Func} {s:ChangeSpec} {apart fresh handsOn again:Bool} {W W' : World} {args:Array Value} {v:Value} {ds gs:List (DataW H)} {before pa pv:List MemPlace}
  (whole:DataW.Whole enc P f.params.toList s.vars apart W args.toList ds gs before) (below:Below W.heap.size W W') (age:before=pa++pv)
  (res:∀ (b:Nat) (sp:Nat->Bool) (hd:Bool),DataW.TrodAll enc P W' b sp hd f.resultTypes.toList (v.resultList f.resultTypes.size) (s.fn H (ds++gs)).results [])
  (arg:∀ sp:Nat->Bool,(∀ p∈before,sp p.block=true)->DataW.TrodAll enc P W' 0 sp true f.params.toList args.toList (s.fn H (ds++gs)).args pa)
  (var:∀ sp:Nat->Bool,(∀ p∈before,sp p.block=true)->DataW.TrodVars enc P W' sp s.vars (s.fn H (ds++gs)).vars pv)
  (wide:∀ (j:Nat) (t:TypeId) (r:Value),f.resultTypes[j]? = some t->(v.resultList f.resultTypes.size)[j]? = some r->Value.okWide P W' .any 0 t r) :
  s.post enc P f apart fresh handsOn again W args v W':=by
 have lt:∀ p∈before,p.block < W.heap.size:=fun p hp=>whole.lt p hp;have jd:∀ p∈before,(fun b=>decide (b < W.heap.size)) p.block=true:=fun p hp=>by simpa using lt p hp
 refine ⟨ds,gs,before,[],pa,pv,whole,res _ _ _,arg _ jd,var _ jd,World.keptBut_mono (fun p hp=>⟨hp,?_⟩) (below.frame (·∈before)),fun _=>?_⟩
 ·rw [age,mI] at hp; exact Or.inr hp
 ·obtain ⟨_,_,_,_,_,fz,nd⟩:=whole
  refine ⟨wide,_,_,([]++pa)++pv,⟨[]++pa,pv,trodAll_append (arg _ (fun _ _=>rfl)) (res _ _ _),var _ (fun _ _=>rfl),rfl,fun b off hp=>?_,fun ha=>?_⟩,fun p hp _=>?_⟩
  ·have here:MemPlace.cell b off∈before:=by rw [age]; simpa using hp
   rw [below.frozen (lt _ here)];exact fz b off here
  ·have:=nd ha
   rw [age] at this;simpa using this
  ·rw [age]; simpa using hp
end Go.aF
end
section
namespace Go.K
open Go Go.aF Go.RowKit Go.WideShapes Go.ChangeShapes
section
variable {H:Type} {enc:TypeId×Value->H} {P:Program} {W W' : World}
theorem abX {base:Nat} {sp:Nat->Bool} {held:Bool} : ∀ {ts:List TypeId} {vs:List Value} {ds:List (DataW H)} {ps:List MemPlace},DataW.TrodAll enc P W base sp held ts vs ds ps->ds.length=ts.length
 | [],_,_,_,h=>by
  obtain ⟨rfl,rfl,rfl⟩:=trodAll_nil h;rfl
 | t::ts,vs,ds,ps,h=>by
  obtain ⟨v,vs1,d,ds1,a,b,rfl,rfl,rfl,_,h2⟩:=trodAll_cons h;simp [abX h2]
theorem adO {α:Type} {n:Nat} {l:List α} (h:l.length=n+1):∃ x xs,l=x::xs:=by
 cases l with
 | nil=>simp at h
 | cons x xs=>exact ⟨x,xs,rfl⟩
theorem Wa (hl:laidOutB P=true) (hb:Below W.heap.size W W') {sp:Nat->Bool} : ∀ {ts:List TypeId} {vs:List Value} {ds:List (DataW H)} {ps:List MemPlace},ts.all (fun t=>P.readableRec t&&Nat.blt t P.types.size)=true->
  DataW.TrodAll enc P W 0 (fun _=>true) true ts vs ds ps->(∀ x∈ps,x.block < W.heap.size)->(∀ x∈ps,sp x.block=true)->DataW.TrodAll enc P W' 0 sp true ts vs ds ps
 | [],_,_,_,_,h,_,_=>by
  obtain ⟨rfl,rfl,rfl⟩:=trodAll_nil h;exact trodAll_mk0
 | t::ts,vs,ds,ps,ht,h,bt,A9=>by
  obtain ⟨v,vs1,d,ds1,a,b,rfl,rfl,rfl,h1,h2⟩:=trodAll_cons h;simp only [List.all_cons,aD] at ht;obtain ⟨⟨hr,lD⟩,ht⟩:=ht;rw [bZ] at lD;refine ⟨a,b,WideElems.Trod_stays hl hr lD h1 (fun x hx=>hb.same (bt x (by simp [hx]))) (fun x hx=>A9 x (by simp [hx])),?_,rfl⟩;exact Wa hl hb ht h2 (fun x hx=>bt x (by simp [hx])) (fun x hx=>A9 x (by simp [hx]))
theorem ar2 {s:ChangeSpec} {f:Func} {apart fresh handsOn again:Bool} {args:Array Value} {ds gs:List (DataW H)} {before:List MemPlace} (hl:laidOutB P=true) (hts:f.params.toList.all (fun t=>P.readableRec t&&Nat.blt t P.types.size)=true)
  (aua:s.vars = []) (av6:(s.fn H ds).args=ds) (anh:(s.fn H ds).results = [.lit (.bool true)]) (hv:(s.fn H ds).vars = []) {t:TypeId} (hrt:f.resultTypes = #[t]) (hb:P.underlying t=some .bool)
  (hW:DataW.Whole enc P f.params.toList s.vars apart W args.toList ds gs before) (hg:Below W.heap.size W W'):s.post enc P f apart fresh handsOn again W args (.bool true) W':=by
 have hW':=hW;obtain ⟨p,q,hA,hV,avr,_,_⟩:=hW;rw [aua] at hV;obtain ⟨rfl,rfl⟩:=trodVars_none hV;rw [py] at avr;subst avr;have bt:∀ x∈before,x.block < W.heap.size:=fun x hx=>hW'.lt x (by simpa using hx);refine aF.aoq (pa:=before) (pv:=[]) hW' hg (by simp) (fun b sp hd=>?_) (fun sp A9=>?_) (fun sp A9=>?_) (ok_one hrt rfl (okWide_bool_mk hb _))
 ·rw [py,anh,hrt]
  exact trodAll_cons_mk (shut_bool hb _) trodAll_mk0
 ·rw [py,av6]
  exact Wa hl hg hts hA bt (fun x hx=>A9 x (by simpa using hx))
 ·rw [py,hv,aua]
  rfl
end
end Go.K
end
