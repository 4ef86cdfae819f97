/- Part of the proof of ImageFrags: the machine, shown to be the model's, and plain models. No conditions. -/
import Derived.Test.YtchbpckkmgcgkaaGreatJp
import Derived.Test.YtchbpckkmgcgkaaGreatIp
import Derived.Test.YtchbpckkmgcgkaaGreatHp
import Derived.Below
import Derived.ChangeSame
import Derived.ProofKit
import Derived.Test.YtchbpckkmgcgkaaGreatGp
import Derived.WideKeyArgs
set_option linter.unusedSimpArgs false
set_option linter.unusedVariables false
section
namespace Go.Proofs.YtchbpckkmgcgkaaGreat.b
open Go.K Go.K.iK
open Go.aE (aq)
theorem amc {a b p w m:Int} (ha:In a m) (hb:In b m) (hm:0<=m/\m<=32768) (hp:0<=p/\p<=w) (hw:1<=w/\w<=65536):pX a b p w=some (rP a b p w):=by
 have r:=aba (a:=a) (b:=b) hp hw.1;unfold In at *;have h:=mq (a:=b - a) (b:=p) (c:=65536) (d:=65536) (by omega) (by omega) (by omega);have e:BV a b p w=some ((b - a) * p / w):=by
  unfold BV;rw [aj (n:=b - a),aj (n:=(b - a) * p)];exact MK _ _ (by omega) (by omega)
 unfold pX;simp only [e,bj,bc,ai];unfold rP at r ⊢;rw [aj (by omega) (by omega)]
theorem adH {ax:Int} {a b:bM} (hn:256<=ax/\ax<=4096) (ha:mA a) (hb:mA b) (haz:a.p.z < ax) (hbz:ax<=b.p.z):pY ax a b=some (IU ax a b):=by
 obtain ⟨xa,ya,za,ua,va⟩:=id ha;obtain ⟨xb,yb,zb,ub,vb⟩:=id hb;unfold In at za zb;have hp:0<=ax - a.p.z/\ax - a.p.z<=b.p.z - a.p.z:=by omega
 have hw:1<=b.p.z - a.p.z/\b.p.z - a.p.z<=65536:=by omega
 have p1:ak (ax - a.p.z)=ax - a.p.z:=aj;have p2:ak (b.p.z - a.p.z)=b.p.z - a.p.z:=aj;have e0:KO ax a b=some (rP a.p.x b.p.x (ax - a.p.z) (b.p.z - a.p.z)):=by unfold KO; rw [p1,p2]; exact amc xa xb (by decide) hp hw
 have e1:KP ax a b=some (rP a.p.y b.p.y (ax - a.p.z) (b.p.z - a.p.z)):=by unfold KP; rw [p1,p2]; exact amc ya yb (by decide) hp hw
 have e2:KQ ax a b=some (rP a.u b.u (ax - a.p.z) (b.p.z - a.p.z)):=by unfold KQ; rw [p1,p2]; exact amc (m:=255) (a:=a.u) (b:=b.u) (by unfold In; omega) (by unfold In; omega) (by decide) hp hw
 have e3:KS ax a b=some (rP a.v b.v (ax - a.p.z) (b.p.z - a.p.z)):=by unfold KS; rw [p1,p2]; exact amc (m:=255) (a:=a.v) (b:=b.v) (by unfold In; omega) (by unfold In; omega) (by decide) hp hw
 unfold pY;simp only [e0,e1,e2,e3,bj,bc,ai];rfl
end Go.Proofs.YtchbpckkmgcgkaaGreat.b
end
section
namespace Go.Proofs.YtchbpckkmgcgkaaGreat.b
open Go.K
noncomputable section
structure cD where
 ax:Int
 t4:(Sl bn)
 l:(Sl bM)
 i:Int
 t:bn
instance:Inhabited cD:=⟨⟨default,default,default,default,default⟩⟩
def JQ (x:cD):List KV:=[.int .i64 x.ax,eZ 178 mo x.t4,eZ 177 pJ x.l,.int .i64 x.i]
def JR (x:cD):List (List KV):=[Zb x.t]
def TF (vs:List KV) (rs:List (List KV)):cD:=⟨intOf (v9 vs 0),fg oz (v9 vs 1),fg kP (v9 vs 2),intOf (v9 vs 3),Zc (r9 rs 0)⟩
def V9:aU:=⟨[(0,w9 i9),(4,w9 (n9 178)),(5,⟨false,[.bm 177]⟩),(6,w9 i9)],[(3,[i9,i9,i9,i9,i9,i9,i9,i9,i9,i9,i9,i9,i9,i9,i9],5)],[(3,0,0)]⟩
def afC:=vL [(165,SS)] [] 107 58 V9
def QR (x:cD):=pY x.ax x.t.e0 x.t.e0
def Hw (x:cD):=pY x.ax x.t.e0 x.t.e1
def Hx (x:cD):=pY x.ax x.t.e1 x.t.e0
def Hy (x:cD):=pY x.ax x.t.e0 x.t.e2
def Hz (x:cD):=pY x.ax x.t.e2 x.t.e0
def QS (x:cD):=pY x.ax x.t.e1 x.t.e1
def HA (x:cD):=pY x.ax x.t.e1 x.t.e2
def HB (x:cD):=pY x.ax x.t.e2 x.t.e1
def QT (x:cD):=pY x.ax x.t.e2 x.t.e2
def nq (x:cD) (aA bA:bM) (pA qA:(Option bM)):aK cD:=(cond (aR ((x.l.n+1)+1)) (.next ⟨x.ax,x.t4,((x.l.push aA).push (pA.getD default)),(ak (x.i+1)),x.t⟩) .fail)
def ns (x:cD) (aA bA:bM) (pA qA:(Option bM)):aK cD:=(cond (aR (x.l.n+1)) (.next ⟨x.ax,x.t4,(x.l.push aA),(ak (x.i+1)),x.t⟩) .fail)
def nt (x:cD) (aA bA:bM) (pA qA:(Option bM)):aK cD:=(cond (decide (aA.p.z >= x.ax)) (cond (decide (bA.p.z < x.ax)) (cond qA.isSome (cond (qH 40 (x.l.n+1) 1) (cond (aR ((x.l.n+1)+1)) (.next ⟨x.ax,x.t4,((x.l.push aA).push (qA.getD default)),(ak (x.i+1)),x.t⟩) .fail) .fail) .fail)
  (ns x aA bA pA qA))
  (ns x aA bA pA qA))
def nu (x:cD) (aA bA:bM) (pA qA:(Option bM)):aK cD:=(cond (aR (x.l.n+1)) (.next ⟨x.ax,x.t4,(x.l.push (pA.getD default)),(ak (x.i+1)),x.t⟩) .fail)
def nv (x:cD) (aA bA:bM) (pA qA:(Option bM)):aK cD:=(cond (decide (aA.p.z >= x.ax)) (cond (decide (bA.p.z < x.ax)) (cond qA.isSome (cond (qH 40 x.l.n 1) (cond (aR (x.l.n+1)) (.next ⟨x.ax,x.t4,(x.l.push (qA.getD default)),(ak (x.i+1)),x.t⟩) .fail) .fail) .fail) (cond (aR x.l.n) (.next ⟨x.ax,x.t4,x.l,(ak (x.i+1)),x.t⟩) .fail)) (cond (aR x.l.n) (.next ⟨x.ax,x.t4,x.l,(ak (x.i+1)),x.t⟩) .fail))
def gR (x:cD) (aA bA:bM) (pA qA:(Option bM)):aK cD:=(cond (decide (aA.p.z >= x.ax)) (cond (qH 40 x.l.n 1) (cond (decide (aA.p.z < x.ax)) (cond (decide (bA.p.z >= x.ax)) (cond pA.isSome (cond (qH 40 (x.l.n+1) 1) (cond (decide (aA.p.z >= x.ax)) (cond (decide (bA.p.z < x.ax)) (cond qA.isSome (cond (qH 40 ((x.l.n+1)+1) 1) (cond (aR (((x.l.n+1)+1)+1)) (.next ⟨x.ax,x.t4,(((x.l.push aA).push (pA.getD default)).push (qA.getD default)),(ak (x.i+1)),x.t⟩) .fail) .fail) .fail)
     (nq x aA bA pA qA))
     (nq x aA bA pA qA)) .fail) .fail)
   (nt x aA bA pA qA))
   (nt x aA bA pA qA)) .fail) (cond (decide (aA.p.z < x.ax)) (cond (decide (bA.p.z >= x.ax)) (cond pA.isSome (cond (qH 40 x.l.n 1) (cond (decide (aA.p.z >= x.ax)) (cond (decide (bA.p.z < x.ax)) (cond qA.isSome (cond (qH 40 (x.l.n+1) 1) (cond (aR ((x.l.n+1)+1)) (.next ⟨x.ax,x.t4,((x.l.push (pA.getD default)).push (qA.getD default)),(ak (x.i+1)),x.t⟩) .fail) .fail) .fail)
     (nu x aA bA pA qA))
    (nu x aA bA pA qA)) .fail) .fail)
   (nv x aA bA pA qA))
  (nv x aA bA pA qA)))
def hY (x:cD):aK cD:=(cond (decide (x.i < 3)) (cond (decide (x.i=0)) (cond (decide ((Int.tmod (ak (x.i+1)) 3)=0)) (gR x x.t.e0 x.t.e0 (QR x) (QR x)) (cond (decide ((Int.tmod (ak (x.i+1)) 3)=1)) (gR x x.t.e0 x.t.e1 (Hw x) (Hx x)) (cond (decide ((Int.tmod (ak (x.i+1)) 3)=2)) (gR x x.t.e0 x.t.e2 (Hy x) (Hz x)) .fail))) (cond (decide (x.i=1)) (cond (decide ((Int.tmod (ak (x.i+1)) 3)=0)) (gR x x.t.e1 x.t.e0 (Hx x) (Hw x)) (cond (decide ((Int.tmod (ak (x.i+1)) 3)=1)) (gR x x.t.e1 x.t.e1 (QS x) (QS x)) (cond (decide ((Int.tmod (ak (x.i+1)) 3)=2)) (gR x x.t.e1 x.t.e2 (HA x) (HB x)) .fail))) (cond (decide (x.i=2)) (cond (decide ((Int.tmod (ak (x.i+1)) 3)=0)) (gR x x.t.e2 x.t.e0 (Hz x) (Hy x)) (cond (decide ((Int.tmod (ak (x.i+1)) 3)=1)) (gR x x.t.e2 x.t.e1 (HB x) (HA x)) (cond (decide ((Int.tmod (ak (x.i+1)) 3)=2)) (gR x x.t.e2 x.t.e2 (QT x) (QT x)) .fail))) .fail))) (cond (aR x.l.n) (.out (aE.aq.exit 0) x) .fail))
theorem abQ (x:cD):afC (JQ x) (JR x)=aK.enc JQ JR (hY x):=by
 unfold hY gR nv nu nt ns nq qH aR
 try simp only [aK.bI,aev,ahK]
 kernel_rfl
def MN:Lp:=⟨107,58,V9,fun vs rs=>cc JQ JR (goN hY (TF vs rs)) [aE.aq.exit 0],false⟩
theorem TG:MN.Ok PG:=uJ (ao.cons O9 ao.nil) aJ.nil (pa:=TF) abQ
structure sk where
 t4:(Sl bn)
 l:(Sl bM)
 out:(Sl bn)
 i:Int
instance:Inhabited sk:=⟨⟨default,default,default,default⟩⟩
def HC (x:sk):List KV:=[eZ 178 mo x.t4,eZ 177 pJ x.l,eZ 178 mo x.out,.int .i64 x.i]
def HD (x:sk):List (List KV):=[]
def QU (vs:List KV) (rs:List (List KV)):sk:=⟨fg oz (v9 vs 0),fg kP (v9 vs 1),fg oz (v9 vs 2),intOf (v9 vs 3)⟩
def TH:aU:=⟨[(4,w9 (n9 178)),(5,⟨false,[.bm 177]⟩),(9,⟨false,[.bm 178]⟩),(10,w9 i9)],[],[]⟩
def adI:=vL [(165,SS)] [MN] 107 250 TH
def qV (x:sk):aK sk:=(cond (decide (x.i < (x.l.n:Int))) (cond (decide (0 < (x.l.n:Int))) (cond (bh (ak (x.i - 1)) x.l.n) (cond (bh x.i x.l.n) (cond (qH 120 x.out.n 1) (cond (cond (aR (x.out.n+1)) (aR x.l.n) false) (.next ⟨x.t4,x.l,(x.out.push ⟨(x.l.get 0),(x.l.get (Int.toNat (ak (x.i - 1)))),(x.l.get (Int.toNat x.i))⟩),(ak (x.i+1))⟩) .fail) .fail) .fail) .fail) .fail) (cond (cond (aR x.out.n) (aR x.l.n) false) (.out (aE.aq.exit 2) x) .fail))
theorem ZE (x:sk):adI (HC x) (HD x)=aK.enc HC HD (qV x):=by
 unfold qV bh qH aR
 try simp only [aK.bI,Vh]
 kernel_rfl
def TI:Lp:=⟨107,250,TH,fun vs rs=>cc HC HD (goN qV (QU vs rs)) [aE.aq.exit 2],false⟩
theorem adJ:TI.Ok PG:=uJ (ao.cons O9 ao.nil) (ie TG aJ.nil) (pa:=QU) ZE
def rq (ax:Int) (t:bn):=goN hY ⟨ax,⟨0,(fun i=>⟨⟨⟨0,0,0⟩,0,0⟩,⟨⟨0,0,0⟩,0,0⟩,⟨⟨0,0,0⟩,0,0⟩⟩)⟩,⟨0,(fun i=>⟨⟨0,0,0⟩,0,0⟩)⟩,0,t⟩
def y8 (ax:Int) (t:bn):=goN qV ⟨(rq ax t).st.t4,(rq ax t).st.l,⟨0,(fun i=>⟨⟨⟨0,0,0⟩,0,0⟩,⟨⟨0,0,0⟩,0,0⟩,⟨⟨0,0,0⟩,0,0⟩⟩)⟩,2⟩
def Ez (ax:Int) (t:bn):Option ((Sl bn)):=(cond ((rq ax t).by (aE.aq.exit 0)) (cond (aR (rq ax t).st.l.n) (cond ((y8 ax t).by (aE.aq.exit 2)) (some ((y8 ax t).st.out)) none) none) none)
theorem ajJ (ax:Int) (t:bn):gw [(165,SS)] [MN,TI] 107 [(kI .i64) ax,mo t] = (Ez ax t).map (eZ 178 mo):=by
 unfold Ez aR
 try simp only [aV]
 kernel_rfl
def Wa:List KV->KR KV:=a8 PG 107 (bb (eZ 178 mo) fun vs=>Ez (intOf (v9 vs 0)) (oz (v9 vs 1)))
theorem Wb:a7 PG 107 Wa:=bH (ao.cons O9 ao.nil) (ie TG (ie adJ aJ.nil)) fun w=>ajJ (intOf (g0 3 (w 0))) (oz (g0 178 (w 1)))
end
end Go.Proofs.YtchbpckkmgcgkaaGreat.b
end
section
namespace Go.Proofs.YtchbpckkmgcgkaaGreat.b
open Go.K Go.K.iK
open Go.aE (aq)
theorem atW {ax:Int} {t:bn} (hn:256<=ax/\ax<=4096) (ht:DW t) (t4:Sl bn) (l:Sl bM) (hl:l.n<=10):∃ l',hY ⟨ax,t4,l,0,t⟩ = .next ⟨ax,t4,l',1,t⟩/\bB l' = bB l++uK ax t.e0 t.e1/\l'.n<=l.n+2:=by
 have w1:ak ((0:Int)+1)=1:=aj;have m1:Int.tmod (1:Int) 3=1:=rfl;have a1:j6 40 l.n 1=true:=iJ;have a2:j6 40 (l.n+1) 1=true:=iJ;unfold hY gR nv nu nt ns nq uK qH aR;simp only [w1,m1,a1,a2,aI,ai,aw,bC,au (show (0:Int) < 3 by omega),au (show (0:Int)=0 from rfl),ay (show ¬ (1:Int)=0 by omega),au (show (1:Int)=1 from rfl)];by_cases c1:t.e0.p.z >= ax
 ·have d1 : ¬ t.e0.p.z < ax:=by omega
  by_cases c2:t.e1.p.z >= ax
  ·have d2 : ¬ t.e1.p.z < ax:=by omega
   simp only [au c1,au c2,ay d1,ay d2,ai,aw,wj,wi];exact ⟨_,rfl,jE _ _,Dc _⟩
  ·have d2:t.e1.p.z < ax:=by omega
   have e:Hx ⟨ax,t4,l,0,t⟩=some (IU ax t.e1 t.e0):=adH hn ht.e1 ht.e0 d2 c1;simp only [e,au c1,ay c2,ay d1,au d2,ai,aw,wj,wi,bC,bj,bc];exact ⟨_,rfl,Hc _ _ _,aX _⟩
 ·have d1:t.e0.p.z < ax:=by omega
  by_cases c2:t.e1.p.z >= ax
  ·have d2 : ¬ t.e1.p.z < ax:=by omega
   have e:Hw ⟨ax,t4,l,0,t⟩=some (IU ax t.e0 t.e1):=adH hn ht.e0 ht.e1 d1 c2;simp only [e,ay c1,au c2,au d1,ay d2,ai,aw,wj,wi,bC,bj,bc];exact ⟨_,rfl,jE _ _,Dc _⟩
  ·have d2:t.e1.p.z < ax:=by omega
   simp only [ay c1,ay c2,au d1,au d2,ai,aw,wj,wi];exact ⟨_,rfl,(pr _).symm,M1 _ _⟩
theorem atY {ax:Int} {t:bn} (hn:256<=ax/\ax<=4096) (ht:DW t) (t4:Sl bn) (l:Sl bM) (hl:l.n<=10):∃ l',hY ⟨ax,t4,l,1,t⟩ = .next ⟨ax,t4,l',2,t⟩/\bB l' = bB l++uK ax t.e1 t.e2/\l'.n<=l.n+2:=by
 have w1:ak ((1:Int)+1)=2:=aj;have m1:Int.tmod (2:Int) 3=2:=rfl;have a1:j6 40 l.n 1=true:=iJ;have a2:j6 40 (l.n+1) 1=true:=iJ;unfold hY gR nv nu nt ns nq uK qH aR;simp only [w1,m1,a1,a2,aI,ai,aw,bC,au (show (1:Int) < 3 by omega),ay (show ¬ (1:Int)=0 by omega),au (show (1:Int)=1 from rfl),ay (show ¬ (2:Int)=0 by omega),ay (show ¬ (2:Int)=1 by omega),au (show (2:Int)=2 from rfl)];by_cases c1:t.e1.p.z >= ax
 ·have d1 : ¬ t.e1.p.z < ax:=by omega
  by_cases c2:t.e2.p.z >= ax
  ·have d2 : ¬ t.e2.p.z < ax:=by omega
   simp only [au c1,au c2,ay d1,ay d2,ai,aw,wj,wi];exact ⟨_,rfl,jE _ _,Dc _⟩
  ·have d2:t.e2.p.z < ax:=by omega
   have e:HB ⟨ax,t4,l,1,t⟩=some (IU ax t.e2 t.e1):=adH hn ht.e2 ht.e1 d2 c1;simp only [e,au c1,ay c2,ay d1,au d2,ai,aw,wj,wi,bC,bj,bc];exact ⟨_,rfl,Hc _ _ _,aX _⟩
 ·have d1:t.e1.p.z < ax:=by omega
  by_cases c2:t.e2.p.z >= ax
  ·have d2 : ¬ t.e2.p.z < ax:=by omega
   have e:HA ⟨ax,t4,l,1,t⟩=some (IU ax t.e1 t.e2):=adH hn ht.e1 ht.e2 d1 c2;simp only [e,ay c1,au c2,au d1,ay d2,ai,aw,wj,wi,bC,bj,bc];exact ⟨_,rfl,jE _ _,Dc _⟩
  ·have d2:t.e2.p.z < ax:=by omega
   simp only [ay c1,ay c2,au d1,au d2,ai,aw,wj,wi];exact ⟨_,rfl,(pr _).symm,M1 _ _⟩
theorem atZ {ax:Int} {t:bn} (hn:256<=ax/\ax<=4096) (ht:DW t) (t4:Sl bn) (l:Sl bM) (hl:l.n<=10):∃ l',hY ⟨ax,t4,l,2,t⟩ = .next ⟨ax,t4,l',3,t⟩/\bB l' = bB l++uK ax t.e2 t.e0/\l'.n<=l.n+2:=by
 have w1:ak ((2:Int)+1)=3:=aj;have m1:Int.tmod (3:Int) 3=0:=rfl;have a1:j6 40 l.n 1=true:=iJ;have a2:j6 40 (l.n+1) 1=true:=iJ;unfold hY gR nv nu nt ns nq uK qH aR;simp only [w1,m1,a1,a2,aI,ai,aw,bC,au (show (2:Int) < 3 by omega),ay (show ¬ (2:Int)=0 by omega),ay (show ¬ (2:Int)=1 by omega),au (show (2:Int)=2 from rfl),au (show (0:Int)=0 from rfl)];by_cases c1:t.e2.p.z >= ax
 ·have d1 : ¬ t.e2.p.z < ax:=by omega
  by_cases c2:t.e0.p.z >= ax
  ·have d2 : ¬ t.e0.p.z < ax:=by omega
   simp only [au c1,au c2,ay d1,ay d2,ai,aw,wj,wi];exact ⟨_,rfl,jE _ _,Dc _⟩
  ·have d2:t.e0.p.z < ax:=by omega
   have e:Hy ⟨ax,t4,l,2,t⟩=some (IU ax t.e0 t.e2):=adH hn ht.e0 ht.e2 d2 c1;simp only [e,au c1,ay c2,ay d1,au d2,ai,aw,wj,wi,bC,bj,bc];exact ⟨_,rfl,Hc _ _ _,aX _⟩
 ·have d1:t.e2.p.z < ax:=by omega
  by_cases c2:t.e0.p.z >= ax
  ·have d2 : ¬ t.e0.p.z < ax:=by omega
   have e:Hz ⟨ax,t4,l,2,t⟩=some (IU ax t.e2 t.e0):=adH hn ht.e2 ht.e0 d1 c2;simp only [e,ay c1,au c2,au d1,ay d2,ai,aw,wj,wi,bC,bj,bc];exact ⟨_,rfl,jE _ _,Dc _⟩
  ·have d2:t.e0.p.z < ax:=by omega
   simp only [ay c1,ay c2,au d1,au d2,ai,aw,wj,wi];exact ⟨_,rfl,(pr _).symm,M1 _ _⟩
theorem arS {ax:Int} {t:bn} (hn:256<=ax/\ax<=4096) (ht:DW t):∃ z,rq ax t = .out (.exit 0) z/\bB z.l=Au ax t/\z.l.n<=6:=by
 obtain ⟨e,z,hz,rfl,h⟩:∃ e z,rq ax t = .out e z/\(e = .exit 0/\bB z.l=Au ax t/\z.l.n<=6):=by
  unfold rq;refine bt (step:=hY) (fun j y=>∃ (out:Sl bn) (l:Sl bM),y=⟨ax,out,l,(j:Int),t⟩/\bB l=avo ax t j/\l.n<=2 * j/\j<=3) _ 3 (by have:gv=1000000000000:=rfl; omega) (fun j y hj ⟨out,l,hy,h1,h2,h3⟩=>?_) ⟨_,_,rfl,rfl,aX _,by omega⟩;subst hy;rcases j with _ | _ | _ | j
  ·obtain ⟨l',q1,q2,q3⟩:=atW hn ht out l (by omega)
   exact .inl ⟨_,q1,by omega,out,l',rfl,by rw [q2,h1]; rfl,by omega,by omega⟩
  ·obtain ⟨l',q1,q2,q3⟩:=atY hn ht out l (by omega)
   exact .inl ⟨_,q1,by omega,out,l',rfl,by rw [q2,h1]; rfl,by omega,by omega⟩
  ·obtain ⟨l',q1,q2,q3⟩:=atZ hn ht out l (by omega)
   exact .inl ⟨_,q1,by omega,out,l',rfl,by rw [q2,h1]; rfl,by omega,by omega⟩
  ·have hj3:j=0:=by omega
   subst hj3;refine .inr ⟨.exit 0,⟨ax,out,l,((0+1+1+1:Nat):Int),t⟩,?_,rfl,rfl,h1,by show l.n<=6; omega⟩;unfold hY gR nv nu nt ns nq qH aR;simp only [aI,ai,aw,ay (show ¬ ((((0+1+1+1:Nat):Int)) < 3) by omega)]
 exact ⟨z,hz,h⟩
theorem aok {ax:Int} {t:bn} (hn:256<=ax/\ax<=4096) (ht:DW t):∃ r,Ez ax t=some r/\bB r=NN (Au ax t):=by
 obtain ⟨y,hy,y1,y2⟩:=arS hn ht;have hs:(rq ax t).st=y:=by rw [hy]; rfl
 obtain ⟨e,z,hz,rfl,h⟩:∃ e z,y8 ax t = .out e z/\(e = .exit 2/\bB z.out=NN (Au ax t)):=by
  unfold y8;rw [hs];refine bt (step:=qV) (fun j x=>x.l=y.l/\x.i=((j+2:Nat):Int)/\(j=0\/j+2<=y.l.n)/\x.out.n=j/\bB x.out=(List.range j).map fun k=>(⟨y.l.get 0,y.l.get (k+1),y.l.get (k+2)⟩:bn)) _ 10 (by have:gv=1000000000000:=rfl; omega) (fun j x hj ⟨f1,f2,f3,f4,f5⟩=>?_) ⟨rfl,rfl,.inl rfl,rfl,rfl⟩;have w1:ak (x.i+1)=((j+1+2:Nat):Int):=by rw [aj (by omega) (by omega)]; omega
  have w2:ak (x.i - 1)=((j+1:Nat):Int):=by rw [aj (by omega) (by omega)]; omega
  have a1:j6 120 x.out.n 1=true:=iJ;unfold qV bh qH aR;by_cases h:x.i < ((x.l.n:Nat):Int)
  ·have hln:j+2 < y.l.n:=by rw [f1] at h; omega
   simp only [w1,w2,a1,aI,ai,bC,au h,au (show (0:Int) < ((x.l.n:Nat):Int) by omega),au (show (0:Int)<=((j+1:Nat):Int) by omega),au (show ((j+1:Nat):Int) < ((x.l.n:Nat):Int) by omega),au (show (0:Int)<=x.i by omega)];refine .inl ⟨_,rfl,by omega,f1,rfl,.inr (by omega),by show x.out.n+1=_; omega,?_⟩;show bB (Sl.push _ _)=_;rw [jE,f5,QY,HM,f1,f2,bU,bU];rfl
  ·simp only [aI,ai,aw,ay h]
   refine .inr ⟨_,_,rfl,rfl,rfl,?_⟩;rw [f5];unfold NN;rw [<- y1,eP];have hjn:y.l.n - 2=j:=by rw [f1] at h; omega
   rw [hjn];refine List.map_congr_left fun k hk=>?_;have:=A6.1 hk;rw [K3 _ (by omega),K3 _ (by omega),K3 _ (by omega)]
 have b1:(rq ax t).by (.exit 0)=true:=by rw [hy]; rfl
 have b2:(y8 ax t).by (.exit 2)=true:=by rw [hz]; rfl
 have b3:(y8 ax t).st=z:=by rw [hz]; rfl
 refine ⟨z.out,?_,h⟩;unfold Ez aR;simp only [b1,b2,b3,aI,ai]
end Go.Proofs.YtchbpckkmgcgkaaGreat.b
end
section
namespace Go.Proofs.YtchbpckkmgcgkaaGreat.b
open Go.K
noncomputable section
structure jJ where
 t8:(Sl aF)
 l:(Sl bn)
 out:(Sl aF)
 i:Int
 c:az
 x:Item
instance:Inhabited jJ:=⟨by constructor<;>exact default⟩
def JS (x:jJ):List KV:=[eZ 62 eJ x.t8,eZ 178 mo x.l,eZ 62 eJ x.out,.int .i64 x.i]
def JT (x:jJ):List (List KV):=[Fs x.c,Cn x.x]
def TJ (vs:List KV) (rs:List (List KV)):jJ:=⟨fg ei (v9 vs 0),fg oz (v9 vs 1),fg ei (v9 vs 2),intOf (v9 vs 3),Ft (r9 rs 0),DS (r9 rs 1)⟩
def Wc:aU:=⟨[(8,w9 (n9 62)),(13,w9 (n9 178)),(14,⟨false,[.bm 62]⟩),(15,w9 i9)],[(5,[i9,i9,i9,i9,i9,i9,i9,i9,i9,i9,i9,i9,i9,i9,i9,i9],1),(9,[n9 27,n9 181,n9 28,u9,u9,u9,u9,i9,u9,i9,b9,i9,i9,i9,i9,i9,i9,i9],1)],[(5,0,0),(9,1,0)]⟩
def afD:=vL [(110,Mj),(109,SE),(108,OU),(107,Wa),(106,Vu)] [] 50 1018 Wc
def xy (x:jJ):=ti x.c (x.l.get (Int.toNat x.i)).e0
def xz (x:jJ):=ti x.c (x.l.get (Int.toNat x.i)).e1
def xA (x:jJ):=ti x.c (x.l.get (Int.toNat x.i)).e2
def BW (x:jJ):=BC ⟨((xy x).getD default),((xz x).getD default),((xA x).getD default)⟩ x.x.look.cw
def BX (x:jJ):=xg ⟨((xy x).getD default),((xz x).getD default),((xA x).getD default)⟩
def pZ (x:jJ):aK jJ:=(cond (decide (x.i < (x.l.n:Int))) (cond (bh x.i x.l.n) (cond (xy x).isSome (cond (bh x.i x.l.n) (cond (xz x).isSome (cond (bh x.i x.l.n) (cond (xA x).isSome (cond (BW x).isSome (cond ((BW x).getD default).fst (cond (BX x).isSome (cond (qH 120 x.out.n 1) (cond (aR (x.out.n+1)) (.next ⟨x.t8,x.l,(x.out.push ((BX x).getD default)),(ak (x.i+1)),x.c,x.x⟩) .fail) .fail) .fail) (cond (aR x.out.n) (.next ⟨x.t8,x.l,x.out,(ak (x.i+1)),x.c,x.x⟩) .fail)) .fail) .fail) .fail) .fail) .fail) .fail) .fail) (cond (aR x.out.n) (.out (aE.aq.exit 2) x) .fail))
theorem abR (x:jJ):afD (JS x) (JT x)=aK.enc JS JT (pZ x):=by
 unfold pZ bh qH aR
 try simp only [aK.bI,XY]
 kernel_rfl
def Wd:Lp:=⟨50,1018,Wc,fun vs rs=>cc JS JT (goN pZ (TJ vs rs)) [aE.aq.exit 2],false⟩
theorem afE:Wd.Ok PG:=uJ (ao.cons NV (ao.cons Tq (ao.cons Qv (ao.cons Wb (ao.cons Vv ao.nil))))) aJ.nil (pa:=TJ) abR
def N8 (s:Show) (c:az) (item:Int) (aZ:Int):=xK c ((s.items.get (Int.toNat item)).aG.get (Int.toNat ((s.items.get (Int.toNat item)).bd.get (Int.toNat aZ)).e0))
def N9 (s:Show) (c:az) (item:Int) (aZ:Int):=xK c ((s.items.get (Int.toNat item)).aG.get (Int.toNat ((s.items.get (Int.toNat item)).bd.get (Int.toNat aZ)).e1))
def Oa (s:Show) (c:az) (item:Int) (aZ:Int):=xK c ((s.items.get (Int.toNat item)).aG.get (Int.toNat ((s.items.get (Int.toNat item)).bd.get (Int.toNat aZ)).e2))
def Ob (s:Show) (c:az) (item:Int) (aZ:Int):=Ez c.ax ⟨⟨((N8 s c item aZ).getD default),((s.items.get (Int.toNat item)).uV.get (Int.toNat ((s.items.get (Int.toNat item)).bd.get (Int.toNat aZ)).e0)).e0,((s.items.get (Int.toNat item)).uV.get (Int.toNat ((s.items.get (Int.toNat item)).bd.get (Int.toNat aZ)).e0)).e1⟩,⟨((N9 s c item aZ).getD default),((s.items.get (Int.toNat item)).uV.get (Int.toNat ((s.items.get (Int.toNat item)).bd.get (Int.toNat aZ)).e1)).e0,((s.items.get (Int.toNat item)).uV.get (Int.toNat ((s.items.get (Int.toNat item)).bd.get (Int.toNat aZ)).e1)).e1⟩,⟨((Oa s c item aZ).getD default),((s.items.get (Int.toNat item)).uV.get (Int.toNat ((s.items.get (Int.toNat item)).bd.get (Int.toNat aZ)).e2)).e0,((s.items.get (Int.toNat item)).uV.get (Int.toNat ((s.items.get (Int.toNat item)).bd.get (Int.toNat aZ)).e2)).e1⟩⟩
def EA (s:Show) (c:az) (item:Int) (aZ:Int):=goN pZ ⟨⟨0,(fun i=>⟨⟨0,0,0,0,0⟩,⟨0,0,0,0,0⟩,⟨0,0,0,0,0⟩⟩)⟩,((Ob s c item aZ).getD default),⟨0,(fun i=>⟨⟨0,0,0,0,0⟩,⟨0,0,0,0,0⟩,⟨0,0,0,0,0⟩⟩)⟩,0,c,(s.items.get (Int.toNat item))⟩
def HF (s:Show) (c:az) (item:Int) (aZ:Int):Option ((Sl aF)):=(cond (bh item s.items.n) (cond (bh aZ (s.items.get (Int.toNat item)).bd.n) (cond (bh ((s.items.get (Int.toNat item)).bd.get (Int.toNat aZ)).e0 (s.items.get (Int.toNat item)).aG.n) (cond (N8 s c item aZ).isSome (cond (bh ((s.items.get (Int.toNat item)).bd.get (Int.toNat aZ)).e0 (s.items.get (Int.toNat item)).uV.n) (cond (bh ((s.items.get (Int.toNat item)).bd.get (Int.toNat aZ)).e0 (s.items.get (Int.toNat item)).uV.n) (cond (bh aZ (s.items.get (Int.toNat item)).bd.n) (cond (bh ((s.items.get (Int.toNat item)).bd.get (Int.toNat aZ)).e1 (s.items.get (Int.toNat item)).aG.n) (cond (N9 s c item aZ).isSome (cond (bh ((s.items.get (Int.toNat item)).bd.get (Int.toNat aZ)).e1 (s.items.get (Int.toNat item)).uV.n) (cond (bh ((s.items.get (Int.toNat item)).bd.get (Int.toNat aZ)).e1 (s.items.get (Int.toNat item)).uV.n) (cond (bh aZ (s.items.get (Int.toNat item)).bd.n) (cond (bh ((s.items.get (Int.toNat item)).bd.get (Int.toNat aZ)).e2 (s.items.get (Int.toNat item)).aG.n) (cond (Oa s c item aZ).isSome (cond (bh ((s.items.get (Int.toNat item)).bd.get (Int.toNat aZ)).e2 (s.items.get (Int.toNat item)).uV.n) (cond (bh ((s.items.get (Int.toNat item)).bd.get (Int.toNat aZ)).e2 (s.items.get (Int.toNat item)).uV.n) (cond (Ob s c item aZ).isSome (cond ((EA s c item aZ).by (aE.aq.exit 2)) (some ((EA s c item aZ).st.out)) none) none) none) none) none) none) none) none) none) none) none) none) none) none) none) none) none) none)
theorem aol (s:Show) (c:az) (item:Int) (aZ:Int):gw [(110,Mj),(109,SE),(108,OU),(107,Wa),(106,Vu)] [Wd] 50 [ph s,kc c,(kI .i64) item,(kI .i64) aZ] = (HF s c item aZ).map (eZ 62 eJ):=by
 unfold HF bh
 try simp only [aV]
 kernel_rfl
def K7:List KV->KR KV:=a8 PG 50 (bb (eZ 62 eJ) fun vs=>HF (gm (v9 vs 0)) (dt (v9 vs 1)) (intOf (v9 vs 2)) (intOf (v9 vs 3)))
theorem Gb:a7 PG 50 K7:=bH (ao.cons NV (ao.cons Tq (ao.cons Qv (ao.cons Wb (ao.cons Vv ao.nil))))) (ie afE aJ.nil) fun w=>aol (gm (g0 25 (w 0))) (dt (g0 31 (w 1))) (intOf (g0 3 (w 2))) (intOf (g0 3 (w 3)))
def Gc (s:Show) (c:az) (item:Int) (aZ:Int):=yr s c
def MO (s:Show) (c:az) (item:Int) (aZ:Int):=HF s c item aZ
def uY (s:Show) (c:az) (item:Int) (aZ:Int):Option ((Sl aF)×Int):=(some (⟨0,(fun i=>⟨⟨0,0,0,0,0⟩,⟨0,0,0,0,0⟩,⟨0,0,0,0,0⟩⟩)⟩,2))
def BZ (s:Show) (c:az) (item:Int) (aZ:Int):Option ((Sl aF)×Int):=(cond (Gc s c item aZ).isSome (cond (((Gc s c item aZ).getD default) != 0) (some (⟨0,(fun i=>⟨⟨0,0,0,0,0⟩,⟨0,0,0,0,0⟩,⟨0,0,0,0,0⟩⟩)⟩,((Gc s c item aZ).getD default))) (cond (decide (item < 0))
   (uY s c item aZ) (cond (decide (item >= (s.items.n:Int)))
   (uY s c item aZ) (cond (decide (aZ < 0))
    (uY s c item aZ) (cond (bh item s.items.n) (cond (decide (aZ >= ((s.items.get (Int.toNat item)).bd.n:Int)))
     (uY s c item aZ) (cond (MO s c item aZ).isSome (some (((MO s c item aZ).getD default),0)) none)) none))))) none)
theorem aiQ (s:Show) (c:az) (item:Int) (aZ:Int):gw [(50,K7),(49,SR)] [] 11 [ph s,kc c,(kI .i64) item,(kI .i64) aZ] = (BZ s c item aZ).map (fun (r:(Sl aF)×Int)=>KV.jd [(eZ 62 eJ) r.1,(kI .i64) r.2]):=by
 unfold BZ uY bh
 try simp only [aV]
 kernel_rfl
def SU:List KV->KR KV:=a8 PG 11 (bb (fun (r:(Sl aF)×Int)=>KV.jd [(eZ 62 eJ) r.1,(kI .i64) r.2]) fun vs=>BZ (gm (v9 vs 0)) (dt (v9 vs 1)) (intOf (v9 vs 2)) (intOf (v9 vs 3)))
theorem TK:a7 PG 11 SU:=bH (ao.cons Gb (ao.cons TD ao.nil)) aJ.nil fun w=>aiQ (gm (g0 25 (w 0))) (dt (g0 31 (w 1))) (intOf (g0 3 (w 2))) (intOf (g0 3 (w 3)))
end
end Go.Proofs.YtchbpckkmgcgkaaGreat.b
end
section
namespace Go.Proofs.YtchbpckkmgcgkaaGreat.b
open Go.K Go.K.iK
open Go.aE (aq)
theorem apH {c:az} (hc:mz c) (x:jJ) (hxc:x.c=c) (av7:0<=x.x.look.cw) (hq:∀ j,j < x.l.n->QOk c (x.l.get j)) (hn:x.l.n<=1000) (h0:x.i=0) (ho:x.out.n=0) :
  ∃ e z,goN pZ x = .out e z/\(e = .exit 2/\bB z.out=Aw c x.x.look.cw (bB x.l)):=by
 refine bt (step:=pZ) (fun j y=>y.l=x.l/\y.i=(j:Int)/\j<=x.l.n/\y.c=c/\y.x=x.x/\y.out.n<=j/\bB y.out=Aw c x.x.look.cw ((bB x.l).take j)) _ x.l.n (by have:gv=1000000000000:=rfl; omega) (fun j y hj ⟨f1,f3,f4,f5,f6,f7,f8⟩=>?_) ⟨rfl,h0,dq _,hxc,rfl,by omega,pq.1 (by rw [eP,ho])⟩;have w1:ak (y.i+1)=y.i+1:=aj;have a1:j6 120 y.out.n 1=true:=iJ;unfold pZ bh qH aR;by_cases h:y.i < ((y.l.n:Nat):Int)
 ·have fw:j < x.l.n:=by rw [f1] at h; omega
  have hg:y.l.get (Int.toNat y.i)=x.l.get j:=by rw [f1,f3,bU]
  obtain ⟨o0,o1,o2⟩:=hq j fw;have e0:xy y=some (tE c (x.l.get j).e0):=by unfold xy; rw [hg,f5]; exact adF hc o0.1 o0.2
  have e1:xz y=some (tE c (x.l.get j).e1):=by unfold xz; rw [hg,f5]; exact adF hc o1.1 o1.2
  have e2:xA y=some (tE c (x.l.get j).e2):=by unfold xA; rw [hg,f5]; exact adF hc o2.1 o2.2
  obtain ⟨e,hs⟩:=atO (qy c (x.l.get j)) av7;have e3:BW y=some (rQ (qy c (x.l.get j)) x.x.look.cw,e):=by
   unfold BW;rw [e0,e1,e2,f6];exact hs
  have tk:Aw c x.x.look.cw ((bB x.l).take (j+1))=Aw c x.x.look.cw ((bB x.l).take j)++cond (rQ (qy c (x.l.get j)) x.x.look.cw) [Av (qy c (x.l.get j))] []:=by
   rw [K2 x.l j fw,aeI]
  simp only [e0,e1,e2,e3,w1,a1,aI,ai,bC,bj,bc,au h,au (show (0:Int)<=y.i by omega)];cases hb:rQ (qy c (x.l.get j)) x.x.look.cw with
  | true=>
   have e4:BX y=some (Av (qy c (x.l.get j))):=by
    unfold BX;rw [e0,e1,e2];exact apG ((Zm _ _).1 hb).1
   rw [hb] at tk;simp only [e4,bj,bc,ai];refine .inl ⟨_,rfl,fw,f1,by show y.i+1=_; omega,by omega,f5,f6,by show y.out.n+1<=_; omega,?_⟩;show bB (Sl.push _ _)=_;rw [jE,f8,tk];rfl
  | false=>
   rw [hb] at tk;rw [aw];refine .inl ⟨_,rfl,fw,f1,by show y.i+1=_; omega,by omega,f5,f6,by show y.out.n<=_; omega,?_⟩;show bB y.out=_;rw [f8,tk,aw,pr]
 ·simp only [aI,ai,aw,ay h]
  refine .inr ⟨_,_,rfl,rfl,rfl,?_⟩;rw [f8,CH (by rw [eP]; rw [f1] at h; omega)]
theorem avt (s:Show) (c:az) (i k:Nat) (hi:i < s.items.n) (hk:k < (s.items.get i).bd.n) (hc:mz c) (hx:abc (s.items.get i)) (h8:S8 s):∃ r,HF s c (i:Int) (k:Int)=some r/\bB r=partsOf s c i k:=by
 obtain ⟨huv,aty⟩:=hx.ok;obtain ⟨t0,t1,t2⟩:=aty k hk;obtain ⟨p0,_⟩:=ac9 hc hx t0;obtain ⟨p1,_⟩:=ac9 hc hx t1;obtain ⟨p2,_⟩:=ac9 hc hx t2;have v0:=hx.v (Int.toNat ((s.items.get i).bd.get k).e0) (by omega);have v1:=hx.v (Int.toNat ((s.items.get i).bd.get k).e1) (by omega);have v2:=hx.v (Int.toNat ((s.items.get i).bd.get k).e2) (by omega);have an0:DW (Zn c (s.items.get i) k):=⟨p0,p1,p2⟩
 have hn:256<=c.ax/\c.ax<=4096:=hc.1.2.2.1;have e0:N8 s c i k=some (mT c ((s.items.get i).aG.get (Int.toNat ((s.items.get i).bd.get k).e0))):=by unfold N8; rw [bU,bU]; exact al9 hc v0
 have e1:N9 s c i k=some (mT c ((s.items.get i).aG.get (Int.toNat ((s.items.get i).bd.get k).e1))):=by unfold N9; rw [bU,bU]; exact al9 hc v1
 have e2:Oa s c i k=some (mT c ((s.items.get i).aG.get (Int.toNat ((s.items.get i).bd.get k).e2))):=by unfold Oa; rw [bU,bU]; exact al9 hc v2
 obtain ⟨r,hr,Iq⟩:=aok hn an0;have e3:Ob s c i k=some r:=by
  unfold Ob;rw [e0,e1,e2,bU,bU];exact hr
 have hrn:r.n<=1000:=by
  rw [<- eP r,Iq];unfold NN;rw [List.length_map,List.length_range];have:=ada c.ax (Zn c (s.items.get i) k);omega
 obtain ⟨e,z,hz,rfl,hzl⟩:∃ e z,EA s c i k = .out e z/\(e = .exit 2/\bB z.out=Aw c (s.items.get i).look.cw (bB r)):=by
  unfold EA;rw [e3,bU];refine apH hc _ rfl (h8.cw i hi).1 (fun j hj=>?_) hrn rfl rfl;have hm:r.get j∈bB r:=FO hj;rw [Iq] at hm;obtain ⟨o0,o1,o2⟩:=aqA hn an0 hm;exact ⟨o0,o1,o2⟩
 have b1:(EA s c i k).by (.exit 2)=true:=by rw [hz]; rfl
 have b2:(EA s c i k).st=z:=by rw [hz]; rfl
 refine ⟨z.out,?_,by rw [hzl,Iq]; rfl⟩;unfold HF bh;simp only [e0,e1,e2,e3,b1,b2,bU,bj,ai,bC,au (show 0<=(i:Int) by omega),au (show (i:Int) < ((s.items.n:Nat):Int) by omega),au (show 0<=(k:Int) by omega),au (show (k:Int) < (((s.items.get i).bd.n:Nat):Int) by omega),
  au t0.1,au t0.2,au t1.1,au t1.2,au t2.1,au t2.2,huv]
def InT (s:Show) (item aZ:Int):Prop:=(0<=item/\item < (s.items.n:Int))/\0<=aZ/\aZ < ((s.items.get (Int.toNat item)).bd.n:Int)
inductive JU (s:Show) (c:az) (item aZ:Int):List aF->Int->Prop where
 | bad (e:Int) (h:rR s c e) (he:e≠0):JU s c item aZ [] e
 | out (h:rR s c 0) (h2 : ¬ InT s item aZ):JU s c item aZ [] 2
 | ok (h:rR s c 0) (h2:InT s item aZ):JU s c item aZ (partsOf s c (Int.toNat item) (Int.toNat aZ)) 0
theorem JU.one {s:Show} {c:az} {item aZ a b:Int} {l m:List aF} (h:JU s c item aZ l a) (k:JU s c item aZ m b):l=m/\a=b:=by
 rcases h with ⟨_,h1,h2⟩ | ⟨h1,h2⟩ | ⟨h1,h2⟩ <;> rcases k with ⟨_,k1,k2⟩ | ⟨k1,k2⟩ | ⟨k1,k2⟩
 ·exact ⟨rfl,h1.one k1⟩
 ·exact absurd (h1.one k1) h2
 ·exact absurd (h1.one k1) h2
 ·exact absurd (k1.one h1) k2
 ·exact ⟨rfl,rfl⟩
 ·exact absurd k2 h2
 ·exact absurd (k1.one h1) k2
 ·exact absurd h2 k2
 ·exact ⟨rfl,rfl⟩
theorem QV {s:Show} {c:az} (h:rR s c 0):cX s c=some 0:=by
 obtain ⟨e,h1,h2⟩:=KH s c;have:=h.one h2;subst this;exact h1
theorem at0 (s:Show) (c:az) (item aZ:Int) (h8:S8 s):∃ r e,BZ s c item aZ=some (r,e)/\JU s c item aZ (bB r) e:=by
 obtain ⟨e,h1,h2⟩:=aoj s c;have e0:Gc s c item aZ=some e:=h1;unfold BZ uY bh;simp only [e0,bj,bc,ai];by_cases he:e=0
 ·subst he
  rw [hU,aw];by_cases c1:item < 0
  ·rw [au c1]; exact ⟨_,_,rfl,.out h2 fun h=>by have:=h.1; omega⟩
  by_cases c2:item >= ((s.items.n:Nat):Int)
  ·rw [ay c1,au c2]; exact ⟨_,_,rfl,.out h2 fun h=>by have:=h.1; omega⟩
  by_cases c3:aZ < 0
  ·rw [ay c1,ay c2,au c3]; exact ⟨_,_,rfl,.out h2 fun h=>by have:=h.2; omega⟩
  have c5:item < ((s.items.n:Nat):Int):=by omega
  rw [ay c1,ay c2,ay c3,au (show 0<=item by omega),au c5];simp only [aw,ai,bC];by_cases c4:aZ >= (((s.items.get (Int.toNat item)).bd.n:Nat):Int)
  ·rw [au c4]; exact ⟨_,_,rfl,.out h2 fun h=>by have:=h.2; omega⟩
  obtain ⟨hc,hm⟩:=Ay (QV h2);obtain ⟨r,hr,hl⟩:=avt s c (Int.toNat item) (Int.toNat aZ) (by omega) (by omega) hc (hm _ (by omega)).full h8;rw [ZH (by omega),ZH (by omega)] at hr;have e1:MO s c item aZ=some r:=hr;simp only [ay c4,aw,e1,bj,bc,ai];refine ⟨_,_,rfl,?_⟩;rw [hl];exact .ok h2 ⟨⟨by omega,by omega⟩,by omega,by omega⟩
 ·rw [show (e != (0:Int))=true by simpa using he]
  exact ⟨_,_,rfl,.bad e h2 he⟩
end Go.Proofs.YtchbpckkmgcgkaaGreat.b
end
section
namespace Go.Proofs.YtchbpckkmgcgkaaGreat.b
open Go.K
noncomputable section
structure qm where
 t4:(Sl bx)
 out:(Sl bx)
 i:Int
 s:Show
 c:az
instance:Inhabited qm:=⟨⟨default,default,default,default,default⟩⟩
def HG (x:qm):List KV:=[eZ 200 fD x.t4,eZ 200 fD x.out,.int .i64 x.i]
def HH (x:qm):List (List KV):=[sS x.s,Fs x.c]
def QW (vs:List KV) (rs:List (List KV)):qm:=⟨fg gj (v9 vs 0),fg gj (v9 vs 1),intOf (v9 vs 2),sT (r9 rs 0),Ft (r9 rs 1)⟩
def TL:aU:=⟨[(4,w9 (n9 200)),(5,⟨false,[.bm 200]⟩),(6,w9 i9)],[(2,[n9 111,n9 114],1),(3,[i9,i9,i9,i9,i9,i9,i9,i9,i9,i9,i9,i9,i9,i9,i9,i9],1)],[(2,0,0),(3,1,0)]⟩
structure lN where
 t4:(Sl bx)
 out:(Sl bx)
 i:Int
 k:Int
 s:Show
 c:az
instance:Inhabited lN:=⟨by constructor<;>exact default⟩
def D7 (x:lN):List KV:=[eZ 200 fD x.t4,eZ 200 fD x.out,.int .i64 x.i,.int .i64 x.k]
def D8 (x:lN):List (List KV):=[sS x.s,Fs x.c]
def MP (vs:List KV) (rs:List (List KV)):lN:=⟨fg gj (v9 vs 0),fg gj (v9 vs 1),intOf (v9 vs 2),intOf (v9 vs 3),sT (r9 rs 0),Ft (r9 rs 1)⟩
def Oc:aU:=⟨[(4,w9 (n9 200)),(5,⟨false,[.bm 200]⟩),(6,w9 i9),(7,w9 i9)],[(2,[n9 111,n9 114],1),(3,[i9,i9,i9,i9,i9,i9,i9,i9,i9,i9,i9,i9,i9,i9,i9,i9],1)],[(2,0,0),(3,1,0)]⟩
structure nw where
 t4:(Sl bx)
 out:(Sl bx)
 i:Int
 k:Int
 l:(Sl aF)
 n:Int
 s:Show
 c:az
instance:Inhabited nw:=⟨by constructor<;>exact default⟩
def AX (x:nw):List KV:=[eZ 200 fD x.t4,eZ 200 fD x.out,.int .i64 x.i,.int .i64 x.k,eZ 62 eJ x.l,.int .i64 x.n]
def AY (x:nw):List (List KV):=[sS x.s,Fs x.c]
def I6 (vs:List KV) (rs:List (List KV)):nw:=⟨fg gj (v9 vs 0),fg gj (v9 vs 1),intOf (v9 vs 2),intOf (v9 vs 3),fg ei (v9 vs 4),intOf (v9 vs 5),sT (r9 rs 0),Ft (r9 rs 1)⟩
def Kg:aU:=⟨[(4,w9 (n9 200)),(5,⟨false,[.bm 200]⟩),(6,w9 i9),(7,w9 i9),(8,w9 (n9 62)),(9,w9 i9)],[(2,[n9 111,n9 114],1),(3,[i9,i9,i9,i9,i9,i9,i9,i9,i9,i9,i9,i9,i9,i9,i9,i9],1)],[(2,0,0),(3,1,0)]⟩
def Wf:=vL [(50,K7)] [] 56 477478 Kg
def jb (x:nw):aK nw:=(cond (decide (x.n < (x.l.n:Int))) (cond (bh x.n x.l.n) (cond (qH 144 x.out.n 1) (cond (aR (x.out.n+1)) (.next ⟨x.t4,(x.out.push ⟨(x.l.get (Int.toNat x.n)),x.i,x.k,x.n⟩),x.i,x.k,x.l,(ak (x.n+1)),x.s,x.c⟩) .fail) .fail) .fail) (cond (aR x.out.n) (.out (aE.aq.exit 4) x) .fail))
theorem SV (x:nw):Wf (AX x) (AY x)=aK.enc AX AY (jb x):=by
 unfold jb bh qH aR
 try simp only [aK.bI,QQ]
 kernel_rfl
def wu:Lp:=⟨56,477478,Kg,fun vs rs=>cc AX AY (goN jb (I6 vs rs)) [aE.aq.exit 4],false⟩
theorem AZ:wu.Ok PG:=uJ (ao.cons Gb ao.nil) aJ.nil (pa:=I6) SV
def ZF:=vL [(50,K7)] [wu] 56 3730 Oc
def CE (x:lN):=HF x.s x.c x.i x.k
def iB (x:lN):=goN jb ⟨x.t4,x.out,x.i,x.k,((CE x).getD default),0,x.s,x.c⟩
def ki (x:lN):aK lN:=(cond (bh x.i x.s.items.n) (cond (decide (x.k < ((x.s.items.get (Int.toNat x.i)).bd.n:Int))) (cond (CE x).isSome (cond (aR x.out.n) (cond ((iB x).by (aE.aq.exit 4)) (cond (aR (iB x).st.out.n) (.next ⟨(iB x).st.t4,(iB x).st.out,(iB x).st.i,(ak ((iB x).st.k+1)),(iB x).st.s,(iB x).st.c⟩) .fail) .fail) .fail) .fail) (cond (aR x.out.n) (.out (aE.aq.exit 2) x) .fail)) .fail)
theorem Wg (x:lN):ZF (D7 x) (D8 x)=aK.enc D7 D8 (ki x):=by
 unfold ki bh aR
 try simp only [aK.bI]
 kernel_rfl
def Gd:Lp:=⟨56,3730,Oc,fun vs rs=>cc D7 D8 (goN ki (MP vs rs)) [aE.aq.exit 2],false⟩
theorem MQ:Gd.Ok PG:=uJ (ao.cons Gb ao.nil) (ie AZ aJ.nil) (pa:=MP) Wg
def adK:=vL [(50,K7)] [wu,Gd] 56 58 TL
def nE (x:qm):=goN ki ⟨x.t4,x.out,x.i,0,x.s,x.c⟩
def qW (x:qm):aK qm:=(cond (decide (x.i < (x.s.items.n:Int))) (cond (aR x.out.n) (cond ((nE x).by (aE.aq.exit 2)) (cond (aR (nE x).st.out.n) (.next ⟨(nE x).st.t4,(nE x).st.out,(ak ((nE x).st.i+1)),(nE x).st.s,(nE x).st.c⟩) .fail) .fail) .fail) (cond (aR x.out.n) (.out (aE.aq.exit 0) x) .fail))
theorem ZG (x:qm):adK (HG x) (HH x)=aK.enc HG HH (qW x):=by
 unfold qW aR
 try simp only [aK.bI]
 kernel_rfl
def TM:Lp:=⟨56,58,TL,fun vs rs=>cc HG HH (goN qW (QW vs rs)) [aE.aq.exit 0],false⟩
theorem adL:TM.Ok PG:=uJ (ao.cons Gb ao.nil) (ie AZ (ie MQ aJ.nil)) (pa:=QW) ZG
def xB (s:Show) (c:az):=goN qW ⟨⟨0,(fun i=>⟨⟨⟨0,0,0,0,0⟩,⟨0,0,0,0,0⟩,⟨0,0,0,0,0⟩⟩,0,0,0⟩)⟩,⟨0,(fun i=>⟨⟨⟨0,0,0,0,0⟩,⟨0,0,0,0,0⟩,⟨0,0,0,0,0⟩⟩,0,0,0⟩)⟩,0,s,c⟩
def B4 (s:Show) (c:az):Option ((Sl bx)):=(cond ((xB s c).by (aE.aq.exit 0)) (some ((xB s c).st.out)) none)
theorem aiR (s:Show) (c:az):gw [(50,K7)] [wu,Gd,TM] 56 [ph s,kc c] = (B4 s c).map (eZ 200 fD):=by
 unfold B4
 try simp only [aV]
 kernel_rfl
def abS:List KV->KR KV:=a8 PG 56 (bb (eZ 200 fD) fun vs=>B4 (gm (v9 vs 0)) (dt (v9 vs 1)))
theorem afF:a7 PG 56 abS:=bH (ao.cons Gb ao.nil) (ie AZ (ie MQ (ie adL aJ.nil))) fun w=>aiR (gm (g0 25 (w 0))) (dt (g0 31 (w 1)))
def Ge (s:Show) (c:az) (x:Int) (y:Int):=BP s c x y
def MR (s:Show) (c:az) (x:Int) (y:Int):=B4 s c
def Gf (s:Show) (c:az) (x:Int) (y:Int):=K6 s ((MR s c x y).getD default) x y
def ng (s:Show) (c:az) (x:Int) (y:Int):Option ((Sl aL)×Int):=(cond (Ge s c x y).isSome (cond (((Ge s c x y).getD default) != 0) (some (⟨0,(fun i=>⟨0,0,0,0,0,0⟩)⟩,((Ge s c x y).getD default))) (cond (MR s c x y).isSome (cond (Gf s c x y).isSome (some (((Gf s c x y).getD default),0)) none) none)) none)
theorem aiS (s:Show) (c:az) (x:Int) (y:Int):gw [(55,akH),(56,abS),(54,abH)] [] 13 [ph s,kc c,(kI .i64) x,(kI .i64) y] = (ng s c x y).map (fun (r:(Sl aL)×Int)=>KV.jd [(eZ 48 fH) r.1,(kI .i64) r.2]):=by
 unfold ng
 try simp only [aV]
 kernel_rfl
def Gg:List KV->KR KV:=a8 PG 13 (bb (fun (r:(Sl aL)×Int)=>KV.jd [(eZ 48 fH) r.1,(kI .i64) r.2]) fun vs=>ng (gm (v9 vs 0)) (dt (v9 vs 1)) (intOf (v9 vs 2)) (intOf (v9 vs 3)))
theorem Dx:a7 PG 13 Gg:=bH (ao.cons al7 (ao.cons afF (ao.cons afz ao.nil))) aJ.nil fun w=>aiS (gm (g0 25 (w 0))) (dt (g0 31 (w 1))) (intOf (g0 3 (w 2))) (intOf (g0 3 (w 3)))
def uZ (s:Show) (c:az) (x:Int) (y:Int):=ng s c x y
def yN (s:Show) (c:az) (x:Int) (y:Int):=AQ s ((uZ s c x y).getD default).fst
def ru (s:Show) (c:az) (x:Int) (y:Int):Option (aL×Bool×Int):=(cond (uZ s c x y).isSome (cond (((uZ s c x y).getD default).snd != 0) (some (⟨0,0,0,0,0,0⟩,false,((uZ s c x y).getD default).snd)) (cond (yN s c x y).isSome (some (((yN s c x y).getD default).fst,((yN s c x y).getD default).snd,0)) none)) none)
theorem afG (s:Show) (c:az) (x:Int) (y:Int):gw [(58,I4),(13,Gg)] [] 15 [ph s,kc c,(kI .i64) x,(kI .i64) y] = (ru s c x y).map (fun (r:aL×Bool×Int)=>KV.jd [fH r.1,kB r.2.1,(kI .i64) r.2.2]):=by
 unfold ru
 try simp only [aV]
 kernel_rfl
def Pa:List KV->KR KV:=a8 PG 15 (bb (fun (r:aL×Bool×Int)=>KV.jd [fH r.1,kB r.2.1,(kI .i64) r.2.2]) fun vs=>ru (gm (v9 vs 0)) (dt (v9 vs 1)) (intOf (v9 vs 2)) (intOf (v9 vs 3)))
theorem QX:a7 PG 15 Pa:=bH (ao.cons F7 (ao.cons Dx ao.nil)) aJ.nil fun w=>afG (gm (g0 25 (w 0))) (dt (g0 31 (w 1))) (intOf (g0 3 (w 2))) (intOf (g0 3 (w 3)))
def xC (s:Show) (c:az) (ground:Color) (x:Int) (y:Int):=ng s c x y
def Gh (s:Show) (c:az) (ground:Color) (x:Int) (y:Int):=xw s ((xC s c ground x y).getD default).fst ground
def sZ (s:Show) (c:az) (ground:Color) (x:Int) (y:Int):Option (Color×Int):=(cond (xC s c ground x y).isSome (cond (((xC s c ground x y).getD default).snd != 0) (some (⟨0,0,0,0⟩,((xC s c ground x y).getD default).snd)) (cond (Gh s c ground x y).isSome (some (((Gh s c ground x y).getD default),0)) none)) none)
theorem aiT (s:Show) (c:az) (ground:Color) (x:Int) (y:Int):gw [(60,V0),(13,Gg)] [] 17 [ph s,kc c,fh ground,(kI .i64) x,(kI .i64) y] = (sZ s c ground x y).map (fun (r:Color×Int)=>KV.jd [fh r.1,(kI .i64) r.2]):=by
 unfold sZ
 try simp only [aV]
 kernel_rfl
def SW:List KV->KR KV:=a8 PG 17 (bb (fun (r:Color×Int)=>KV.jd [fh r.1,(kI .i64) r.2]) fun vs=>sZ (gm (v9 vs 0)) (dt (v9 vs 1)) (kQ (v9 vs 2)) (intOf (v9 vs 3)) (intOf (v9 vs 4)))
theorem TN:a7 PG 17 SW:=bH (ao.cons abK (ao.cons Dx ao.nil)) aJ.nil fun w=>aiT (gm (g0 25 (w 0))) (dt (g0 31 (w 1))) (kQ (g0 33 (w 2))) (intOf (g0 3 (w 3))) (intOf (g0 3 (w 4)))
end
end Go.Proofs.YtchbpckkmgcgkaaGreat.b
end
section
namespace Go.Proofs.YtchbpckkmgcgkaaGreat.b
open Go.K Go.K.iK
open Go.aE (aq)
theorem abT {α:Type} {a b:Sl α} (h:bB a=bB b):a.n=b.n/\∀ i,i < b.n->a.get i=b.get i:=by
 have hn:a.n=b.n:=by
  have:=congrArg List.length h;rw [eP,eP] at this;exact this
 refine ⟨hn,fun i hi=>?_⟩;have h1:=Eo a i (by omega);rw [h,Eo b i hi] at h1;exact (pb h1).symm
theorem arT (s:Show) (c:az) (i k:Nat) (l:Sl aF) (t4 out:Sl bx) (hl:bB l=bB (CZ s c i k)) (hn:l.n<=6) (hs:out.n<=200000) :
  ∃ (Gi:Sl bx) (n:Int),goN jb ⟨t4,out,(i:Int),(k:Int),l,0,s,c⟩ = .out (.exit 4) ⟨t4,Gi,(i:Int),(k:Int),l,n,s,c⟩/\bB Gi=bB out++(NL s c i k).map Dw/\Gi.n<=out.n+6:=by
 obtain ⟨l1,l2⟩:=abT hl;obtain ⟨e,z,hz,rfl,Gi,n,rfl,h1,h2⟩:∃ e z,goN jb ⟨t4,out,(i:Int),(k:Int),l,0,s,c⟩ = .out e z/\(e = .exit 4/\∃ (Gi:Sl bx) (n:Int),z=⟨t4,Gi,(i:Int),(k:Int),l,n,s,c⟩/\bB Gi=bB out++(NL s c i k).map Dw/\Gi.n<=out.n+6):=by
  refine bt (step:=jb) (fun j y=>∃ o:Sl bx,y=⟨t4,o,(i:Int),(k:Int),l,(j:Int),s,c⟩/\j<=l.n/\bB o=bB out++(List.range j).map (fun n=>Dw (partAt s c i k n))/\o.n=out.n+j) _ l.n (by have:gv=1000000000000:=rfl; omega) (fun j y hj ⟨o,hy,h1,h2,h3⟩=>?_) ⟨out,rfl,dq _,by simp,rfl⟩;subst hy;have w1:ak ((j:Int)+1)=((j+1:Nat):Int):=by rw [aj (by omega) (by omega)]; omega
  have a1:j6 144 o.n 1=true:=sU (by omega) (by omega) (by omega) (.inl (by omega));unfold jb bh qH aR;by_cases h:(j:Int) < ((l.n:Nat):Int)
  ·simp only [w1,a1,aI,bU,ai,bC,au h,au (show (0:Int)<=(j:Int) by omega)]
   refine .inl ⟨_,rfl,by omega,_,rfl,by omega,?_,by show o.n+1=_; omega⟩;rw [jE,h2,QY,HM,<- HJ,l2 j (by omega)];rfl
  ·simp only [aI,ai,aw,ay h]
   refine .inr ⟨_,_,rfl,rfl,rfl,o,(j:Int),rfl,?_,by omega⟩;rw [h2,show j=(CZ s c i k).n by omega];unfold NL;rw [List.map_map];rfl
 exact ⟨Gi,n,hz,h1,h2⟩
theorem apJ (s:Show) (c:az) (h8:S8 s) (hc:mz c) (i:Nat) (hi:i < s.items.n) (hx:abc (s.items.get i)) (ht:(s.items.get i).bd.n<=64) (ha:cX s c=some 0) (t4 out:Sl bx) (hs:out.n<=150000) :
  ∃ (Gi:Sl bx) (k:Int),goN ki ⟨t4,out,(i:Int),0,s,c⟩ = .out (.exit 2) ⟨t4,Gi,(i:Int),k,s,c⟩/\bB Gi=bB out++(Jp s c i).map Dw/\Gi.n<=out.n+384:=by
 obtain ⟨e,z,hz,rfl,Gi,k,rfl,h1,h2⟩:∃ e z,goN ki ⟨t4,out,(i:Int),0,s,c⟩ = .out e z/\(e = .exit 2/\∃ (Gi:Sl bx) (k:Int),z=⟨t4,Gi,(i:Int),k,s,c⟩/\bB Gi=bB out++(Jp s c i).map Dw/\Gi.n<=out.n+384):=by
  refine bt (step:=ki) (fun j y=>∃ o:Sl bx,y=⟨t4,o,(i:Int),(j:Int),s,c⟩/\j<=(s.items.get i).bd.n/\bB o=bB out++((List.range j).flatMap (NL s c i)).map Dw/\o.n<=out.n+6 * j) _ (s.items.get i).bd.n (by have:gv=1000000000000:=rfl; omega) (fun j y hj ⟨o,hy,h1,h2,h3⟩=>?_) ⟨out,rfl,dq _,by simp,by omega⟩;subst hy;have w1:ak ((j:Int)+1)=((j+1:Nat):Int):=by rw [aj (by omega) (by omega)]; omega
  unfold ki bh aR;by_cases h:(j:Int) < (((s.items.get i).bd.n:Nat):Int)
  ·obtain ⟨r,hr,Iq⟩:=avt s c i j hi (by omega) hc hx h8
   have hpl:bB r=bB (CZ s c i j):=by rw [Iq,akE ha hi (by omega)]
   have hr6:r.n<=6:=by
    obtain ⟨q,hq,hq6⟩:=aeD s c i j hi (by omega) hx.ok;have:CZ s c i j=q:=by unfold CZ; rw [hq]; rfl
    rw [(abT hpl).1,this];exact hq6
   have e0:CE ⟨t4,o,(i:Int),(j:Int),s,c⟩=some r:=hr;obtain ⟨o',n,g1,g2,g3⟩:=arT s c i j r t4 o hpl hr6 (by omega);have e1:iB ⟨t4,o,(i:Int),(j:Int),s,c⟩ = .out (.exit 4) ⟨t4,o',(i:Int),(j:Int),r,n,s,c⟩:=by
    unfold iB;rw [e0];exact g1
   simp only [e0,e1,aK.lF,aK.lU,gq,nA,w1,aI,bU,bj,ai,bC,au h,au (show (0:Int)<=(i:Int) by omega),au (show (i:Int) < ((s.items.n:Nat):Int) by omega)];refine .inl ⟨_,rfl,by omega,o',rfl,by omega,?_,by omega⟩;rw [g2,h2,IP,HM,HJ]
  ·simp only [aI,bU,ai,aw,bC,ay h,au (show (0:Int)<=(i:Int) by omega),au (show (i:Int) < ((s.items.n:Nat):Int) by omega)]
   refine .inr ⟨_,_,rfl,rfl,rfl,o,(j:Int),rfl,?_,by omega⟩;rw [h2,show j=(s.items.get i).bd.n by omega];rfl
 exact ⟨Gi,k,hz,h1,h2⟩
theorem at1 (s:Show) (c:az) (h8:S8 s) (ha:cX s c=some 0):∃ F,B4 s c=some F/\bB F=(gx s c).map Dw/\F.n<=98304:=by
 obtain ⟨hc,hm⟩:=Ay ha;obtain ⟨⟨hs1,_⟩,_⟩:=(Vm s c).elim fun e h=>h.2 (pb (h.1.symm.trans ha));obtain ⟨e,z,hz,rfl,h1,h2⟩:∃ e z,xB s c = .out e z/\(e = .exit 0/\bB z.out=(gx s c).map Dw/\z.out.n<=98304):=by
  unfold xB;refine bt (step:=qW) (fun j y=>∃ (t4 o:Sl bx),y=⟨t4,o,(j:Int),s,c⟩/\j<=s.items.n/\bB o=((List.range j).flatMap (Jp s c)).map Dw/\o.n<=384 * j) _ s.items.n (by have:gv=1000000000000:=rfl; omega) (fun j y hj ⟨t4,o,hy,h1,h2,h3⟩=>?_) ⟨_,_,rfl,dq _,rfl,aX _⟩;subst hy;have w1:ak ((j:Int)+1)=((j+1:Nat):Int):=by rw [aj (by omega) (by omega)]; omega
  unfold qW aR;by_cases h:(j:Int) < ((s.items.n:Nat):Int)
  ·obtain ⟨o',k,g1,g2,g3⟩:=apJ s c h8 hc j (by omega) (hm j (by omega)).full (hm j (by omega)).t64 ha t4 o (by omega)
   have e0:nE ⟨t4,o,(j:Int),s,c⟩ = .out (.exit 2) ⟨t4,o',(j:Int),k,s,c⟩:=g1;simp only [e0,aK.lF,aK.lU,gq,nA,w1,aI,ai,au h];refine .inl ⟨_,rfl,by omega,t4,o',rfl,by omega,?_,by omega⟩;rw [g2,h2,IP,HM]
  ·simp only [aI,ai,aw,ay h]
   refine .inr ⟨_,_,rfl,rfl,rfl,?_,by show o.n<=_; omega⟩;show bB o=_;rw [h2,show j=s.items.n by omega];rfl
 have b1:(xB s c).by (.exit 0)=true:=by rw [hz]; rfl
 have b2:(xB s c).st=z:=by rw [hz]; rfl
 refine ⟨z.out,?_,h1,h2⟩;unfold B4;rw [b1,b2,ai]
theorem auW {s:Show} {c:az} {x y:Int} (h:rR s c 0) (hw:InW c x y):Pix x y:=by
 obtain ⟨hc,_⟩:=Ay (QV h);obtain ⟨⟨_,_,_,h3,h4⟩,_⟩:=hc;obtain ⟨⟨a,b⟩,d,e⟩:=hw;exact ⟨⟨a,by omega⟩,d,by omega⟩
theorem auX {s:Show} {c:az} {x y:Int} {l:Sl aL} (hl:bB l=mI x y (gx s c)) (hn:l.n<=98304):abO s l:=by
 refine ⟨hn,fun j hj=>QH (c:=c) (x:=x) (y:=y) (by rw [<- hl]; exact FO hj),fun j hj=>?_⟩;have hm:l.get j∈mI x y (gx s c):=by rw [<- hl]; exact FO hj
 obtain ⟨p,_,hp⟩:=List.mem_filterMap.1 hm;exact anX hp
inductive at2 (s:Show) (c:az) (ground:Color) (x y:Int):Prop where
 | no (e:Int) (hv:MM s c x y e) (he:e≠0) (l:Sl aL) (hn:l.n=0) (h1:ng s c x y=some (l,e)) (h2:ru s c x y=some (⟨0,0,0,0,0,0⟩,false,e)) (h3:sZ s c ground x y=some (⟨0,0,0,0⟩,e)):at2 s c ground x y
 | yes (hv:MM s c x y 0) (l:Sl aL) (hl:bB l=mI x y (gx s c)) (hn:l.n<=98304)
   (h1:ng s c x y=some (l,0)) (h2:ru s c x y=some ((kK s (mI x y (gx s c))).1,(kK s (mI x y (gx s c))).2,0)) (h3:sZ s c ground x y=some (vV s (mI x y (gx s c)) ground,0)):at2 s c ground x y
theorem akI (s:Show) (c:az) (ground:Color) (x y:Int) (h8:S8 s) (hg:U8 ground):at2 s c ground x y:=by
 obtain ⟨e,h1,hv⟩:=atV s c x y;have e0:Ge s c x y=some e:=h1;by_cases he:e=0
 ·subst he
  have ⟨hav,hw⟩:rR s c 0/\InW c x y:=by
   rcases hv with ⟨_,_,k⟩ | ⟨_,_⟩ | ⟨k1,k2⟩
   ·exact absurd rfl k
   ·exact ⟨k1,k2⟩
  have ha:=QV hav;obtain ⟨F,hF,hFl,hFn⟩:=at1 s c h8 ha;obtain ⟨l,hl,hll⟩:=awZ s c x y F ha (auW hav hw) hFn hFl;have hln:l.n<=98304:=by
   have h2:=congrArg List.length hll;rw [eP] at h2;have h3:=atu x y (gx s c);have h4:=congrArg List.length hFl;rw [eP,List.length_map] at h4;omega
  have e1:MR s c x y=some F:=hF;have e2:Gf s c x y=some l:=by unfold Gf; rw [e1]; exact hl
  have CO:ng s c x y=some (l,0):=by
   unfold ng;simp only [e0,e1,e2,bj,bc,ai,hU,aw]
  have cm:=auX hll hln;have w0:uZ s c x y=some (l,0):=CO;have w1:yN s c x y=some (kK s (bB l)):=by
   unfold yN;rw [w0];exact aiO s l cm.n cm.it
  have p0:xC s c ground x y=some (l,0):=CO;have p1:Gh s c ground x y=some (vV s (bB l) ground):=by
   unfold Gh;rw [p0];exact apD s l ground (adC (KG ha)) h8 cm hg
  refine .yes hv l hll hln CO ?_ ?_
  ·unfold ru
   simp only [w0,w1,bj,bc,ai,hU,aw,hll]
  ·unfold sZ
   simp only [p0,p1,bj,bc,ai,hU,aw,hll]
 ·have hb:(e != (0:Int))=true:=by simpa using he
  have CO:∃ l:Sl aL,l.n=0/\ng s c x y=some (l,e):=by
   unfold ng;simp only [e0,bj,bc,ai,hb];exact ⟨_,rfl,rfl⟩
  obtain ⟨l,hn,CO⟩:=CO;have w0:uZ s c x y=some (l,e):=CO;have p0:xC s c ground x y=some (l,e):=CO;refine .no e hv he l hn CO ?_ ?_
  ·unfold ru
   simp only [w0,bj,bc,ai,hb]
  ·unfold sZ
   simp only [p0,bj,bc,ai,hb]
theorem auY (s:Show) (c:az) (item aZ:Int):∃ r e,xf s c item aZ=some (r,e)/\JU s c item aZ (bB r) e:=by
 obtain ⟨e,h1,h2⟩:=KH s c;have e0:Bz s c item aZ=some e:=h1;unfold xf rO bh;simp only [e0,bj,bc,ai];by_cases he:e=0
 ·subst he
  rw [hU,aw];by_cases c1:item < 0
  ·rw [au c1]; exact ⟨_,_,rfl,.out h2 fun h=>by have:=h.1; omega⟩
  by_cases c2:item >= ((s.items.n:Nat):Int)
  ·rw [ay c1,au c2]; exact ⟨_,_,rfl,.out h2 fun h=>by have:=h.1; omega⟩
  by_cases c3:aZ < 0
  ·rw [ay c1,ay c2,au c3]; exact ⟨_,_,rfl,.out h2 fun h=>by have:=h.2; omega⟩
  have c5:item < ((s.items.n:Nat):Int):=by omega
  rw [ay c1,ay c2,ay c3,au (show 0<=item by omega),au c5];simp only [aw,ai,bC];by_cases c4:aZ >= (((s.items.get (Int.toNat item)).bd.n:Nat):Int)
  ·rw [au c4]; exact ⟨_,_,rfl,.out h2 fun h=>by have:=h.2; omega⟩
  obtain ⟨hc,hm⟩:=Ay (QV h2);obtain ⟨r,hr,hl⟩:=abd s c (Int.toNat item) (Int.toNat aZ) (by omega) (by omega) hc (hm _ (by omega)).full;rw [ZH (by omega),ZH (by omega)] at hr;have e1:G7 s c item aZ=some r:=hr;simp only [ay c4,aw,e1,bj,bc,ai];refine ⟨_,_,rfl,?_⟩;rw [hl];exact .ok h2 ⟨⟨by omega,by omega⟩,by omega,by omega⟩
 ·rw [show (e != (0:Int))=true by simpa using he]
  exact ⟨_,_,rfl,.bad e h2 he⟩
theorem ux.part {s s' : Show} (h:ux s s') {c:az} {item aZ e:Int} {l:List aF} (k:JU s c item aZ l e):JU s' c item aZ l e:=by
 have hit:0<=item/\item < (s.items.n:Int)->s'.items.get (Int.toNat item)=s.items.get (Int.toNat item):=fun q=>h.it _ (by omega);have Dz:InT s' item aZ↔InT s item aZ:=by
  unfold InT;rw [h.n];constructor
  ·rintro ⟨q1,q2⟩; rw [hit q1] at q2; exact ⟨q1,q2⟩
  ·rintro ⟨q1,q2⟩; rw [hit q1]; exact ⟨q1,q2⟩
 rcases k with ⟨_,k1,k2⟩ | ⟨k1,k2⟩ | ⟨k1,k2⟩
 ·exact .bad _ (h.asked k1) k2
 ·exact .out (h.asked k1) fun q=>k2 (Dz.1 q)
 ·have:partsOf s' c (Int.toNat item) (Int.toNat aZ)=partsOf s c (Int.toNat item) (Int.toNat aZ):=by
   unfold partsOf;rw [hit k2.1]
  rw [<- this];exact .ok (h.asked k1) (Dz.2 k2)
theorem ux.s8 {s s' : Show} (h:ux s s') (k:S8 s):S8 s':=by
 refine ⟨fun i hi=>?_,fun i hi=>?_,fun i hi=>?_⟩
 ·rw [h.n] at hi; rw [h.it i hi]; exact k.col i hi
 ·rw [h.n] at hi; rw [h.it i hi]; exact k.cw i hi
 ·rw [h.tn] at hi; rw [h.tx i hi]; exact k.tex i hi
def FOk (s:Show) (f:aL):Prop:=(0<=f.item/\f.item < (s.items.n:Int))/\(0<=f.u/\f.u<=255)/\0<=f.v/\f.v<=255
theorem ux.at3 {s s' : Show} (h:ux s s') (k:S8 s) (hl:rJ s) (tL:rJ s') {f:aL} (hf:FOk s f):jo s' f=jo s f:=by
 obtain ⟨h0,hu,hv⟩:=hf;have e1:=(abN hl k h0 hu hv).1;have e2:=(abN (f:=f) tL (h.s8 k) (by rw [h.n]; exact h0) hu hv).1;have hi:=(Qt (hl.2 (Int.toNat f.item) (by omega))).hi;have key:pV (s.items.get (Int.toNat f.item)).look s'.av f.u f.v=pV (s.items.get (Int.toNat f.item)).look s.av f.u f.v:=by
  unfold pV qU bh;rw [h.tn];by_cases c:(s.items.get (Int.toNat f.item)).look.iD < 0
  ·rw [au c]; rfl
  ·rw [h.tx (Int.toNat (s.items.get (Int.toNat f.item)).look.iD) (by omega)]
 unfold vA F9 bh at e1 e2;rw [h.n,h.item h0,key,e1] at e2;exact (pb e2).symm
theorem ux.avu {s s' : Show} (h:ux s s') (k:S8 s) (hl:rJ s) (tL:rJ s'):∀ (l:List aL) (g:Color),(∀ f∈l,FOk s f)->ly s' g l=ly s g l
 | [],_,_=>rfl
 | f::l,g,hf=>by
  show ly s' (lay (jo s' f) g) l=ly s (lay (jo s f) g) l;rw [h.at3 k hl tL (hf f (Kj ..))];exact h.avu k hl tL l _ fun q hq=>hf q (wh _ hq)
theorem ux.aw0 {s s' : Show} (h:ux s s') (w:aL×Bool) (l:List aL) (n:Nat) (hf:∀ f∈l,FOk s f):sj s' w l n=sj s w l n:=by
 unfold sj;refine NP fun b _=>List.filter_congr fun f hm=>?_;unfold zF xv;rw [h.Aj (hf f hm).1,h.bin (hf f hm).1]
theorem ux.color {s s' : Show} (h:ux s s') (k:S8 s) (hl:rJ s) (tL:rJ s') (l:List aL) (g:Color) (hf:∀ f∈l,FOk s f):vV s' l g=vV s l g:=by
 have hw:Go.Proofs.YtchbpckkmgcgkaaGreat.b.uj s' l=Go.Proofs.YtchbpckkmgcgkaaGreat.b.uj s l:=h.uj l _ fun f hm=>(hf f hm).1;unfold vV;rw [hw,h.aw0 _ _ _ hf];have hg:cond (Go.Proofs.YtchbpckkmgcgkaaGreat.b.uj s l).2 (jo s' (Go.Proofs.YtchbpckkmgcgkaaGreat.b.uj s l).1) g=cond (Go.Proofs.YtchbpckkmgcgkaaGreat.b.uj s l).2 (jo s (Go.Proofs.YtchbpckkmgcgkaaGreat.b.uj s l).1) g:=by
  rcases adx s l with ⟨h1,_⟩ | ⟨h1,h2,_⟩
  ·rw [h1]; rfl
  ·rw [h1,ai,ai]
   exact h.at3 k hl tL (hf _ h2)
 rw [hg];refine h.avu k hl tL _ _ fun f hm=>?_;unfold sj at hm;obtain ⟨b,_,hb⟩:=QZ.1 hm;exact hf f (List.mem_filter.1 hb).1
theorem at4 {s:Show} {c:az} {x y:Int} {f:aL} (hm:f∈mI x y (gx s c)):FOk s f:=by
 obtain ⟨p,_,hp⟩:=List.mem_filterMap.1 hm;exact ⟨QH hm,anX hp⟩
end Go.Proofs.YtchbpckkmgcgkaaGreat.b
end
section
namespace Go.Proofs.YtchbpckkmgcgkaaGreat.b
open Go.K
noncomputable section
structure jK where
 t14:Bool
 a:(Sl aF)
 b:(Sl aF)
 i:Int
 s:Show
 own:Show
instance:Inhabited jK:=⟨by constructor<;>exact default⟩
def vW (x:jK):List KV:=[.bool x.t14,eZ 62 eJ x.a,eZ 62 eJ x.b,.int .i64 x.i]
def vX (x:jK):List (List KV):=[sS x.s,sS x.own]
def Da (vs:List KV) (rs:List (List KV)):jK:=⟨kO (v9 vs 0),fg ei (v9 vs 1),fg ei (v9 vs 2),intOf (v9 vs 3),sT (r9 rs 0),sT (r9 rs 1)⟩
def EB:aU:=⟨[(14,w9 b9),(16,w9 (n9 62)),(18,w9 (n9 62)),(34,w9 i9)],[(7,[n9 111,n9 114],1),(15,[n9 111,n9 114],1)],[(7,0,0),(15,1,0)]⟩
def Pb:=vL [(21,Jx),(20,KK),(19,FJ),(18,Hg),(17,SW),(16,MF),(15,Pa),(14,JK),(13,Gg),(12,Ma),(11,SU),(10,L7),(9,VS),(8,Sk)] [] 3 65530 EB
def gC (x:jK):aK jK:=(cond (decide (x.i < (x.a.n:Int))) (cond (bh x.i x.a.n) (cond (bh x.i x.b.n) (cond (!(((x.a.get (Int.toNat x.i)).e0.x==(x.b.get (Int.toNat x.i)).e0.x)&&(((x.a.get (Int.toNat x.i)).e0.y==(x.b.get (Int.toNat x.i)).e0.y)&&(((x.a.get (Int.toNat x.i)).e0.d==(x.b.get (Int.toNat x.i)).e0.d)&&(((x.a.get (Int.toNat x.i)).e0.u==(x.b.get (Int.toNat x.i)).e0.u)&&(((x.a.get (Int.toNat x.i)).e0.v==(x.b.get (Int.toNat x.i)).e0.v)&&(((x.a.get (Int.toNat x.i)).e1.x==(x.b.get (Int.toNat x.i)).e1.x)&&(((x.a.get (Int.toNat x.i)).e1.y==(x.b.get (Int.toNat x.i)).e1.y)&&(((x.a.get (Int.toNat x.i)).e1.d==(x.b.get (Int.toNat x.i)).e1.d)&&(((x.a.get (Int.toNat x.i)).e1.u==(x.b.get (Int.toNat x.i)).e1.u)&&(((x.a.get (Int.toNat x.i)).e1.v==(x.b.get (Int.toNat x.i)).e1.v)&&(((x.a.get (Int.toNat x.i)).e2.x==(x.b.get (Int.toNat x.i)).e2.x)&&(((x.a.get (Int.toNat x.i)).e2.y==(x.b.get (Int.toNat x.i)).e2.y)&&(((x.a.get (Int.toNat x.i)).e2.d==(x.b.get (Int.toNat x.i)).e2.d)&&(((x.a.get (Int.toNat x.i)).e2.u==(x.b.get (Int.toNat x.i)).e2.u)&&(((x.a.get (Int.toNat x.i)).e2.v==(x.b.get (Int.toNat x.i)).e2.v)&&true)))))))))))))))) (.out aE.aq.ret ⟨false,x.a,x.b,x.i,x.s,x.own⟩) (.next ⟨x.t14,x.a,x.b,(ak (x.i+1)),x.s,x.own⟩)) .fail) .fail) (.out (aE.aq.exit 0) x))
theorem MS (x:jK):Pb (vW x) (vX x)=aK.enc vW vX (gC x):=by
 unfold gC bh
 try simp only [aK.bI]
 kernel_rfl
def EC:Lp:=⟨3,65530,EB,fun vs rs=>cc vW vX (goN gC (Da vs rs)) [aE.aq.exit 0,aE.aq.ret],false⟩
theorem Pc:EC.Ok PG:=uJ (ao.cons Mu (ao.cons JD (ao.cons FK (ao.cons Kd (ao.cons TN (ao.cons N6 (ao.cons QX (ao.cons MD (ao.cons Dx (ao.cons NK (ao.cons TK (ao.cons NG (ao.cons VT (ao.cons Tn ao.nil)))))))))))))) aJ.nil (pa:=Da) MS
def D9:List (Nat×(List KV->KR KV)):=[(21,Jx),(20,KK),(19,FJ),(18,Hg),(17,SW),(16,MF),(15,Pa),(14,JK),(13,Gg),(12,Ma),(11,SU),(10,L7),(9,VS),(8,Sk)]
def Ea:List Lp:=[EC]
theorem Wh:ao PG D9:=(ao.cons Mu (ao.cons JD (ao.cons FK (ao.cons Kd (ao.cons TN (ao.cons N6 (ao.cons QX (ao.cons MD (ao.cons Dx (ao.cons NK (ao.cons TK (ao.cons NG (ao.cons VT (ao.cons Tn ao.nil))))))))))))))
theorem Wi:aJ PG Ea:=(ie Pc aJ.nil)
def CF (s:Show) (c:az) (ground:Color) (item:Int) (aZ:Int) (x:Int) (y:Int):=vp s
def ln (s:Show) (c:az) (ground:Color) (item:Int) (aZ:Int) (x:Int) (y:Int):=Ew s
def qb (s:Show) (c:az) (ground:Color) (item:Int) (aZ:Int) (x:Int) (y:Int):=xf ((ln s c ground item aZ x y).getD default) c item aZ
def sC (s:Show) (c:az) (ground:Color) (item:Int) (aZ:Int) (x:Int) (y:Int):=BZ s c item aZ
def sD (s:Show) (c:az) (ground:Color) (item:Int) (aZ:Int) (x:Int) (y:Int):=iY ((ln s c ground item aZ x y).getD default) c x y
def wx (s:Show) (c:az) (ground:Color) (item:Int) (aZ:Int) (x:Int) (y:Int):=ng s c x y
def gZ (s:Show) (c:az) (ground:Color) (item:Int) (aZ:Int) (x:Int) (y:Int):=jA ((ln s c ground item aZ x y).getD default) c x y
def iC (s:Show) (c:az) (ground:Color) (item:Int) (aZ:Int) (x:Int) (y:Int):=ru s c x y
def lq (s:Show) (c:az) (ground:Color) (item:Int) (aZ:Int) (x:Int) (y:Int):=mG ((ln s c ground item aZ x y).getD default) c ground x y
def ny (s:Show) (c:az) (ground:Color) (item:Int) (aZ:Int) (x:Int) (y:Int):=sZ s c ground x y
def vB (s:Show) (c:az) (ground:Color) (item:Int) (aZ:Int) (x:Int) (y:Int):=tG ((sD s c ground item aZ x y).getD default).fst ((wx s c ground item aZ x y).getD default).fst
def vC (s:Show) (c:az) (ground:Color) (item:Int) (aZ:Int) (x:Int) (y:Int):=ij ((ln s c ground item aZ x y).getD default)
def A4 (s:Show) (c:az) (ground:Color) (item:Int) (aZ:Int) (x:Int) (y:Int):=yo s
def kk (s:Show) (c:az) (ground:Color) (item:Int) (aZ:Int) (x:Int) (y:Int):=goN gC ⟨false,((qb s c ground item aZ x y).getD default).fst,((sC s c ground item aZ x y).getD default).fst,0,s,((ln s c ground item aZ x y).getD default)⟩
def vD (s:Show) (c:az) (ground:Color) (item:Int) (aZ:Int) (x:Int) (y:Int):=uT (kk s c ground item aZ x y).st.own (kk s c ground item aZ x y).st.s
def zG (s:Show) (c:az) (ground:Color) (item:Int) (aZ:Int) (x:Int) (y:Int):Option (Bool):=(cond (CF s c ground item aZ x y).isSome (cond ((CF s c ground item aZ x y).getD default) (some (true)) (cond (ln s c ground item aZ x y).isSome (cond (qb s c ground item aZ x y).isSome (cond (sC s c ground item aZ x y).isSome (cond (sD s c ground item aZ x y).isSome (cond (wx s c ground item aZ x y).isSome (cond (gZ s c ground item aZ x y).isSome (cond (iC s c ground item aZ x y).isSome (cond (lq s c ground item aZ x y).isSome (cond (ny s c ground item aZ x y).isSome (cond ((((qb s c ground item aZ x y).getD default).fst.n:Int) != (((sC s c ground item aZ x y).getD default).fst.n:Int)) (some (false)) (cond (((qb s c ground item aZ x y).getD default).snd != ((sC s c ground item aZ x y).getD default).snd) (some (false)) (cond (vB s c ground item aZ x y).isSome (cond (!((vB s c ground item aZ x y).getD default)) (some (false)) (cond (((sD s c ground item aZ x y).getD default).snd != ((wx s c ground item aZ x y).getD default).snd) (some (false)) (cond (!((((gZ s c ground item aZ x y).getD default).fst.d==((iC s c ground item aZ x y).getD default).fst.d)&&((((gZ s c ground item aZ x y).getD default).fst.item==((iC s c ground item aZ x y).getD default).fst.item)&&((((gZ s c ground item aZ x y).getD default).fst.aZ==((iC s c ground item aZ x y).getD default).fst.aZ)&&((((gZ s c ground item aZ x y).getD default).fst.part==((iC s c ground item aZ x y).getD default).fst.part)&&((((gZ s c ground item aZ x y).getD default).fst.u==((iC s c ground item aZ x y).getD default).fst.u)&&((((gZ s c ground item aZ x y).getD default).fst.v==((iC s c ground item aZ x y).getD default).fst.v)&&true))))))) (some (false)) (cond (!(((gZ s c ground item aZ x y).getD default).snd.fst==((iC s c ground item aZ x y).getD default).snd.fst)) (some (false)) (cond (((gZ s c ground item aZ x y).getD default).snd.snd != ((iC s c ground item aZ x y).getD default).snd.snd) (some (false)) (cond (!((((lq s c ground item aZ x y).getD default).fst.e0==((ny s c ground item aZ x y).getD default).fst.e0)&&((((lq s c ground item aZ x y).getD default).fst.e1==((ny s c ground item aZ x y).getD default).fst.e1)&&((((lq s c ground item aZ x y).getD default).fst.e2==((ny s c ground item aZ x y).getD default).fst.e2)&&((((lq s c ground item aZ x y).getD default).fst.e3==((ny s c ground item aZ x y).getD default).fst.e3)&&true))))) (some (false)) (cond (((lq s c ground item aZ x y).getD default).snd != ((ny s c ground item aZ x y).getD default).snd) (some (false)) (cond (vC s c ground item aZ x y).isSome (cond (A4 s c ground item aZ x y).isSome (cond (((vC s c ground item aZ x y).getD default) != ((A4 s c ground item aZ x y).getD default)) (some (false)) (cond ((kk s c ground item aZ x y).by (aE.aq.exit 0)) (cond (vD s c ground item aZ x y).isSome (some (((vD s c ground item aZ x y).getD default))) none) (cond ((kk s c ground item aZ x y).by aE.aq.ret) (some ((kk s c ground item aZ x y).st.t14)) none))) none) none)))))))) none))) none) none) none) none) none) none) none) none) none)) none)
theorem Xv (s:Show) (c:az) (ground:Color) (item:Int) (aZ:Int) (x:Int) (y:Int):zY PG (iI PG D9 Ea) 9 9 3 [ph s,kc c,fh ground,(kI .i64) item,(kI .i64) aZ,(kI .i64) x,(kI .i64) y] = (zG s c ground item aZ x y).map kB:=by
 unfold zG
 try simp only [aV]
 kernel_rfl
theorem Wj (w:Nat->KV):Ae PG [25,31,33,3,3,3,3] w 0 = [ph (gm (g0 25 (w 0))),kc (dt (g0 31 (w 1))),fh (kQ (g0 33 (w 2))),(kI .i64) (intOf (g0 3 (w 3))),(kI .i64) (intOf (g0 3 (w 4))),(kI .i64) (intOf (g0 3 (w 5))),(kI .i64) (intOf (g0 3 (w 6)))]:=by kernel_rfl
end
end Go.Proofs.YtchbpckkmgcgkaaGreat.b
end
section
namespace Go.Proofs.YtchbpckkmgcgkaaGreat.b
open Go.K Go.K.iK
open Go.aE (aq)
theorem amd (s:Show) (c:az) (i k:Nat):(partsOf s c i k).length<=100:=by
 unfold partsOf Aw;refine um (List.length_filterMap_le _ _) ?_;unfold NN;rw [List.length_map,List.length_range];have:=ada c.ax (Zn c (s.items.get i) k);omega
theorem JU.len {s:Show} {c:az} {item aZ e:Int} {l:List aF} (h:JU s c item aZ l e):l.length<=100:=by
 rcases h with _ | _ | _
 ·exact dq _
 ·exact dq _
 ·exact amd s c _ _
theorem aom (s own:Show) (a b:Sl aF) (hn:a.n=b.n) (hb:a.n<=100) (h:∀ i,i < b.n->a.get i=b.get i):∃ i:Int,goN gC ⟨false,a,b,0,s,own⟩ = .out (.exit 0) ⟨false,a,b,i,s,own⟩:=by
 obtain ⟨e,z,hz,rfl,i,rfl⟩:∃ e z,goN gC ⟨false,a,b,0,s,own⟩ = .out e z/\(e = .exit 0/\∃ i:Int,z=⟨false,a,b,i,s,own⟩):=by
  refine bt (step:=gC) (fun j y=>y=⟨false,a,b,(j:Int),s,own⟩/\j<=a.n) _ a.n (by have:gv=1000000000000:=rfl; omega) (fun j y hj ⟨hy,f4⟩=>?_) ⟨rfl,dq _⟩;subst hy;have w1:ak ((j:Int)+1)=((j+1:Nat):Int):=by rw [aj (by omega) (by omega)]; omega
  unfold gC bh;by_cases bu:(j:Int) < ((a.n:Nat):Int)
  ·have hg:a.get j=b.get j:=h j (by omega)
   simp only [bU,hg,w1,ai,aw,bC,Ki,iR,au bu,au (show (0:Int)<=(j:Int) by omega),au (show (j:Int) < ((b.n:Nat):Int) by omega)];exact .inl ⟨_,rfl,by omega,rfl,by omega⟩
  ·simp only [aw,ay bu]
   exact .inr ⟨_,_,rfl,rfl,rfl,(j:Int),rfl⟩
 exact ⟨i,hz⟩
theorem abU (s:Show) (c:az) (ground:Color) (item aZ x y:Int) (h8:S8 s) (hg:U8 ground):zG s c ground item aZ x y=some true:=by
 obtain ⟨gr,hgr⟩:=OO (aoa s);have e0:CF s c ground item aZ x y=some gr:=hgr;unfold zG;simp only [e0,bj,bc,ai];cases gr with
 | true=>rfl
 | false=>
 rw [aw];have hs:=alV hgr;obtain ⟨own,ho,wF⟩:=apu hs;have e1:ln s c ground item aZ x y=some own:=ho;obtain ⟨a,ea,ha,va⟩:=auY own c item aZ;obtain ⟨b,eb,hb,vb⟩:=at0 s c item aZ h8;have vb':=wF.part vb;obtain ⟨hab,hee⟩:=va.one vb';subst hee;obtain ⟨n1,n2⟩:=abT hab;have e2:qb s c ground item aZ x y=some (a,ea):=by unfold qb; rw [e1]; exact ha
 have e3:sC s c ground item aZ x y=some (b,ea):=hb;obtain ⟨ec,hc1,hc2⟩:=abg own;obtain ⟨ed,hd1,hd2⟩:=aoi s;have hcd:=hc2.one (wF.check hd2);subst hcd;have e11:vC s c ground item aZ x y=some ec:=by unfold vC; rw [e1]; exact hc1
 have e12:A4 s c ground item aZ x y=some ec:=hd1;have hal:a.n<=100:=by rw [<- eP a]; exact va.len
 obtain ⟨i,hi⟩:=aom s own a b n1 hal n2;have e13:kk s c ground item aZ x y = .out (.exit 0) ⟨false,a,b,i,s,own⟩:=by unfold kk; rw [e1,e2,e3]; exact hi
 have e14:vD s c ground item aZ x y=some true:=by unfold vD; rw [e13]; exact arD hs wF
 have key:∃ l m e w b2 col,l.n=m.n/\m.n<=98304/\(∀ i,i < m.n->l.get i=m.get i)/\iY own c x y=some (l,e)/\ng s c x y=some (m,e)/\jA own c x y=some (w,b2,e)/\ru s c x y=some (w,b2,e)/\mG own c ground x y=some (col,e)/\sZ s c ground x y=some (col,e):=by
  rcases atX own c ground x y with ⟨e,hv,he,l,hn,g1,g2,g3⟩ | ⟨hv,r,l,hr,ho',hs',hc',TQ,hx,hy,g1,hl,g2,g3⟩
  ·rcases akI s c ground x y h8 hg with ⟨e',kv,ke,m,km,k1,k2,k3⟩ | ⟨kv,m,kl,km,k1,k2,k3⟩
   ·have sM:=hv.one (wF.pix kv)
    subst sM;exact ⟨l,m,e,_,_,_,by omega,by omega,fun i hi=>by omega,g1,k1,g2,k2,g3,k3⟩
   ·exact absurd (hv.one (wF.pix kv)) he
  ·rcases akI s c ground x y h8 hg with ⟨e',kv,ke,m,km,k1,k2,k3⟩ | ⟨kv,m,kl,km,k1,k2,k3⟩
   ·exact absurd ((wF.pix kv).one hv) ke
   ·have hL:gx own c=gx s c:=wF.all c
    have hlm:bB l=bB m:=by rw [hl,kl,hL]
    obtain ⟨q1,q2⟩:=abT hlm;have hfk:∀ f∈mI x y (gx s c),FOk s f:=fun f hm=>at4 hm;have hw:Ca own c x y=uj s (mI x y (gx s c)):=by
     unfold Ca;rw [hL];exact wF.uj _ _ fun f hm=>(hfk f hm).1
    have hav:rR s c 0:=by
     rcases kv with ⟨_,_,k⟩ | ⟨_,_⟩ | ⟨k1,_⟩
     ·exact absurd rfl k
     ·exact k1
    have hlo:rJ s:=adC (KG (QV hav));have aw1:aeT r ground x y=vV s (mI x y (gx s c)) ground:=by
     rw [aob own c r ground x y hr];have:vV own (mI x y (gx own c)) ground=vV s (mI x y (gx s c)) ground:=by
      rw [hL];exact wF.color h8 hlo hr.looks _ _ hfk
     exact this
    have uE:((kK s (mI x y (gx s c))).1,(kK s (mI x y (gx s c))).2,(0:Int))=(cond (Ca own c x y).2 (Ca own c x y).1 ⟨0,0,0,0,0,0⟩,(Ca own c x y).2,0):=by
     rw [hw];unfold kK zed;cases h:(uj s (mI x y (gx s c))).2
     ·rfl
     ·rw [ai,ai,h]
    rw [uE] at k2;rw [aw1] at g3;exact ⟨l,m,0,_,_,_,q1,km,q2,g1,k1,g2,k2,g3,k3⟩
 obtain ⟨l,m,e,w,b2,col,l1,l2,l3,g1,k1,g2,k2,g3,k3⟩:=key;have e4:sD s c ground item aZ x y=some (l,e):=by unfold sD; rw [e1]; exact g1
 have e5:wx s c ground item aZ x y=some (m,e):=k1;have e6:gZ s c ground item aZ x y=some (w,b2,e):=by unfold gZ; rw [e1]; exact g2
 have e7:iC s c ground item aZ x y=some (w,b2,e):=k2;have e8:lq s c ground item aZ x y=some (col,e):=by unfold lq; rw [e1]; exact g3
 have e9:ny s c ground item aZ x y=some (col,e):=k3;have e10:vB s c ground item aZ x y=some true:=by
  unfold vB;rw [e4,e5];exact apv l m l1 (by omega) fun i hi=>l3 i (by omega)
 have aw2:(kk s c ground item aZ x y).by (.exit 0)=true:=by rw [e13]; rfl
 simp only [e1,e2,e3,e4,e5,e6,e7,e8,e9,e10,e11,e12,aw2,e14,n1,bj,bc,ai,aw,hU,Ki,bC,iR]
end Go.Proofs.YtchbpckkmgcgkaaGreat.b
end
section
namespace Go.aE
open Go.RowKit Go.WideShapes Go.ChangeShapes
theorem aon {H:Type} {enc:TypeId×Value->H} {P:Program} {f:Func} {s:ChangeSpec} {apart fresh handsOn again:Bool} {W W' : World} {args:Array Value} {v:Value} {ds gs:List (DataW H)} {before pa pv:List MemPlace}
  (whole:DataW.Whole enc P f.params.toList s.vars apart W args.toList ds gs before) (below:Below W.heap.size W W') (af6:before=pa++pv)
  (res:∀ (b:Nat) (sp:Nat->Bool) (hd:Bool),DataW.TrodAll enc P W' b sp hd f.resultTypes.toList (v.resultList f.resultTypes.size) (s.fn H (ds++gs)).results [])
  (arg:∀ sp:Nat->Bool,(∀ p∈before,sp p.block=true)->DataW.TrodAll enc P W' 0 sp true f.params.toList args.toList (s.fn H (ds++gs)).args pa)
  (var:∀ sp:Nat->Bool,(∀ p∈before,sp p.block=true)->DataW.TrodVars enc P W' sp s.vars (s.fn H (ds++gs)).vars pv)
  (wide:∀ (j:Nat) (t:TypeId) (r:Value),f.resultTypes[j]? = some t->(v.resultList f.resultTypes.size)[j]? = some r->Value.okWide P W' .any 0 t r) :
  s.post enc P f apart fresh handsOn again W args v W':=by
 have lt:∀ p∈before,p.block < W.heap.size:=fun p hp=>whole.lt p hp;have jc:∀ p∈before,(fun b=>decide (b < W.heap.size)) p.block=true:=fun p hp=>by simpa using lt p hp
 refine ⟨ds,gs,before,[],pa,pv,whole,res _ _ _,arg _ jc,var _ jc,World.keptBut_mono (fun p hp=>⟨hp,?_⟩) (below.frame (·∈before)),fun _=>?_⟩
 ·rw [af6,mJ] at hp; exact Or.inr hp
 ·obtain ⟨_,_,_,_,_,fz,nd⟩:=whole
  refine ⟨wide,_,_,([]++pa)++pv,⟨[]++pa,pv,trodAll_append (arg _ (fun _ _=>rfl)) (res _ _ _),var _ (fun _ _=>rfl),rfl,fun b off hp=>?_,fun ha=>?_⟩,fun p hp _=>?_⟩
  ·have here:MemPlace.cell b off∈before:=by rw [af6]; simpa using hp
   rw [below.frozen (lt _ here)];exact fz b off here
  ·have:=nd ha
   rw [af6] at this;simpa using this
  ·rw [af6]; simpa using hp
end Go.aE
end
section
namespace Go.K
open Go Go.aE Go.RowKit Go.WideShapes Go.ChangeShapes
section
variable {H:Type} {enc:TypeId×Value->H} {P:Program} {W W' : World}
theorem abV {base:Nat} {sp:Nat->Bool} {held:Bool} : ∀ {ts:List TypeId} {vs:List Value} {ds:List (DataW H)} {ps:List MemPlace},DataW.TrodAll enc P W base sp held ts vs ds ps->ds.length=ts.length
 | [],_,_,_,h=>by
  obtain ⟨rfl,rfl,rfl⟩:=trodAll_nil h;rfl
 | t::ts,vs,ds,ps,h=>by
  obtain ⟨v,vs1,d,ds1,a,b,rfl,rfl,rfl,_,h2⟩:=trodAll_cons h;simp [abV h2]
theorem HI {α:Type} {n:Nat} {l:List α} (h:l.length=n+1):∃ x xs,l=x::xs:=by
 cases l with
 | nil=>simp at h
 | cons x xs=>exact ⟨x,xs,rfl⟩
theorem Wk (hl:laidOutB P=true) (hb:Below W.heap.size W W') {sp:Nat->Bool} : ∀ {ts:List TypeId} {vs:List Value} {ds:List (DataW H)} {ps:List MemPlace},ts.all (fun t=>P.readableRec t&&Nat.blt t P.types.size)=true->
  DataW.TrodAll enc P W 0 (fun _=>true) true ts vs ds ps->(∀ x∈ps,x.block < W.heap.size)->(∀ x∈ps,sp x.block=true)->DataW.TrodAll enc P W' 0 sp true ts vs ds ps
 | [],_,_,_,_,h,_,_=>by
  obtain ⟨rfl,rfl,rfl⟩:=trodAll_nil h;exact trodAll_mk0
 | t::ts,vs,ds,ps,ht,h,bu,Bb=>by
  obtain ⟨v,vs1,d,ds1,a,b,rfl,rfl,rfl,h1,h2⟩:=trodAll_cons h;simp only [List.all_cons,aD] at ht;obtain ⟨⟨hr,lC⟩,ht⟩:=ht;rw [bX] at lC;refine ⟨a,b,WideElems.Trod_stays hl hr lC h1 (fun x hx=>hb.same (bu x (by simp [hx]))) (fun x hx=>Bb x (by simp [hx])),?_,rfl⟩;exact Wk hl hb ht h2 (fun x hx=>bu x (by simp [hx])) (fun x hx=>Bb x (by simp [hx]))
theorem arV {s:ChangeSpec} {f:Func} {apart fresh handsOn again:Bool} {args:Array Value} {ds gs:List (DataW H)} {before:List MemPlace} (hl:laidOutB P=true) (hts:f.params.toList.all (fun t=>P.readableRec t&&Nat.blt t P.types.size)=true)
  (at5:s.vars = []) (av8:(s.fn H ds).args=ds) (anf:(s.fn H ds).results = [.lit (.bool true)]) (hv:(s.fn H ds).vars = []) {t:TypeId} (hrt:f.resultTypes = #[t]) (hb:P.underlying t=some .bool)
  (hW:DataW.Whole enc P f.params.toList s.vars apart W args.toList ds gs before) (hg:Below W.heap.size W W'):s.post enc P f apart fresh handsOn again W args (.bool true) W':=by
 have hW':=hW;obtain ⟨p,q,hA,hV,avv,_,_⟩:=hW;rw [at5] at hV;obtain ⟨rfl,rfl⟩:=trodVars_none hV;rw [pr] at avv;subst avv;have bu:∀ x∈before,x.block < W.heap.size:=fun x hx=>hW'.lt x (by simpa using hx);refine aE.aon (pa:=before) (pv:=[]) hW' hg (by simp) (fun b sp hd=>?_) (fun sp Bb=>?_) (fun sp Bb=>?_) (ok_one hrt rfl (okWide_bool_mk hb _))
 ·rw [pr,anf,hrt]
  exact trodAll_cons_mk (shut_bool hb _) trodAll_mk0
 ·rw [pr,av8]
  exact Wk hl hg hts hA bu (fun x hx=>Bb x (by simpa using hx))
 ·rw [pr,hv,at5]
  rfl
end
end Go.K
end
