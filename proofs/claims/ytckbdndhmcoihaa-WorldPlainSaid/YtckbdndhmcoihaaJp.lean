/- Part of the proof of WorldPlain: the machine, shown to be the model's, and plain models. No conditions. -/
import Derived.Test.YtckbdndhmcoihaaIp
import Derived.Test.YtckbdndhmcoihaaHp
import Derived.Test.YtckbdndhmcoihaaGp
import Derived.Deep.RegionHeld3
set_option linter.unusedSimpArgs false
set_option linter.unusedVariables false
section
namespace Go.Proofs.Ytckbdndhmcoihaa.b
open Go.K
noncomputable section
structure iY where
 t5:Int
 aW:(Sl dt)
 t81:(Sl fp)
 t82:Int
 t83:Int
 t4:Place
 w:Bc
 out:Place
 m:gu
instance:Inhabited iY:=⟨by constructor<;>exact default⟩
def yU (x:iY):List KV:=[.int .i64 x.t5,dG 62 oy x.aW,dG 36 oP x.t81,.int .i64 x.t82,.int .i64 x.t83]
def yV (x:iY):List (List KV):=[U3 x.t4,Py x.w,U3 x.out,Wg x.m]
def FE (vs:List KV) (rs:List (List KV)):iY:=⟨ax (v9 vs 0),eF iv (v9 vs 1),eF kQ (v9 vs 2),ax (v9 vs 3),ax (v9 vs 4),U4 (r9 rs 0),Pz (r9 rs 1),U4 (r9 rs 2),Wh (r9 rs 3)⟩
def GD:aJ:=⟨[(5,w9 i9),(9,⟨false,[.aO 62]⟩),(81,w9 (n9 36)),(82,w9 i9),(83,w9 i9)],[(4,[.aO 36,n9 125,n9 51,u9,u9,u9,u9,i9,u9,i9,b9,i9,i9,i9,i9,i9,i9,i9,b9,.aO 87],1),(6,[i9,i9,i9,i9,i9,i9,i9,i9,i9,i9,i9,i9,i9],1),(7,[.aO 36,n9 125,n9 51,u9,u9,u9,u9,i9,u9,i9,b9,i9,i9,i9,i9,i9,i9,i9,b9,.aO 87],1),(12,[n9 36,n9 125,n9 120],1)],[(4,0,0),(6,1,0),(7,2,0),(12,3,0)]⟩
def PF:=Cv [(39,QA),(38,BC),(37,Hm),(36,wR),(13,Hl),(52,Nf),(26,J2)] [B8] 21 2042 GD
def rW (x:iY):=uo x.w.m (x.t81.get (Int.toNat x.t83))
def iz (x:iY):aX iY:=(cond (decide (x.t83 < x.t82)) (cond ((decide (0<=x.t83))&&(decide (x.t83 < (x.t81.n:Int)))) (cond (x.w.e != 0) (cond ((ai x.out.item.ay.n x.out.item.ay.n)&&(dQ 24 x.out.item.ay.n 1)) (cond (cond (cond (cond (cond (ai x.out.aq.n x.out.aq.n) (ai (x.out.item.ay.n+1) (x.out.item.ay.n+1)) false) (ai x.t4.aq.n x.t4.aq.n) false) (ai x.t4.item.ay.n x.t4.item.ay.n) false) (ai x.aW.n x.aW.n) false) (.next ⟨x.t5,x.aW,x.t81,x.t82,(aP (x.t83+1)),x.t4,x.w,⟨⟨(x.out.item.ay.push ⟨0,0,0⟩),x.out.item.uV,x.out.item.abl,x.out.item.look,x.out.item.box⟩,x.out.sh,x.out.aq⟩,x.m⟩) .fail) .fail) (cond (rW x).isSome (cond ((ai x.out.item.ay.n x.out.item.ay.n)&&(dQ 24 x.out.item.ay.n 1)) (cond (cond (cond (cond (cond (ai x.out.aq.n x.out.aq.n) (ai (x.out.item.ay.n+1) (x.out.item.ay.n+1)) false) (ai x.t4.aq.n x.t4.aq.n) false) (ai x.t4.item.ay.n x.t4.item.ay.n) false) (ai x.aW.n x.aW.n) false) (.next ⟨x.t5,x.aW,x.t81,x.t82,(aP (x.t83+1)),x.t4,⟨x.w.m,((rW x).getD default).snd⟩,⟨⟨(x.out.item.ay.push ((rW x).getD default).fst),x.out.item.uV,x.out.item.abl,x.out.item.look,x.out.item.box⟩,x.out.sh,x.out.aq⟩,x.m⟩) .fail) .fail) .fail)) .fail) (cond (cond (cond (cond (cond (ai x.out.aq.n x.out.aq.n) (ai x.out.item.ay.n x.out.item.ay.n) false) (ai x.t4.aq.n x.t4.aq.n) false) (ai x.t4.item.ay.n x.t4.item.ay.n) false) (ai x.aW.n x.aW.n) false) (.out (aI.ah.exit 2) x) .fail))
theorem Nr (x:iY):PF (yU x) (yV x)=aX.enc yU yV (iz x):=by
 unfold iz
 try simp only [aX.cJ,rz]
 kernel_rfl
def GF:Lp:=⟨21,2042,GD,fun vs rs=>dU yU yV (goN iz (FE vs rs)) [aI.ah.exit 2],false⟩
theorem PH:GF.Ok PG:=C8 (ak.cons Np (ak.cons B7 (ak.cons Gj (ak.cons yb (ak.cons Gi (ak.cons KT (ak.cons I0 ak.nil))))))) (rH GC bu.nil) (pa:=FE) Nr
def EF (s:aC) (p:Path):=J1
def bQ (s:aC) (p:Path):=goN fF ⟨0,⟨0,(fun i=>⟨⟨0,0,0,0,0⟩,⟨⟨0,0,0,0⟩,0,0,0,false,0⟩⟩)⟩,p.nodes,(p.nodes.n:Int),0,s,p,⟨⟨⟨0,(fun i=>⟨0,0,0⟩)⟩,⟨0,(fun i=>⟨0,0⟩)⟩,⟨0,(fun i=>⟨0,0,0⟩)⟩,⟨⟨0,0,0,0⟩,0,0,0,false,0⟩,⟨⟨0,0,0⟩,⟨0,0,0⟩⟩⟩,false,⟨0,(fun i=>⟨⟨0,0,0⟩,0,0⟩)⟩⟩,⟨((EF s p).getD default),0⟩,⟨⟨⟨0,(fun i=>⟨0,0,0⟩)⟩,⟨0,(fun i=>⟨0,0⟩)⟩,⟨0,(fun i=>⟨0,0,0⟩)⟩,⟨⟨0,0,0,0⟩,0,0,0,false,0⟩,⟨⟨0,0,0⟩,⟨0,0,0⟩⟩⟩,true,⟨0,(fun i=>⟨⟨0,0,0⟩,0,0⟩)⟩⟩,⟨0,⟨⟨⟨0,0,0⟩,⟨0,0,0⟩,⟨0,0,0⟩⟩,⟨0,0,0⟩⟩,0,⟨0,0,0⟩,⟨0,(fun i=>0)⟩,0,⟨⟨0,0,0,0,0⟩,⟨⟨0,0,0,0⟩,0,0,0,false,0⟩⟩⟩⟩
def dz (s:aC) (p:Path):=goN iz ⟨(bQ s p).st.t5,(bQ s p).st.aW,((bQ s p).st.s.eO.get (Int.toNat (bQ s p).st.n.fB)).ay,(((bQ s p).st.s.eO.get (Int.toNat (bQ s p).st.n.fB)).ay.n:Int),0,(bQ s p).st.t4,(bQ s p).st.w,(bQ s p).st.out,((bQ s p).st.s.eO.get (Int.toNat (bQ s p).st.n.fB))⟩
def vP (s:aC) (p:Path):=wQ (dz s p).st.m.uV
def vQ (s:aC) (p:Path):=zW (dz s p).st.m
def vR (s:aC) (p:Path):=tF (dz s p).st.aW
def vS (s:aC) (p:Path):=HB (dz s p).st.out.item.ay
def yo (s:aC) (p:Path):Option (Place×Int):=(some (⟨⟨(dz s p).st.out.item.ay,((vP s p).getD default),((vQ s p).getD default).fst,((vR s p).getD default).fst,(dz s p).st.out.item.box⟩,(dz s p).st.out.sh,(dz s p).st.out.aq⟩,(dz s p).st.w.e))
def vT (s:aC) (p:Path):Option (Place×Int):=(cond (EF s p).isSome (cond ((bQ s p).by (aI.ah.exit 0)) (cond ((decide (0<=(bQ s p).st.n.fB))&&(decide ((bQ s p).st.n.fB < ((bQ s p).st.s.eO.n:Int)))) (cond (cond (cond (cond (cond (ai (bQ s p).st.out.aq.n (bQ s p).st.out.aq.n) (ai (bQ s p).st.out.item.ay.n (bQ s p).st.out.item.ay.n) false) (ai (bQ s p).st.t4.aq.n (bQ s p).st.t4.aq.n) false) (ai (bQ s p).st.t4.item.ay.n (bQ s p).st.t4.item.ay.n) false) (ai (bQ s p).st.aW.n (bQ s p).st.aW.n) false) (cond ((dz s p).by (aI.ah.exit 2)) (cond (vP s p).isSome (cond (vQ s p).isSome (cond (vR s p).isSome (cond ((dz s p).st.w.e==0) (cond (decide (((dz s p).st.m.ay.n:Int) > 0)) (cond (vS s p).isSome (some (⟨⟨(dz s p).st.out.item.ay,((vP s p).getD default),((vQ s p).getD default).fst,((vR s p).getD default).fst,((vS s p).getD default).fst⟩,(dz s p).st.out.sh,(dz s p).st.out.aq⟩,((vS s p).getD default).snd)) none)
      (yo s p))
      (yo s p)) none) none) none) none) none) none) none) none)
theorem WH (s:aC) (p:Path):rv [(39,QA),(38,BC),(37,Hm),(36,wR),(13,Hl),(52,Nf),(26,J2)] [B8,GF] 21 [kC s,IZ p] = (vT s p).map (fun (r:Place×Int)=>KV.l8 [DK r.1,(kI .i64) r.2]):=by
 unfold vT yo
 try simp only [cf]
 kernel_rfl
def Jg:List KV->KR KV:=b5 PG 21 (cg (fun (r:Place×Int)=>KV.l8 [DK r.1,(kI .i64) r.2]) fun vs=>vT (eP (v9 vs 0)) (KN (v9 vs 1)))
theorem J7:bZ PG 21 Jg:=ee (ak.cons Np (ak.cons B7 (ak.cons Gj (ak.cons yb (ak.cons Gi (ak.cons KT (ak.cons I0 ak.nil))))))) (rH GC (rH PH bu.nil)) fun w=>WH (eP (g0 34 (w 0))) (KN (g0 50 (w 1)))
end
end Go.Proofs.Ytckbdndhmcoihaa.b
end
section
namespace Go.Proofs.Ytckbdndhmcoihaa.sc
open Go Go.K Go.Proofs.Ytckbdndhmcoihaa.nodes
def PI (m:b.hD) (v:b.fp):b.fp:=⟨dot m.m.e0 v.x v.y v.z / 256+m.t.x,dot m.m.e1 v.x v.y v.z / 256+m.t.y,dot m.m.e2 v.x v.y v.z / 256+m.t.z⟩
open Classical in
noncomputable def iA (m:b.hD) (v:b.fp):b.fp×Int:=if EE m/\rK v 4096/\rK (PI m v) 4096 then (PI m v,0) else (I4,20)
theorem XX (m:b.hD) (v:b.fp):b.uo m v=some (iA m v):=by
 unfold b.uo b.DF b.DE b.I6 b.I5;obtain ⟨e,h1,h2⟩:=yR m;rw [h1,J3];simp only [iG,fv,aj];rcases h2 with ⟨rfl,hm⟩ | ⟨rfl,hm⟩
 ·have hz:((0:Int) != 0)=false:=rfl
  rw [hz,aG];by_cases hv:rK v 4096
  ·rw [aE hv,XT m v hm hv,hz]
   simp only [iG,fv,aj,aG];rw [J3];simp only [iG,fv,aj];by_cases hk:rK (PI m v) 4096
   ·have e1:iA m v=(PI m v,0):=aE ⟨hm,hv,hk⟩
    rw [e1];unfold PI at hk ⊢;rw [aE hk,hz];rfl
   ·have e1:iA m v=(I4,20):=aa fun q=>hk q.2.2
    rw [e1];unfold PI at hk;rw [aa hk];rfl
  ·have e1:iA m v=(I4,20):=aa fun q=>hv q.2.1
   rw [aa hv,e1];rfl
 ·have e1:iA m v=(I4,20):=aa fun q=>hm q.1
  rw [e1];rfl
noncomputable def gI (s:b.aC) (p:b.Path):Nat->b.hD×Int
 | 0=>(unit,0)
 | j+1=>if (gI s p j).2=0 then (if (nodeAt s p j).kind=2 then yn (gI s p j).1 (nodeAt s p j).oz else if (nodeAt s p j).kind=4 then ((gI s p j).1,(iA (gI s p j).1 (nodeAt s p j).eZ).2) else gI s p j) else gI s p j
noncomputable def Ns (s:b.aC) (p:b.Path) (j:Nat):b.Gate:=
 ⟨if (gI s p j).2=0 then (iA (gI s p j).1 (nodeAt s p j).eZ).1 else I4,
  if p.kids.get j < ((nodeAt s p j).fo.n:Int) then (if 0 < p.kids.get j then (nodeAt s p j).fo.get (p.kids.get j - 1).toNat else 0) else 0,
  if p.kids.get j < ((nodeAt s p j).fo.n:Int) then (nodeAt s p j).fo.get (p.kids.get j).toNat else 0⟩
noncomputable def mw (s:b.aC) (p:b.Path):Nat->Sl b.Gate
 | 0=>⟨0,fun i=>⟨⟨0,0,0⟩,0,0⟩⟩
 | j+1=>if (nodeAt s p j).kind=4 then (mw s p j).push (Ns s p j) else mw s p j
open Classical in
noncomputable def RF (s:b.aC) (p:b.Path):Nat->Bool
 | 0=>true
 | j+1=>if (nodeAt s p j).kind=3/\¬ WB (nodeAt s p j).sh (p.kids.get j) then false else RF s p j
noncomputable def oi (s:b.aC) (p:b.Path):Nat->Sl b.dt
 | 0=>⟨0,fun i=>⟨⟨0,0,0,0,0⟩,⟨⟨0,0,0,0⟩,0,0,0,false,0⟩⟩⟩
 | j+1=>(oi s p j).push (nodeAt s p j).bF
theorem FF (s:b.aC) (p:b.Path):∀ j,(oi s p j).n=j
 | 0=>rfl
 | j+1=>by show (oi s p j).n+1=j+1; rw [FF s p j]
theorem S5 (s:b.aC) (p:b.Path):∀ j,(mw s p j).n<=j
 | 0=>aB _
 | j+1=>by
  have:=S5 s p j;show (if (nodeAt s p j).kind=4 then (mw s p j).push (Ns s p j) else mw s p j).n<=j+1;split
  ·show (mw s p j).n+1<=j+1; omega
  ·omega
def uJ:b.Item:=⟨⟨0,(fun i=>⟨0,0,0⟩)⟩,⟨0,(fun i=>⟨0,0⟩)⟩,⟨0,(fun i=>⟨0,0,0⟩)⟩,⟨⟨0,0,0,0⟩,0,0,0,false,0⟩,⟨⟨0,0,0⟩,⟨0,0,0⟩⟩⟩
def Nt:b.Place:=⟨uJ,false,⟨0,(fun i=>⟨⟨0,0,0⟩,0,0⟩)⟩⟩
noncomputable def amm (s:b.aC) (p:b.Path):Nat->b.Node
 | 0=>aek
 | j+1=>nodeAt s p j
noncomputable def LY (s:b.aC) (p:b.Path) (j:Nat):b.cT:=
 ⟨0,oi s p j,p.nodes,(p.nodes.n:Int),(j:Int),s,p,Nt,⟨(gI s p j).1,(gI s p j).2⟩,⟨uJ,RF s p j,mw s p j⟩,amm s p j⟩
theorem acX {s:b.aC} {p:b.Path} {j:Nat} (h:(nodeAt s p j).kind=2) (h0:(gI s p j).2=0):gI s p (j+1)=yn (gI s p j).1 (nodeAt s p j).oz:=by
 show (if (gI s p j).2=0 then (if (nodeAt s p j).kind=2 then yn (gI s p j).1 (nodeAt s p j).oz else if (nodeAt s p j).kind=4 then ((gI s p j).1,(iA (gI s p j).1 (nodeAt s p j).eZ).2) else gI s p j) else gI s p j)=_;rw [aE h0,aE h]
theorem QB {s:b.aC} {p:b.Path} {j:Nat} (h0:(gI s p j).2≠0):gI s p (j+1)=gI s p j:=by
 show (if (gI s p j).2=0 then (if (nodeAt s p j).kind=2 then yn (gI s p j).1 (nodeAt s p j).oz else if (nodeAt s p j).kind=4 then ((gI s p j).1,(iA (gI s p j).1 (nodeAt s p j).eZ).2) else gI s p j) else gI s p j)=_;rw [aa h0]
theorem S6 {s:b.aC} {p:b.Path} {j:Nat} (h:(nodeAt s p j).kind=4) (h0:(gI s p j).2=0):gI s p (j+1)=((gI s p j).1,(iA (gI s p j).1 (nodeAt s p j).eZ).2):=by
 show (if (gI s p j).2=0 then (if (nodeAt s p j).kind=2 then yn (gI s p j).1 (nodeAt s p j).oz else if (nodeAt s p j).kind=4 then ((gI s p j).1,(iA (gI s p j).1 (nodeAt s p j).eZ).2) else gI s p j) else gI s p j)=_;rw [aE h0,aa (by omega),aE h]
theorem Nu {s:b.aC} {p:b.Path} {j:Nat} (h:(nodeAt s p j).kind≠2) (h' : (nodeAt s p j).kind≠4):gI s p (j+1)=gI s p j:=by
 show (if (gI s p j).2=0 then (if (nodeAt s p j).kind=2 then yn (gI s p j).1 (nodeAt s p j).oz else if (nodeAt s p j).kind=4 then ((gI s p j).1,(iA (gI s p j).1 (nodeAt s p j).eZ).2) else gI s p j) else gI s p j)=_;rw [aa h,aa h'];split <;> rfl
theorem abn {s:b.aC} {p:b.Path} {j:Nat} (h:(nodeAt s p j).kind=4):mw s p (j+1)=(mw s p j).push (Ns s p j):=by
 show (if (nodeAt s p j).kind=4 then (mw s p j).push (Ns s p j) else mw s p j)=_;rw [aE h]
theorem Jh {s:b.aC} {p:b.Path} {j:Nat} (h:(nodeAt s p j).kind≠4):mw s p (j+1)=mw s p j:=by
 show (if (nodeAt s p j).kind=4 then (mw s p j).push (Ns s p j) else mw s p j)=_;rw [aa h]
theorem ah5 {s:b.aC} {p:b.Path} {j:Nat} (h:(nodeAt s p j).kind=3) (h' : ¬ WB (nodeAt s p j).sh (p.kids.get j)):RF s p (j+1)=false:=by
 unfold RF;rw [aE ⟨h,h'⟩]
theorem PJ {s:b.aC} {p:b.Path} {j:Nat} (h : ¬ ((nodeAt s p j).kind=3/\¬ WB (nodeAt s p j).sh (p.kids.get j))):RF s p (j+1)=RF s p j:=by
 conv=>lhs; unfold RF
 rw [aa h]
theorem agA {s:b.aC} {p:b.Path} (ha:abd s p) (hon:aju s) (hn:p.nodes.n<=1000) {j:Nat} (hj:j < p.nodes.n) (hk:(nodeAt s p j).kind=3\/(nodeAt s p j).kind=4->j < p.kids.n) (hf:(nodeAt s p j).fo.n<=1000000) :
  b.fF (LY s p j) = .next (LY s p (j+1)):=by
 have hg:=S5 s p j;have ej:Int.toNat (j:Int)=j:=rfl;have d1:decide ((j:Int) < (p.nodes.n:Int))=true:=az (by omega);have d2:decide ((0:Int)<=(j:Int))=true:=az (by omega);obtain ⟨s1,s2⟩:=J4 ha (show j<=p.kids.n by have:=ha.2.2.2.1; omega);have e1:aP ((j:Int)+1)=((j+1:Nat):Int):=by rw [di (by omega) (by omega)]; omega
 have a1:dQ 56 (oi s p j).n 1=true:=uG (by omega) (by rw [FF]; omega);have a2:dQ 40 (mw s p j).n 1=true:=uG;have s1':=az s1;have s2':=az s2;have gZ:oi s p (j+1)=(oi s p j).push (nodeAt s p j).bF:=rfl;have hnd:amm s p (j+1)=nodeAt s p j:=rfl;have apS:LY s p (j+1)=⟨0,(oi s p j).push (nodeAt s p j).bF,p.nodes,(p.nodes.n:Int),((j+1:Nat):Int),s,p,Nt,⟨(gI s p (j+1)).1,(gI s p (j+1)).2⟩,⟨uJ,RF s p (j+1),mw s p (j+1)⟩,nodeAt s p j⟩:=rfl;rw [apS];have onu:=hon (p.nodes.get j).slot.toNat (by omega);unfold LY b.fF b.oC b.oB b.oA b.aZ b.cU b.cV
 dsimp only
 rw [d1,d2,ej,s1',s2',a1,e1];have amn:s.nodes.get (p.nodes.get j).slot.toNat=nodeAt s p j:=rfl;rw [amn] at onu;rw [amn,ahX];generalize hN:nodeAt s p j=n at hk hf onu ⊢;have hgk:∀ kk,(p.kids.get j)=kk->True:=fun _ _=>trivial;by_cases k2:n.kind=2
 ·have b2:(n.kind==(2:Int))=true:=Fa.2 k2
  have b3:(n.kind==(3:Int))=false:=by rw [<- Bool.not_eq_true,Fa]; omega
  have b4:(n.kind==(4:Int))=false:=by rw [<- Bool.not_eq_true,Fa]; omega
  rw [PJ (by rw [hN]; omega),Jh (by rw [hN]; omega),b2,b3,b4];by_cases h0:(gI s p j).2=0
  ·rw [acX (by rw [hN]; exact k2) h0,hN]
   rw [Fa.2 h0];simp only [↓aj,↓aG,cC,cv,iG,fv]
  ·rw [QB h0]
   have b0:((gI s p j).2==(0:Int))=false:=by rw [<- Bool.not_eq_true,Fa]; exact h0
   rw [b0];simp only [↓aj,↓aG,cC,cv,iG,fv]
 ·have b2:(n.kind==(2:Int))=false:=by rw [<- Bool.not_eq_true,Fa]; exact k2
  rw [b2];by_cases k3:n.kind=3
  ·have QE:=hk (.inl k3)
   have b3:(n.kind==(3:Int))=true:=Fa.2 k3;have b4:(n.kind==(4:Int))=false:=by rw [<- Bool.not_eq_true,Fa]; omega
   have dk:decide ((j:Int) < (p.kids.n:Int))=true:=az (by omega);obtain ⟨g1,g2⟩:=abe ha QE;have dg:decide (p.kids.get j < 0)=false:=bq (by omega);rw [Jh (by rw [hN]; omega),Nu (by rw [hN]; omega) (by rw [hN]; omega),b3,b4,dk,dg];have hsh:=agx (k:=p.kids.get j) onu;by_cases ajv:WB n.sh (p.kids.get j)
   ·have bs:(w16 ((Fe IntKind.u16 (Int.fdiv n.sh ((2:Int) ^ (min (Int.toNat (p.kids.get j)) 16))) (1:Int):Nat):Int)==(0:Int))=false:=by rw [<- Bool.not_eq_true,hsh]; exact fun q=>q ajv
    rw [PJ (by rw [hN]; exact fun q=>q.2 ajv),bs];simp only [↓aj,↓aG,cC,cv,GQ]
   ·have bs:=hsh.2 ajv
    rw [ah5 (by rw [hN]; exact k3) (by rw [hN]; exact ajv),bs];simp only [↓aj,↓aG,cC,cv,GQ]
  ·have b3:(n.kind==(3:Int))=false:=by rw [<- Bool.not_eq_true,Fa]; exact k3
   rw [b3,PJ (by rw [hN]; exact fun q=>k3 q.1)];by_cases k4:n.kind=4
   ·have QE:=hk (.inr k4)
    have b4:(n.kind==(4:Int))=true:=Fa.2 k4;have dk:decide ((j:Int) < (p.kids.n:Int))=true:=az (by omega);obtain ⟨g1,g2⟩:=abe ha QE;have dg:decide (0<=p.kids.get j)=true:=az (by omega);rw [abn (by rw [hN]; exact k4),b4,dk,dg,a2];have G9:Ns s p j=⟨if (gI s p j).2=0 then (iA (gI s p j).1 n.eZ).1 else I4,if p.kids.get j < (n.fo.n:Int) then (if 0 < p.kids.get j then n.fo.get (p.kids.get j - 1).toNat else 0) else 0,if p.kids.get j < (n.fo.n:Int) then n.fo.get (p.kids.get j).toNat else 0⟩:=by
     unfold Ns;rw [hN]
    rw [G9];generalize p.kids.get j=q at *;have fin:∀ {e:Bool},((gI s p j).2 != 0)=e->(e=true->gI s p (j+1)=gI s p j)/\(e=false->(gI s p j).2=0/\gI s p (j+1)=((gI s p j).1,(iA (gI s p j).1 n.eZ).2)):=fun {e} he=>by
     subst he;refine ⟨fun h=>QB (neI.1 h),fun h=>?_⟩;have h0:=bne_eq_false_iff_eq.1 h;refine ⟨h0,?_⟩;rw [S6 (by rw [hN]; exact k4) h0,hN]
    cases he:((gI s p j).2 != 0) with
    | true=>
     rw [(fin he).1 rfl];have h0 : ¬ (gI s p j).2=0:=neI.1 he;rw [aa h0];by_cases hq:q < (n.fo.n:Int)
     ·rw [aE hq,aE hq,az hq]
      by_cases hp:0 < q
      ·have e2:aP (q - 1)=q - 1:=di (by omega) (by omega)
       have d5:decide (0<=q - 1)=true:=az (by omega);have d6:decide (q - 1 < (n.fo.n:Int))=true:=az (by omega);rw [aE hp,show decide (q > 0)=true from az hp,e2,d5,d6];simp only [↓aj,↓aG,cC,cv,iG,fv];rfl
      ·rw [aa hp,show decide (q > 0)=false from bq hp]
       simp only [↓aj,↓aG,cC,cv,iG,fv];rfl
     ·rw [aa hq,aa hq,bq hq]
      simp only [↓aj,↓aG,cC,cv,iG,fv];rfl
    | false=>
     obtain ⟨h0,e9⟩:=(fin he).2 rfl;rw [e9,aE h0,XX (gI s p j).1 n.eZ];by_cases hq:q < (n.fo.n:Int)
     ·rw [aE hq,aE hq,az hq]
      by_cases hp:0 < q
      ·have e2:aP (q - 1)=q - 1:=di (by omega) (by omega)
       have d5:decide (0<=q - 1)=true:=az (by omega);have d6:decide (q - 1 < (n.fo.n:Int))=true:=az (by omega);rw [aE hp,show decide (q > 0)=true from az hp,e2,d5,d6];simp only [↓aj,↓aG,cC,cv,iG,fv]
      ·rw [aa hp,show decide (q > 0)=false from bq hp]
       simp only [↓aj,↓aG,cC,cv,iG,fv]
     ·rw [aa hq,aa hq,bq hq]
      simp only [↓aj,↓aG,cC,cv,iG,fv]
   ·have b4:(n.kind==(4:Int))=false:=by rw [<- Bool.not_eq_true,Fa]; exact k4
    rw [Jh (by rw [hN]; exact k4),Nu (by rw [hN]; exact k2) (by rw [hN]; exact k4),b4];simp only [↓aj,↓aG,cC,cv]
end Go.Proofs.Ytckbdndhmcoihaa.sc
end
section
namespace Go.Proofs.Ytckbdndhmcoihaa.sc
open Go Go.K
def ah6 (s:b.dt) (i:b.cR):b.cR:=cond (s.cp.e0==0||(i.kept.e0&&decide (s.cp.e0 < 4))) i ⟨⟨s.look.color,i.look.dI,i.look.oQ,i.look.nT,i.look.ku,i.look.bin⟩,⟨(s.cp.e0==3||s.cp.e0==7),i.kept.e1,i.kept.e2,i.kept.e3,i.kept.e4⟩⟩
def ah7 (s:b.dt) (i:b.cR):b.cR:=cond (s.cp.e1==0||(i.kept.e1&&decide (s.cp.e1 < 4))) i ⟨⟨i.look.color,s.look.dI,i.look.oQ,i.look.nT,i.look.ku,i.look.bin⟩,⟨i.kept.e0,(s.cp.e1==3||s.cp.e1==7),i.kept.e2,i.kept.e3,i.kept.e4⟩⟩
def ah8 (s:b.dt) (i:b.cR):b.cR:=cond (s.cp.e2==0||(i.kept.e2&&decide (s.cp.e2 < 4))) i ⟨⟨i.look.color,i.look.dI,s.look.oQ,i.look.nT,i.look.ku,i.look.bin⟩,⟨i.kept.e0,i.kept.e1,(s.cp.e2==3||s.cp.e2==7),i.kept.e3,i.kept.e4⟩⟩
def ah9 (s:b.dt) (i:b.cR):b.cR:=cond (s.cp.e3==0||(i.kept.e3&&decide (s.cp.e3 < 4))) i ⟨⟨i.look.color,i.look.dI,i.look.oQ,s.look.nT,i.look.ku,i.look.bin⟩,⟨i.kept.e0,i.kept.e1,i.kept.e2,(s.cp.e3==3||s.cp.e3==7),i.kept.e4⟩⟩
def aia (s:b.dt) (i:b.cR):b.cR:=cond (s.cp.e4==0||(i.kept.e4&&decide (s.cp.e4 < 4))) i ⟨⟨i.look.color,i.look.dI,i.look.oQ,i.look.nT,s.look.ku,s.look.bin⟩,⟨i.kept.e0,i.kept.e1,i.kept.e2,i.kept.e3,(s.cp.e4==3||s.cp.e4==7)⟩⟩
theorem am9 (i:b.cR) (s:b.dt) (t:b.cR) (h:lY s.cp.e0):b.eR ⟨0,i,s,t⟩ = .next ⟨1,ah6 s i,s,t⟩:=by
 obtain ⟨l,⟨k0,k1,k2,k3,k4⟩⟩:=i;obtain ⟨⟨e0,e1,e2,e3,e4⟩,m⟩:=s;rcases h with h | h | h | h | h <;> (dsimp only at h; subst h; cases k0 <;> kernel_rfl)
theorem ana (i:b.cR) (s:b.dt) (t:b.cR) (h:lY s.cp.e1):b.eR ⟨1,i,s,t⟩ = .next ⟨2,ah7 s i,s,t⟩:=by
 obtain ⟨l,⟨k0,k1,k2,k3,k4⟩⟩:=i;obtain ⟨⟨e0,e1,e2,e3,e4⟩,m⟩:=s;rcases h with h | h | h | h | h <;> (dsimp only at h; subst h; cases k1 <;> kernel_rfl)
theorem anb (i:b.cR) (s:b.dt) (t:b.cR) (h:lY s.cp.e2):b.eR ⟨2,i,s,t⟩ = .next ⟨3,ah8 s i,s,t⟩:=by
 obtain ⟨l,⟨k0,k1,k2,k3,k4⟩⟩:=i;obtain ⟨⟨e0,e1,e2,e3,e4⟩,m⟩:=s;rcases h with h | h | h | h | h <;> (dsimp only at h; subst h; cases k2 <;> kernel_rfl)
theorem anc (i:b.cR) (s:b.dt) (t:b.cR) (h:lY s.cp.e3):b.eR ⟨3,i,s,t⟩ = .next ⟨4,ah9 s i,s,t⟩:=by
 obtain ⟨l,⟨k0,k1,k2,k3,k4⟩⟩:=i;obtain ⟨⟨e0,e1,e2,e3,e4⟩,m⟩:=s;rcases h with h | h | h | h | h <;> (dsimp only at h; subst h; cases k3 <;> kernel_rfl)
theorem ane (i:b.cR) (s:b.dt) (t:b.cR) (h:lY s.cp.e4):b.eR ⟨4,i,s,t⟩ = .next ⟨5,aia s i,s,t⟩:=by
 obtain ⟨l,⟨k0,k1,k2,k3,k4⟩⟩:=i;obtain ⟨⟨e0,e1,e2,e3,e4⟩,m⟩:=s;rcases h with h | h | h | h | h <;> (dsimp only at h; subst h; cases k4 <;> kernel_rfl)
def made (s:b.dt) (i:b.cR):b.cR:=aia s (ah9 s (ah8 s (ah7 s (ah6 s i))))
theorem go5 {X:Type} {step:X->aX X} {x0 x1 x2 x3 x4 x5 xe:X} {e:aI.ah} (h0:step x0 = .next x1) (h1:step x1 = .next x2) (h2:step x2 = .next x3) (h3:step x3 = .next x4) (h4:step x4 = .next x5) (h5:step x5 = .out e xe) (he:mA e=false):goN step x0 = .out e xe:=by
 obtain ⟨e',x',q1,q2,q3⟩:=jH (step:=step) (fun j x=>x=match j with
  | 0=>x0
  | 1=>x1
  | 2=>x2
  | 3=>x3
  | 4=>x4
  | _=>x5) (fun e' x'=>e' = e/\x' = xe) 5 (by unfold gV; omega) (by
   rintro j _ hj rfl;rcases (by omega:j=0\/j=1\/j=2\/j=3\/j=4\/j=5) with rfl | rfl | rfl | rfl | rfl | rfl
   ·exact .inl ⟨_,h0,by omega,rfl⟩
   ·exact .inl ⟨_,h1,by omega,rfl⟩
   ·exact .inl ⟨_,h2,by omega,rfl⟩
   ·exact .inl ⟨_,h3,by omega,rfl⟩
   ·exact .inl ⟨_,h4,by omega,rfl⟩
   ·exact .inr ⟨_,_,h5,he,rfl,rfl⟩) (x:=x0) rfl
 rw [q1,q2,q3]
theorem agB (i:b.cR) (s:b.dt) (h:YO s):b.tD i s=some (made s i):=by
 unfold b.tD b.Dr;obtain ⟨h0,h1,h2,h3,h4⟩:=h;rw [go5 (am9 _ s _ h0) (ana _ s _ h1) (anb _ s _ h2) (anc _ s _ h3) (ane _ s _ h4) (e:=.exit 0) rfl rfl];cases hz:((s.cp.e0==0)&&((s.cp.e1==0)&&((s.cp.e2==0)&&((s.cp.e3==0)&&((s.cp.e4==0)&&true))))) with
 | false=>rfl
 | true=>
  simp only [ao,Bf,and_true] at hz;obtain ⟨z0,z1,z2,z3,z4⟩:=hz;have e:made s i=i:=by
   unfold made ah6 ah7 ah8 ah9 aia;rw [z0,z1,z2,z3,z4];rfl
  rw [e];rfl
end Go.Proofs.Ytckbdndhmcoihaa.sc
end
section
namespace Go.Proofs.Ytckbdndhmcoihaa.sc
open Go Go.K Go.Proofs.Ytckbdndhmcoihaa.nodes
def begin:b.cR:=⟨⟨⟨255,255,255,255⟩,-1,0,0,false,0⟩,⟨false,false,false,false,false⟩⟩
def U5 (l:Sl b.dt):Nat->b.cR
 | 0=>begin
 | j+1=>made (l.get j) (U5 l j)
open Classical in
noncomputable def WI (l:Sl b.dt):b.kf×Int:=if l.n<=128 then (if ∀ j,j < l.n->LW (l.get j) then ((U5 l l.n).look,0) else (B6,8)) else (B6,4)
theorem ab2 (l:Sl b.dt) (hs:∀ j,j < l.n->Qx (l.get j)):b.tF l=some (WI l):=by
 unfold b.tF WI;by_cases hn:((l.n:Nat):Int) > 128
 ·rw [az hn,aa (by omega)]
  rfl
 rw [bq hn,aE (by omega)];have hb:b.DH l=some begin:=rfl;have key:=o7 (step:=b.iy) l.n (by unfold gV; omega) (fun j=>⟨0,l,((l.n:Nat):Int),(j:Int),B6,U5 l j⟩) (fun j=>LW (l.get j)) (e0:=.exit 0) (er:=.ret) rfl rfl (fun x'=>x'.t2=B6/\x'.t3=8) (xe:=⟨0,l,((l.n:Nat):Int),((l.n:Nat):Int),B6,U5 l l.n⟩) (fun j hj=>by
  have e1:aP ((j:Int)+1)=((j+1:Nat):Int):=by rw [di (by omega) (by omega)]; omega
  have d1:decide ((j:Int) < ((l.n:Nat):Int))=true:=az (by omega);have d2:decide ((0:Int)<=(j:Int))=true:=az (by omega);have ej:Int.toNat (j:Int)=j:=rfl;obtain ⟨e,q1,q2⟩:=XS (l.get j);unfold b.iy b.rV b.yc
  dsimp only
  rw [d1,d2,ej,e1,q1];simp only [cC,aj,iG,fv];rcases q2 with ⟨rfl,h⟩ | ⟨rfl,h⟩
  ·rw [agB _ _ h.1]
   exact ⟨fun _=>rfl,fun k=>absurd h k⟩
  ·exact ⟨fun k=>absurd k h,fun _=>⟨_,rfl,rfl,rfl⟩⟩) (by
  unfold b.iy
  dsimp only
  rw [bq (Int.lt_irrefl _)];rfl)
 rcases key with ⟨h1,h2⟩ | ⟨x',h1,⟨h2,h3⟩,j,h4,h5⟩
 ·have e0:b.jw l = .out (.exit 0) ⟨0,l,((l.n:Nat):Int),((l.n:Nat):Int),B6,U5 l l.n⟩:=by
   unfold b.jw;rw [hb];exact h1
  rw [hb,e0,aE h2];rfl
 ·have e0:b.jw l = .out .ret x':=by
   unfold b.jw;rw [hb];exact h1
  rw [hb,e0,aa fun k=>h5 (k j h4)];show some (x'.t2,x'.t3)=_;rw [h2,h3]
noncomputable def Cw (m:b.hD) (e:Int) (v:Sl b.fp):Nat->Int
 | 0=>e
 | j+1=>if Cw m e v j=0 then (iA m (v.get j)).2 else Cw m e v j
noncomputable def GG (m:b.hD) (e:Int) (v:Sl b.fp):Nat->Sl b.fp
 | 0=>⟨0,fun i=>⟨0,0,0⟩⟩
 | j+1=>(GG m e v j).push (if Cw m e v j=0 then (iA m (v.get j)).1 else I4)
theorem J8 (m:b.hD) (e:Int) (v:Sl b.fp):∀ j,(GG m e v j).n=j
 | 0=>rfl
 | j+1=>by show (GG m e v j).n+1=j+1; rw [J8 m e v j]
theorem acY {m:b.hD} {e:Int} {v:Sl b.fp} {j:Nat} (h:Cw m e v j≠0):∀ k,j<=k->Cw m e v k≠0
 | 0,hk=>by rw [show j=0 by omega] at h; exact h
 | k+1,hk=>by
  by_cases c:j=k+1
  ·rw [<- c]; exact h
  ·have:=acY h k (by omega)
   show (if Cw m e v k=0 then (iA m (v.get k)).2 else Cw m e v k)≠0;rw [aa this]; exact this
theorem acZ {m:b.hD} {e:Int} {v:Sl b.fp} : ∀ n,Cw m e v n=0->e=0/\∀ k,k < n->(iA m (v.get k)).2=0/\(GG m e v n).get k=(iA m (v.get k)).1
 | 0,h=>⟨h,fun k hk=>absurd hk (by omega)⟩
 | n+1,h=>by
  by_cases h0:Cw m e v n=0
  ·obtain ⟨h1,h2⟩:=acZ n h0
   have hn:(iA m (v.get n)).2=0:=by
    have h3:(if Cw m e v n=0 then (iA m (v.get n)).2 else Cw m e v n)=0:=h;rwa [aE h0] at h3
   refine ⟨h1,fun k hk=>?_⟩;show _/\((GG m e v n).push (if Cw m e v n=0 then (iA m (v.get n)).1 else I4)).get k=_;rw [aE h0];by_cases c:k=n
   ·subst c
    refine ⟨hn,?_⟩;have:=Sl.ED (s:=GG m e v k) (v:=(iA m (v.get k)).1);rw [J8] at this;exact this
   ·rw [Sl.Hz (by rw [J8]; omega)]
    exact h2 k (by omega)
  ·exact absurd h (acY h0 (n+1) (by omega))
theorem aib (m:b.hD) (e:Int) (v:Sl b.fp) (hv:v.n<=1000) (sty:Sl b.dt) (t4:b.Place) (sh:Bool) (g:Sl b.Gate) (ms:b.gu) (hg:g.n<=1000) :
  goN b.iz ⟨0,sty,v,(v.n:Int),0,t4,⟨m,e⟩,⟨uJ,sh,g⟩,ms⟩ = .out (.exit 2) ⟨0,sty,v,(v.n:Int),(v.n:Int),t4,⟨m,Cw m e v v.n⟩,⟨⟨GG m e v v.n,uJ.uV,uJ.abl,uJ.look,uJ.box⟩,sh,g⟩,ms⟩:=by
 obtain ⟨e',x',q1,q2,q3⟩:=jH (step:=b.iz)
  (fun j x=>x=⟨0,sty,v,(v.n:Int),(j:Int),t4,⟨m,Cw m e v j⟩,⟨⟨GG m e v j,uJ.uV,uJ.abl,uJ.look,uJ.box⟩,sh,g⟩,ms⟩)
  (fun e' x'=>e' = .exit 2/\x' = ⟨0,sty,v,(v.n:Int),(v.n:Int),t4,⟨m,Cw m e v v.n⟩,⟨⟨GG m e v v.n,uJ.uV,uJ.abl,uJ.look,uJ.box⟩,sh,g⟩,ms⟩)
  v.n (by unfold gV; omega) (by
   rintro j _ hj rfl;unfold b.iz b.rW
   dsimp only
   have ej:Int.toNat (j:Int)=j:=rfl;by_cases bj:j < v.n
   ·have d1:decide ((j:Int) < (v.n:Int))=true:=az (by omega)
    have d2:decide ((0:Int)<=(j:Int))=true:=az (by omega);have e1:aP ((j:Int)+1)=((j+1:Nat):Int):=by rw [di (by omega) (by omega)]; omega
    have a1:dQ 24 (GG m e v j).n 1=true:=uG (by omega) (by rw [J8]; omega);rw [d1,d2,ej,e1,a1,XX];refine .inl ⟨_,?_,by omega,rfl⟩;have s1:Cw m e v (j+1)=if Cw m e v j=0 then (iA m (v.get j)).2 else Cw m e v j:=rfl;have s2:GG m e v (j+1)=(GG m e v j).push (if Cw m e v j=0 then (iA m (v.get j)).1 else I4):=rfl;rw [s1,s2];by_cases h0:Cw m e v j=0
    ·rw [aE h0,aE h0,show ((Cw m e v j) != (0:Int))=false from bne_eq_false_iff_eq.2 h0]
     simp only [↓aj,↓aG,cC,cv,iG,fv]
    ·rw [aa h0,aa h0,neI.2 h0]
     simp only [↓aj,↓aG,cC,cv];rfl
   ·have:j=v.n:=by omega
    subst this;rw [bq (Int.lt_irrefl _)];simp only [↓aj,↓aG,cv];exact .inr ⟨_,_,rfl,rfl,rfl,rfl⟩) (x:=⟨0,sty,v,(v.n:Int),0,t4,⟨m,e⟩,⟨uJ,sh,g⟩,ms⟩) rfl
 rw [q1,q2,q3]
theorem agC (s:Sl b.kA) (h:s.n<=1000):b.wQ s=some s:=by
 unfold b.wQ Fw;have:dQ 16 0 s.n=true:=uG;rw [this];rfl
theorem aic {m:b.gu} (hk:I3 m) (hm:Hk m):∃ l e,b.zW m=some (l,e):=by
 unfold b.zW b.DG b.I7;rw [aa5 m hk,(Ry m).2 hm];have hf:=hm.1.2.2;obtain ⟨l,r,q1,_⟩:=aa4 m hk (by omega);rw [q1];exact ⟨_,_,rfl⟩
def InB (n:Int):Prop:=-32768<=n/\n<=32768
instance (n:Int):Decidable (InB n):=inferInstanceAs (Decidable (_/\_))
theorem WJ (n:Int):b.Cq n=some (decide (InB n)):=by
 unfold b.Cq;by_cases h:n >= -(32768:Int)
 ·rw [az h,aj]
  by_cases k:n<=32768
  ·rw [az k,az (show InB n from ⟨h,k⟩)]
  ·rw [bq k,bq fun q:InB n=>k q.2]
 ·rw [bq h,aG,bq fun q:InB n=>h q.1]
def DL (x:b.DI) (v:b.fp):Prop:=(x.low.x<=v.x/\v.x<=x.high.x)/\(x.low.y<=v.y/\v.y<=x.high.y)/\(x.low.z<=v.z/\v.z<=x.high.z)
theorem aid (x y:b.DI):b.FD x y=some ⟨⟨min x.low.x y.low.x,min x.low.y y.low.y,min x.low.z y.low.z⟩,⟨max x.high.x y.high.x,max x.high.y y.high.y,max x.high.z y.high.z⟩⟩:=rfl
theorem amo (l:Sl b.fp) (hl:l.n<=4096):(goN b.lB ⟨l,0,l,(l.n:Int),0,⟨⟨0,0,0⟩,⟨0,0,0⟩⟩⟩ = .out (.exit 0) ⟨l,0,l,(l.n:Int),(l.n:Int),⟨⟨0,0,0⟩,⟨0,0,0⟩⟩⟩)\/
  ∃ x',goN b.lB ⟨l,0,l,(l.n:Int),0,⟨⟨0,0,0⟩,⟨0,0,0⟩⟩⟩ = .out .ret x'/\x'.e=20:=by
 have key:=o7 (step:=b.lB) l.n (by unfold gV; omega) (fun j=>⟨l,0,l,(l.n:Int),(j:Int),⟨⟨0,0,0⟩,⟨0,0,0⟩⟩⟩) (fun k=>InB (l.get k).x/\InB (l.get k).y/\InB (l.get k).z) (e0:=.exit 0) (er:=.ret) rfl rfl (fun x'=>x'.e=20) (xe:=⟨l,0,l,(l.n:Int),(l.n:Int),⟨⟨0,0,0⟩,⟨0,0,0⟩⟩⟩) (fun j hj=>by
  have e1:aP ((j:Int)+1)=((j+1:Nat):Int):=by rw [di (by omega) (by omega)]; omega
  have d1:decide ((j:Int) < (l.n:Int))=true:=az (by omega);have d2:decide ((0:Int)<=(j:Int))=true:=az (by omega);have ej:Int.toNat (j:Int)=j:=rfl;unfold b.lB b.rL b.Ja b.Jb b.Jc
  dsimp only
  rw [d1,d2,ej,e1,WJ,WJ,WJ];simp only [cC,aj,iG,fv];by_cases h1:InB (l.get j).x
  ·by_cases h2:InB (l.get j).y
   ·by_cases h3:InB (l.get j).z
    ·rw [az h1,az h2,az h3]
     exact ⟨fun _=>rfl,fun k=>absurd ⟨h1,h2,h3⟩ k⟩
    ·rw [az h1,az h2,bq h3]
     exact ⟨fun k=>absurd k.2.2 h3,fun _=>⟨_,rfl,rfl⟩⟩
   ·rw [az h1,bq h2]
    exact ⟨fun k=>absurd k.2.1 h2,fun _=>⟨_,rfl,rfl⟩⟩
  ·rw [bq h1]
   exact ⟨fun k=>absurd k.1 h1,fun _=>⟨_,rfl,rfl⟩⟩) (by
  unfold b.lB
  dsimp only
  rw [bq (Int.lt_irrefl _)];rfl)
 rcases key with ⟨h1,_⟩ | ⟨x',h1,h2,_⟩
 ·exact .inl h1
 ·exact .inr ⟨x',h1,h2⟩
theorem aie (e:Int) (l:Sl b.fp) (hl:l.n<=4096) (x0:b.DI) (C:b.fp->Prop) (hC:∀ v,C v->DL x0 v):∃ x',goN b.lR ⟨e,l,(l.n:Int),0,x0⟩ = .out (.exit 2) x'/\x'.e=e/\(∀ v,C v->DL x'.b v)/\∀ k,k < l.n->DL x'.b (l.get k):=by
 obtain ⟨e',x',q1,q2,q3⟩:=jH (step:=b.lR)
  (fun j x=>x.e=e/\x.t49=l/\x.t50=(l.n:Int)/\x.t51=(j:Int)/\(∀ v,C v->DL x.b v)/\∀ k,k < j->DL x.b (l.get k))
  (fun e' x'=>e' = .exit 2/\x'.e=e/\(∀ v,C v->DL x'.b v)/\∀ k,k < l.n->DL x'.b (l.get k))
  l.n (by unfold gV; omega) (by
   rintro j ⟨xe,t49,t50,t51,xb⟩ hj ⟨i1,i2,i3,i4,i5,i6⟩
   dsimp only at i1 i2 i3 i4 i5 i6
   subst i1 i2 i3 i4;unfold b.lR b.Gl
   dsimp only
   have ej:Int.toNat (j:Int)=j:=rfl;by_cases bj:j < t49.n
   ·have d1:decide ((j:Int) < (t49.n:Int))=true:=az (by omega)
    have d2:decide ((0:Int)<=(j:Int))=true:=az (by omega);have e1:aP ((j:Int)+1)=((j+1:Nat):Int):=by rw [di (by omega) (by omega)]; omega
    rw [d1,d2,ej,e1,aid];simp only [cC,aj,iG,fv];have wide:∀ v,DL xb v->DL ⟨⟨min xb.low.x (t49.get j).x,min xb.low.y (t49.get j).y,min xb.low.z (t49.get j).z⟩,⟨max xb.high.x (t49.get j).x,max xb.high.y (t49.get j).y,max xb.high.z (t49.get j).z⟩⟩ v:=fun v hv=>by
     unfold DL at hv ⊢
     dsimp only
     omega
    refine .inl ⟨_,rfl,by omega,rfl,rfl,rfl,rfl,fun v hv=>wide v (i5 v hv),fun k hk=>?_⟩;by_cases c:k=j
    ·subst c
     unfold DL
     dsimp only
     omega
    ·exact wide _ (i6 k (by omega))
   ·have:j=t49.n:=by omega
    subst this;rw [bq (Int.lt_irrefl _)];exact .inr ⟨_,_,rfl,rfl,rfl,rfl,i5,i6⟩) (x:=⟨e,l,(l.n:Int),0,x0⟩) ⟨rfl,rfl,rfl,rfl,hC,fun k hk=>absurd hk (by omega)⟩
 subst q2;exact ⟨x',q1,q3⟩
theorem amp (l:Sl b.fp):∃ x e,b.HB l=some (x,e)/\(e=0->∀ k,k < l.n->DL x (l.get k))/\(0 < l.n->l.n<=4096->e=0\/e=20):=by
 unfold b.HB b.Ho;by_cases h0:(l.n:Int)=0
 ·rw [Fa.2 h0]
  exact ⟨_,_,rfl,fun q=>by simp at q,fun q=>by omega⟩
 rw [show ((l.n:Int)==0)=false by rw [<- Bool.not_eq_true,Fa]; exact h0];by_cases h1:(l.n:Int) > 4096
 ·rw [az h1]
  exact ⟨_,_,rfl,fun q=>by simp at q,fun _ q=>by omega⟩
 rw [bq h1];simp only [aG];rcases amo l (by omega) with h2 | ⟨x',h2,h3⟩
 ·have e0:b.ib l = .out (.exit 0) ⟨l,0,l,(l.n:Int),(l.n:Int),⟨⟨0,0,0⟩,⟨0,0,0⟩⟩⟩:=h2
  have e1:b.J6 l=goN b.lR ⟨0,⟨l.n - 1,fun i=>l.get (1+i)⟩,((l.n - 1:Nat):Int),0,⟨l.get 0,l.get 0⟩⟩:=by
   unfold b.J6;rw [e0];rfl
  obtain ⟨y,q1,q2,q3,q4⟩:=aie 0 ⟨l.n - 1,fun i=>l.get (1+i)⟩ (by show l.n - 1<=4096; omega) ⟨l.get 0,l.get 0⟩ (fun v=>v=l.get 0) (fun v hv=>by subst hv; exact ⟨⟨Int.le_refl _,Int.le_refl _⟩,⟨Int.le_refl _,Int.le_refl _⟩,Int.le_refl _,Int.le_refl _⟩);rw [e0,e1,q1];rw [aX.kD]
  dsimp only
  have d1:decide (0 < (l.n:Int))=true:=az (by omega);have d2:decide (1<=(l.n:Int))=true:=az (by omega);have d3:decide ((l.n:Int)<=(l.n:Int))=true:=az (Int.le_refl _);rw [d1,d2,d3];refine ⟨y.b,0,rfl,fun _ k hk=>?_,fun _ _=>.inl rfl⟩;by_cases c:k=0
  ·subst c; exact q3 _ rfl
  ·have:DL y.b (l.get (1+(k - 1))):=q4 (k - 1) (by show k - 1 < l.n - 1; omega)
   rw [show 1+(k - 1)=k by omega] at this;exact this
 ·have e0:b.ib l = .out .ret x':=h2
  rw [e0];simp only [aX.um,aX.kD];refine ⟨x'.b,x'.e,rfl,fun q=>?_,fun _ _=>.inr h3⟩;rw [h3] at q;simp at q
theorem RG (s:b.aC) (p:b.Path):∀ n j,j < n->(oi s p n).get j=(nodeAt s p j).bF
 | 0,j,h=>absurd h (oX _)
 | n+1,j,h=>by
  show ((oi s p n).push (nodeAt s p n).bF).get j=_;by_cases c:j=n
  ·subst c
   have:=Sl.ED (s:=oi s p j) (v:=(nodeAt s p j).bF);rw [FF] at this;exact this
  ·rw [Sl.Hz (by rw [FF]; omega)]
   exact RG s p n j (by omega)
structure uq (s:b.aC) (p:b.Path):Prop where
 inn:Fz s
 on:aju s
 asked:abd s p
 Wx:p.kids.n<=100
 fB:(nodeAt s p p.kids.n).kind=5
theorem uq.n {s:b.aC} {p:b.Path} (h:uq s p):p.nodes.n=p.kids.n+1:=h.asked.2.2.2.1
theorem uq.slot {s:b.aC} {p:b.Path} (h:uq s p) {j:Nat} (hj:j < p.nodes.n):(p.nodes.get j).slot.toNat < s.nodes.n:=by
 have:=J4 h.asked (show j<=p.kids.n by have:=h.n; omega);omega
theorem uq.node {s:b.aC} {p:b.Path} (h:uq s p) {j:Nat} (hj:j < p.nodes.n):YP s (nodeAt s p j):=by
 have hh:=XV h.asked (show j<=p.kids.n by have:=h.n; omega);have hs:=h.asked.1;exact (hs.2.2.2.1 _ (h.slot hj)).1 hh.2.2.2
theorem uq.at {s:b.aC} {p:b.Path} (h:uq s p):0<=(nodeAt s p p.kids.n).fB/\(nodeAt s p p.kids.n).fB < (s.eO.n:Int):=(h.node (by have:=h.n; omega)).2.2.2.2.2.2.2.2.1 h.fB
def iB (s:b.aC) (p:b.Path):b.gu:=s.eO.get (nodeAt s p p.kids.n).fB.toNat
theorem uq.ok {s:b.aC} {p:b.Path} (h:uq s p):Hk (iB s p)/\I3 (iB s p):=by
 have:=h.at;exact ⟨h.asked.1.2.2.1.2.2.1 _ (by omega),h.inn.2.1 _ (by omega)⟩
theorem agD {s:b.aC} {p:b.Path} (h:uq s p):goN b.fF (LY s p 0) = .out (.exit 0) (LY s p p.nodes.n):=by
 have hn:=h.n;have hf:=h.Wx;obtain ⟨e',x',q1,q2,q3⟩:=jH (step:=b.fF) (fun j x=>x=LY s p j) (fun e' x'=>e' = .exit 0/\x' = LY s p p.nodes.n) p.nodes.n (by unfold gV; omega) (by
  rintro j _ hj rfl;by_cases bj:j < p.nodes.n
  ·refine .inl ⟨_,agA h.asked h.on (by omega) bj (fun k=>?_) ?_,by omega,rfl⟩
   ·by_cases c:j=p.kids.n
    ·subst c; have:=h.fB; omega
    ·omega
   ·have:=(h.inn.1 _ (h.slot bj)).2
    exact Nat.le_of_lt this
  ·have:j=p.nodes.n:=by omega
   subst this;refine .inr ⟨_,_,?_,rfl,rfl,rfl⟩;unfold LY b.fF
   dsimp only
   rw [bq (Int.lt_irrefl _)];simp only [↓aj,↓aG,cv]) (x:=LY s p 0) rfl
 rw [q1,q2,q3]
structure L3 (s:b.aC) (p:b.Path) (x:b.Place) (e:Int):Prop where
 on:x.sh=RF s p p.nodes.n
 aq:x.aq=mw s p p.nodes.n
 ay:x.item.ay=GG (gI s p p.nodes.n).1 (gI s p p.nodes.n).2 (iB s p).ay (iB s p).ay.n
 tQ:e=0->Cw (gI s p p.nodes.n).1 (gI s p p.nodes.n).2 (iB s p).ay (iB s p).ay.n=0
 box:e=0->∀ k,k < x.item.ay.n->DL x.item.box (x.item.ay.get k)
 err:e=0\/e=20
theorem agE (a c:b.hD):(yn a c).2=0\/(yn a c).2=20:=by
 unfold yn;split
 ·exact .inl rfl
 ·exact .inr rfl
theorem XY (m:b.hD) (v:b.fp):(iA m v).2=0\/(iA m v).2=20:=by
 unfold iA;split
 ·exact .inl rfl
 ·exact .inr rfl
theorem agF (s:b.aC) (p:b.Path):∀ j,(gI s p j).2=0\/(gI s p j).2=20
 | 0=>.inl rfl
 | j+1=>by
  have ih:=agF s p j;by_cases h0:(gI s p j).2=0
  ·by_cases h2:(nodeAt s p j).kind=2
   ·rw [acX h2 h0]; exact agE _ _
   ·by_cases h4:(nodeAt s p j).kind=4
    ·rw [S6 h4 h0]; exact XY _ _
    ·rw [Nu h2 h4]; exact ih
  ·rw [QB h0]; exact ih
theorem agG {m:b.hD} {e:Int} {v:Sl b.fp} (h:e=0\/e=20):∀ j,Cw m e v j=0\/Cw m e v j=20
 | 0=>h
 | j+1=>by
  have ih:=agG (m:=m) (v:=v) h j;have e1:Cw m e v (j+1)=if Cw m e v j=0 then (iA m (v.get j)).2 else Cw m e v j:=rfl;rw [e1];split
  ·exact XY _ _
  ·exact ih
theorem agH {s:b.aC} {p:b.Path} (h:uq s p):∃ x e,b.vT s p=some (x,e)/\L3 s p x e:=by
 have hn:=h.n;have hf:=h.Wx;obtain ⟨hm,hk⟩:=h.ok;obtain ⟨m1,m2⟩:=h.at;have hv:(iB s p).ay.n<=64:=hm.1.1;have e1:b.bQ s p = .out (.exit 0) (LY s p p.nodes.n):=agD h;have hnd:amm s p p.nodes.n=nodeAt s p p.kids.n:=by rw [hn]; rfl
 have e2:b.dz s p = .out (.exit 2) ⟨0,oi s p p.nodes.n,(iB s p).ay,((iB s p).ay.n:Int),((iB s p).ay.n:Int),Nt,⟨(gI s p p.nodes.n).1,Cw (gI s p p.nodes.n).1 (gI s p p.nodes.n).2 (iB s p).ay (iB s p).ay.n⟩,⟨⟨GG (gI s p p.nodes.n).1 (gI s p p.nodes.n).2 (iB s p).ay (iB s p).ay.n,uJ.uV,uJ.abl,uJ.look,uJ.box⟩,RF s p p.nodes.n,mw s p p.nodes.n⟩,iB s p⟩:=by
  unfold b.dz;rw [e1];rw [aX.kD];unfold LY
  dsimp only
  rw [hnd];exact aib _ _ _ (by show (iB s p).ay.n<=1000; omega) _ _ _ _ _ (by have:=S5 s p p.nodes.n; omega)
 have a3:b.vP s p=some (iB s p).uV:=by
  unfold b.vP;rw [e2];exact agC _ (by have:=hm.1.2.1; show (iB s p).uV.n<=1000; omega)
 obtain ⟨tr,te,t1⟩:=aic hk hm;have a4:b.vQ s p=some (tr,te):=by
  unfold b.vQ;rw [e2];exact t1
 have a5:b.vR s p=some (WI (oi s p p.nodes.n)):=by
  unfold b.vR;rw [e2];rw [aX.kD];refine ab2 _ fun j hj=>?_;have hj:j < (oi s p p.nodes.n).n:=hj;rw [FF] at hj;show Qx ((oi s p p.nodes.n).get j);rw [RG s p _ j hj];exact (h.inn.1 _ (h.slot hj)).1
 obtain ⟨bx,be,b1,b2,b3⟩:=amp (GG (gI s p p.nodes.n).1 (gI s p p.nodes.n).2 (iB s p).ay (iB s p).ay.n);have a6:b.vS s p=some (bx,be):=by
  unfold b.vS;rw [e2];exact b1
 unfold b.vT b.yo;rw [show b.EF s p=some unit from rfl,a3,a4,a5,a6,e1,e2];rw [aX.kD,aX.kD];unfold LY
 dsimp only
 rw [hnd,az m1,az m2];simp only [aX.um,zq,↓aj,↓aG,cv,cC,iG,fv,tI];by_cases h0:Cw (gI s p p.nodes.n).1 (gI s p p.nodes.n).2 (iB s p).ay (iB s p).ay.n=0
 ·rw [Fa.2 h0]
  by_cases h1:((iB s p).ay.n:Int) > 0
  ·rw [az h1]
   exact ⟨_,_,rfl,rfl,rfl,rfl,fun _=>h0,b2,b3 (by rw [J8]; omega) (by rw [J8]; omega)⟩
  ·rw [bq h1]
   refine ⟨_,_,rfl,rfl,rfl,rfl,fun _=>h0,fun _ k hk=>?_,.inl h0⟩;have hk:k < (GG (gI s p p.nodes.n).1 (gI s p p.nodes.n).2 (iB s p).ay (iB s p).ay.n).n:=hk;rw [J8] at hk;omega
 ·rw [show (Cw (gI s p p.nodes.n).1 (gI s p p.nodes.n).2 (iB s p).ay (iB s p).ay.n==0)=false by rw [<- Bool.not_eq_true,Fa]; exact h0]
  exact ⟨_,_,rfl,rfl,rfl,rfl,fun q=>absurd q h0,fun q=>absurd q h0,agG (agF s p _) _⟩
end Go.Proofs.Ytckbdndhmcoihaa.sc
end
section
namespace Go.Au
variable {n:Nat} {mF:Nat->Nat} {c:Nat->Nat->Nat}
def Cx {H:Type} (mF:H->Nat) (c:H->Nat->H):Nat->H->Prop
 | 0,_=>False
 | t+1,i=>∀ k,k < mF i->Cx mF c t (c i k)
theorem U6 (ve:∀ i,i < n->∀ k,k < mF i->c i k < n) (hf:Gv n mF c):∀ i,i < n->Cx mF c n i:=by
 intro i0 hi0;apply Classical.byContradiction;intro h0;have hc:∀ p:Nat×Nat,∃ j,p.2 < n->¬ Cx mF c (p.1+1) p.2->(j < n/\¬ Cx mF c p.1 j/\∃ k,k < mF p.2/\c p.2 k=j):=by
  rintro ⟨t,i⟩;by_cases hi:i < n
  ·by_cases hq:Cx mF c (t+1) i
   ·exact ⟨0,fun _ k=>absurd hq k⟩
   ·have:∃ k,k < mF i/\¬ Cx mF c t (c i k):=by
     apply Classical.byContradiction;intro hn;exact hq fun k hk=>Classical.byContradiction fun h=>hn ⟨k,hk,h⟩
    obtain ⟨k,h1,h2⟩:=this;exact ⟨c i k,fun _ _=>⟨ve i hi k h1,h2,k,h1,rfl⟩⟩
  ·exact ⟨0,fun k=>absurd k hi⟩
 obtain ⟨g,hg⟩:=Classical.axiomOfChoice hc
 let it:Nat->Nat:=fun j=>Nat.rec i0 (fun j x=>g (n - (j+1),x)) j
 have hit:∀ j,j<=n->it j < n/\¬ Cx mF c (n - j) (it j):=by
  intro j
  induction j with
  | zero=>exact fun _=>⟨hi0,h0⟩
  | succ j ih=>
   intro hj;obtain ⟨h1,h2⟩:=ih (by omega);have e:n - j=n - (j+1)+1:=by omega
   rw [e] at h2;have:=hg (n - (j+1),it j) h1 h2;exact ⟨this.1,this.2.1⟩
 have gZ:∀ j,j < n->∃ k,k < mF (it j)/\c (it j) k=it (j+1):=by
  intro j hj;obtain ⟨h1,h2⟩:=hit j (by omega);have e:n - j=n - (j+1)+1:=by omega
  rw [e] at h2;exact (hg (n - (j+1),it j) h1 h2).2.2
 have hup:∀ d j,j+d<=n->Below mF c (it (j+d)) (it j):=by
  intro d
  induction d with
  | zero=>exact fun j _=>.here
  | succ d ih=>
   intro j hj;obtain ⟨k,h1,h2⟩:=gZ j (by omega);have:=ih (j+1) (by omega);rw [show j+1+d=j+(d+1) by omega] at this;refine .dS _ k h1 ?_;rw [h2];exact this
 obtain ⟨i,j,h1,h2,h3⟩:=ajs n it fun j hj=>(hit j hj).1;obtain ⟨k,q1,q2⟩:=gZ i (by omega);refine hf _ (hit i (by omega)).1 k q1 ?_;rw [q2];have:=hup (j - (i+1)) (i+1) (by omega);rw [show i+1+(j - (i+1))=j by omega,<- h3] at this;exact this
section
variable {H:Type} {mF:H->Nat} {c:H->Nat->H}
theorem Cx.more:∀ (t:Nat) (i:H),Cx mF c t i->Cx mF c (t+1) i
 | 0,_,h=>h.elim
 | t+1,_,h=>fun k hk=>(h k hk).more t _
theorem Cx.le {t u:Nat} {i:H} (h:Cx mF c t i) (hle:t<=u):Cx mF c u i:=by
 induction hle with
 | refl=>exact h
 | step _ ih=>exact ih.more _ _
def U7 (f:Nat->Nat):Nat->Nat
 | 0=>0
 | k+1=>max (U7 f k) (f k)
def PK (f:Nat->Nat):Nat->Nat
 | 0=>0
 | k+1=>min (PK f k+f k) 257
theorem abo {f g:Nat->Nat} : ∀ k,(∀ j,j < k->f j=g j)->U7 f k=U7 g k
 | 0,_=>rfl
 | k+1,h=>by rw [U7,U7,abo k fun j hj=>h j (by omega),h k (by omega)]
theorem Nv {f g:Nat->Nat} : ∀ k,(∀ j,j < k->f j=g j)->PK f k=PK g k
 | 0,_=>rfl
 | k+1,h=>by rw [PK,PK,Nv k fun j hj=>h j (by omega),h k (by omega)]
theorem aem (f:Nat->Nat):∀ k j,j < k->f j<=U7 f k
 | k+1,j,h=>by
  rw [U7];by_cases e:j=k
  ·subst e; omega
  ·have:=aem f k j (by omega); omega
theorem ajw (f:Nat->Nat):∀ k,PK f k<=257
 | 0=>by rw [PK]; omega
 | k+1=>by rw [PK]; omega
def G9 {H:Type} (mF:H->Nat) (c:H->Nat->H):Nat->H->Nat
 | 0,_=>0
 | t+1,i=>U7 (fun k=>G9 mF c t (c i k)) (mF i)+1
def Nw {H:Type} (mF:H->Nat) (c:H->Nat->H) (m:H->Bool):Nat->H->Nat
 | 0,_=>0
 | t+1,i=>cond (m i) 1 (PK (fun k=>Nw mF c m t (c i k)) (mF i))
theorem ac0:∀ (t:Nat) (i:H),Cx mF c t i->G9 mF c (t+1) i=G9 mF c t i
 | 0,_,h=>h.elim
 | t+1,i,h=>by
  rw [G9,G9,abo _ fun k hk=>ac0 t _ (h k hk)]
theorem WK (m:H->Bool):∀ (t:Nat) (i:H),Cx mF c t i->Nw mF c m (t+1) i=Nw mF c m t i
 | 0,_,h=>h.elim
 | t+1,i,h=>by
  rw [Nw,Nw,Nv _ fun k hk=>WK m t _ (h k hk)]
theorem ajx {m:H->Bool} {t u:Nat} {i:H} (h:Cx mF c t i) (hle:t<=u):Nw mF c m u i=Nw mF c m t i:=by
 induction hle with
 | refl=>rfl
 | step hle ih=>rw [WK _ _ _ (h.le hle),ih]
theorem agI:∀ (t:Nat) (i:H),Cx mF c t i->Cx mF c (G9 mF c t i) i
 | 0,_,h=>h.elim
 | t+1,i,h=>fun k hk=>(agI t _ (h k hk)).le (aem (fun k=>G9 mF c t (c i k)) _ k hk)
theorem S7:∀ (t:Nat) (i:H),G9 mF c t i<=t
 | 0,_=>aB _
 | t+1,i=>by
  have:∀ k,U7 (fun k=>G9 mF c t (c i k)) k<=t:=by
   intro k
   induction k with
   | zero=>exact rQ _
   | succ k ih=>
    have:=S7 t (c i k);rw [U7];omega
  have:=this (mF i);rw [G9];omega
end
theorem aky (ve:∀ i,i < n->∀ k,k < mF i->c i k < n) (hf:Gv n mF c) {i:Nat} (hi:i < n):G9 mF c n i=U7 (fun k=>G9 mF c n (c i k)) (mF i)+1:=by
 rw [<- ac0 n i (U6 ve hf i hi),G9]
theorem akz (m:Nat->Bool) (ve:∀ i,i < n->∀ k,k < mF i->c i k < n) (hf:Gv n mF c) {i:Nat} (hi:i < n):Nw mF c m n i=cond (m i) 1 (PK (fun k=>Nw mF c m n (c i k)) (mF i)):=by
 rw [<- WK m n i (U6 ve hf i hi),Nw]
end Go.Au
end
section
namespace Go.Proofs.Ytckbdndhmcoihaa.b
open Go.K
noncomputable section
def Gm (down:Int->Sl Int×Sl Int->Option (Sl Int×Sl Int)) (l:Sl Handle):Nat->Int×Int×(Sl Int×Sl Int)->Option (Int×Int×(Sl Int×Sl Int))
 | 0,x=>some x
 | k+1,x=>(Gm down l k x).bind fun y=>(down (l.get k).slot y.2.2).bind fun z=>
   some (max y.1 (z.1.get (l.get k).slot.toNat),min (aP (y.2.1+z.2.get (l.get k).slot.toNat)) 257,z)
def wT (s:aC):Nat->Int->Sl Int×Sl Int->Option (Sl Int×Sl Int)
 | 0,_,_=>none
 | f+1,slot,x=>cond (decide (0<=slot)&&decide (slot < (x.1.n:Int))&&decide (slot < (s.graph.kids.n:Int))&&decide (slot < (s.nodes.n:Int)))
   (cond (decide (x.1.get slot.toNat > 0)) (some x)
    ((Gm (wT s f) (s.graph.kids.get slot.toNat) (s.graph.kids.get slot.toNat).n (0,0,x)).bind fun y=>
     some (y.2.2.1.set slot.toNat (aP (y.1+1)),y.2.2.2.set slot.toNat (cond ((s.nodes.get slot.toNat).kind==5) 1 y.2.1)))) none
def Fits (s:aC):Prop:=s.nodes.n<=1000000/\∀ i,i < s.graph.kids.n->(s.graph.kids.get i).n<=1000000
open Classical in
def dY (s:aC):Option (Sl Int×Sl Int):=if Fits s then wT s 250 s.root.slot (⟨s.nodes.n,fun _=>0⟩,⟨s.nodes.n,fun _=>0⟩) else none
def xz:List KV->KR KV:=b5 Try.prog 23 (cg (fun (r:Sl Int×Sl Int)=>KV.l8 [(dG 3 (kI .i64)) r.1,(dG 3 (kI .i64)) r.2]) fun vs=>dY (eP (vs.getD 0 .bf)))
end
end Go.Proofs.Ytckbdndhmcoihaa.b
end
section
namespace Go.Proofs.Ytckbdndhmcoihaa.sc
open Go Go.K Go.Au Go.Proofs.Ytckbdndhmcoihaa.nodes
def J9 (s:b.aC) (i:Nat):Bool:=(s.nodes.get i).kind==5
def hH (s:b.aC) (i:Nat):Nat:=G9 (dg s.graph) (ch s.graph) s.graph.kids.n i
def mH (s:b.aC) (i:Nat):Nat:=Nw (dg s.graph) (ch s.graph) (J9 s) s.graph.kids.n i
structure Down (s:b.aC):Prop where
 n:s.nodes.n=s.graph.kids.n
 small:s.graph.kids.n<=128
 inr:∀ i,i < s.graph.kids.n->∀ k,k < dg s.graph i->0<=((s.graph.kids.get i).get k).slot/\((s.graph.kids.get i).get k).slot < (s.graph.kids.n:Int)
 Wx:∀ i,i < s.graph.kids.n->dg s.graph i<=16
 free:Au.Gv s.graph.kids.n (dg s.graph) (ch s.graph)
theorem Down.chl {s:b.aC} (h:Down s):∀ i,i < s.graph.kids.n->∀ k,k < dg s.graph i->ch s.graph i k < s.graph.kids.n:=fun i hi k hk=>by
 have:=h.inr i hi k hk;unfold nodes.ch;omega
theorem Down.slot {s:b.aC} (h:Down s) {i k:Nat} (hi:i < s.graph.kids.n) (hk:k < dg s.graph i):((s.graph.kids.get i).get k).slot=((ch s.graph i k:Nat):Int):=by
 have:=h.inr i hi k hk;unfold nodes.ch;omega
theorem agJ {s:b.aC} (hs:oT s):Down s:=by
 have hg:=(HA s.graph).1 hs.1;have ha:=hg.1.Wx;have hf:=am7 hg.1 hg.2.1 hg.2.2.1;exact ⟨hs.2.1,by omega,hf.inr,fun i hi=>(hg.2.2.1 i hi).1,(aku hg.2.2.1 hg.2.1).1 hg.2.2.2⟩
theorem agK {s:b.aC} (h:Down s) {i:Nat} (hi:i < s.graph.kids.n):hH s i=U7 (fun k=>hH s (ch s.graph i k)) (dg s.graph i)+1:=aky h.chl h.free hi
theorem agL {s:b.aC} (h:Down s) {i:Nat} (hi:i < s.graph.kids.n):mH s i=cond (J9 s i) 1 (PK (fun k=>mH s (ch s.graph i k)) (dg s.graph i)):=akz _ h.chl h.free hi
theorem aoB {s:b.aC} (h:Down s) {i:Nat} (hi:i < s.graph.kids.n):mH s i<=257:=by
 rw [agL h hi];cases J9 s i with
 | true=>show 1<=257; omega
 | false=>exact ajw _ _
structure Kn (s:b.aC) (x:Sl Int×Sl Int):Prop where
 n1:x.1.n=s.graph.kids.n
 n2:x.2.n=s.graph.kids.n
 is:∀ j,j < s.graph.kids.n->x.1.get j=0\/x.1.get j=(hH s j:Int)/\x.2.get j=(mH s j:Int)
theorem abp {s:b.aC} (h:Down s) {i:Nat} (hi:i < s.graph.kids.n) {down:Int->Sl Int×Sl Int->Option (Sl Int×Sl Int)}
  (hd:∀ k,k < dg s.graph i->∀ x,Kn s x->∃ x',down ((ch s.graph i k:Nat):Int) x=some x'/\Kn s x'/\x'.1.get (ch s.graph i k)=(hH s (ch s.graph i k):Int)/\x'.2.get (ch s.graph i k)=(mH s (ch s.graph i k):Int)) {x:Sl Int×Sl Int} (hx:Kn s x) :
  ∀ k,k<=dg s.graph i->∃ y,b.Gm down (s.graph.kids.get i) k (0,0,x)=some y/\y.1=(U7 (fun k=>hH s (ch s.graph i k)) k:Int)/\y.2.1=(PK (fun k=>mH s (ch s.graph i k)) k:Int)/\Kn s y.2.2
 | 0,_=>⟨_,rfl,rfl,rfl,hx⟩
 | k+1,hk=>by
  obtain ⟨y,h1,h2,h3,h4⟩:=abp h hi hd hx k (by omega);obtain ⟨z,q1,q2,q3,q4⟩:=hd k (by omega) y.2.2 h4;have es:=h.slot hi (k:=k) (by omega);have hb:=ajw (fun k=>mH s (ch s.graph i k)) k;have hm:=aoB h (h.chl i hi k (by omega));refine ⟨_,by unfold b.Gm; rw [h1]; show ((down _ y.2.2).bind _)=_; rw [es,q1]; rfl,?_,?_,q2⟩
  ·show max y.1 (z.1.get ((ch s.graph i k:Nat):Int).toNat)=_
   rw [Cz,q3,h2,U7];omega
  ·show min (aP (y.2.1+z.2.get ((ch s.graph i k:Nat):Int).toNat)) 257=_
   rw [Cz,q4,h3,di (by omega) (by omega),PK];omega
theorem ac1 {s:b.aC} (h:Down s):∀ (f i:Nat) (x:Sl Int×Sl Int),Cx (dg s.graph) (ch s.graph) f i->i < s.graph.kids.n->Kn s x->
  ∃ x',b.wT s f (i:Int) x=some x'/\Kn s x'/\x'.1.get i=(hH s i:Int)/\x'.2.get i=(mH s i:Int)
 | 0,_,_,hl,_,_=>hl.elim
 | f+1,i,x,hl,hi,hx=>by
  unfold b.wT;have d1:decide ((0:Int)<=(i:Int))=true:=az (by omega);have d2:decide ((i:Int) < (x.1.n:Int))=true:=az (by have:=hx.n1; omega);have d3:decide ((i:Int) < (s.graph.kids.n:Int))=true:=az (by omega);have d4:decide ((i:Int) < (s.nodes.n:Int))=true:=az (by have:=h.n; omega);rw [d1,d2,d3,d4];simp only [cC,aj,Cz];have Gs:0 < hH s i:=by rw [agK h hi]; omega
  have hhb:hH s i<=128:=gS (S7 _ _) h.small;by_cases hz:x.1.get i > 0
  ·rw [az hz,aj]
   rcases hx.is i hi with e | e
   ·omega
   ·exact ⟨x,rfl,hx,e⟩
  ·rw [bq hz,aG]
   obtain ⟨y,h1,h2,h3,h4⟩:=abp h hi (down:=b.wT s f) (fun k hk x hx=>ac1 h f _ x (hl k hk) (h.chl i hi k hk) hx) hx _ (aB _);have e1:b.Gm (b.wT s f) (s.graph.kids.get i) (s.graph.kids.get i).n (0,0,x)=some y:=h1;rw [e1];have e2:aP (y.1+1)=(hH s i:Int):=by
    have:=agK h hi;rw [h2,di (by omega) (by omega)];omega
   have e3:cond ((s.nodes.get i).kind==5) 1 y.2.1=(mH s i:Int):=by
    rw [agL h hi,h3];unfold J9;cases (s.nodes.get i).kind==5 <;> rfl
   refine ⟨_,rfl,⟨h4.n1,h4.n2,fun j hj=>?_⟩,?_,?_⟩
   ·show (y.2.2.1.set i _).get j=0\/(y.2.2.1.set i _).get j=_/\(y.2.2.2.set i _).get j=_
    by_cases e:j=i
    ·subst e
     rw [fH,fH,e2,e3];exact .inr ⟨rfl,rfl⟩
    ·rw [eD _ _ e,eD _ _ e]
     exact h4.is j hj
   ·show (y.2.2.1.set i _).get i=_
    rw [fH,e2]
   ·show (y.2.2.2.set i _).get i=_
    rw [fH,e3]
theorem aen {s:b.aC} (h:Down s) {r:Nat} (hr:s.root.slot=(r:Int)) (hi:r < s.graph.kids.n):∃ x,b.dY s=some x/\Kn s x/\x.1.get r=(hH s r:Int)/\x.2.get r=(mH s r:Int):=by
 unfold b.dY;rw [aE ⟨by have:=h.n; have:=h.small; omega,fun i hi=>by have:=h.Wx i hi; unfold dg at this; omega⟩,hr];exact ac1 h 250 r _ ((U6 h.chl h.free r hi).le (by have:=h.small; omega)) hi ⟨h.n,h.n,fun j _=>.inl rfl⟩
end Go.Proofs.Ytckbdndhmcoihaa.sc
end
section
namespace Go.Au
variable {H:Type} (dg:H->Nat) (dS:H->Nat->H) (fB:H->Bool)
def vU:Nat->H->List (List Nat)
 | 0,_=>[]
 | t+1,h=>((List.range (dg h)).flatMap fun k=>(vU t (dS h k)).map (k::·))++cond (fB h) [[]] []
abbrev St (H:Type):=List (H×Nat)×List (List (H×Nat))
def nx:St H->St H
 | ([],out)=>([],out)
 | ((h,n)::st,out)=>cond (decide (n < dg h)) ((dS h n,0)::(h,n+1)::st,out) (st,cond (fB h) (out++[(h,n)::st]) out)
def it:Nat->St H->St H
 | 0,x=>x
 | r+1,x=>it r (nx dg dS fB x)
def n3:List (H×Nat)->H->List Nat->List (H×Nat)
 | st,h,[]=>(h,dg h)::st
 | st,h,k::ks=>n3 ((h,k+1)::st) (dS h k) ks
variable {dg dS fB}
theorem Nx:∀ (a c:Nat) (x:St H),it dg dS fB (a+c) x=it dg dS fB c (it dg dS fB a x)
 | 0,c,x=>by rw [ba]; rfl
 | a+1,c,x=>by
  rw [show a+1+c=(a+c)+1 by omega];exact Nx a c _
theorem aeo:∀ (r:Nat) (out:List (List (H×Nat))),it dg dS fB r ([],out)=([],out)
 | 0,_=>rfl
 | r+1,out=>aeo r out
theorem visit {C:H->Prop} (hC:∀ h,C h->∀ k,k < dg h->C (dS h k)) (hf:∀ h:H,C h->dg h<=16):∀ (t:Nat) (h:H),C h->Cx dg dS t h->∀ (st:List (H×Nat)) (out:List (List (H×Nat))),
  ∃ r,r+2<=3 * 17 ^ t/\1<=r/\it dg dS fB r ((h,0)::st,out)=(st,out++(vU dg dS fB t h).map (n3 dg dS st h))
 | 0,_,_,hl,_,_=>hl.elim
 | t+1,h,hc,hl,st,out=>by
  have key:∀ k,k<=dg h->∃ r,r<=k * (3 * 17 ^ t - 1)/\it dg dS fB r ((h,0)::st,out)=((h,k)::st,out++((List.range k).flatMap fun k=>(vU dg dS fB t (dS h k)).map (k::·)).map (n3 dg dS st h)):=by
   intro k
   induction k with
   | zero=>exact fun _=>⟨0,rQ _,by simp [it]⟩
   | succ k ih=>
    intro hk;obtain ⟨r,h1,h2⟩:=ih (by omega);obtain ⟨r',q1,q2,q3⟩:=visit hC hf t (dS h k) (hC h hc k (by omega)) (hl k (by omega)) ((h,k+1)::st) (out++((List.range k).flatMap fun k=>(vU dg dS fB t (dS h k)).map (k::·)).map (n3 dg dS st h));refine ⟨r+(1+r'),?_,?_⟩
    ·rw [Nat.succ_mul]; omega
    ·rw [Nx,h2,Nx]
     have e1:it dg dS fB 1 ((h,k)::st,out++((List.range k).flatMap fun k=>(vU dg dS fB t (dS h k)).map (k::·)).map (n3 dg dS st h))=((dS h k,0)::(h,k+1)::st,out++((List.range k).flatMap fun k=>(vU dg dS fB t (dS h k)).map (k::·)).map (n3 dg dS st h)):=by
      simp only [it,nx];rw [az (by omega:k < dg h)];rfl
     rw [e1,q3,List.range_succ,List.flatMap_append,EG,List.append_assoc];congr 2;simp only [List.flatMap_cons,List.flatMap_nil,yd,List.map_map];rfl
  obtain ⟨r,h1,h2⟩:=key (dg h) (aB _);have hd:=hf h hc;refine ⟨r+1,?_,by omega,?_⟩
  ·have:dg h * (3 * 17 ^ t - 1)<=16 * (3 * 17 ^ t - 1):=Nat.mul_le_mul_right _ hd
   have hp:1<=17 ^ t:=Nat.one_le_pow _ _ (by omega);rw [Nat.pow_succ];omega
  ·rw [Nx,h2]
   simp only [it,nx];rw [bq (Nat.lt_irrefl _),aG];rw [vU,EG];cases fB h with
   | true=>simp [n3]
   | false=>simp
theorem ac2 {α β:Type} (f:α->List β):∀ (l:List α),(l.flatMap f).length=(l.map fun x=>(f x).length).sum
 | []=>rfl
 | x::l=>by rw [List.flatMap_cons,kx,ac2 f l]; rfl
theorem ajy (f:Nat->Nat):∀ k,PK f k=min ((List.range k).map f).sum 257
 | 0=>rfl
 | k+1=>by
  rw [PK,ajy f k,List.range_succ,EG,List.sum_append];show min (min _ 257+f k) 257=min (_+(f k+0)) 257;omega
theorem abq {C:H->Prop} (hC:∀ h,C h->∀ k,k < dg h->C (dS h k)) (hm:∀ h:H,C h->fB h=true->dg h=0):∀ (t:Nat) (h:H),C h->Nw dg dS fB t h=min (vU dg dS fB t h).length 257
 | 0,h,_=>rfl
 | t+1,h,hc=>by
  rw [Nw,vU,kx,ac2];cases e:fB h with
  | true=>rw [hm h hc e]; rfl
  | false=>
   have ih:PK (fun k=>Nw dg dS fB t (dS h k)) (dg h)=PK (fun k=>min (vU dg dS fB t (dS h k)).length 257) (dg h):=Nv _ fun k hk=>abq hC hm t (dS h k) (hC h hc k hk);rw [aG,ih,ajy];simp only [List.length_map,aG,List.length_nil,ye];have:∀ (g:Nat->Nat) (l:List Nat),min (l.map fun k=>min (g k) 257).sum 257=min (l.map g).sum 257:=by
    intro g l
    induction l with
    | nil=>rfl
    | cons x l ih=>simp only [List.map_cons,List.sum_cons]; omega
   exact this _ _
theorem U8:∀ (t:Nat) (h:H) (ks:List Nat),ks∈vU dg dS fB t h->ks.length+1<=G9 dg dS t h
 | 0,_,_,hk=>by simp [vU] at hk
 | t+1,h,ks,hk=>by
  rw [vU,jJ] at hk;rw [G9];rcases hk with hk | hk
  ·obtain ⟨k,h1,h2⟩:=List.mem_flatMap.1 hk
   obtain ⟨l,h3,rfl⟩:=GL.1 h2;have:=U8 t _ l h3;have:=aem (fun k=>G9 dg dS t (dS h k)) _ k (GP.1 h1);simp only [qI];omega
  ·cases e:fB h with
   | true=>rw [e] at hk; simp at hk; subst hk; simp
   | false=>rw [e] at hk; simp at hk
def goH (dS:H->Nat->H):H->List Nat->H
 | h,[]=>h
 | h,k::ks=>goH dS (dS h k) ks
def amq (dg:H->Nat) (dS:H->Nat->H):H->List Nat->Prop
 | _,[]=>True
 | h,k::ks=>k < dg h/\amq dg dS (dS h k) ks
theorem abr:∀ (t:Nat) (h:H) (ks:List Nat),ks∈vU dg dS fB t h->amq dg dS h ks/\fB (goH dS h ks)=true
 | 0,_,_,hk=>by simp [vU] at hk
 | t+1,h,ks,hk=>by
  rw [vU,jJ] at hk;rcases hk with hk | hk
  ·obtain ⟨k,h1,h2⟩:=List.mem_flatMap.1 hk
   obtain ⟨l,h3,rfl⟩:=GL.1 h2;obtain ⟨h4,h5⟩:=abr t _ l h3;exact ⟨⟨GP.1 h1,h4⟩,h5⟩
  ·cases e:fB h with
   | true=>rw [e] at hk; simp at hk; subst hk; exact ⟨trivial,e⟩
   | false=>rw [e] at hk; simp at hk
theorem ajz:∀ (r:Nat) (x:St H),x.2.length<=(it dg dS fB r x).2.length
 | 0,_=>aB _
 | r+1,x=>by
  refine gS ?_ (ajz r _);obtain ⟨st,out⟩:=x;cases st with
  | nil=>exact aB _
  | cons w st=>
   obtain ⟨h,n⟩:=w;simp only [nx];cases decide (n < dg h) with
   | true=>exact aB _
   | false=>
    cases fB h with
    | true=>simp
    | false=>exact aB _
end Go.Au
end
section
set_option maxRecDepth 20000
namespace Go.Proofs.Ytckbdndhmcoihaa.Kt
open Go Go.RowKit Go.Lib Go.Shelf Go.K
open nodes (Bp)
structure Q where
 ka:Option Addr
 kc:Nat
 ia:Nat->Option Addr
 ic:Nat->Nat
 na:Option Addr
 nc:Nat
structure QAt (s:b.aC) (q:Q) (B:Nat) (W:World):Prop where
 kids:∀ i,i < s.graph.kids.n->∃ b off,q.ka=some ⟨b,off,none⟩/\b < B/\W.cell? ⟨b,off+i,none⟩=some (.slice (q.ia i) (s.graph.kids.get i).n (q.ic i))
 row:∀ i,i < s.graph.kids.n->∀ k,k < (s.graph.kids.get i).n->∃ b off,q.ia i=some ⟨b,off,none⟩/\b < B/\W.cell? ⟨b,off+k * 2,none⟩=some (.int .i64 ((s.graph.kids.get i).get k).slot)/\W.cell? ⟨b,off+k * 2+1,none⟩=some (.int .i64 ((s.graph.kids.get i).get k).gen)
 kind:∀ i,i < s.nodes.n->∃ b off,q.na=some ⟨b,off,none⟩/\b < B/\W.cell? ⟨b,off+i * 33,none⟩=some (.int .u8 (s.nodes.get i).kind)
structure Cy (d m:Nat) (W W' : World):Prop where
 os:W'.os=W.os
 tape:W'.tape=W.tape
 output:W'.output=W.output
 size:W.heap.size<=W'.heap.size
 block:∀ k,k < W.heap.size->k≠d->k≠m->W'.heap[k]? = W.heap[k]?
theorem Cy.refl (d m:Nat) (W:World):Cy d m W W:=⟨rfl,rfl,rfl,aB _,fun _ _ _ _=>rfl⟩
theorem Cy.trans {d m:Nat} {W W' W2:World} (h:Cy d m W W') (k:Cy d m W' W2):Cy d m W W2:=
 ⟨k.os.trans h.os,k.tape.trans h.tape,k.output.trans h.output,gS h.size k.size,fun j hj hn hn2=>(k.block j (eY hj h.size) hn hn2).trans (h.block j hj hn hn2)⟩
theorem Cy.cell {d m:Nat} {W W' : World} (h:Cy d m W W') {b j:Nat} (hb:b < W.heap.size) (hd:b≠d) (hm:b≠m):W'.cell? ⟨b,j,none⟩=W.cell? ⟨b,j,none⟩:=by
 have:=h.block b hb hd hm;unfold World.cell?;simp only [this]
theorem Cy.alloc {d m:Nat} (W:World) (o:Obj):Cy d m W (W.alloc o):=⟨rfl,rfl,rfl,by simp,fun k hk _ _=>Below.heap_alloc W o k hk⟩
theorem Cy.drew (d m:Nat) (W:World):Cy d m W W.drew:=⟨rfl,rfl,rfl,aB _,fun _ _ _ _=>rfl⟩
theorem QAt.dL {s:b.aC} {q:Q} {B d m:Nat} {W W' : World} (h:QAt s q B W) (k:Cy d m W W') (hB:B<=W.heap.size) (hd:B<=d) (hm:B<=m):QAt s q B W':=by
 refine ⟨fun i hi=>?_,fun i hi j hj=>?_,fun i hi=>?_⟩
 ·obtain ⟨b,off,h1,h2,h3⟩:=h.kids i hi
  exact ⟨b,off,h1,h2,by rw [k.cell (by omega) (by omega) (by omega)]; exact h3⟩
 ·obtain ⟨b,off,h1,h2,h3,h4⟩:=h.row i hi j hj
  exact ⟨b,off,h1,h2,by rw [k.cell (by omega) (by omega) (by omega)]; exact h3,by rw [k.cell (by omega) (by omega) (by omega)]; exact h4⟩
 ·obtain ⟨b,off,h1,h2,h3⟩:=h.kind i hi
  exact ⟨b,off,h1,h2,by rw [k.cell (by omega) (by omega) (by omega)]; exact h3⟩
structure Ji (s:b.aC) (q:Q) (B b1 b2 b3 b4 d m N:Nat) (W:World) (x:Sl Int×Sl Int):Prop where
 at_:QAt s q B W
 eS:B<=W.heap.size
 l1:b1 < W.heap.size/\b1≠d/\b1≠m
 l2:b2 < W.heap.size/\b2≠d/\b2≠m
 l3:b3 < W.heap.size/\b3≠d/\b3≠m
 l4:b4 < W.heap.size/\b4≠d/\b4≠m
 ld:B<=d/\d < W.heap.size
 lm:B<=m/\m < W.heap.size
 ne:d≠m
 n1:x.1.n=N
 n2:x.2.n=N
 c1:W.cell? ⟨b1,0,none⟩=some (.slice (some ⟨d,0,none⟩) N N)
 c2:W.cell? ⟨b2,1,none⟩=some (.slice q.ka s.graph.kids.n q.kc)
 e2:W.cell? ⟨b2,2,none⟩=some (.slice q.na s.nodes.n q.nc)
 c3:W.cell? ⟨b3,0,none⟩=some (.func (.func 50) #[] #[.pointer (some ⟨b1,0,none⟩),.pointer (some ⟨b2,0,none⟩),.pointer (some ⟨b3,0,none⟩),.pointer (some ⟨b4,0,none⟩)])
 c4:W.cell? ⟨b4,0,none⟩=some (.slice (some ⟨m,0,none⟩) N N)
 cd:∀ i,i < N->W.cell? ⟨d,i,none⟩=some (.int .i64 (x.1.get i))
 cm:∀ i,i < N->W.cell? ⟨m,i,none⟩=some (.int .i64 (x.2.get i))
 fd:∀ i,W.frozen? ⟨d,i,none⟩=false
 fm:∀ i,W.frozen? ⟨m,i,none⟩=false
theorem Ji.grow {s:b.aC} {q:Q} {B b1 b2 b3 b4 d m N:Nat} {W W' : World} {x:Sl Int×Sl Int} (h:Ji s q B b1 b2 b3 b4 d m N W x) (k:Cy d m W W') (hd:W'.heap[d]? = W.heap[d]?) (hm:W'.heap[m]? = W.heap[m]?):Ji s q B b1 b2 b3 b4 d m N W' x where
 at_:=h.at_.dL k h.eS h.ld.1 h.lm.1
 eS:=gS h.eS k.size
 l1:=⟨eY h.l1.1 k.size,h.l1.2⟩
 l2:=⟨eY h.l2.1 k.size,h.l2.2⟩
 l3:=⟨eY h.l3.1 k.size,h.l3.2⟩
 l4:=⟨eY h.l4.1 k.size,h.l4.2⟩
 ld:=⟨h.ld.1,eY h.ld.2 k.size⟩
 lm:=⟨h.lm.1,eY h.lm.2 k.size⟩
 ne:=h.ne
 n1:=h.n1
 n2:=h.n2
 c1:=(k.cell h.l1.1 h.l1.2.1 h.l1.2.2).trans h.c1
 c2:=(k.cell h.l2.1 h.l2.2.1 h.l2.2.2).trans h.c2
 e2:=(k.cell h.l2.1 h.l2.2.1 h.l2.2.2).trans h.e2
 c3:=(k.cell h.l3.1 h.l3.2.1 h.l3.2.2).trans h.c3
 c4:=(k.cell h.l4.1 h.l4.2.1 h.l4.2.2).trans h.c4
 cd i hi:=by rw [<- h.cd i hi]; unfold World.cell?; simp only [hd]
 cm i hi:=by rw [<- h.cm i hi]; unfold World.cell?; simp only [hm]
 fd i:=by rw [<- h.fd i]; unfold World.frozen?; simp only [hd]
 fm i:=by rw [<- h.fm i]; unfold World.frozen?; simp only [hm]
theorem Cy.set (d m:Nat) (W:World) (i k:Nat) (u v:Value):Cy d m W ((W.setCell ⟨d,i,none⟩ u).setCell ⟨m,k,none⟩ v):=
 ⟨rfl,rfl,rfl,by simp,fun j _ h1 h2=>by rw [heap_setCell_other _ _ _ _ h2,heap_setCell_other _ _ _ _ h1]⟩
theorem Ji.put {s:b.aC} {q:Q} {B b1 b2 b3 b4 d m N:Nat} {W:World} {x:Sl Int×Sl Int} (h:Ji s q B b1 b2 b3 b4 d m N W x) {i:Nat} (hi:i < N) (u v:Int) :
  Ji s q B b1 b2 b3 b4 d m N ((W.setCell ⟨d,i,none⟩ (.int .i64 u)).setCell ⟨m,i,none⟩ (.int .i64 v)) (x.1.set i u,x.2.set i v):=by
 have k:=Cy.set d m W i i (.int .i64 u) (.int .i64 v);have cI:∀ {a c:Nat} {j l:Nat},a≠c->(⟨a,j,none⟩:Addr)≠⟨c,l,none⟩:=fun h e=>h (by simpa using congrArg Addr.block e);have MS:∀ {a:Nat} {j l:Nat},j≠l->(⟨a,j,none⟩:Addr)≠⟨a,l,none⟩:=fun h e=>h (by simpa using congrArg Addr.off e);have NB:∀ {s:Sl Int} {j:Nat} {w:Int},(s.set i w).get j=if j=i then w else s.get j:=fun {s j w}=>by
  by_cases e:j=i
  ·subst e
   show cond (Nat.beq j j) w (s.get j)=_;rw [tI,aE rfl]; rfl
  ·have:Nat.beq j i=false:=by
    cases q:Nat.beq j i with
    | false=>rfl
    | true=>exact absurd (aK q) e
   show cond (Nat.beq j i) w (s.get j)=_;rw [this,aa e]; rfl
 refine ⟨h.at_.dL k h.eS h.ld.1 h.lm.1,gS h.eS k.size,⟨eY h.l1.1 k.size,h.l1.2⟩,⟨eY h.l2.1 k.size,h.l2.2⟩,⟨eY h.l3.1 k.size,h.l3.2⟩,⟨eY h.l4.1 k.size,h.l4.2⟩,
  ⟨h.ld.1,eY h.ld.2 k.size⟩,⟨h.lm.1,eY h.lm.2 k.size⟩,h.ne,h.n1,h.n2,(k.cell h.l1.1 h.l1.2.1 h.l1.2.2).trans h.c1,(k.cell h.l2.1 h.l2.2.1 h.l2.2.2).trans h.c2,(k.cell h.l2.1 h.l2.2.1 h.l2.2.2).trans h.e2,
  (k.cell h.l3.1 h.l3.2.1 h.l3.2.2).trans h.c3,(k.cell h.l4.1 h.l4.2.1 h.l4.2.2).trans h.c4,fun j hj=>?_,fun j hj=>?_,fun j=>by rw [World.frozen?_setCell,World.frozen?_setCell]; exact h.fd j,fun j=>by rw [World.frozen?_setCell,World.frozen?_setCell]; exact h.fm j⟩
 ·rw [World.cell?_setCell_other (h:=cI h.ne.symm)]
  show _=some (Value.int .i64 ((x.1.set i u).get j));rw [NB];by_cases e:j=i
  ·subst e; rw [aE rfl]; exact World.cell?_setCell_same _ _ _ (h.cd j hj)
  ·rw [aa e,World.cell?_setCell_other (h:=MS (Ne.symm e))]; exact h.cd j hj
 ·show _=some (Value.int .i64 ((x.2.set i v).get j))
  rw [NB];by_cases e:j=i
  ·subst e
   rw [aE rfl];exact World.cell?_setCell_same _ _ _ (by rw [World.cell?_setCell_other (h:=cI h.ne)]; exact h.cm j hj)
  ·rw [aa e,World.cell?_setCell_other (h:=MS (Ne.symm e)),World.cell?_setCell_other (h:=cI h.ne)]; exact h.cm j hj
def an0 (s:b.aC) (slot:Int) (z:Int×Int×(Sl Int×Sl Int)) (v:Int):Sl Int×Sl Int:=(z.2.2.1.set slot.toNat (aP (z.1+1)),z.2.2.2.set slot.toNat v)
theorem akA {s:b.aC} {f:Nat} {i:Int} {x x' : Sl Int×Sl Int} (h:b.wT s f i x=some x'):0<=i/\i < (x.1.n:Int):=by
 cases f with
 | zero=>simp [b.wT] at h
 | succ f=>
  unfold b.wT at h;by_cases h1:0<=i
  ·by_cases h2:i < (x.1.n:Int)
   ·exact ⟨h1,h2⟩
   ·simp [h2] at h
  ·simp [h1] at h
set_option maxHeartbeats 4000000 in
theorem down (s:b.aC) (q:Q) (B b1 b2 b3 b4 d m N:Nat) (fk:∀ i,i < s.graph.kids.n->(s.graph.kids.get i).n<=1000000):∀ (f:Nat) (slot:Int) (x x' : Sl Int×Sl Int) (W:World),b.wT s f slot x=some x'->Ji s q B b1 b2 b3 b4 d m N W x->
  Calls Try.prog 50 #[.int .i64 slot,.pointer (some ⟨b1,0,none⟩),.pointer (some ⟨b2,0,none⟩),.pointer (some ⟨b3,0,none⟩),.pointer (some ⟨b4,0,none⟩)] W fun e W'=>e = .returned (.tuple #[])/\Ji s q B b1 b2 b3 b4 d m N W' x'/\Cy d m W W'
 | 0,_,_,_,_,h,_=>by simp [b.wT] at h
 | f+1,slot,x,x',W,h,L=>by
  have mixed:=Bp;have t3:=Try.underlying3; have a3:=Try.isAgg3; have z3:=Try.sizeOf3; have v3:=Try.zeroValue3; have u3:=run_underlying Try.underlying3;have t48:=Try.underlying48; have a48:=Try.isAgg48; have z48:=Try.sizeOf48; have v48:=Try.zeroValue48; have u48:=run_underlying Try.underlying48;have t32:=Try.underlying32; have a32:=Try.isAgg32; have z32:=Try.sizeOf32; have v32:=Try.zeroValue32; have u32:=run_underlying Try.underlying32;have t34:=Try.underlying34; have a34:=Try.isAgg34; have z34:=Try.sizeOf34; have v34:=Try.zeroValue34; have u34:=run_underlying Try.underlying34;have t27:=Try.underlying27; have a27:=Try.isAgg27; have z27:=Try.sizeOf27; have v27:=Try.zeroValue27; have u27:=run_underlying Try.underlying27;have t25:=Try.underlying25; have a25:=Try.isAgg25; have z25:=Try.sizeOf25; have v25:=Try.zeroValue25; have u25:=run_underlying Try.underlying25;have t47:=Try.underlying47; have a47:=Try.isAgg47; have z47:=Try.sizeOf47; have v47:=Try.zeroValue47; have u47:=run_underlying Try.underlying47;have t28:=Try.underlying28; have a28:=Try.isAgg28; have z28:=Try.sizeOf28; have v28:=Try.zeroValue28; have u28:=run_underlying Try.underlying28;have t64:=Try.underlying64; have a64:=Try.isAgg64; have z64:=Try.sizeOf64; have v64:=Try.zeroValue64; have u64:=run_underlying Try.underlying64;have t5:=Try.underlying5; have a5:=Try.isAgg5; have z5:=Try.sizeOf5; have v5:=Try.zeroValue5; have u5:=run_underlying Try.underlying5;have t143:=Try.underlying143; have a143:=Try.isAgg143; have z143:=Try.sizeOf143; have v143:=Try.zeroValue143; have apV:=run_underlying Try.underlying143;unfold b.wT at h;by_cases hb:0<=slot/\slot < (x.1.n:Int)/\slot < (s.graph.kids.n:Int)/\slot < (s.nodes.n:Int)
  case neg=>
   exfalso;have:(decide (0<=slot)&&decide (slot < (x.1.n:Int))&&decide (slot < (s.graph.kids.n:Int))&&decide (slot < (s.nodes.n:Int)))=false:=by
    rw [<- Bool.not_eq_true];simp only [ao,lT];rintro ⟨⟨⟨q1,q2⟩,q3⟩,q4⟩;exact hb ⟨q1,q2,q3,q4⟩
   rw [this] at h;simp at h
  obtain ⟨hp,hN,hK,hV⟩:=hb;rw [az hp,az hN,az hK,az hV] at h;simp only [cC,aj] at h;rw [L.n1] at hN;have c1:=L.c1;have cd:=L.cd slot.toNat (by omega);by_cases hz:x.1.get slot.toNat > 0
  ·rw [az hz,aj] at h
   have:=GK h;subst this
   go_enter Try.func50,Try.ntmps50
   go_wp2
   refine bodyPost_ret (results_none rfl _ _ _) rfl ?_;exact ⟨rfl,L,.refl _ _ _⟩
  ·rw [bq hz,aG] at h
   cases hk:b.Gm (b.wT s f) (s.graph.kids.get slot.toNat) (s.graph.kids.get slot.toNat).n (0,0,x) with
   | none=>rw [hk] at h; simp at h
   | some y=>
   rw [hk] at h
   replace h:=GK h
   have Zi:∀ k,k<=(s.graph.kids.get slot.toNat).n->∃ z,b.Gm (b.wT s f) (s.graph.kids.get slot.toNat) k (0,0,x)=some z:=by
    intro k mD;obtain ⟨r,hr⟩:∃ r,(s.graph.kids.get slot.toNat).n=k+r:=⟨(s.graph.kids.get slot.toNat).n - k,by omega⟩
    rw [hr] at hk;clear hr mD;clear h
    induction r generalizing y with
    | zero=>exact ⟨y,hk⟩
    | succ r ih=>
     rw [show k+(r+1)=(k+r)+1 by omega] at hk;unfold b.Gm at hk;obtain ⟨z,h1,_⟩:=cE.1 hk;exact ih z h1
   have c2:=L.c2;have e2:=L.e2;obtain ⟨bk,ok,hka,hbk,hkd⟩:=L.at_.kids slot.toNat (by omega);obtain ⟨bn,on,hna,Km,hkn⟩:=L.at_.kind slot.toNat (by omega);rw [hka] at c2;rw [hna] at e2;have hcnt:=fk slot.toNat (by omega);generalize hcn:(s.graph.kids.get slot.toNat).n=cn at *
   go_enter Try.func50,Try.ntmps50
   go_wp2
   go_loopg [6,7,22] cn (fun gg s6 s7 s22 wr=>∃ kk:Nat,kk<=cn/\cn - kk<=gg/\s22 = .int .i64 kk/\∃ z,b.Gm (b.wT s f) (s.graph.kids.get slot.toNat) kk (0,0,x)=some z/\s6 = .int .i64 z.1/\s7 = .int .i64 z.2.1/\Aside (Ji s q B b1 b2 b3 b4 d m N wr z.2.2/\Cy d m W wr))
   case atStart=>exact ⟨0,rQ _,by omega,rfl,_,rfl,rfl,rfl,L,.refl _ _ _⟩
   case round=>
    obtain ⟨kk,hkk,hgg,rfl,z,Kh,rfl,rfl,BW⟩:=hrel;obtain ⟨LZ,KZ⟩:=BW.out;clear BW;by_cases bj:kk < cn
    ·have afV:(kk:Int) < (cn:Int):=by omega
     obtain ⟨z2,Cu⟩:=Zi (kk+1) (by omega);unfold b.Gm at Cu;rw [Kh] at Cu;have Cu:((b.wT s f ((s.graph.kids.get slot.toNat).get kk).slot z.2.2).bind fun z'=>some (max z.1 (z'.1.get ((s.graph.kids.get slot.toNat).get kk).slot.toNat),min (aP (z.2.1+z'.2.get ((s.graph.kids.get slot.toNat).get kk).slot.toNat)) 257,z'))=some z2:=Cu;obtain ⟨zz,hzz,hz3⟩:=cE.1 Cu;obtain ⟨bc,oc,hia,X3,wV,tN⟩:=LZ.at_.row slot.toNat (by omega) kk (by omega);have KA:=Cy.alloc (d:=d) (m:=m) wr (.cells #[.int .i64 ((s.graph.kids.get slot.toNat).get kk).slot,.int .i64 ((s.graph.kids.get slot.toNat).get kk).gen] 32);have LA:=LZ.grow KA (Below.heap_alloc wr _ d LZ.ld.2) (Below.heap_alloc wr _ m LZ.lm.2);have c3A:=LA.c3;have h0A:(wr.alloc (.cells #[.int .i64 ((s.graph.kids.get slot.toNat).get kk).slot,.int .i64 ((s.graph.kids.get slot.toNat).get kk).gen] 32)).cell? ⟨wr.heap.size,0,none⟩=some (.int .i64 ((s.graph.kids.get slot.toNat).get kk).slot):=by simp
     have yF:=down s q B b1 b2 b3 b4 d m N fk f ((s.graph.kids.get slot.toNat).get kk).slot z.2.2 zz _ hzz LA;have hd9:wr.heap.size≠d/\wr.heap.size≠m:=by have:=LZ.ld.2; have:=LZ.lm.2; omega
     have apW:wr.heap.size < (wr.alloc (.cells #[.int .i64 ((s.graph.kids.get slot.toNat).get kk).slot,.int .i64 ((s.graph.kids.get slot.toNat).get kk).gen] 32)).heap.size:=by simp
     generalize aaP:((s.graph.kids.get slot.toNat).get kk).slot=ks at *;generalize hWA:wr.alloc (.cells #[.int .i64 ks,.int .i64 ((s.graph.kids.get slot.toNat).get kk).gen] 32)=WA at *
     go_wp2_with (go_at_call 50; go_loud (refine yF.mono ?_; rintro e w2 ⟨rfl,L2,K2⟩; have g1:=L2.c1; have g4:=L2.c4; have g9:=(K2.cell apW hd9.1 hd9.2).trans h0A))
     have ve:=akA hzz;rw [LZ.n1] at ve;have g2:=L2.cd ks.toNat (by omega);have g3:=L2.cm ks.toNat (by omega);have hin1:=ve.1;have hin2:=ve.2
     go_region_held3 (fun w'=>w'.cell? ⟨b1,0,none⟩=some (.slice (some ⟨d,0,none⟩) N N)/\w'.cell? ⟨b4,0,none⟩=some (.slice (some ⟨m,0,none⟩) N N)/\w'.cell? ⟨wr.heap.size,0,none⟩=some (.int .i64 ks)/\w'.cell? ⟨d,ks.toNat,none⟩=some (.int .i64 (zz.1.get ks.toNat))/\w'.cell? ⟨m,ks.toNat,none⟩=some (.int .i64 (zz.2.get ks.toNat))) (go_keep) (fail)
     all_goals
      replace hz3:=GK hz3
      have hkM:b.Gm (b.wT s f) (s.graph.kids.get slot.toNat) (kk+1) (0,0,x)=some z2:=by
       unfold b.Gm;rw [Kh];show ((b.wT s f ((s.graph.kids.get slot.toNat).get kk).slot z.2.2).bind _)=_;rw [aaP,hzz];exact congrArg some hz3
      have Rv:Aside (Ji s q B b1 b2 b3 b4 d m N w2.drew z2.2.2/\Cy d m W w2.drew):=by
       rw [<- hz3];exact ⟨L2.grow (.drew _ _ _) rfl rfl,KZ.trans (KA.trans (K2.trans (.drew _ _ _)))⟩
      have h61:max z.1 (zz.1.get ks.toNat)=z2.1:=by rw [<- hz3]
      have h71:min (IntKind.i64.wrap (z.2.1+zz.2.get ks.toNat)) 257=z2.2.1:=by rw [<- hz3]
      clear LZ LA KZ KA K2 L2 yF Zi Cu hz3 wV tN
      go_wp2
      simp only [<- hia]
      go_roundg (cn - (kk+1))
     all_goals first | omega | exact ⟨kk+1,by omega,by omega,by go_num,z2,hkM,by rw [h61],by rw [h71],Rv⟩
    ·have afV : ¬ (kk:Int) < (cn:Int):=by omega
     have:kk=cn:=by omega
     subst this;rw [Kh] at hk;have:=GK hk;subst this;have g1:=LZ.c1;have g4:=LZ.c4;have g2:=LZ.e2;rw [hna] at g2;obtain ⟨bn2,on2,an1,hbn2,hkn2⟩:=LZ.at_.kind slot.toNat (by omega);rw [hna] at an1;obtain ⟨rfl,rfl⟩:bn=bn2/\on=on2:=by simpa using an1
     have e1:z.2.2.1.n=N:=LZ.n1;have f1:=LZ.cd slot.toNat (by omega);have f4:=LZ.fd slot.toNat;have f5:=LZ.fm slot.toNat;have f6:=LZ.cm slot.toNat (by omega);have hdm:=LZ.ne;have hb1d:=LZ.l1.2.1;have hb1m:=LZ.l1.2.2;have hb4d:=LZ.l4.2.1;have hb4m:=LZ.l4.2.2;have hb1d':=LZ.l1.2.1.symm;have hb4d':=LZ.l4.2.1.symm;have hb1m':=LZ.l1.2.2.symm;have hb4m':=LZ.l4.2.2.symm;have hmd:=LZ.ne.symm;have fin:∀ v,((an0 s slot z v)=x'->Ending.returned (.tuple #[]) = .returned (.tuple #[])/\Ji s q B b1 b2 b3 b4 d m N ((wr.setCell ⟨d,slot.toNat,none⟩ (.int .i64 (aP (z.1+1)))).setCell ⟨m,slot.toNat,none⟩ (.int .i64 v)).drew x'/\Cy d m W ((wr.setCell ⟨d,slot.toNat,none⟩ (.int .i64 (aP (z.1+1)))).setCell ⟨m,slot.toNat,none⟩ (.int .i64 v)).drew):=fun v hv=>by
      subst hv;exact ⟨rfl,(LZ.put (by omega) _ v).grow (.drew _ _ _) rfl rfl,KZ.trans ((Cy.set d m wr _ _ _ _).trans (.drew _ _ _))⟩
     have hx:an0 s slot z (cond ((s.nodes.get slot.toNat).kind==5) 1 z.2.1)=x':=h;clear h LZ KZ L Zi hkd;by_cases hk5:(s.nodes.get slot.toNat).kind=5
     ·have amr:((s.nodes.get slot.toNat).kind==5)=true:=by simp [hk5]
      rw [amr] at hx;have Rv:=fin 1 hx
      go_wp2
      go_region_held3 (fun w'=>w'.cell? ⟨b1,0,none⟩=some (.slice (some ⟨d,0,none⟩) N N)/\w'.cell? ⟨b4,0,none⟩=some (.slice (some ⟨m,0,none⟩) N N)/\(w'.cell? ⟨d,slot.toNat,none⟩).isSome=true/\(w'.cell? ⟨m,slot.toNat,none⟩).isSome=true/\w'.frozen? ⟨d,slot.toNat,none⟩=false/\w'.frozen? ⟨m,slot.toNat,none⟩=false) (simp [*,World.cell?_setCell_far,World.cell?_setCell_same']) (fail)
      all_goals (go_wp2; go_end0; exact ⟨rfl,Rv.2⟩)
     ·have amr:((s.nodes.get slot.toNat).kind==5)=false:=by simp [hk5]
      rw [amr] at hx;have Rv:=fin z.2.1 hx
      go_wp2
      go_region_held3 (fun w'=>w'.cell? ⟨b1,0,none⟩=some (.slice (some ⟨d,0,none⟩) N N)/\w'.cell? ⟨b4,0,none⟩=some (.slice (some ⟨m,0,none⟩) N N)/\(w'.cell? ⟨d,slot.toNat,none⟩).isSome=true/\(w'.cell? ⟨m,slot.toNat,none⟩).isSome=true/\w'.frozen? ⟨d,slot.toNat,none⟩=false/\w'.frozen? ⟨m,slot.toNat,none⟩=false) (simp [*,World.cell?_setCell_far,World.cell?_setCell_same']) (fail)
      all_goals (go_wp2; go_end0; exact ⟨rfl,Rv.2⟩)
end Go.Proofs.Ytckbdndhmcoihaa.Kt
end
section
namespace Go.K
open Go Go.aI
variable {P:Program} {E:Env}
theorem cO.trans {E1 E2 E3:Env} {A1 A2 A3:ae} {B1 B2 B3:St} (ams:B1.next<=B2.next) (h:cO P E1 A1 B1 E2 A2 B2) (k:cO P E2 A2 B2 E3 A3 B3):cO P E1 A1 B1 E3 A3 B3 where
 fT:=k.fT
 le:=Env.le_trans h.le k.le
 next:=gS h.next k.next
 dL x hx hn ha:=by
  refine (k.dL x (eY hx ams) (fun b e=>?_) fun q=>?_).trans (h.dL x hx hn ha)
  ·rcases h.new b x e with e | e
   ·exact h.CR b (hn b e)
   ·omega
  ·rcases h.lX x q with e | e
   ·exact ha e
   ·omega
 new b x e:=by
  rcases k.new b x e with e | e
  ·exact h.new b x e
  ·have:=h.next; exact .inr (by omega)
 tT b r e:=by
  rcases k.tT b r e with e | e | e
  ·exact h.tT b r e
  ·exact .inr (h.kr b e)
  ·exact .inr (.inr (by omega))
 rZ b g e:=by
  rcases k.rZ b g e with e | e
  ·exact h.rZ b g e
  ·exact .inr (by omega)
 oK g hg hn ha:=by
  refine (k.oK g (eY hg ams) (fun b e=>?_) fun q=>?_).trans (h.oK g hg hn ha)
  ·rcases h.rZ b g e with e | e
   ·exact hn b e
   ·omega
  ·rcases h.kM g q with e | e
   ·exact ha e
   ·omega
 kr x e:=by
  rcases k.kr x e with e | e
  ·exact h.kr x e
  ·exact .inr (by omega)
 kM g e:=by
  rcases k.kM g e with e | e
  ·exact h.kM g e
  ·exact .inr (by omega)
 vp g y e:=by
  rcases k.vp g y e with e | e
  ·exact h.vp g y e
  ·exact .inr (by omega)
 lX y e:=by
  rcases k.lX y e with e | e
  ·exact h.lX y e
  ·exact .inr (by omega)
 rows y hy cs e own bL q:=by
  obtain ⟨c1,h1,h2⟩:=k.rows y (eY hy ams) cs e own bL q;obtain ⟨c0,h3,h4⟩:=h.rows y hy c1 e own bL h1;exact ⟨c0,h3,h4.trans h2⟩
 CR b q:=k.CR b (h.CR b q)
def abt (ρ:Ren) (B:St) (k:Nat):Prop:=∀ b l,B.get b≠none->B.get b≠some .dead->ρ b=some l->l.cb≠k
structure Made (ρ:Ren) (base:Nat) (w w1:World) (k bm:Nat) (cs:List Value):Prop where
 base:base<=k
 new:w.heap.size<=k
 lH:k < w1.heap.size
 cells:∀ (i:Nat) (v:Value),cs[i]? = some v->∃ v',w1.cell? ⟨k,i,.none⟩=some v'/\VR ρ v v'/\scalar v=true
 free:∀ j,w1.frozen? ⟨k,j,.none⟩=false
theorem Made.mono {ρ aF:Ren} {base:Nat} {w w1:World} {k bm:Nat} {cs:List Value} (h:Made ρ base w w1 k bm cs) (m:ρ.le aF):Made aF base w w1 k bm cs:=
 ⟨h.base,h.new,h.lH,fun i v hi=>by obtain ⟨v',h1,h2,h3⟩:=h.cells i v hi; exact ⟨v',h1,h2.mono m,h3⟩,h.free⟩
theorem iX.late {base:Nat} {ρ kF:Ren} {B B1:St} {w w1:World} (g:iX base ρ B w kF B1 w1) {k bm:Nat} {cs:List Value} (hm:Made kF base w w1 k bm cs) (hf:abt kF B1 k) :
  iX base ρ B w (kF.set B1.next ⟨k,0,cs.length,bm⟩) (B1.new (.row cs bm true none)) w1:=by
 have hs:=g.fT;have hle:=hs.EM ⟨k,0,cs.length,bm⟩;have hk:∀ b o l',B1.get b=some o->o≠.dead->kF b=some l'->l'.cb≠k:=fun b o l' h1 h2 h3=>hf b l' (by rw [h1]; simp) (by rw [h1]; simpa using h2) h3;refine ⟨⟨.EN ?_ ?_ ?_,?_,hs.size,hs.HK.mono hle⟩,?_,g.kept,by have:=g.next; simp; omega,by simpa using g.low,?_,?_⟩
 ·intro b o' hg hd
  rw [St.cq] at hg;split at hg
  ·rename_i e; subst e; simp at hg; subst hg
   refine ⟨_,Ren.fH _ _ _,⟨fun i v hi=>?_,fun h=>by simp at h,fun _=>hm.base,fun _ j hj=>?_,by simp,fun _ _=>by simp,rfl,hm.lH,fun _ _ j=>hm.free j⟩⟩
   ·obtain ⟨v',h1,h2,h3⟩:=hm.cells i v hi
    exact ⟨v',by rw [ba]; exact h1,h2.mono hle,h3⟩
   ·have hj:j < cs.length:=hj
    obtain ⟨v',h1,_⟩:=hm.cells j _ (cK hj);exact ⟨by rw [h1]; rfl,hm.free j⟩
  ·obtain ⟨l',h1,h2⟩:=hs.rel.obj hg hd
   exact ⟨l',hle _ _ h1,h2.dL hle rfl (aB _)⟩
 ·intro b1 b2 o1 o2 l1 l2 cI g1 g2 m1 m2 r1 r2 Ct
  have hd1:o1≠.dead:=by intro e; subst e; simp [ct.eC] at m1
  have hd2:o2≠.dead:=by intro e; subst e; simp [ct.eC] at m2
  rw [St.cq] at g1 g2;by_cases e1:b1=B1.next
  ·have e2:b2≠B1.next:=fun e=>cI (e1.trans e.symm)
   rw [aa e2] at g2;rw [e1,Ren.fH] at r1;rw [Ren.eD _ _ e2] at r2;simp at r1; subst r1;exact absurd Ct.symm (hk b2 o2 l2 g2 hd2 r2)
  ·rw [aa e1] at g1
   rw [Ren.eD _ _ e1] at r1;by_cases e2:b2=B1.next
   ·rw [e2,Ren.fH] at r2
    simp at r2; subst r2;exact absurd Ct (hk b1 o1 l1 g1 hd1 r1)
   ·rw [aa e2] at g2
    rw [Ren.eD _ _ e2] at r2;exact hs.rel.apart b1 b2 o1 o2 l1 l2 cI g1 g2 m1 m2 r1 r2 Ct
 ·intro b o' aO f hg mD
  rw [St.cq] at hg;split at hg
  ·simp at hg; subst hg; simp [ct.lG] at mD
  ·exact hs.rel.cY b o' aO f hg mD
 ·intro b l' h
  rw [St.bR];by_cases e:b=B1.next
  ·omega
  ·rw [Ren.eD _ _ e] at h; have:=hs.jM b l' h; omega
 ·intro b hb
  rw [Ren.eD _ _ (by have:=g.next; omega)];exact g.ext b hb
 ·intro b hb wk
  rw [St.cq,aa (by have:=g.next; omega)];exact g.same b hb (by simpa using wk)
 ·rintro k' mD ⟨b,o',l',hg,Om,hr,rfl⟩
  by_cases e:b=B1.next
  ·subst e
   rw [Ren.fH] at hr;simp at hr; subst hr;have:=hm.new;simp only at mD;omega
  ·rw [St.cq,aa e] at hg
   rw [Ren.eD _ _ e] at hr;exact g.img _ mD ⟨b,o',l',hg,Om,hr,rfl⟩
theorem abu {base:Nat} {ρ:Ren} {B:St} {w:World} (h:vc ρ B base w) {k:Nat} (hk:w.heap.size<=k):abt ρ B k:=fun b l h1 h2 h3=>by
 cases hg:B.get b with
 | none=>exact absurd hg h1
 | some o=>
  have hd:o≠.dead:=fun e=>h2 (by rw [hg,e]);obtain ⟨l',e,ok⟩:=h.rel.obj hg hd;rw [h3] at e; simp at e; subst e;have:=ok.lt hd;omega
theorem abt.late {ρ:Ren} {B:St} {k k' bm:Nat} {cs:List Value} (h:abt ρ B k) (cI:k'≠k):abt (ρ.set B.next ⟨k',0,cs.length,bm⟩) (B.new (.row cs bm true none)) k:=fun b l h1 h2 h3=>by
 by_cases e:b=B.next
 ·subst e
  rw [Ren.fH] at h3;simp at h3; subst h3;exact cI
 ·rw [St.cq,aa e] at h1 h2
  rw [Ren.eD _ _ e] at h3;exact h b l h1 h2 h3
theorem XZ {ρ:Ren} {b k:Nat} {s:Sl Int} {T:TypeId} (hT:aU P T=1) (ZV:dH (aQ P T) ((List.range s.n).map fun i=>kI .i64 (s.get i))=true) (hz:E.z b=some ⟨(List.range s.n).map fun i=>.int .i64 (s.get i),1,true,none⟩) (kE:ρ b=some ⟨k,0,s.n,1⟩) :
  VC P E ρ (dG T (kI .i64) s) (.slice (some ⟨k,0,.none⟩) s.n s.n):=by
 have hvk:∀ (l:List Nat),aV P E (l.map fun i=>kI .i64 (s.get i)) (l.map fun i=>.int .i64 (s.get i)):=by
  intro l
  induction l with
  | nil=>exact .nil
  | cons x l ih=>exact .cons .mkInt ih
 refine ⟨.slice (some ⟨b,0,.none⟩) s.n s.n,?_,?_⟩
 ·unfold dG
  simp only [VK];refine ⟨⟨by simp,fun i hi=>?_,ZV⟩,_,hvk _,some ⟨b,0,.none⟩,s.n,rfl,aB _,.inr ⟨b,0,⟨_,1,true,.none⟩,rfl,hz,hT.symm,?_⟩,trivial⟩
  ·rw [fD,oW,List.getElem?_range hi]
   rfl
  ·rw [hT]
   intro i y hy;refine ⟨?_,fun j z hz=>?_⟩
   ·rw [oW] at hy
    obtain ⟨x,_,rfl⟩:=ck.1 hy;rfl
   ·rw [oW] at hy
    obtain ⟨x,hx,rfl⟩:=ck.1 hy;have hj:j < 1:=(rS.1 hz).1;have:j=0:=by omega
    subst this;rw [show 0+i * 1+0=i by omega,oW,hx];exact hz
 ·simp only [VR]
  exact ⟨trivial,aB _,⟨k,0,s.n,1⟩,⟨k,0,.none⟩,s.n,kE,aB _,fun _=>rfl,by simp,rfl⟩
structure Ka (w w1:World) (k:Nat) (s:Sl Int):Prop where
 new:w.heap.size<=k
 lH:k < w1.heap.size
 cells:∀ i,i < s.n->w1.cell? ⟨k,i,.none⟩=some (.int .i64 (s.get i))
 free:∀ j,w1.frozen? ⟨k,j,.none⟩=false
theorem Ka.made {ρ:Ren} {base:Nat} {w w1:World} {k:Nat} {s:Sl Int} (h:Ka w w1 k s) (hb:base<=w.heap.size):Made ρ base w w1 k 1 ((List.range s.n).map fun i=>.int .i64 (s.get i)):=
 ⟨gS hb h.new,h.new,h.lH,fun i v hi=>by
  rw [oW] at hi;obtain ⟨x,hx,rfl⟩:=ck.1 hi;obtain ⟨hl,rfl⟩:=cH.1 hx;rw [List.length_range] at hl;rw [List.getElem_range];exact ⟨_,h.cells i hl,by simp [VR],rfl⟩,h.free⟩
theorem akB {g:FuncId} {F:List KV->KR KV} {T:TypeId} (hc:xC P g) (hT:aU P T=1) (ZV:∀ s:Sl Int,dH (aQ P T) ((List.range s.n).map fun i=>kI .i64 (s.get i))=true)
  (h:∀ args v (E:Env) (A:ae) (B:St) (ρ:Ren) (base:Nat) (w:World) (dV:List Value),aH (F (normArgs P (bS P g) args)) v->args.length=(bS P g).length->rE P E ρ args dV->KJ P E A B ρ base w->
   Calls P g dV.toArray w fun e w'=>∃ (s1 s2:Sl Int) (k1 k2:Nat),v = .l8 [dG T (kI .i64) s1,dG T (kI .i64) s2]/\e = .returned (.tuple #[.slice (some ⟨k1,0,.none⟩) s1.n s1.n,.slice (some ⟨k2,0,.none⟩) s2.n s2.n])/\k1≠k2/\Ka w w' k1 s1/\Ka w w' k2 s2/\RowKit.Below w.heap.size w w'):bZ P g F:=
 fun args v hF hlen=>⟨hc,fun E A B ρ base w dV hv hj=>(h args v E A B ρ base w dV hF hlen hv hj).mono fun e w' ⟨s1,s2,k1,k2,h1,h2,cI,i1,i2,hb⟩=>by
  subst h1;have g0:=iX.below hj.s hb;have g1:=iX.late g0 (i1.made hj.s.size) (abu hj.s i1.new);have apX:=hj.s.EM ⟨k1,0,((List.range s1.n).map fun i=>Value.int .i64 (s1.get i)).length,1⟩;have g2:=iX.late g1 ((i2.made hj.s.size).mono apX) ((abu hj.s i2.new).late cI);have z1:=cO.ZO (bM:=(List.range s1.n).map fun i=>Value.int .i64 (s1.get i)) (bm:=1) hj.k;have z2:=cO.ZO (bM:=(List.range s2.n).map fun i=>Value.int .i64 (s2.get i)) (bm:=1) z1.fT;have z:=z1.trans (by simp) z2;have anv:=g1.fT.EM ⟨k2,0,((List.range s2.n).map fun i=>Value.int .i64 (s2.get i)).length,1⟩;refine ⟨_,_,_,_,h2,?_,z.ev g2⟩;have q1:=XZ (P:=P) (b:=B.next) (k:=k1) (s:=s1) hT (ZV s1) (E:=E.eI B.next ⟨(List.range s1.n).map fun i=>Value.int .i64 (s1.get i),1,true,.none⟩) (by simp [Env.eI]) (ρ:=ρ.set B.next ⟨k1,0,((List.range s1.n).map fun i=>Value.int .i64 (s1.get i)).length,1⟩) (by simp [Ren.set]);have q2:=XZ (P:=P) (b:=(B.new (.row ((List.range s1.n).map fun i=>Value.int .i64 (s1.get i)) 1 true none)).next) (k:=k2) (s:=s2) hT (ZV s2) (E:=(E.eI B.next ⟨(List.range s1.n).map fun i=>Value.int .i64 (s1.get i),1,true,.none⟩).eI (B.new (.row ((List.range s1.n).map fun i=>Value.int .i64 (s1.get i)) 1 true none)).next ⟨(List.range s2.n).map fun i=>Value.int .i64 (s2.get i),1,true,.none⟩) (by simp [Env.eI]) (ρ:=(ρ.set B.next ⟨k1,0,((List.range s1.n).map fun i=>Value.int .i64 (s1.get i)).length,1⟩).set (B.new (.row ((List.range s1.n).map fun i=>Value.int .i64 (s1.get i)) 1 true none)).next ⟨k2,0,((List.range s2.n).map fun i=>Value.int .i64 (s2.get i)).length,1⟩) (by simp [Ren.set]);obtain ⟨m,a1,a2⟩:rE P _ _ [dG T (kI .i64) s1,dG T (kI .i64) s2] [.slice (some ⟨k1,0,.none⟩) s1.n s1.n,.slice (some ⟨k2,0,.none⟩) s2.n s2.n]:=rE.Fq (q1.mono z2.le anv) (rE.Fq q2 ⟨[],.nil,.nil⟩);exact ⟨.tuple ⟨m⟩,.VL a1,VR.mkTuple (l':=[.slice (some ⟨k1,0,.none⟩) s1.n s1.n,.slice (some ⟨k2,0,.none⟩) s2.n s2.n]) a2⟩⟩
end Go.K
end
section
set_option maxRecDepth 20000
namespace Go.Proofs.Ytckbdndhmcoihaa.Kt
open Go Go.RowKit Go.Lib Go.Shelf Go.K
open nodes (Bp)
theorem apY:aU Try.prog 47=1:=by kernel_rfl
theorem al7:aU Try.prog 32=2:=by kernel_rfl
theorem apZ:aU Try.prog 64=33:=by kernel_rfl
theorem akC {E:Env} {A:ae} {B:aI.St} {ρ:aI.Ren} {base:Nat} {w:World} {s:b.aC} {u:Value} (hj:KJ Try.prog E A B ρ base w) (h:VC Try.prog E ρ (b.kC s) u) :
  ∃ (q:Q) (x0 x3 x4:Value),u = .agg #[x0,.slice q.ka s.graph.kids.n q.kc,.slice q.na s.nodes.n q.nc,x3,x4,.int .i64 s.root.slot,.int .i64 s.root.gen]/\QAt s q w.heap.size w:=by
 obtain ⟨l,rfl,hl⟩:=h.ajk;obtain ⟨x0,l1,rfl,h0,Zg⟩:=hl.xx;obtain ⟨x1,l2,rfl,h1,kV⟩:=Zg.xx;obtain ⟨x2,l3,rfl,h2,hl3⟩:=kV.xx;obtain ⟨x3,l4,rfl,h3,hl4⟩:=hl3.xx;obtain ⟨x4,l5,rfl,h4,hl5⟩:=hl4.xx;obtain ⟨x5,l6,rfl,h5,hl6⟩:=hl5.xx;obtain ⟨x6,l7,rfl,h6,hl7⟩:=hl6.xx;obtain rfl:=hl7.UE;obtain ⟨ka,kc,rfl,H2⟩:=Hx hj h1;obtain ⟨na,nc,rfl,HN⟩:=Hx hj h2;obtain rfl:=h5.cj;obtain rfl:=h6.cj;have H3:∀ i,∃ p:Option Addr×Nat,i < s.graph.kids.n->(∃ b off,ka=some ⟨b,off,none⟩/\b < w.heap.size/\w.cell? ⟨b,off+i,none⟩=some (.slice p.1 (s.graph.kids.get i).n p.2))/\
   ∀ k,k < (s.graph.kids.get i).n->∃ b off,p.1=some ⟨b,off,none⟩/\b < w.heap.size/\w.cell? ⟨b,off+k * 2,none⟩=some (.int .i64 ((s.graph.kids.get i).get k).slot)/\w.cell? ⟨b,off+k * 2+1,none⟩=some (.int .i64 ((s.graph.kids.get i).get k).gen):=by
  intro i;by_cases hi:i < s.graph.kids.n
  ·obtain ⟨bb,off,e1,e2,e3⟩:=H2 i hi
   obtain ⟨z,z1,z2⟩:=e3 0 (dG 32 b.gN (s.graph.kids.get i)) rfl;obtain ⟨a,c,rfl,H⟩:=Hx hj z2;rw [apY] at z1;refine ⟨(a,c),fun _=>⟨⟨bb,off,e1,e2,by rw [show off+i=off+i * 1+0 by omega]; exact z1⟩,fun k hk=>?_⟩⟩;obtain ⟨bc,al8,r1,r2,r3⟩:=H k hk;obtain ⟨z,s1,s2⟩:=r3 0 (.int .i64 ((s.graph.kids.get i).get k).slot) rfl;obtain ⟨z',t1,t2⟩:=r3 1 (.int .i64 ((s.graph.kids.get i).get k).gen) rfl;rw [al7] at s1 t1;rw [s2.cj] at s1;rw [t2.cj] at t1;exact ⟨bc,al8,r1,r2,s1,t1⟩
  ·exact ⟨(none,0),fun h=>absurd h hi⟩
 obtain ⟨f,hf⟩:=Classical.axiomOfChoice H3;refine ⟨⟨ka,kc,fun i=>(f i).1,fun i=>(f i).2,na,nc⟩,x0,x3,x4,rfl,⟨fun i hi=>(hf i hi).1,fun i hi k hk=>(hf i hi).2 k hk,fun i hi=>?_⟩⟩;obtain ⟨bb,off,e1,e2,e3⟩:=HN i hi;obtain ⟨z,s1,s2⟩:=e3 0 (.int .u8 (s.nodes.get i).kind) rfl;rw [apZ] at s1;rw [s2.cj] at s1;exact ⟨bb,off,e1,e2,s1⟩
theorem run_mk (n:Nat) (hn:n<=1000000):∃ Z:Obj,(∀ W,(Instr.makeSlice 48 (.int .i64 (n:Int)) (.int .i64 (n:Int))).run Try.prog W = .ok (.slice (some ⟨W.heap.size,0,none⟩) n n) (W.alloc Z))/\(∀ (W:World) (b i:Nat),W.heap[b]? = some Z->i < n->W.cell? ⟨b,i,none⟩=some (.int .i64 0))/\∀ (W:World) (b i:Nat),W.heap[b]? = some Z->W.frozen? ⟨b,i,none⟩=false:=by
 refine ⟨.cells (madeCells #[.int .i64 0] n) 3,fun W=>?_,fun W b i hb hi=>?_,fun W b i hb=>?_⟩
 ·have:=Go.run_make (P:=Try.prog) W 48 3 _ (.int .i64 0) Try.underlying48 (show Try.prog.info? 3=some _ from rfl) rfl .i64 .i64 n n (by omega) (Int.le_refl _) (by show ((8:Nat):Int) * n<=_; omega) (by omega)
  rw [Cz] at this;exact (this.trans (by rw [show ∀ k,n * k=n * k from fun _=>rfl]; exact congrArg (fun c=>Result.ok _ (W.alloc (.cells (madeCells #[.int .i64 0] c) 3))) (Nat.mul_one n)))
 ·rw [nodes.mm hb]
  simp [madeCells,hi,Nat.mod_one]
 ·unfold World.frozen?
  simp [hb]
def Good (W:World) (a:Addr):Prop:=(W.cell? a).isSome=true/\W.frozen? a=false
theorem U9 {W:World} {a:Addr} (h:Good W a):∃ v,W.cell? a=some v:=PZ.1 h.1
theorem anf {W:World} {a:Addr} (h:Good W a):W.frozen? a=false:=h.2
theorem S8 {W:World} {a:Addr} (h:Good W a):Good W.drew a:=h
theorem yW {W:World} {o:Obj} {a:Addr} (h:Good W a):Good (W.alloc o) a:=by
 obtain ⟨v,hv⟩:=U9 h;have bj:a.block < W.heap.size:=by
  apply Classical.byContradiction;intro hn;unfold World.cell? at hv;rw [Array.getElem?_eq_none (by omega)] at hv;simp at hv
 refine ⟨by rw [World.cell?_alloc_some (h:=h.1)]; exact h.1,?_⟩;have:=h.2;unfold World.frozen? at this ⊢;rw [Below.heap_alloc _ _ _ bj];exact this
theorem HC {W:World} {p a:Addr} {x:Value} (h:Good W a):Good (W.setCell p x) a:=by
 obtain ⟨v,hv⟩:=U9 h;obtain ⟨v',h'⟩:=RowKit.cell?_setCell_some (p:=p) (x:=x) hv;exact ⟨by rw [h']; rfl,by rw [World.frozen?_setCell]; exact h.2⟩
theorem wU {W:World} {a:Addr} {v:Value} (h:W.cell? a=some v):W.drew.cell? a=some v:=h
theorem yX {W:World} {o:Obj} {a:Addr} {v:Value} (h:W.cell? a=some v):(W.alloc o).cell? a=some v:=by rw [World.cell?_alloc_some (h:=by rw [h]; rfl)]; exact h
theorem tG {W:World} {p a:Addr} {x v:Value} (hp:p.block≠a.block) (h:W.cell? a=some v):(W.setCell p x).cell? a=some v:=by rw [World.cell?_setCell_far _ _ _ _ hp]; exact h
theorem three (W:World) (A0 A1 A2:Obj):∃ V,((W.alloc A0).alloc A1).alloc A2=V/\V.heap[W.heap.size]? = some A0/\V.heap[W.heap.size+1]? = some A1/\V.heap[W.heap.size+1+1]? = some A2/\V.heap.size=W.heap.size+3/\RowKit.Below W.heap.size W V:=by
 have s1:(W.alloc A0).heap.size=W.heap.size+1:=by simp
 have s2:((W.alloc A0).alloc A1).heap.size=W.heap.size+2:=by simp
 refine ⟨_,rfl,?_,?_,nodes.zr _ _ _ (by omega),by simp,(((Below.refl _ _).alloc (aB _) _).alloc (by simp) _).alloc (by simp; omega) _⟩
 ·rw [Below.heap_alloc _ _ _ (by omega),Below.heap_alloc _ _ _ (by omega)]
  exact nodes.zr _ _ _ rfl
 ·rw [Below.heap_alloc _ _ _ (by omega)]
  exact nodes.zr _ _ _ (by omega)
theorem abv {fn:Func} {p q:Tmp} {ty:TypeId} (h:fn.results = #[.cell p ty,.cell q ty]) (tmps:Array Value) (P:Program) (w:World) :
  (results fn tmps).run P w=((asAddr (tmps.getD p undef)).run P w).andThen fun a ap0=>((loadVar ty a).run P ap0).andThen fun v ap1=>((asAddr (tmps.getD q undef)).run P ap1).andThen fun a' ap2=>((loadVar ty a').run P ap2).andThen fun v' ap3=>.ok (.tuple #[v,v']) ap3:=by
 simp only [results,h];simp [Sem.run_bind,Result.andThen]
theorem filled {w V:World} {Z:Obj} {s:b.aC} {q:Q} {c1 c2:Value} (sV:V.heap.size=w.heap.size+3) (bV:RowKit.Below w.heap.size w V) (e1:V.cell? ⟨w.heap.size,1,none⟩=some c1) (e2:V.cell? ⟨w.heap.size,2,none⟩=some c2)
  (e5:V.cell? ⟨w.heap.size,5,none⟩=some (.int .i64 s.root.slot)) (o1:Good V ⟨w.heap.size+1,0,none⟩) (o2:Good V ⟨w.heap.size+1+1,0,none⟩) (hq:QAt s q w.heap.size w) (u1 u2:Value) :
  ∃ Y,((((V.setCell ⟨w.heap.size+1,0,none⟩ u1).setCell ⟨w.heap.size+1+1,0,none⟩ u2).alloc Z).alloc Z).drew=Y/\Y.heap.size=w.heap.size+5/\RowKit.Below w.heap.size w Y/\Y.cell? ⟨w.heap.size,1,none⟩=some c1/\Y.cell? ⟨w.heap.size,2,none⟩=some c2/\Y.cell? ⟨w.heap.size,5,none⟩=some (.int .i64 s.root.slot)/\
   Y.cell? ⟨w.heap.size+1,0,none⟩=some u1/\Y.cell? ⟨w.heap.size+1+1,0,none⟩=some u2/\Good Y ⟨w.heap.size+1,0,none⟩/\Good Y ⟨w.heap.size+1+1,0,none⟩/\Y.heap[w.heap.size+3]? = some Z/\Y.heap[w.heap.size+3+1]? = some Z/\QAt s q w.heap.size Y:=by
 have cI:∀ {a c:Nat} {j l:Nat},a≠c->(⟨a,j,none⟩:Addr)≠⟨c,l,none⟩:=fun h e=>h (by simpa using congrArg Addr.block e);have hs1:((V.setCell ⟨w.heap.size+1,0,none⟩ u1).setCell ⟨w.heap.size+1+1,0,none⟩ u2).heap.size=w.heap.size+3:=by simp [sV]
 have jI:(((V.setCell ⟨w.heap.size+1,0,none⟩ u1).setCell ⟨w.heap.size+1+1,0,none⟩ u2).alloc Z).heap.size=w.heap.size+3+1:=by simp [sV]
 have bY:RowKit.Below w.heap.size w ((((V.setCell ⟨w.heap.size+1,0,none⟩ u1).setCell ⟨w.heap.size+1+1,0,none⟩ u2).alloc Z).alloc Z).drew:=by
  refine (((bV.setCell ?_ _).setCell ?_ _).alloc ?_ _ |>.alloc ?_ _).drew <;> simp [sV] <;> omega
 have lift:∀ {a:Addr} {v:Value},a.block≠w.heap.size+1->a.block≠w.heap.size+1+1->V.cell? a=some v->((((V.setCell ⟨w.heap.size+1,0,none⟩ u1).setCell ⟨w.heap.size+1+1,0,none⟩ u2).alloc Z).alloc Z).drew.cell? a=some v:=fun h1 h2 h=>wU (yX (yX (tG (Ne.symm h2) (tG (Ne.symm h1) h))));refine ⟨_,rfl,by simp [sV],bY,lift (by show w.heap.size≠_; omega) (by show w.heap.size≠_; omega) e1,lift (by show w.heap.size≠_; omega) (by show w.heap.size≠_; omega) e2,lift (by show w.heap.size≠_; omega) (by show w.heap.size≠_; omega) e5,?_,?_,S8 (yW (yW (HC (HC o1)))),S8 (yW (yW (HC (HC o2)))),?_,?_,hq.dL (d:=w.heap.size) (m:=w.heap.size) ⟨bY.os,bY.tape,bY.output,bY.size,fun k hk _ _=>bY.block k hk⟩ (aB _) (aB _) (aB _)⟩
 ·obtain ⟨v,hv⟩:=U9 o1
  exact wU (yX (yX (tG (by show w.heap.size+1+1≠w.heap.size+1; omega) (World.cell?_setCell_same _ _ _ hv))))
 ·obtain ⟨v,hv⟩:=U9 (HC (p:=⟨w.heap.size+1,0,none⟩) (x:=u1) o2)
  exact wU (yX (yX (World.cell?_setCell_same _ _ _ hv)))
 ·show ((((V.setCell _ _).setCell _ _).alloc Z).alloc Z).heap[w.heap.size+3]? = _
  rw [Below.heap_alloc _ _ _ (by omega)];exact nodes.zr _ _ _ (by omega)
 ·exact nodes.zr _ _ _ (by omega)
theorem Cy.tQ {d m:Nat} {W W' : World} (h:Cy d m W W') {b j:Nat} (hb:b < W.heap.size) (hd:b≠d) (hm:b≠m) (g:Good W ⟨b,j,none⟩):Good W' ⟨b,j,none⟩:=by
 have e:=h.block b hb hd hm;refine ⟨by rw [h.cell hb hd hm]; exact g.1,?_⟩;have:=g.2;unfold World.frozen? at this ⊢;rw [e];exact this
abbrev fnV (n:Nat):Value:=.func (.func 50) #[] #[.pointer (some ⟨n+1,0,none⟩),.pointer (some ⟨n,0,none⟩),.pointer (some ⟨n+5,0,none⟩),.pointer (some ⟨n+1+1,0,none⟩)]
theorem start {s:b.aC} {q:Q} {n d m N:Nat} {Y:World} {Z:Obj} (sY:Y.heap.size=n+5) (y1:Y.cell? ⟨n,1,none⟩=some (.slice q.ka s.graph.kids.n q.kc)) (y2:Y.cell? ⟨n,2,none⟩=some (.slice q.na s.nodes.n q.nc)) (w1:Y.cell? ⟨n+1,0,none⟩=some (.slice (some ⟨d,0,none⟩) N N)) (w2:Y.cell? ⟨n+1+1,0,none⟩=some (.slice (some ⟨m,0,none⟩) N N))
  (zd:Y.heap[d]? = some Z) (zm:Y.heap[m]? = some Z) (hd:n+3<=d) (hm:n+3<=m) (cI:d≠m) (hq:QAt s q n Y) (hZ1:∀ (W:World) (b i:Nat),W.heap[b]? = some Z->i < N->W.cell? ⟨b,i,none⟩=some (.int .i64 0)) (hZ2:∀ (W:World) (b i:Nat),W.heap[b]? = some Z->W.frozen? ⟨b,i,none⟩=false) :
  Ji s q n (n+1) n (n+5) (n+1+1) d m N (Y.alloc (.cells #[fnV n] 143)) (⟨N,fun _=>0⟩,⟨N,fun _=>0⟩):=by
 have ld:d < Y.heap.size:=(rS.1 zd).1;have lm:m < Y.heap.size:=(rS.1 zm).1;have k:Cy d m Y (Y.alloc (.cells #[fnV n] 143)):=.alloc _ _;have zd' : (Y.alloc (.cells #[fnV n] 143)).heap[d]? = some Z:=by rw [Below.heap_alloc _ _ _ ld]; exact zd
 have zm' : (Y.alloc (.cells #[fnV n] 143)).heap[m]? = some Z:=by rw [Below.heap_alloc _ _ _ lm]; exact zm
 have hs:(Y.alloc (.cells #[fnV n] 143)).heap.size=n+6:=by simp [sY]
 exact ⟨hq.dL k (by omega) (by omega) (by omega),by omega,by omega,by omega,by omega,by omega,by omega,by omega,cI,rfl,rfl,(k.cell (by omega) (by omega) (by omega)).trans w1,(k.cell (by omega) (by omega) (by omega)).trans y1,(k.cell (by omega) (by omega) (by omega)).trans y2,
  by rw [nodes.mm (nodes.zr _ _ _ (by omega))]; rfl,(k.cell (by omega) (by omega) (by omega)).trans w2,fun i hi=>hZ1 _ _ _ zd' hi,fun i hi=>hZ1 _ _ _ zm' hi,fun i=>hZ2 _ _ _ zd',fun i=>hZ2 _ _ _ zm'⟩
theorem finish {s:b.aC} {q:Q} {d m N b3:Nat} {w Y W2:World} {o:Obj} {x:Sl Int×Sl Int} (L:Ji s q w.heap.size (w.heap.size+1) w.heap.size b3 (w.heap.size+1+1) d m N W2 x) (k:Cy d m (Y.alloc o) W2) (bY:RowKit.Below w.heap.size w Y) (hd:w.heap.size+3<=d) (hm:w.heap.size+3<=m) (u1 u2:Value) :
  d≠m/\Ka w ((W2.setCell ⟨w.heap.size+1,0,none⟩ u1).setCell ⟨w.heap.size+1+1,0,none⟩ u2).drew d x.1/\Ka w ((W2.setCell ⟨w.heap.size+1,0,none⟩ u1).setCell ⟨w.heap.size+1+1,0,none⟩ u2).drew m x.2/\RowKit.Below w.heap.size w ((W2.setCell ⟨w.heap.size+1,0,none⟩ u1).setCell ⟨w.heap.size+1+1,0,none⟩ u2).drew:=by
 have b0:RowKit.Below w.heap.size w (Y.alloc o):=bY.alloc bY.size _;have b2:RowKit.Below w.heap.size w W2:=⟨k.os.trans b0.os,k.tape.trans b0.tape,k.output.trans b0.output,gS b0.size k.size,fun j hj=>(k.block j (eY hj b0.size) (by omega) (by omega)).trans (b0.block j hj)⟩
 have n1:=L.n1;have n2:=L.n2;refine ⟨L.ne,⟨by omega,by show d < ((W2.setCell _ _).setCell _ _).heap.size; simpa using L.ld.2,fun i hi=>?_,fun j=>?_⟩,⟨by omega,by show m < ((W2.setCell _ _).setCell _ _).heap.size; simpa using L.lm.2,fun i hi=>?_,fun j=>?_⟩,((b2.setCell (by show w.heap.size<=w.heap.size+1; omega) _).setCell (by show w.heap.size<=w.heap.size+1+1; omega) _).drew⟩
 ·exact wU (tG (by show w.heap.size+1+1≠d; omega) (tG (by show w.heap.size+1≠d; omega) (L.cd i (by omega))))
 ·rw [World.frozen?_drew,World.frozen?_setCell,World.frozen?_setCell]; exact L.fd j
 ·exact wU (tG (by show w.heap.size+1+1≠m; omega) (tG (by show w.heap.size+1≠m; omega) (L.cm i (by omega))))
 ·rw [World.frozen?_drew,World.frozen?_setCell,World.frozen?_setCell]; exact L.fm j
set_option maxHeartbeats 8000000 in
theorem counts (s:b.aC) (q:Q) (x0 x3 x4:Value) (w:World) (hq:QAt s q w.heap.size w) (x:Sl Int×Sl Int) (hx0:b.dY s=some x) :
  Calls Try.prog 23 #[.agg #[x0,.slice q.ka s.graph.kids.n q.kc,.slice q.na s.nodes.n q.nc,x3,x4,.int .i64 s.root.slot,.int .i64 s.root.gen]] w fun e w'=>
   ∃ k1 k2,e = .returned (.tuple #[.slice (some ⟨k1,0,.none⟩) x.1.n x.1.n,.slice (some ⟨k2,0,.none⟩) x.2.n x.2.n])/\k1≠k2/\Ka w w' k1 x.1/\Ka w w' k2 x.2/\RowKit.Below w.heap.size w w':=by
 have mG:b.Fits s:=by
  apply Classical.byContradiction;intro hf;unfold b.dY at hx0;rw [aa hf] at hx0;simp at hx0
 have hx:b.wT s 250 s.root.slot (⟨s.nodes.n,fun _=>0⟩,⟨s.nodes.n,fun _=>0⟩)=some x:=by
  unfold b.dY at hx0;rwa [aE mG] at hx0
 obtain ⟨hn,fk⟩:=mG;clear hx0;have mixed:=Bp;have t3:=Try.underlying3; have a3:=Try.isAgg3; have z3:=Try.sizeOf3; have v3:=Try.zeroValue3; have u3:=run_underlying Try.underlying3;have t48:=Try.underlying48; have a48:=Try.isAgg48; have z48:=Try.sizeOf48; have v48:=Try.zeroValue48; have u48:=run_underlying Try.underlying48;have t32:=Try.underlying32; have a32:=Try.isAgg32; have z32:=Try.sizeOf32; have v32:=Try.zeroValue32; have u32:=run_underlying Try.underlying32;have t34:=Try.underlying34; have a34:=Try.isAgg34; have z34:=Try.sizeOf34; have v34:=Try.zeroValue34; have u34:=run_underlying Try.underlying34;have t28:=Try.underlying28; have a28:=Try.isAgg28; have z28:=Try.sizeOf28; have v28:=Try.zeroValue28; have u28:=run_underlying Try.underlying28;have t143:=Try.underlying143; have a143:=Try.isAgg143; have z143:=Try.sizeOf143; have v143:=Try.zeroValue143; have apV:=run_underlying Try.underlying143
 go_enter Try.func23,Try.ntmps23
 go_wp2
 obtain ⟨V,hV,v0,v1,v2,sV,bV⟩:=three w (Obj.cells #[x0,.slice q.ka s.graph.kids.n q.kc,.slice q.na s.nodes.n q.nc,x3,x4,.int .i64 s.root.slot,.int .i64 s.root.gen] 34) (Obj.cells #[.slice none 0 0] 48) (Obj.cells #[.slice none 0 0] 48);have e1:V.cell? ⟨w.heap.size,1,none⟩=some (.slice q.ka s.graph.kids.n q.kc):=by rw [nodes.mm v0]; rfl
 have e2:V.cell? ⟨w.heap.size,2,none⟩=some (.slice q.na s.nodes.n q.nc):=by rw [nodes.mm v0]; rfl
 have e5:V.cell? ⟨w.heap.size,5,none⟩=some (.int .i64 s.root.slot):=by rw [nodes.mm v0]; rfl
 have o1:V.cell? ⟨w.heap.size+1,0,none⟩=some (.slice none 0 0):=by rw [nodes.mm v1]; rfl
 have o2:V.cell? ⟨w.heap.size+1+1,0,none⟩=some (.slice none 0 0):=by rw [nodes.mm v2]; rfl
 have r1:V.frozen? ⟨w.heap.size+1,0,none⟩=false:=by unfold World.frozen?; simp [v1]
 have r2:V.frozen? ⟨w.heap.size+1+1,0,none⟩=false:=by unfold World.frozen?; simp [v2]
 obtain ⟨Z,Se,hZ1,hZ2⟩:=run_mk s.nodes.n hn;rw [hV];clear hV
 go_region_held3 (fun w'=>w'.cell? ⟨w.heap.size,2,none⟩=some (.slice q.na s.nodes.n q.nc)/\(∃ v,w'.cell? ⟨w.heap.size+1,0,none⟩=some v)/\(∃ v,w'.cell? ⟨w.heap.size+1+1,0,none⟩=some v)/\w'.frozen? ⟨w.heap.size+1,0,none⟩=false/\w'.frozen? ⟨w.heap.size+1+1,0,none⟩=false) ((try refine ⟨?_,?_,?_,?_,?_⟩) <;> first | (first | refine U9 ?_ | refine anf ?_); (repeat with_reducible first | refine S8 ?_ | refine yW ?_ | refine HC ?_); (exact ⟨by simp [*],by simp [*]⟩) | ((repeat with_reducible first | refine wU ?_ | refine yX ?_ | refine tG (by dsimp only; omega) ?_); assumption)) (fail)
 all_goals
  have g1:Good V ⟨w.heap.size+1,0,none⟩:=⟨by rw [o1]; rfl,r1⟩
  have g2:Good V ⟨w.heap.size+1+1,0,none⟩:=⟨by rw [o2]; rfl,r2⟩
  first
   | (obtain ⟨Y,hY,sY,bY,y1,y2,y5,w1,w2,p1,p2,z1,z2,qY⟩:=filled (Z:=Z) (s:=s) (q:=q) sV bV e1 e2 e5 g1 g2 hq (.slice (some ⟨w.heap.size+3,0,none⟩) s.nodes.n s.nodes.n) (.slice (some ⟨w.heap.size+3+1,0,none⟩) s.nodes.n s.nodes.n); rw [hY]; clear hY)
   | (obtain ⟨Y,hY,sY,bY,y1,y2,y5,w1,w2,p1,p2,z1,z2,qY⟩:=filled (Z:=Z) (s:=s) (q:=q) sV bV e1 e2 e5 g1 g2 hq (.slice (some ⟨w.heap.size+3+1,0,none⟩) s.nodes.n s.nodes.n) (.slice (some ⟨w.heap.size+3,0,none⟩) s.nodes.n s.nodes.n); rw [hY]; clear hY)
  clear g1 g2 e1 e2 e5 o1 o2 r1 r2 v0 v1 v2 bV sV Se;have hL:∃ d m,w.heap.size+3<=d/\w.heap.size+3<=m/\Ji s q w.heap.size (w.heap.size+1) w.heap.size (w.heap.size+5) (w.heap.size+1+1) d m s.nodes.n (Y.alloc (.cells #[fnV w.heap.size] 143)) (⟨s.nodes.n,fun _=>0⟩,⟨s.nodes.n,fun _=>0⟩):=by
   first
    | exact ⟨_,_,aB _,by omega,start sY y1 y2 w1 w2 z1 z2 (aB _) (by omega) (by omega) qY hZ1 hZ2⟩
    | exact ⟨_,_,by omega,aB _,start sY y1 y2 w1 w2 z2 z1 (by omega) (aB _) (by omega) qY hZ1 hZ2⟩
  obtain ⟨d,m,hd,hm,L⟩:=hL;have Pj:=down s q _ _ _ _ _ _ _ _ fk 250 s.root.slot _ x _ hx L;have fin:∀ W2,Ji s q w.heap.size (w.heap.size+1) w.heap.size (w.heap.size+5) (w.heap.size+1+1) d m s.nodes.n W2 x->Cy d m (Y.alloc (.cells #[fnV w.heap.size] 143)) W2->_:=fun W2 L2 K2=>finish L2 K2 bY hd hm (.slice (some ⟨d,0,none⟩) s.nodes.n s.nodes.n) (.slice (some ⟨m,0,none⟩) s.nodes.n s.nodes.n);clear hq hx fk hn z1 z2 qY hZ1 hZ2 bY
  go_wp2_with (go_at_call 50; go_loud (refine Pj.mono ?_; rintro e w2 ⟨rfl,L2,K2⟩; have q1:=L2.c1; have q4:=L2.c4; have gA:=Cy.tQ K2 (by simp [sY]) (by omega) (by omega) (yW (o:=.cells #[fnV w.heap.size] 143) p1); have gB:=Cy.tQ K2 (by simp [sY]) (by omega) (by omega) (yW (o:=.cells #[fnV w.heap.size] 143) p2)))
  have gA1:=gA.1;have gA2:=gA.2;have gB1:=gB.1;have gB2:=gB.2
  go_region_held3 (fun w'=>w'.cell? ⟨w.heap.size+1,0,none⟩=some (.slice (some ⟨d,0,none⟩) s.nodes.n s.nodes.n)/\w'.cell? ⟨w.heap.size+1+1,0,none⟩=some (.slice (some ⟨m,0,none⟩) s.nodes.n s.nodes.n)/\w'.frozen? ⟨w.heap.size+1,0,none⟩=false/\w'.frozen? ⟨w.heap.size+1+1,0,none⟩=false) ((try refine ⟨?_,?_,?_,?_⟩) <;> first | ((repeat with_reducible first | refine wU ?_ | refine tG (by dsimp only; omega) ?_); first | assumption | exact World.cell?_setCell_same _ _ _ (by first | assumption | exact tG (by dsimp only; omega) (by assumption))) | simp [*]) (fail)
  all_goals
   go_wp2
   have n1:=L2.n1;have n2:=L2.n2;obtain ⟨f1,f2,f3,f4⟩:=fin _ L2 K2;have h1:((w2.setCell ⟨w.heap.size+1,0,none⟩ (.slice (some ⟨d,0,none⟩) s.nodes.n s.nodes.n)).setCell ⟨w.heap.size+1+1,0,none⟩ (.slice (some ⟨m,0,none⟩) s.nodes.n s.nodes.n)).drew.cell? ⟨w.heap.size+1,0,none⟩=some (.slice (some ⟨d,0,none⟩) s.nodes.n s.nodes.n):=
    wU (tG (by dsimp only; omega) (World.cell?_setCell_same _ _ _ q1))
   have h2:((w2.setCell ⟨w.heap.size+1,0,none⟩ (.slice (some ⟨d,0,none⟩) s.nodes.n s.nodes.n)).setCell ⟨w.heap.size+1+1,0,none⟩ (.slice (some ⟨m,0,none⟩) s.nodes.n s.nodes.n)).drew.cell? ⟨w.heap.size+1+1,0,none⟩=some (.slice (some ⟨m,0,none⟩) s.nodes.n s.nodes.n):=
    wU (World.cell?_setCell_same _ _ _ (tG (by dsimp only; omega) q4))
   generalize ((w2.setCell ⟨w.heap.size+1,0,none⟩ (.slice (some ⟨d,0,none⟩) s.nodes.n s.nodes.n)).setCell ⟨w.heap.size+1+1,0,none⟩ (.slice (some ⟨m,0,none⟩) s.nodes.n s.nodes.n)).drew=WE at *;refine bodyPost_ret (v:=.tuple #[.slice (some ⟨d,0,none⟩) s.nodes.n s.nodes.n,.slice (some ⟨m,0,none⟩) s.nodes.n s.nodes.n]) ?_ rfl ⟨d,m,by rw [n1,n2],f1,f2,f3,f4⟩;rw [abv rfl]
   go_simp
theorem call23:xC Try.prog 23:=by
 refine ⟨by kernel_rfl,_,Try.func23,rfl,by kernel_rfl⟩
theorem ang (w:Nat->KV):vA Try.prog [34] w 0 = [b.kC (b.eP (ik Try.prog (ca Try.prog dB) 34 (w 0)))]:=by kernel_rfl
theorem ap4 (l:List Nat) (g:Nat->Int):dH (aQ Try.prog 3) (l.map fun i=>kI .i64 (g i))=true:=by
 induction l with
 | nil=>rfl
 | cons x l ih=>
  show (cw (aQ Try.prog 3) (kI .i64 (g x))&&dH (aQ Try.prog 3) (l.map fun i=>kI .i64 (g i)))=true;rw [ih,EH]
  kernel_rfl
end Go.Proofs.Ytckbdndhmcoihaa.Kt
namespace Go.Proofs.Ytckbdndhmcoihaa.b
open Go Go.RowKit Go.K
theorem B9:bZ Try.prog 23 xz:=by
 refine akB Kt.call23 (by kernel_rfl) (fun s=>Kt.ap4 _ _) fun args v E A B ρ base w dV hF hlen hv hj=>?_;have ep:bS Try.prog 23 = [34]:=by kernel_rfl
 unfold xz b5 at hF;obtain ⟨hb,hF⟩:=aH.cond hF;obtain ⟨ww,hw⟩:=Iv 0 hb;have CJ:rE Try.prog E ρ (normArgs Try.prog (bS Try.prog 23) args) dV:=by
  obtain ⟨m,h1,h2⟩:=hv;exact ⟨m,aV.MV (.of rfl) h1 hlen,h2⟩
 rw [hw,ep,Kt.ang] at hF CJ;generalize eP (ik Try.prog (ca Try.prog dB) 34 (ww 0))=s at hF CJ;obtain ⟨u,us,rfl,hu,Lf⟩:=CJ.xx;obtain rfl:=Lf.UE;obtain ⟨q,x0,x3,x4,rfl,hq⟩:=Kt.akC hj hu;unfold cg at hF;obtain ⟨h1,h2⟩:=aH.jN hF;have h1:(dY s).isSome=true:=h1;obtain ⟨x,hx⟩:=PZ.1 h1;have h2:KV.l8 [(dG 3 (kI .i64)) ((dY s).getD default).1,(dG 3 (kI .i64)) ((dY s).getD default).2] = v:=h2;rw [hx] at h2;refine (Kt.counts s q x0 x3 x4 w hq x hx).mono ?_;rintro e w' ⟨k1,k2,rfl,cI,i1,i2,hb⟩;exact ⟨x.1,x.2,k1,k2,h2.symm,rfl,cI,i1,i2,hb⟩
end Go.Proofs.Ytckbdndhmcoihaa.b
end
section
namespace Go.Proofs.Ytckbdndhmcoihaa.b
open Go.K
noncomputable section
structure eX where
 h:Handle
 fa:Int
instance:Inhabited eX:=⟨⟨default,default⟩⟩
def aep (x:eX):List KV:=[.int .i64 x.h.slot,.int .i64 x.h.gen,.int .i64 x.fa]
def mz (x:eX):KV:=.agg (aep x)
def aeq (c:Nat->KV):eX:=⟨⟨ax (c 0),ax (c 1)⟩,ax (c 2)⟩
def gJ (v:KV):eX:=aeq fun k=>v.cells.getD k .bf
theorem vV (x:eX):gJ (mz x)=x:=rfl
theorem abw:gJ .bf=default:=rfl
theorem L4 (s t:Sl eX):s.join t=au gJ (s.n+t.n) (av s.n (fun i=>mz (s.get i)) (fun i=>mz (t.get i))):=(gM vV s t).symm
theorem NU (l:List eX):Sl.lit l=au gJ l.length (cZ (l.map mz)):=(jO vV abw l).symm
theorem NV (s:Sl eX) (i:Nat) (v:eX):s.set i v=au gJ s.n (bO (fun j=>mz (s.get j)) i (mz v)):=(jP vV s i v).symm
theorem NW (m n n' : Nat) (acc aw:Nat->KV):au gJ m (av n (fun i=>mz ((au gJ n' acc).get i)) aw)=au gJ m (av n acc aw):=kb vV ..
theorem NX (m n n' : Nat) (acc aw:Nat->KV):au gJ m (av n acc (fun i=>mz ((au gJ n' aw).get i)))=au gJ m (av n acc aw):=kd vV ..
theorem Yj (m n' i:Nat) (acc:Nat->KV) (v:KV):au gJ m (bO (fun j=>mz ((au gJ n' acc).get j)) i v)=au gJ m (bO acc i v):=ke vV ..
structure dM where
 l:(Sl eX)
 t7:Int
 t8:Int
 t2:Path
 p:Path
instance:Inhabited dM:=⟨⟨default,default,default,default,default⟩⟩
def jx (x:dM):List KV:=[dG 98 mz x.l,.int .i64 x.t7,.int .i64 x.t8]
def jy (x:dM):List (List KV):=[aec x.t2,aec x.p]
def ur (vs:List KV) (rs:List (List KV)):dM:=⟨eF gJ (v9 vs 0),ax (v9 vs 1),ax (v9 vs 2),aed (r9 rs 0),aed (r9 rs 1)⟩
def uL:aJ:=⟨[(0,⟨false,[.arr 98]⟩),(7,w9 i9),(8,w9 i9)],[(2,[.aO 32,.aO 3],1),(3,[.aO 32,.aO 3],1)],[(2,0,0),(3,1,0),(6,1000000,0)]⟩
def DM:=M5 PG (rG PG [(23,xz),(22,E5)] [] (fun q=>Nat.beq q 98||Nat.beq q 3000098||Nat.beq q 4000098)) 9 9 24 58 (C5 PG 24 58) uL
def cX (x:dM):aX dM:=(cond (decide (x.t8 < x.t7)) (cond ((decide (0<=x.t8))&&(decide (x.t8 < (x.l.n:Int)))) (cond ((ai x.p.nodes.n x.p.nodes.n)&&(dQ 16 x.p.nodes.n 1)) (cond (decide (x.t8 > 0)) (cond ((decide (0<=(aP (x.t8 - 1))))&&(decide ((aP (x.t8 - 1)) < (x.l.n:Int)))) (cond ((ai x.p.kids.n x.p.kids.n)&&(dQ 8 x.p.kids.n 1)) (cond (cond ((((((Nat.beq x.l.n x.l.n)&&true)&&true)&&true)&&true)&&true) (cond (cond (cond (cond (ai (x.p.kids.n+1) (x.p.kids.n+1)) (ai (x.p.nodes.n+1) (x.p.nodes.n+1)) false) (ai x.t2.kids.n x.t2.kids.n) false) (ai x.t2.nodes.n x.t2.nodes.n) false) (ai x.l.n x.l.n) false) false) (.next ⟨x.l,x.t7,(aP (x.t8+1)),x.t2,⟨(x.p.nodes.push (x.l.get (0+(Int.toNat x.t8))).h),(x.p.kids.push (aP ((x.l.get (0+(Int.toNat (aP (x.t8 - 1))))).fa - 1)))⟩⟩) .fail) .fail) .fail) (cond (cond ((((((Nat.beq x.l.n x.l.n)&&true)&&true)&&true)&&true)&&true) (cond (cond (cond (cond (ai x.p.kids.n x.p.kids.n) (ai (x.p.nodes.n+1) (x.p.nodes.n+1)) false) (ai x.t2.kids.n x.t2.kids.n) false) (ai x.t2.nodes.n x.t2.nodes.n) false) (ai x.l.n x.l.n) false) false) (.next ⟨x.l,x.t7,(aP (x.t8+1)),x.t2,⟨(x.p.nodes.push (x.l.get (0+(Int.toNat x.t8))).h),x.p.kids⟩⟩) .fail)) .fail) .fail) (cond (cond ((((((Nat.beq x.l.n x.l.n)&&true)&&true)&&true)&&true)&&true) (cond (cond (cond (cond (ai x.p.kids.n x.p.kids.n) (ai x.p.nodes.n x.p.nodes.n) false) (ai x.t2.kids.n x.t2.kids.n) false) (ai x.t2.nodes.n x.t2.nodes.n) false) (ai x.l.n x.l.n) false) false) (.out (aI.ah.exit 0) x) .fail))
theorem Ca (x:dM):DM (jx x) (jy x)=aX.enc jx jy (cX x):=by
 unfold cX
 try simp only [aX.cJ,j2,ru]
 kernel_rfl
def nM:Lp:=⟨24,58,uL,fun vs rs=>dU jx jy (goN cX (ur vs rs)) [aI.ah.exit 0],true⟩
theorem uu:nM.Ok PG:=ad5 funcs mixed (ak.cons B9 (ak.cons EB ak.nil)) bu.nil (L:=9) (n:=9) (step:=cX) (ev:=jx) (er:=jy) (pa:=ur) rfl (fun wv wr=>⟨by kernel_rfl,by kernel_rfl⟩) Ca
structure cA where
 t2:(Sl Path)
 t3:Int
 out:(Sl Path)
 stack:(Sl eX)
 s:aC
instance:Inhabited cA:=⟨⟨default,default,default,default,default⟩⟩
def uv (x:cA):List KV:=[dG 50 IZ x.t2,.int .i64 x.t3,dG 50 IZ x.out,dG 98 mz x.stack]
def uw (x:cA):List (List KV):=[zt x.s]
def FG (vs:List KV) (rs:List (List KV)):cA:=⟨eF KN (v9 vs 0),ax (v9 vs 1),eF KN (v9 vs 2),eF gJ (v9 vs 3),zu (r9 rs 0)⟩
def GH:aJ:=⟨[(2,w9 (n9 50)),(3,w9 i9),(7,⟨false,[.aO 50]⟩),(8,⟨false,[.arr 98]⟩)],[(1,[n9 139,n9 47,n9 64,n9 79,n9 118,i9,i9],1)],[(1,0,0)]⟩
def PL:=ad3 PG (rG PG [(23,xz),(22,E5)] [nM] (fun q=>Nat.beq q 98||Nat.beq q 3000098||Nat.beq q 4000098)) 9 9 9 3 GH
def jl (x:cA):=goN cX ⟨x.stack,(x.stack.n:Int),0,⟨⟨0,(fun i=>⟨0,0⟩)⟩,⟨0,(fun i=>0)⟩⟩,⟨⟨0,(fun i=>⟨0,0⟩)⟩,⟨0,(fun i=>0)⟩⟩⟩
def bP (x:cA):aX cA:=(cond ((decide (0<=(aP ((x.stack.n:Int) - 1))))&&(decide ((aP ((x.stack.n:Int) - 1)) < (x.stack.n:Int)))) (cond ((decide (0<=(x.stack.get (0+(Int.toNat (aP ((x.stack.n:Int) - 1))))).h.slot))&&(decide ((x.stack.get (0+(Int.toNat (aP ((x.stack.n:Int) - 1))))).h.slot < (x.s.graph.kids.n:Int)))) (cond (decide ((x.stack.get (0+(Int.toNat (aP ((x.stack.n:Int) - 1))))).fa < ((x.s.graph.kids.get (Int.toNat (x.stack.get (0+(Int.toNat (aP ((x.stack.n:Int) - 1))))).h.slot)).n:Int))) (cond ((decide (0<=(aP (((x.stack.set (0+(Int.toNat (aP ((x.stack.n:Int) - 1)))) ⟨(x.stack.get (0+(Int.toNat (aP ((x.stack.n:Int) - 1))))).h,(aP ((x.stack.get (0+(Int.toNat (aP ((x.stack.n:Int) - 1))))).fa+1))⟩).get (0+(Int.toNat (aP ((x.stack.n:Int) - 1))))).fa - 1))))&&(decide ((aP (((x.stack.set (0+(Int.toNat (aP ((x.stack.n:Int) - 1)))) ⟨(x.stack.get (0+(Int.toNat (aP ((x.stack.n:Int) - 1))))).h,(aP ((x.stack.get (0+(Int.toNat (aP ((x.stack.n:Int) - 1))))).fa+1))⟩).get (0+(Int.toNat (aP ((x.stack.n:Int) - 1))))).fa - 1)) < ((x.s.graph.kids.get (Int.toNat (x.stack.get (0+(Int.toNat (aP ((x.stack.n:Int) - 1))))).h.slot)).n:Int)))) (cond ((Nat.ble ((x.stack.n+1) * 24) 140737488355328)&&(Nat.ble (x.stack.n+1) 17592186044416)) (cond (cond (ai (x.stack.n+1) (x.stack.n+1)) (ai x.out.n x.out.n) false) (.next ⟨x.t2,x.t3,x.out,((x.stack.set (0+(Int.toNat (aP ((x.stack.n:Int) - 1)))) ⟨(x.stack.get (0+(Int.toNat (aP ((x.stack.n:Int) - 1))))).h,(aP ((x.stack.get (0+(Int.toNat (aP ((x.stack.n:Int) - 1))))).fa+1))⟩).join (Sl.lit [⟨((x.s.graph.kids.get (Int.toNat (x.stack.get (0+(Int.toNat (aP ((x.stack.n:Int) - 1))))).h.slot)).get (Int.toNat (aP (((x.stack.set (0+(Int.toNat (aP ((x.stack.n:Int) - 1)))) ⟨(x.stack.get (0+(Int.toNat (aP ((x.stack.n:Int) - 1))))).h,(aP ((x.stack.get (0+(Int.toNat (aP ((x.stack.n:Int) - 1))))).fa+1))⟩).get (0+(Int.toNat (aP ((x.stack.n:Int) - 1))))).fa - 1)))),0⟩])),x.s⟩) .fail) .fail) .fail) (cond ((decide (0<=(x.stack.get (0+(Int.toNat (aP ((x.stack.n:Int) - 1))))).h.slot))&&(decide ((x.stack.get (0+(Int.toNat (aP ((x.stack.n:Int) - 1))))).h.slot < (x.s.nodes.n:Int)))) (cond ((x.s.nodes.get (Int.toNat (x.stack.get (0+(Int.toNat (aP ((x.stack.n:Int) - 1))))).h.slot)).kind==5) (cond (cond ((((((Nat.beq x.stack.n x.stack.n)&&true)&&true)&&true)&&true)&&true) (ai x.stack.n x.stack.n) false) (cond ((jl x).by (aI.ah.exit 0)) (cond ((ai x.out.n x.out.n)&&(dQ 48 x.out.n 1)) (cond ((decide (0<=(aP ((x.stack.n:Int) - 1))))&&(decide ((aP ((x.stack.n:Int) - 1))<=(x.stack.n:Int)))) (cond (decide ((((Int.toNat (aP ((x.stack.n:Int) - 1))):Nat):Int) > 0)) (cond (cond (ai (Int.toNat (aP ((x.stack.n:Int) - 1))) (Int.toNat (aP ((x.stack.n:Int) - 1)))) (ai (x.out.n+1) (x.out.n+1)) false) (.next ⟨x.t2,x.t3,(x.out.push (jl x).st.p),⟨(Int.toNat (aP ((x.stack.n:Int) - 1))),(jl x).st.l.get⟩,x.s⟩) .fail) (cond (cond (ai (Int.toNat (aP ((x.stack.n:Int) - 1))) (Int.toNat (aP ((x.stack.n:Int) - 1)))) (ai (x.out.n+1) (x.out.n+1)) false) (.out aI.ah.ret ⟨(x.out.push (jl x).st.p),0,(x.out.push (jl x).st.p),⟨(Int.toNat (aP ((x.stack.n:Int) - 1))),(jl x).st.l.get⟩,x.s⟩) .fail)) .fail) .fail) .fail) .fail) (cond ((decide (0<=(aP ((x.stack.n:Int) - 1))))&&(decide ((aP ((x.stack.n:Int) - 1))<=(x.stack.n:Int)))) (cond (decide ((((Int.toNat (aP ((x.stack.n:Int) - 1))):Nat):Int) > 0)) (cond (cond (ai (Int.toNat (aP ((x.stack.n:Int) - 1))) (Int.toNat (aP ((x.stack.n:Int) - 1)))) (ai x.out.n x.out.n) false) (.next ⟨x.t2,x.t3,x.out,⟨(Int.toNat (aP ((x.stack.n:Int) - 1))),x.stack.get⟩,x.s⟩) .fail) (cond (cond (ai (Int.toNat (aP ((x.stack.n:Int) - 1))) (Int.toNat (aP ((x.stack.n:Int) - 1)))) (ai x.out.n x.out.n) false) (.out aI.ah.ret ⟨x.out,0,x.out,⟨(Int.toNat (aP ((x.stack.n:Int) - 1))),x.stack.get⟩,x.s⟩) .fail)) .fail)) .fail)) .fail) .fail)
theorem Ny (x:cA):PL (uv x) (uw x)=aX.enc uv uw (bP x):=by
 unfold bP
 try simp only [aX.cJ,L4,NU,NW,NX,NV,XW]
 kernel_rfl
def GI:Lp:=⟨9,3,GH,fun vs rs=>dU uv uw (goN bP (FG vs rs)) [aI.ah.exit 999983,aI.ah.ret],false⟩
theorem PM:GI.OkG PG:=ad4 funcs mixed (ak.cons B9 (ak.cons EB ak.nil)) (rH uu bu.nil) (L:=9) (n:=9) (step:=bP) (ev:=uv) (er:=uw) (pa:=FG) rfl (fun wv wr=>⟨by kernel_rfl,by kernel_rfl⟩) Ny
def WL (g:aX cA):Option (Sl Path×Int):=
 cond (g.by (aI.ah.exit 999983)) (some (g.st.t2,g.st.t3)) (cond (g.by aI.ah.ret) (some (g.st.t2,g.st.t3)) none)
def vW:aX cA->Option (Sl Path×Int)
 | .next x=>WL (goN bP x)
 | .out _ x=>some (x.t2,x.t3)
 | .fail=>none
theorem akD (c:Bool) (a b:aX cA):vW (cond c a b)=cond c (vW a) (vW b):=by cases c <;> rfl
theorem ac3 (x:cA):vW (.next x)=cond ((goN bP x).by (aI.ah.exit 999983)) (some ((goN bP x).st.t2,(goN bP x).st.t3)) (cond ((goN bP x).by aI.ah.ret) (some ((goN bP x).st.t2,(goN bP x).st.t3)) none):=rfl
def qv (s:aC):cA:=⟨⟨0,fun _=>⟨⟨0,fun _=>⟨0,0⟩⟩,⟨0,fun _=>0⟩⟩⟩,0,⟨0,fun _=>⟨⟨0,fun _=>⟨0,0⟩⟩,⟨0,fun _=>0⟩⟩⟩,Sl.lit [⟨s.root,0⟩],s⟩
def gb (s:aC):Option (Sl Path×Int):=
 (cond (rm s).isSome
  (cond (((rm s).getD default) != 0)
  (some ((qv s).t2,((rm s).getD default)))
  (cond ((s.root.slot==0)&&((s.root.gen==0)&&true))
   (some ((qv s).t2,0))
   (cond (dY s).isSome
   (cond ((decide (0<=s.root.slot))&&(decide (s.root.slot < (((dY s).getD default).fst.n:Int))))
    (cond (decide ((((dY s).getD default).fst.get (Int.toNat s.root.slot)) > 16))
    (some ((qv s).t2,120))
    (cond ((decide (0<=s.root.slot))&&(decide (s.root.slot < (((dY s).getD default).snd.n:Int))))
     (cond (decide ((((dY s).getD default).snd.get (Int.toNat s.root.slot)) > 256))
     (some ((qv s).t2,120))
     (vW (bP (qv s))))
     none))
    none)
   none)))
  none)
theorem WM (s:aC):FT PG (rG PG [(23,xz),(22,E5)] [nM,GI] (fun q=>Nat.beq q 98||Nat.beq q 3000098||Nat.beq q 4000098)) 9 9 9 [kC s] = (gb s).map (fun (r:Sl Path×Int)=>KV.l8 [dG 50 IZ r.1,(kI .i64) r.2]):=by
 unfold gb bP qv;simp only [akD,ac3,cf,L4,NU,NW,NX,Yj,NV,XW]
 kernel_rfl
def rM:List KV->KR KV:=b5 PG 9 (cg (fun (r:Sl Path×Int)=>KV.l8 [dG 50 IZ r.1,(kI .i64) r.2]) fun vs=>gb (eP (v9 vs 0)))
theorem o8:bZ PG 9 rM:=ee (ak.cons B9 (ak.cons EB ak.nil)) (rH uu (bu.aop PM bu.nil)) fun w=>WM (eP (g0 34 (w 0)))
end
end Go.Proofs.Ytckbdndhmcoihaa.b
end
section
namespace Go.Proofs.Ytckbdndhmcoihaa.sc
open Go Go.K Go.aI Go.Au Go.Proofs.Ytckbdndhmcoihaa.nodes
def lZ (s:b.aC) (h:b.Handle):Nat:=(s.graph.kids.get h.slot.toNat).n
def gd (s:b.aC) (h:b.Handle) (k:Nat):b.Handle:=(s.graph.kids.get h.slot.toNat).get k
def jE (s:b.aC) (h:b.Handle):Bool:=(s.nodes.get h.slot.toNat).kind==5
def rN (s:b.aC) (g:Nat->b.eX):List (b.Handle×Nat)->Prop
 | []=>True
 | (h,n)::r=>g r.length=⟨h,(n:Int)⟩/\n<=lZ s h/\mv s.graph.cD h/\Cx (lZ s) (gd s) (16 - r.length) h/\rN s g r
theorem rN.congr {s:b.aC} {g g' : Nat->b.eX} : ∀ {st:List (b.Handle×Nat)},(∀ i,i < st.length->g' i=g i)->rN s g st->rN s g' st
 | [],_,_=>trivial
 | (h,n)::r,hq,hi=>⟨(hq r.length (by simp)).trans hi.1,hi.2.1,hi.2.2.1,hi.2.2.2.1,hi.2.2.2.2.congr fun i hl=>hq i (by simp only [qI]; omega)⟩
theorem rN.at {s:b.aC} {g:Nat->b.eX} : ∀ {st:List (b.Handle×Nat)},rN s g st->∀ i,i < st.length->∃ (h:b.Handle) (n:Nat),g i=⟨h,(n:Int)⟩/\n<=lZ s h/\mv s.graph.cD h
 | [],_,i,hl=>absurd hl (oX _)
 | (h,n)::r,hi,i,hl=>by
  by_cases e:i=r.length
  ·subst e
   exact ⟨h,n,hi.1,hi.2.1,hi.2.2.1⟩
  ·exact hi.2.2.2.2.at i (by simp only [qI] at hl; omega)
theorem rN.len {s:b.aC} {g:Nat->b.eX} : ∀ {st:List (b.Handle×Nat)},rN s g st->st.length<=16
 | [],_=>rQ _
 | (h,n)::r,hi=>by
  have hl:=hi.2.2.2.1;by_cases e:r.length < 16
  ·simp only [qI]; omega
  ·rw [show 16 - r.length=0 by omega] at hl
   exact hl.elim
theorem abx {s:b.aC} (hs:oT s) {h:b.Handle} (hh:mv s.graph.cD h):lZ s h<=16:=by
 have:=(LX hs hh)
 exact (agJ hs).Wx h.slot.toNat (by omega)
def QC (p:b.Path) (g:Nat->b.eX) (n:Nat):Prop:=p.nodes.n=n/\p.kids.n=n - 1/\(∀ i,i < n->p.nodes.get i=(g i).h)/\∀ i,i+1 < n->p.kids.get i=(g i).fa - 1
theorem aif (stack:Sl b.eX) (hn:stack.n<=16) (hb:∀ i,i < stack.n->0<=(stack.get i).fa/\(stack.get i).fa<=1000) :
  ∃ x',goN b.cX ⟨stack,(stack.n:Int),0,⟨⟨0,(fun i=>⟨0,0⟩)⟩,⟨0,(fun i=>0)⟩⟩,⟨⟨0,(fun i=>⟨0,0⟩)⟩,⟨0,(fun i=>0)⟩⟩⟩ = .out (.exit 0) x'/\x'.l=stack/\QC x'.p stack.get stack.n:=by
 obtain ⟨e,x',h1,h2,h3,h4⟩:=jH (step:=b.cX) (fun j x=>x.l=stack/\x.t7=(stack.n:Int)/\x.t8=(j:Int)/\QC x.p stack.get j) (fun e x=>e = .exit 0/\x.l=stack/\QC x.p stack.get stack.n) stack.n (by unfold gV; omega) (fun j x hj hI=>by
  obtain ⟨l,t7,t8,t2,p⟩:=x;obtain ⟨h1,h2,h3,h4⟩:=hI
  dsimp only at h1 h2 h3 h4
  subst h1 h2 h3;obtain ⟨q1,q2,q3,q4⟩:=h4;unfold b.cX
  dsimp only
  by_cases bj:j < l.n
  ·refine .inl ?_
   have d1:decide ((j:Int) < (l.n:Int))=true:=az (by omega);have d2:decide ((0:Int)<=(j:Int))=true:=az (by omega);have e1:aP ((j:Int)+1)=((j+1:Nat):Int):=by rw [di (by omega) (by omega)]; omega
   have a1:dQ 16 p.nodes.n 1=true:=uG;have a2:dQ 8 p.kids.n 1=true:=uG;rw [d1,d2,a1,a2];simp only [cv,tI,cC,aj,Cz,ba,e1];by_cases h0:0 < j
   ·have d3:decide ((j:Int) > 0)=true:=az (by omega)
    have e2:aP ((j:Int) - 1)=((j - 1:Nat):Int):=by rw [di (by omega) (by omega)]; omega
    have d4:decide ((0:Int)<=((j - 1:Nat):Int))=true:=az (by omega);have d5:decide (((j - 1:Nat):Int) < (l.n:Int))=true:=az (by omega);rw [d3,e2,d4,d5];simp only [cC,aj,Cz];refine ⟨_,rfl,bj,rfl,rfl,rfl,?_⟩;have hbj:=hb (j - 1) (by omega);refine ⟨by show p.nodes.n+1=_; omega,by show p.kids.n+1=_; omega,fun i hi=>?_,fun i hi=>?_⟩
    ·by_cases e:i=j
     ·subst e
      show (p.nodes.push _).get i=_;rw [<- q1];exact Sl.ED
     ·show (p.nodes.push _).get i=_
      rw [Sl.Hz (by omega)];exact q3 i (by omega)
    ·by_cases e:i+1=j
     ·show (p.kids.push _).get i=_
      have e3:i=p.kids.n:=by omega
      rw [e3,Sl.ED,<- e3,show j - 1=i by omega];have:=hb i (by omega);exact di (by omega) (by omega)
     ·show (p.kids.push _).get i=_
      rw [Sl.Hz (by omega)];exact q4 i (by omega)
   ·have d3:decide ((j:Int) > 0)=false:=bq (by omega)
    rw [d3];simp only [aG];refine ⟨_,rfl,bj,rfl,rfl,rfl,?_⟩;refine ⟨by show p.nodes.n+1=_; omega,by show p.kids.n=_; omega,fun i hi=>?_,fun i hi=>by omega⟩;show (p.nodes.push _).get i=_;have e:i=p.nodes.n:=by omega
    rw [e,Sl.ED,<- e,show j=i by omega]
  ·have Z9:j=l.n:=by omega
   subst Z9;have d1:decide ((l.n:Int) < (l.n:Int))=false:=bq (by omega);rw [d1];simp only [cv,tI,cC,aj,aG];exact .inr ⟨_,_,rfl,rfl,rfl,rfl,q1,q2,q3,q4⟩) (x:=⟨stack,(stack.n:Int),0,⟨⟨0,(fun i=>⟨0,0⟩)⟩,⟨0,(fun i=>0)⟩⟩,⟨⟨0,(fun i=>⟨0,0⟩)⟩,⟨0,(fun i=>0)⟩⟩⟩) ⟨rfl,rfl,rfl,rfl,rfl,fun i hi=>absurd hi (oX _),fun i hi=>by omega⟩
 subst h2;exact ⟨x',h1,h3,h4⟩
def KY (s:b.aC) (o:Sl b.Path) (l:List (List (b.Handle×Nat))):Prop:=o.n=l.length/\∀ j w,l[j]? = some w->∃ g,rN s g w/\QC (o.get j) g w.length
theorem KY.push {s:b.aC} {o:Sl b.Path} {l:List (List (b.Handle×Nat))} (h:KY s o l) {w:List (b.Handle×Nat)} {g:Nat->b.eX} {p:b.Path} (hg:rN s g w) (hp:QC p g w.length):KY s (o.push p) (l++[w]):=by
 refine ⟨by show o.n+1=_; rw [kx,h.1]; rfl,fun j v hj=>?_⟩;by_cases hl:j < l.length
 ·rw [qH hl] at hj
  rw [Sl.Hz (by rw [h.1]; exact hl)];exact h.2 j v hj
 ·rw [tH (by omega)] at hj
  have e:j=l.length:=by
   obtain ⟨h3,_⟩:=cH.1 hj;simp only [List.length_singleton] at h3;omega
  subst e;rw [Nat.sub_self] at hj;have e2:w=v:=by simpa using hj
  subst e2;rw [<- h.1,Sl.ED];exact ⟨g,hg,hp⟩
structure Rel (s:b.aC) (x:b.cA) (y:St b.Handle):Prop where
 sc:x.s=s
 n:x.stack.n=y.1.length
 st:rN s x.stack.get y.1
 out:KY s x.out y.2
theorem round {s:b.aC} (hs:oT s) {x:b.cA} {h:b.Handle} {n:Nat} {r:List (b.Handle×Nat)} {out:List (List (b.Handle×Nat))} (hx:Rel s x ((h,n)::r,out)) (hb:out.length<=1000) :
  ((nx (lZ s) (gd s) (jE s) ((h,n)::r,out)).1≠[]/\∃ x',b.bP x = .next x'/\Rel s x' (nx (lZ s) (gd s) (jE s) ((h,n)::r,out)))\/
  ((nx (lZ s) (gd s) (jE s) ((h,n)::r,out)).1 = []/\∃ x',b.bP x = .out .ret x'/\x'.t3=0/\KY s x'.t2 (nx (lZ s) (gd s) (jE s) ((h,n)::r,out)).2):=by
 obtain ⟨t2,t3,o,stack,s'⟩:=x;obtain ⟨h1,h2,h3,h4⟩:=hx
 dsimp only at h1 h2 h3 h4
 subst h1;have hlen:=h3.len;have ap6:∀ i,i < stack.n->0<=(stack.get i).fa/\(stack.get i).fa<=1000:=fun i hi=>by
  obtain ⟨h',n',e,q1,q2⟩:=h3.at i (by omega);have:=abx hs q2;rw [e]
  dsimp only
  omega
 have h3':=h3;obtain ⟨g1,g2,g3,g4,g5⟩:=h3;obtain ⟨s1,s2,s3⟩:=LX hs g3;have hdg:=abx hs g3;simp only [qI] at h2 hlen;have e1:aP ((stack.n:Int) - 1)=(r.length:Int):=by rw [di (by omega) (by omega)]; omega
 have d1:decide ((0:Int)<=(r.length:Int))=true:=az (by omega);have d2:decide ((r.length:Int) < (stack.n:Int))=true:=az (by omega);have d2' : decide ((r.length:Int)<=(stack.n:Int))=true:=az (by omega);have d3:=az s1;have d4:=az s2;have d5:=az s3;have e5:aP ((n:Int)+1)=((n+1:Nat):Int):=by rw [di (by omega) (by omega)]; omega
 have e6:aP (((n+1:Nat):Int) - 1)=(n:Int):=by rw [di (by omega) (by omega)]; omega
 have d6:decide ((0:Int)<=(n:Int))=true:=az (by omega);have b1:(Nat.ble ((stack.n+1) * 24) 140737488355328&&Nat.ble (stack.n+1) 17592186044416)=true:=by
  rw [ao];exact ⟨Nat.ble_eq_true_of_le (by omega),Nat.ble_eq_true_of_le (by omega)⟩
 have b2:dQ 48 o.n 1=true:=by
  have:=h4.1;exact uG
 unfold b.bP b.jl
 dsimp only
 simp only [e1,Cz,ba,g1,fH,e5,e6,d1,d2,d2',d3,d4,d5,d6,b1,b2,cv,tI,cC,CA,aj];by_cases bj:n < lZ s' h
 ·have d7:decide ((n:Int) < (((s'.graph.kids.get h.slot.toNat).n:Nat):Int))=true:=az (by unfold lZ at bj; omega)
  rw [d7];simp only [aj];have en:nx (lZ s') (gd s') (jE s') ((h,n)::r,out)=((gd s' h n,0)::(h,n+1)::r,out):=by
   simp only [nx];rw [az bj,aj]
  rw [en];refine .inl ⟨by simp,_,rfl,⟨rfl,?_,?_,h4⟩⟩
  ·show stack.n+1=_
   simp only [qI];omega
  ·have hk:mv s'.graph.cD (gd s' h n):=Wz hs g3 bj
   have ht:∃ t,16 - r.length=t+1:=⟨16 - r.length - 1,by omega⟩
   obtain ⟨t,ht⟩:=ht;have WW:Cx (lZ s') (gd s') (16 - (r.length+1)) (gd s' h n):=by
    rw [ht] at g4;rw [show 16 - (r.length+1)=t by omega];exact g4 n bj
   have NB:(stack.set r.length ⟨h,((n+1:Nat):Int)⟩).n=r.length+1:=h2;refine ⟨?_,rQ _,hk,WW,?_,bj,g3,g4,?_⟩
   ·show (Sl.join _ _).get (r.length+1)=_
    rw [Sl.agf (by rw [NB]; exact aB _),NB,Nat.sub_self];rfl
   ·show (Sl.join _ _).get r.length=_
    rw [Sl.aa1 (by rw [NB]; exact P1 _),fH]
   ·refine g5.congr fun i hi=>?_
    show (Sl.join _ _).get i=_;rw [Sl.aa1 (by rw [NB]; omega),eD _ _ (by omega)]
 ·have d7:decide ((n:Int) < (((s'.graph.kids.get h.slot.toNat).n:Nat):Int))=false:=bq (by unfold lZ at bj; omega)
  rw [d7];simp only [aG];have en:nx (lZ s') (gd s') (jE s') ((h,n)::r,out)=(r,cond (jE s' h) (out++[(h,n)::r]) out):=by
   simp only [nx];rw [bq bj,aG]
  rw [en];have key:∀ (o' : Sl b.Path) (ajA:List (List (b.Handle×Nat))) (g:Nat->b.eX),(∀ i,i < r.length->g i=stack.get i)->KY s' o' ajA->
    (r≠[]/\∃ x',cond (decide ((r.length:Int) > 0)) (aX.next (⟨t2,t3,o',⟨r.length,g⟩,s'⟩:b.cA)) (.out .ret ⟨o',0,o',⟨r.length,g⟩,s'⟩) = .next x'/\Rel s' x' (r,ajA))\/
    (r = []/\∃ x',cond (decide ((r.length:Int) > 0)) (aX.next (⟨t2,t3,o',⟨r.length,g⟩,s'⟩:b.cA)) (.out .ret ⟨o',0,o',⟨r.length,g⟩,s'⟩) = .out .ret x'/\x'.t3=0/\KY s' x'.t2 ajA):=by
   intro o' ajA g hg ho;cases r with
   | nil=>exact .inr ⟨rfl,_,rfl,rfl,ho⟩
   | cons w r=>
    refine .inl ⟨by simp,?_⟩;rw [az (by simp only [qI]; omega),aj];exact ⟨_,rfl,rfl,rfl,g5.congr hg,ho⟩
  by_cases hm:jE s' h=true
  ·have Om:((s'.nodes.get h.slot.toNat).kind==5)=true:=hm
   rw [Om,hm];simp only [aj];obtain ⟨x',q1,q2,q3⟩:=aif stack (by omega) ap6;rw [q1];have es:zq (ah.exit 0) (ah.exit 0)=true:=rfl;simp only [aX.um,aX.kD,es,aj,q2];exact key _ _ _ (fun i hi=>rfl) (h4.push h3' (by simp only [qI]; rw [<- h2]; exact q3))
  ·rw [Bool.not_eq_true] at hm
   have Om:((s'.nodes.get h.slot.toNat).kind==5)=false:=hm;rw [Om,hm];simp only [aG];exact key _ _ _ (fun i hi=>rfl) h4
theorem amt (s:b.aC) (j:Nat) (y:St b.Handle):it (lZ s) (gd s) (jE s) (j+1) y=nx (lZ s) (gd s) (jE s) (it (lZ s) (gd s) (jE s) j y):=Nx j 1 y
theorem akE {s:b.aC} (hs:oT s) {y:St b.Handle} {r:Nat} (hr:r < gV) {agM:List (List (b.Handle×Nat))} (hF:it (lZ s) (gd s) (jE s) r y=([],agM)) (hl:agM.length<=1000) {x:b.cA} (hx:Rel s x y) (hy:y.1≠[]) :
  ∃ x',goN b.bP x = .out .ret x'/\x'.t3=0/\KY s x'.t2 agM:=by
 obtain ⟨e,x',h1,h2,h3,h4⟩:=jH (step:=b.bP) (fun j x=>Rel s x (it (lZ s) (gd s) (jE s) j y)/\(it (lZ s) (gd s) (jE s) j y).1≠[]) (fun e x=>e = .ret/\x.t3=0/\KY s x.t2 agM) r hr (fun j x hj hI=>by
  obtain ⟨q1,q2⟩:=hI;have bj:j < r:=by
   by_cases e:j=r
   ·subst e; rw [hF] at q2; exact absurd rfl q2
   ·omega
  have hn:=amt s j y;have hle:(it (lZ s) (gd s) (jE s) j y).2.length<=1000:=by
   have:=ajz (dg:=lZ s) (dS:=gd s) (fB:=jE s) (r - j) (it (lZ s) (gd s) (jE s) j y);rw [<- Nx,show j+(r - j)=r by omega,hF] at this;exact gS this hl
  revert q1 q2 hn hle
  generalize hz:it (lZ s) (gd s) (jE s) j y=z;obtain ⟨st,out⟩:=z;intro q1 q2 hn hle;cases st with
  | nil=>exact absurd rfl q2
  | cons w st=>
   obtain ⟨h,n⟩:=w;rcases round hs q1 hle with ⟨g1,x',g2,g3⟩ | ⟨g1,x',g2,g3,g4⟩
   ·exact .inl ⟨x',g2,bj,by rw [hn]; exact g3,by rw [hn]; exact g1⟩
   ·refine .inr ⟨_,x',g2,rfl,rfl,g3,?_⟩
    have e2:(nx (lZ s) (gd s) (jE s) ((h,n)::st,out))=([],(nx (lZ s) (gd s) (jE s) ((h,n)::st,out)).2):=by
     rw [<- g1]
    have e3:=Nx (dg:=lZ s) (dS:=gd s) (fB:=jE s) (j+1) (r - (j+1)) y;rw [hn,e2,aeo,show j+1+(r - (j+1))=r by omega,hF] at e3;have e4:agM=(nx (lZ s) (gd s) (jE s) ((h,n)::st,out)).2:=congrArg (·.2) e3;rw [e4];exact g4) (x:=x) ⟨hx,hy⟩
 subst h2;exact ⟨x',h1,h3,h4⟩
theorem amu {s:b.aC} (h:Down s):∀ (t:Nat) (x:b.Handle) (i:Nat),x.slot=(i:Int)->i < s.graph.kids.n->Cx (dg s.graph) (ch s.graph) t i->Cx (lZ s) (gd s) t x
 | 0,_,_,_,_,hl=>hl.elim
 | t+1,x,i,hx,hi,hl=>fun k hk=>by
  unfold lZ at hk;unfold gd;rw [hx,Cz] at hk ⊢;exact amu h t _ _ (h.slot hi hk) (h.chl i hi k hk) (hl k hk)
theorem amv {s:b.aC} (h:Down s):∀ (t:Nat) (x:b.Handle) (i:Nat),x.slot=(i:Int)->i < s.graph.kids.n->Nw (lZ s) (gd s) (jE s) t x=Nw (dg s.graph) (ch s.graph) (J9 s) t i
 | 0,_,_,_,_=>rfl
 | t+1,x,i,hx,hi=>by
  have e1:jE s x=J9 s i:=by unfold jE J9; rw [hx,Cz]
  have e2:lZ s x=dg s.graph i:=by unfold lZ dg; rw [hx,Cz]
  rw [Nw,Nw,e1,e2];congr 1;refine Nv _ fun k hk=>?_;refine amv h t _ _ ?_ (h.chl i hi k hk);unfold gd;rw [hx,Cz];exact h.slot hi hk
def ways (s:b.aC):List (List Nat):=vU (lZ s) (gd s) (jE s) 16 s.root
structure WN (s:b.aC) (p:b.Path) (ks:List Nat):Prop where
 n:p.kids.n=ks.length
 is:∀ (i k:Nat),ks[i]? = some k->p.kids.get i=(k:Int)
 leads:amg s p.kids
 at_:ajt s p.kids p.nodes
theorem ac4 {s:b.aC} : ∀ (ks:List Nat) (h:b.Handle) (st:List (b.Handle×Nat)) (g:Nat->b.eX),rN s g (n3 (lZ s) (gd s) st h ks)->
  (n3 (lZ s) (gd s) st h ks).length=st.length+ks.length+1/\(g st.length).h=h/\(∀ i k:Nat,ks[i]? = some k->(g (st.length+i)).fa=(k:Int)+1/\k < lZ s (g (st.length+i)).h/\(g (st.length+(i+1))).h=gd s (g (st.length+i)).h k)
 | [],h,st,g,hi=>⟨rfl,by rw [hi.1],fun i k hk=>by simp at hk⟩
 | k::ks,h,st,g,hi=>by
  obtain ⟨h1,h2,h3⟩:=ac4 ks (gd s h k) ((h,k+1)::st) g hi;have below:∀ (ks:List Nat) (h:b.Handle) (w:List (b.Handle×Nat)),rN s g (n3 (lZ s) (gd s) w h ks)->rN s g w:=by
   intro ks
   induction ks with
   | nil=>exact fun h w q=>q.2.2.2.2
   | cons k ks ih=>exact fun h w q=>(ih _ _ q).2.2.2.2
  have hb:=below ks _ _ hi;simp only [qI] at h1 h2 h3;refine ⟨by rw [show n3 (lZ s) (gd s) st h (k::ks)=n3 (lZ s) (gd s) ((h,k+1)::st) (gd s h k) ks from rfl,h1]; simp only [qI]; omega,by rw [hb.1],fun i k' hk=>?_⟩;cases i with
  | zero=>
   simp only [List.getElem?_cons_zero,bN] at hk;subst hk;rw [ye,ba,h2,hb.1];refine ⟨by push_cast; rfl,hb.2.1,rfl⟩
  | succ i=>
   simp only [L9] at hk;have:=h3 i k' hk;rw [show st.length+1+i=st.length+(i+1) by omega,show st.length+1+(i+1)=st.length+(i+1+1) by omega] at this;exact this
theorem anh {s:b.aC} {p:b.Path} {g:Nat->b.eX} {ks:List Nat} (hg:rN s g (n3 (lZ s) (gd s) [] s.root ks)) (hp:QC p g (n3 (lZ s) (gd s) [] s.root ks).length):WN s p ks:=by
 obtain ⟨h1,h2,h3⟩:=ac4 ks s.root [] g hg;simp only [List.length_nil,ba] at h1 h2 h3;rw [h1] at hp;obtain ⟨q1,q2,q3,q4⟩:=hp;have his:∀ (i k:Nat),ks[i]? = some k->p.kids.get i=(k:Int):=fun i k hk=>by
  obtain ⟨hl,_⟩:=cH.1 hk;rw [q4 i (by omega),(h3 i k hk).1];omega
 have uO:∀ i,i<=ks.length->hAt s p.kids i=(g i).h/\∀ j,j < i->YQ s p.kids j:=by
  intro i
  induction i with
  | zero=>exact fun _=>⟨h2.symm,fun j hj=>absurd hj (oX _)⟩
  | succ i ih=>
   intro hi;obtain ⟨e,gZ⟩:=ih (by omega);have hk:ks[i]? = some ks[i]:=cK (by omega);have hh:=h3 i _ hk;have hki:=his i _ hk;refine ⟨?_,fun j hj=>?_⟩
   ·show (s.graph.kids.get (hAt s p.kids i).slot.toNat).get (p.kids.get i).toNat=_
    rw [e,hki,Cz,hh.2.2];rfl
   ·by_cases ej:j=i
    ·subst ej
     have:=hh.2.1;unfold lZ at this;unfold YQ;rw [hki,e];omega
    ·exact gZ j (by omega)
 refine ⟨by omega,his,fun j hj=>(uO (j+1) (by omega)).2 j (P1 _),by omega,fun i hi=>?_⟩;rw [(uO i (by omega)).1];exact q3 i (by omega)
theorem ajB {s:b.aC} (hs:oT s):∀ h,mv s.graph.cD h->∀ k,k < lZ s h->mv s.graph.cD (gd s h k):=fun h hh k hk=>Wz hs hh hk
theorem ani {s:b.aC} (hs:oT s):∀ h,mv s.graph.cD h->jE s h=true->lZ s h=0:=fun h hh hm=>by
 have:=LX hs hh;refine (hs.2.2.2.1 h.slot.toNat (by omega)).2.2 ?_;unfold jE at hm;exact eq_of_beq hm
theorem agN {s:b.aC} (ve:Fz s) (hs:oT s):∃ l e,b.gb s=some (l,e)/\
  ((s.root=DC/\l.n=0/\e=0)\/(s.root≠DC/\l.n=0/\e=120)\/
   (s.root≠DC/\mv s.graph.cD s.root/\Cx (lZ s) (gd s) 16 s.root/\e=0/\l.n<=256/\l.n=(ways s).length/\∀ (j:Nat) ks,(ways s)[j]? = some ks->WN s (l.get j) ks)):=by
 obtain ⟨e,h1,h2⟩:=aba s ve;have he:e=0:=by
  rcases h2 with h | h
  ·exact h.1
  ·exact absurd hs h.2
 subst he;unfold b.gb;rw [h1];simp only [iG,fv,aj];have hz:((0:Int) != 0)=false:=rfl;rw [hz,aG];by_cases hr:s.root=DC
 ·have:((s.root.slot==0)&&((s.root.gen==0)&&true))=true:=(agv s.root DC).2 hr
  rw [this,aj];exact ⟨_,_,rfl,.inl ⟨hr,rfl,rfl⟩⟩
 ·have:((s.root.slot==0)&&((s.root.gen==0)&&true))=false:=by
   rw [<- Bool.not_eq_true];exact fun h=>hr ((agv s.root DC).1 h)
  rw [this,aG];have hh:mv s.graph.cD s.root:=by
   rcases hs.2.2.2.2 with h | h
   ·exact absurd h hr
   ·exact h
  obtain ⟨s1,s2,s3⟩:=LX hs hh;obtain ⟨r,er⟩:∃ r:Nat,s.root.slot=(r:Int):=⟨s.root.slot.toNat,by omega⟩
  have hd:=agJ hs;have hi:r < s.graph.kids.n:=by omega
  obtain ⟨c,c1,c2,c3,c4⟩:=aen hd er hi;have c1a:(b.dY s).isSome=true:=by rw [c1]; rfl
  have c1b:(b.dY s).getD default=c:=by rw [c1]; rfl
  rw [c1a,c1b,aj];have d1:decide ((0:Int)<=s.root.slot)=true:=az s1;have d2:decide (s.root.slot < (c.1.n:Int))=true:=az (by have:=c2.n1; omega);have d3:decide (s.root.slot < (c.2.n:Int))=true:=az (by have:=c2.n2; omega);have en:s.root.slot.toNat=r:=by omega
  rw [d1,d2,d3,en];simp only [cC,aj];by_cases V9:c.1.get r > 16
  ·rw [az V9,aj]
   exact ⟨_,_,rfl,.inr (.inl ⟨hr,rfl,rfl⟩)⟩
  rw [bq V9,aG];by_cases Wy:c.2.get r > 256
  ·rw [az Wy,aj]
   exact ⟨_,_,rfl,.inr (.inl ⟨hr,rfl,rfl⟩)⟩
  rw [bq Wy,aG];have Ld:Cx (dg s.graph) (ch s.graph) s.graph.kids.n r:=U6 hd.chl hd.free r hi;have Zg:Cx (dg s.graph) (ch s.graph) 16 r:=(agI _ _ Ld).le (by rw [c3] at V9; unfold hH at V9; omega);have hl:Cx (lZ s) (gd s) 16 s.root:=amu hd 16 s.root r er hi Zg;have ap7:Nw (dg s.graph) (ch s.graph) (J9 s) 16 r=mH s r:=by
   unfold mH;by_cases hq:s.graph.kids.n<=16
   ·exact ajx Ld hq
   ·exact (ajx Zg (by omega)).symm
  have hlen:(ways s).length<=256:=by
   have:=abq (ajB hs) (ani hs) 16 s.root hh;rw [amv hd 16 s.root r er hi,ap7] at this;unfold ways;omega
  obtain ⟨rr,r1,r2,r3⟩:=visit (fB:=jE s) (ajB hs) (fun h hh=>abx hs hh) 16 s.root hh hl [] [];have hrel:Rel s (b.qv s) ([(s.root,0)],[]):=⟨rfl,rfl,⟨rfl,rQ _,hh,hl,trivial⟩,⟨rfl,fun j w hj=>by simp at hj⟩⟩
  have Rv:∀ l,KY s l ([]++(vU (lZ s) (gd s) (jE s) 16 s.root).map (n3 (lZ s) (gd s) [] s.root))->(s.root≠DC/\mv s.graph.cD s.root/\Cx (lZ s) (gd s) 16 s.root/\(0:Int)=0/\l.n<=256/\l.n=(ways s).length/\∀ (j:Nat) ks,(ways s)[j]? = some ks->WN s (l.get j) ks):=by
   intro l hq;obtain ⟨q1,q2⟩:=hq;rw [List.nil_append,List.length_map] at q1;refine ⟨hr,hh,hl,rfl,by unfold ways at hlen; omega,q1,fun j ks hj=>?_⟩;obtain ⟨g,g1,g2⟩:=q2 j (n3 (lZ s) (gd s) [] s.root ks) (by
    rw [List.nil_append,oW];unfold ways at hj;rw [hj];rfl)
   exact anh g1 g2
  have anj:([]++(vU (lZ s) (gd s) (jE s) 16 s.root).map (n3 (lZ s) (gd s) [] s.root)).length<=1000:=by
   rw [List.nil_append,List.length_map];unfold ways at hlen;omega
  obtain ⟨m,rfl⟩:∃ m,rr=m+1:=⟨rr - 1,by omega⟩
  have hnx:it (lZ s) (gd s) (jE s) m (nx (lZ s) (gd s) (jE s) ([(s.root,0)],[]))=([],[]++(vU (lZ s) (gd s) (jE s) 16 s.root).map (n3 (lZ s) (gd s) [] s.root)):=r3;rcases round hs hrel (rQ _) with ⟨g1,x',g2,g3⟩ | ⟨g1,x',g2,g3,g4⟩
  ·rw [g2,b.ac3]
   obtain ⟨y,y1,y2,y3⟩:=akE hs (r:=m) (by unfold gV; omega) hnx anj g3 g1;rw [y1];have e1:(aX.out ah.ret y).by (ah.exit 999983)=false:=rfl
   have e2:(aX.out ah.ret y).by ah.ret=true:=rfl
   rw [e1,e2,aG,aj];refine ⟨_,_,rfl,.inr (.inr ?_)⟩;rw [aX.kD,y2];exact Rv _ y3
  ·rw [g2]
   refine ⟨_,_,rfl,.inr (.inr ?_)⟩;rw [g3];refine Rv _ ?_;have e2:(nx (lZ s) (gd s) (jE s) ([(s.root,0)],[]))=([],(nx (lZ s) (gd s) (jE s) ([(s.root,0)],[])).2):=Prod.ext g1 rfl;rw [e2,aeo] at hnx;have e4:=congrArg (·.2) hnx
   dsimp only at e4
   rw [<- e4];exact g4
theorem aih {s:b.aC} (ve:Fz s) (hs : ¬ oT s):∃ l,b.gb s=some (l,8)/\l.n=0:=by
 obtain ⟨e,h1,h2⟩:=aba s ve;have he:e=8:=by
  rcases h2 with h | h
  ·exact absurd h.2 hs
  ·exact h.1
 subst he;unfold b.gb;rw [h1];exact ⟨_,rfl,rfl⟩
end Go.Proofs.Ytckbdndhmcoihaa.sc
end
section
namespace Go.Proofs.Ytckbdndhmcoihaa.b
open Go.K
noncomputable section
theorem aer (s:Sl Place) (v:Place):s.push v=au (fun e=>Nq (ik Try.prog (ca Try.prog 5) 75 e)) (s.n+1) (av s.n (fun i=>DK (s.get i)) (cZ [DK v])):=(fP (p:=fun e=>Nq (ik Try.prog (ca Try.prog 5) 75 e)) (fun x=>by kernel_rfl) (by kernel_rfl) s v).symm
structure jQ where
 t2:(Sl Place)
 t3:Int
 out:(Sl Place)
 t19:(Sl Path)
 t20:Int
 t21:Int
 s:aC
instance:Inhabited jQ:=⟨by constructor<;>exact default⟩
def Ax (x:jQ):List KV:=[dG 75 DK x.t2,.int .i64 x.t3,dG 75 DK x.out,dG 50 IZ x.t19,.int .i64 x.t20,.int .i64 x.t21]
def Ay (x:jQ):List (List KV):=[zt x.s]
def GJ (vs:List KV) (rs:List (List KV)):jQ:=⟨eF Nq (v9 vs 0),ax (v9 vs 1),eF Nq (v9 vs 2),eF KN (v9 vs 3),ax (v9 vs 4),ax (v9 vs 5),zu (r9 rs 0)⟩
def Jj:aJ:=⟨[(2,w9 (n9 75)),(3,w9 i9),(6,⟨false,[.aO 75]⟩),(19,w9 (n9 50)),(20,w9 i9),(21,w9 i9)],[(1,[n9 139,n9 47,n9 64,n9 79,n9 118,i9,i9],1)],[(1,0,0)]⟩
def QW:=Cv [(21,Jg),(9,rM)] [] 8 250 Jj
def oU (x:jQ):=vT x.s (x.t19.get (Int.toNat x.t21))
def fG (x:jQ):aX jQ:=(cond (decide (x.t21 < x.t20)) (cond ((decide (0<=x.t21))&&(decide (x.t21 < (x.t19.n:Int)))) (cond (oU x).isSome (cond (((oU x).getD default).snd != 0) (cond (ai x.out.n x.out.n) (.out aI.ah.ret ⟨⟨0,(fun i=>⟨⟨⟨0,(fun i=>⟨0,0,0⟩)⟩,⟨0,(fun i=>⟨0,0⟩)⟩,⟨0,(fun i=>⟨0,0,0⟩)⟩,⟨⟨0,0,0,0⟩,0,0,0,false,0⟩,⟨⟨0,0,0⟩,⟨0,0,0⟩⟩⟩,false,⟨0,(fun i=>⟨⟨0,0,0⟩,0,0⟩)⟩⟩)⟩,((oU x).getD default).snd,x.out,x.t19,x.t20,x.t21,x.s⟩) .fail) (cond ((ai x.out.n x.out.n)&&(dQ 200 x.out.n 1)) (cond (ai (x.out.n+1) (x.out.n+1)) (.next ⟨x.t2,x.t3,(x.out.push ((oU x).getD default).fst),x.t19,x.t20,(aP (x.t21+1)),x.s⟩) .fail) .fail)) .fail) .fail) (cond (ai x.out.n x.out.n) (.out (aI.ah.exit 0) x) .fail))
theorem Oe (x:jQ):QW (Ax x) (Ay x)=aX.enc Ax Ay (fG x):=by
 unfold fG
 try simp only [aX.cJ,aer]
 kernel_rfl
def Jk:Lp:=⟨8,250,Jj,fun vs rs=>dU Ax Ay (goN fG (GJ vs rs)) [aI.ah.exit 0,aI.ah.ret],false⟩
theorem QX:Jk.Ok PG:=C8 (ak.cons J7 (ak.cons o8 ak.nil)) bu.nil (pa:=GJ) Oe
def oj (s:aC):=gb s
def fS (s:aC):=goN fG ⟨⟨0,(fun i=>⟨⟨⟨0,(fun i=>⟨0,0,0⟩)⟩,⟨0,(fun i=>⟨0,0⟩)⟩,⟨0,(fun i=>⟨0,0,0⟩)⟩,⟨⟨0,0,0,0⟩,0,0,0,false,0⟩,⟨⟨0,0,0⟩,⟨0,0,0⟩⟩⟩,false,⟨0,(fun i=>⟨⟨0,0,0⟩,0,0⟩)⟩⟩)⟩,0,⟨0,(fun i=>⟨⟨⟨0,(fun i=>⟨0,0,0⟩)⟩,⟨0,(fun i=>⟨0,0⟩)⟩,⟨0,(fun i=>⟨0,0,0⟩)⟩,⟨⟨0,0,0,0⟩,0,0,0,false,0⟩,⟨⟨0,0,0⟩,⟨0,0,0⟩⟩⟩,false,⟨0,(fun i=>⟨⟨0,0,0⟩,0,0⟩)⟩⟩)⟩,((oj s).getD default).fst,(((oj s).getD default).fst.n:Int),0,s⟩
def vX (s:aC):Option ((Sl Place)×Int):=(cond (oj s).isSome (cond (((oj s).getD default).snd != 0) (some (⟨0,(fun i=>⟨⟨⟨0,(fun i=>⟨0,0,0⟩)⟩,⟨0,(fun i=>⟨0,0⟩)⟩,⟨0,(fun i=>⟨0,0,0⟩)⟩,⟨⟨0,0,0,0⟩,0,0,0,false,0⟩,⟨⟨0,0,0⟩,⟨0,0,0⟩⟩⟩,false,⟨0,(fun i=>⟨⟨0,0,0⟩,0,0⟩)⟩⟩)⟩,((oj s).getD default).snd)) (cond ((fS s).by (aI.ah.exit 0)) (some ((fS s).st.out,0)) (cond ((fS s).by aI.ah.ret) (some ((fS s).st.t2,(fS s).st.t3)) none))) none)
theorem WO (s:aC):rv [(21,Jg),(9,rM)] [Jk] 8 [kC s] = (vX s).map (fun (r:(Sl Place)×Int)=>KV.l8 [(dG 75 DK) r.1,(kI .i64) r.2]):=by
 unfold vX
 try simp only [cf]
 kernel_rfl
def yY:List KV->KR KV:=b5 PG 8 (cg (fun (r:(Sl Place)×Int)=>KV.l8 [(dG 75 DK) r.1,(kI .i64) r.2]) fun vs=>vX (eP (v9 vs 0)))
theorem yp:bZ PG 8 yY:=ee (ak.cons J7 (ak.cons o8 ak.nil)) (rH QX bu.nil) fun w=>WO (eP (g0 34 (w 0)))
def xP (a:Int) (b:Int):Option (Int):=(some ((ajf ((ajf (max a b)) - (ajf (min a b))))))
theorem Yk (a:Int) (b:Int):rv [] [] 32 [(kI .i64) a,(kI .i64) b] = (xP a b).map (kI .u64):=by
 unfold xP
 kernel_rfl
def RH:List KV->KR KV:=b5 PG 32 (cg (kI .u64) fun vs=>xP (ax (v9 vs 0)) (ax (v9 vs 1)))
theorem WQ:bZ PG 32 RH:=ee ak.nil bu.nil fun w=>Yk (ax (g0 3 (w 0))) (ax (g0 3 (w 1)))
def vY (d:Int) (n:Int):Option (Bool):=(cond (decide (n<=0)) (some (true)) (some ((decide (d >= (ajf n))))))
theorem S9 (d:Int) (n:Int):rv [] [] 33 [(kI .u64) d,(kI .i64) n] = (vY d n).map kB:=by
 unfold vY
 try simp only [cf]
 kernel_rfl
def L5:List KV->KR KV:=b5 PG 33 (cg kB fun vs=>vY (ax (v9 vs 0)) (ax (v9 vs 1)))
theorem QY:bZ PG 33 L5:=ee ak.nil bu.nil fun w=>S9 (ax (g0 113 (w 0))) (ax (g0 3 (w 1)))
def Gn (g:Gate) (from_:fp):=xP g.eZ.x from_.x
def Gp (g:Gate) (from_:fp):=xP g.eZ.y from_.y
def Gq (g:Gate) (from_:fp):=xP g.eZ.z from_.z
def NY (g:Gate) (from_:fp):=vY (max (max ((Gn g from_).getD default) ((Gp g from_).getD default)) ((Gq g from_).getD default)) g.from_
def NZ (g:Gate) (from_:fp):=vY (max (max ((Gn g from_).getD default) ((Gp g from_).getD default)) ((Gq g from_).getD default)) g.to_
def xQ (g:Gate) (from_:fp):Option (Bool):=(cond (Gn g from_).isSome (cond (Gp g from_).isSome (cond (Gq g from_).isSome (cond (NY g from_).isSome (cond ((NY g from_).getD default) (cond (NZ g from_).isSome (some ((!((NZ g from_).getD default)))) none) (some (false))) none) none) none) none)
theorem Yl (g:Gate) (from_:fp):rv [(33,L5),(32,RH)] [] 16 [abm g,oP from_] = (xQ g from_).map kB:=by
 unfold xQ
 try simp only [cf]
 kernel_rfl
def RI:List KV->KR KV:=b5 PG 16 (cg kB fun vs=>xQ (WG (v9 vs 0)) (kQ (v9 vs 1)))
theorem WR:bZ PG 16 RI:=ee (ak.cons QY (ak.cons WQ ak.nil)) bu.nil fun w=>Yl (WG (g0 87 (w 0))) (kQ (g0 36 (w 1)))
def RJ:List (Nat×(List KV->KR KV)):=[(16,RI)]
def RK:List Lp:=[]
theorem Ym:ak PG RJ:=(ak.cons WR ak.nil)
theorem Yn:bu PG RK:=bu.nil
def PN  : (Option Bool):=(xQ (⟨(⟨(0:Int),(0:Int),(0:Int)⟩:fp),(2:Int),(5:Int)⟩:Gate) (⟨(0:Int),(-(2:Int)),(1:Int)⟩:fp))
def PO  : (Option Bool):=(xQ (⟨(⟨(0:Int),(0:Int),(0:Int)⟩:fp),(2:Int),(5:Int)⟩:Gate) (⟨(5:Int),(0:Int),(0:Int)⟩:fp))
def PQ  : (Option Bool):=(xQ (⟨(⟨(0:Int),(0:Int),(0:Int)⟩:fp),(0:Int),(0:Int)⟩:Gate) (⟨(0:Int),(0:Int),(0:Int)⟩:fp))
def DN  : Option (Bool):=(cond PN.isSome (cond (PN.getD default) (cond PO.isSome (cond (!(PO.getD default)) (cond PQ.isSome (some ((!(PQ.getD default)))) none) (some (false))) none) (some (false))) none)
theorem aby  : FT PG (rG PG RJ RK (fun q=>Nat.beq q 3)) 9 9 6 [] = (DN ).map kB:=by
 unfold DN
 try simp only [cf]
 kernel_rfl
def DP:List KV->KR KV:=b5 PG 6 (cg kB fun vs=>DN )
theorem BD:bZ PG 6 DP:=ee Ym Yn fun w=>aby
end
end Go.Proofs.Ytckbdndhmcoihaa.b
end
section
namespace Go.Proofs.Ytckbdndhmcoihaa.sc
open Go Go.K Go.aI Go.Au Go.Proofs.Ytckbdndhmcoihaa.nodes
theorem ac5 {H:Type} (dS:H->Nat->H):∀ (l:List Nat) (h:H) (k:Nat),goH dS h (l++[k])=dS (goH dS h l) k
 | [],_,_=>rfl
 | a::l,h,k=>ac5 dS l (dS h a) k
structure PR (kids:Sl Int) (ks:List Nat):Prop where
 n:kids.n=ks.length
 is:∀ (i k:Nat),ks[i]? = some k->kids.get i=(k:Int)
theorem PR.at {kids:Sl Int} {ks:List Nat} (h:PR kids ks) {i:Nat} (hi:i < ks.length):kids.get i=((ks[i] : Nat):Int):=h.is i _ (cK hi)
theorem ajC {s:b.aC} {kids:Sl Int} {ks:List Nat} (h:PR kids ks):∀ i,i<=ks.length->hAt s kids i=goH (gd s) s.root (ks.take i)
 | 0,_=>by rw [List.take_zero]; rfl
 | i+1,hi=>by
  rw [List.take_succ_eq_append_getElem (by omega),ac5,<- ajC h i (by omega)];show (s.graph.kids.get (hAt s kids i).slot.toNat).get (kids.get i).toNat=_;rw [h.at (by omega),Cz];rfl
theorem amw {s:b.aC} {kids:Sl Int} {ks:List Nat} (h:PR kids ks):hAt s kids ks.length=goH (gd s) s.root ks:=by
 rw [ajC h _ (aB _),List.take_length]
theorem akF {s:b.aC} (ve:Fz s) (hon:aju s) (hs:oT s) (hr:s.root≠DC) (hl:Cx (lZ s) (gd s) 16 s.root) {j:Nat} {ks:List Nat} (qx:(ways s)[j]? = some ks) {p:b.Path} (hp:WN s p ks):uq s p:=by
 have hm:=gi qx;obtain ⟨h1,h2⟩:=abr _ _ _ hm;have h3:=U8 _ _ _ hm;have h4:=S7 (mF:=lZ s) (c:=gd s) 16 s.root;have hk:PR p.kids ks:=⟨hp.n,hp.is⟩
 have hn:=hp.n;refine ⟨ve,hon,⟨hs,hr,hp.leads,hp.at_⟩,by omega,?_⟩;have e:=hp.at_.2 p.kids.n (aB _);unfold nodeAt;rw [e,hn,amw hk];exact Fa.1 h2
theorem aes {s:b.aC} (l:Sl b.Path) (hl:l.n<=256) (ht:∀ j,j < l.n->uq s (l.get j)) (z o:Sl b.Place) (ho:o.n=0) :
  (∃ x',goN b.fG ⟨z,0,o,l,(l.n:Int),0,s⟩ = .out (.exit 0) x'/\x'.out.n=l.n/\∀ j,j < l.n->L3 s (l.get j) (x'.out.get j) 0)\/
  ∃ x',goN b.fG ⟨z,0,o,l,(l.n:Int),0,s⟩ = .out .ret x'/\x'.t2.n=0/\x'.t3=20:=by
 obtain ⟨e',x',q1,q2⟩:=jH (step:=b.fG)
  (fun j x=>x.t2=z/\x.t3=0/\x.t19=l/\x.t20=(l.n:Int)/\x.t21=(j:Int)/\x.s=s/\x.out.n=j/\∀ k,k < j->L3 s (l.get k) (x.out.get k) 0)
  (fun e' x'=>(e' = .exit 0/\x'.out.n=l.n/\∀ j,j < l.n->L3 s (l.get j) (x'.out.get j) 0)\/(e' = .ret/\x'.t2.n=0/\x'.t3=20))
  l.n (by unfold gV; omega) (by
   rintro j ⟨t2,t3,out,t19,t20,t21,xs⟩ hj ⟨i1,i2,i3,i4,i5,i6,i7,i8⟩
   dsimp only at i1 i2 i3 i4 i5 i6 i7 i8
   subst i1 i2 i3 i4 i5 i6;unfold b.fG b.oU
   dsimp only
   have ej:Int.toNat (j:Int)=j:=rfl;by_cases bj:j < t19.n
   ·have d1:decide ((j:Int) < (t19.n:Int))=true:=az (by omega)
    have d2:decide ((0:Int)<=(j:Int))=true:=az (by omega);have e1:aP ((j:Int)+1)=((j+1:Nat):Int):=by rw [di (by omega) (by omega)]; omega
    have a1:dQ 200 out.n 1=true:=uG;obtain ⟨x,e,p1,p2⟩:=agH (ht j bj);rw [d1,d2,ej,e1,a1,p1];simp only [↓aj,↓aG,cv,cC,iG,fv];rcases p2.err with rfl | rfl
    ·rw [show ((0:Int) != 0)=false from rfl]
     refine .inl ⟨_,rfl,by omega,rfl,rfl,rfl,rfl,rfl,rfl,by show out.n+1=j+1; omega,fun k hk=>?_⟩;show L3 xs (t19.get k) ((out.push x).get k) 0;by_cases c:k=j
     ·subst c
      have:=Sl.ED (s:=out) (v:=x);rw [i7] at this;rw [this];exact p2
     ·rw [Sl.Hz (by omega)]
      exact i8 k (by omega)
    ·rw [show ((20:Int) != 0)=true from rfl]
     exact .inr ⟨_,_,rfl,rfl,.inr ⟨rfl,rfl,rfl⟩⟩
   ·have:j=t19.n:=by omega
    subst this;rw [bq (Int.lt_irrefl _)];simp only [↓aj,↓aG,cv];exact .inr ⟨_,_,rfl,rfl,.inl ⟨rfl,i7,i8⟩⟩) (x:=⟨z,0,o,l,(l.n:Int),0,s⟩) ⟨rfl,rfl,rfl,rfl,rfl,rfl,ho,fun k hk=>absurd hk (oX _)⟩
 rcases q2 with ⟨rfl,q3,q4⟩ | ⟨rfl,q3,q4⟩
 ·exact .inl ⟨x',q1,q3,q4⟩
 ·exact .inr ⟨x',q1,q3,q4⟩
structure amx (s:b.aC) (l:Sl b.Place) (p:Sl b.Path):Prop where
 n:l.n=p.n
 Wx:p.n<=256
 low:0 < p.n->oT s
 way:∀ j,j < p.n->∃ ks,(ways s)[j]? = some ks/\WN s (p.get j) ks/\uq s (p.get j)
 ok:∀ j,j < p.n->L3 s (p.get j) (l.get j) 0
theorem agO {s:b.aC} (ve:Fz s) (hon:aju s):∃ l e p f,b.vX s=some (l,e)/\b.gb s=some (p,f)/\((e≠0/\l.n=0/\(f≠0\/e=20))\/(e=0/\f=0/\amx s l p)):=by
 unfold b.vX b.oj;by_cases hs:oT s
 ·obtain ⟨p,f,h1,h2⟩:=agN ve hs
  have fin:f=0->p.n<=256->(∀ j,j < p.n->∃ ks,(ways s)[j]? = some ks/\WN s (p.get j) ks/\uq s (p.get j))->∃ l e p' f',cond (b.gb s).isSome (cond (((b.gb s).getD default).snd != 0) (some (⟨0,(fun i=>⟨⟨⟨0,(fun i=>⟨0,0,0⟩)⟩,⟨0,(fun i=>⟨0,0⟩)⟩,⟨0,(fun i=>⟨0,0,0⟩)⟩,⟨⟨0,0,0,0⟩,0,0,0,false,0⟩,⟨⟨0,0,0⟩,⟨0,0,0⟩⟩⟩,false,⟨0,(fun i=>⟨⟨0,0,0⟩,0,0⟩)⟩⟩)⟩,((b.gb s).getD default).snd)) (cond ((b.fS s).by (aI.ah.exit 0)) (some ((b.fS s).st.out,0)) (cond ((b.fS s).by aI.ah.ret) (some ((b.fS s).st.t2,(b.fS s).st.t3)) none))) none=some (l,e)/\b.gb s=some (p',f')/\((e≠0/\l.n=0/\(f'≠0\/e=20))\/(e=0/\f' = 0/\amx s l p')):=by
   rintro rfl hn hw;rw [h1];simp only [iG,fv,aj];rw [show ((0:Int) != 0)=false from rfl,aG];have e1:b.fS s=goN b.fG ⟨⟨0,fun i=>Nt⟩,0,⟨0,fun i=>Nt⟩,p,(p.n:Int),0,s⟩:=by
    unfold b.fS b.oj;rw [h1];rfl
   rcases aes p hn (fun j hj=>by obtain ⟨_,_,_,q⟩:=hw j hj; exact q) ⟨0,fun i=>Nt⟩ ⟨0,fun i=>Nt⟩ rfl with ⟨x',q1,q2,q3⟩ | ⟨x',q1,q2,q3⟩
   ·rw [e1,q1]
    exact ⟨_,_,_,_,rfl,rfl,.inr ⟨rfl,rfl,q2,hn,fun _=>hs,hw,q3⟩⟩
   ·rw [e1,q1]
    refine ⟨_,_,_,_,rfl,rfl,.inl ⟨?_,q2,.inr q3⟩⟩;show x'.t3≠0;rw [q3]; decide
  rcases h2 with ⟨hr,hn,hf⟩ | ⟨hr,hn,rfl⟩ | ⟨hr,hh,hl,hf,h3,h4,h5⟩
  ·exact fin hf (by omega) fun j hj=>absurd hj (by omega)
  ·rw [h1]
   exact ⟨_,_,_,_,rfl,rfl,.inl ⟨show (120:Int)≠0 by decide,rfl,.inl (by decide)⟩⟩
  ·refine fin hf h3 fun j hj=>?_
   have Ab:j < (ways s).length:=by omega
   have qx:(ways s)[j]? = some (ways s)[j]:=cK Ab;exact ⟨_,qx,h5 j _ qx,akF ve hon hs hr hl qx (h5 j _ qx)⟩
 ·obtain ⟨p,h1,h2⟩:=aih ve hs
  rw [h1];exact ⟨_,_,_,_,rfl,rfl,.inl ⟨show (8:Int)≠0 by decide,rfl,.inl (by decide)⟩⟩
end Go.Proofs.Ytckbdndhmcoihaa.sc
end
section
namespace Go.Proofs.Ytckbdndhmcoihaa.sc
open Go Go.K Go.Proofs.Ytckbdndhmcoihaa.nodes
structure L6 (s:b.aC):Prop where
 cp:∀ i,i < s.nodes.n->Qx (s.nodes.get i).bF
 on:∀ i,i < s.nodes.n->U16 (s.nodes.get i).sh
 kind:∀ i,i < s.eO.n->I3 (s.eO.get i)
theorem L6.inn {s:b.aC} (h:L6 s) (hf:Few s):Fz s:=
 ⟨fun i hi=>⟨h.cp i hi,by have:=hf.fo i hi; omega⟩,h.kind,by have:=hf.cN; omega,by have:=hf.nodes; omega,by have:=hf.eO; omega,by have:=hf.j6; omega⟩
end Go.Proofs.Ytckbdndhmcoihaa.sc
end
