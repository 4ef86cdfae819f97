/- Part of the proof of WorldLevels: the machine, shown to be the model's, and plain models. No conditions. -/
import Derived.Test.YtckbdndhmcoihaaIp
import Derived.Test.YtckbdndhmcoihaaHp
import Derived.Test.YtckbdndhmcoihaaGp
import Derived.Deep.RegionHeld3
set_option linter.unusedSimpArgs false
set_option linter.unusedVariables false
section
namespace Go.Proofs.Ytckbdndhmcoihaa.b
open Go.K
noncomputable section
structure iV where
 t5:Int
 aW:(Sl dt)
 t81:(Sl dI)
 t82:Int
 t83:Int
 t4:Place
 w:A9
 out:Place
 m:gW
instance:Inhabited iV:=⟨by constructor<;>exact default⟩
def y4 (x:iV):List KV:=[.int .i64 x.t5,dL 62 oI x.aW,dL 36 np x.t81,.int .i64 x.t82,.int .i64 x.t83]
def y6 (x:iV):List (List KV):=[QS x.t4,PS x.w,QS x.out,abc x.m]
def FO (vs:List KV) (rs:List (List KV)):iV:=⟨av (v9 vs 0),eX iv (v9 vs 1),eX jV (v9 vs 2),av (v9 vs 3),av (v9 vs 4),QT (r9 rs 0),PT (r9 rs 1),QT (r9 rs 2),abd (r9 rs 3)⟩
def GQ:aJ:=⟨[(5,w9 i9),(9,⟨false,[.aP 62]⟩),(81,w9 (n9 36)),(82,w9 i9),(83,w9 i9)],[(4,[.aP 36,n9 125,n9 51,u9,u9,u9,u9,i9,u9,i9,b9,i9,i9,i9,i9,i9,i9,i9,b9,.aP 87],1),(6,[i9,i9,i9,i9,i9,i9,i9,i9,i9,i9,i9,i9,i9],1),(7,[.aP 36,n9 125,n9 51,u9,u9,u9,u9,i9,u9,i9,b9,i9,i9,i9,i9,i9,i9,i9,b9,.aP 87],1),(12,[n9 36,n9 125,n9 120],1)],[(4,0,0),(6,1,0),(7,2,0),(12,3,0)]⟩
def P1:=BU [(39,QR),(38,BB),(37,Hw),(36,w4),(13,Hv),(52,Ny),(26,Kf)] [Cc] 21 2042 GQ
def rZ (x:iV):=uu x.w.m (x.t81.get (Int.toNat x.t83))
def iz (x:iV):aX iV:=(cond (decide (x.t83 < x.t82)) (cond ((decide (0<=x.t83))&&(decide (x.t83 < (x.t81.n:Int)))) (cond (x.w.e != 0) (cond ((ai x.out.item.aC.n x.out.item.aC.n)&&(dT 24 x.out.item.aC.n 1)) (cond (cond (cond (cond (cond (ai x.out.ao.n x.out.ao.n) (ai (x.out.item.aC.n+1) (x.out.item.aC.n+1)) false) (ai x.t4.ao.n x.t4.ao.n) false) (ai x.t4.item.aC.n x.t4.item.aC.n) false) (ai x.aW.n x.aW.n) false) (.next ⟨x.t5,x.aW,x.t81,x.t82,(aO (x.t83+1)),x.t4,x.w,⟨⟨(x.out.item.aC.push ⟨0,0,0⟩),x.out.item.uV,x.out.item.abQ,x.out.item.look,x.out.item.box⟩,x.out.rM,x.out.ao⟩,x.m⟩) .fail) .fail) (cond (rZ x).isSome (cond ((ai x.out.item.aC.n x.out.item.aC.n)&&(dT 24 x.out.item.aC.n 1)) (cond (cond (cond (cond (cond (ai x.out.ao.n x.out.ao.n) (ai (x.out.item.aC.n+1) (x.out.item.aC.n+1)) false) (ai x.t4.ao.n x.t4.ao.n) false) (ai x.t4.item.aC.n x.t4.item.aC.n) false) (ai x.aW.n x.aW.n) false) (.next ⟨x.t5,x.aW,x.t81,x.t82,(aO (x.t83+1)),x.t4,⟨x.w.m,((rZ x).getD default).snd⟩,⟨⟨(x.out.item.aC.push ((rZ x).getD default).fst),x.out.item.uV,x.out.item.abQ,x.out.item.look,x.out.item.box⟩,x.out.rM,x.out.ao⟩,x.m⟩) .fail) .fail) .fail)) .fail) (cond (cond (cond (cond (cond (ai x.out.ao.n x.out.ao.n) (ai x.out.item.aC.n x.out.item.aC.n) false) (ai x.t4.ao.n x.t4.ao.n) false) (ai x.t4.item.aC.n x.t4.item.aC.n) false) (ai x.aW.n x.aW.n) false) (.out (aG.ah.exit 2) x) .fail))
theorem NI (x:iV):P1 (y4 x) (y6 x)=aX.enc y4 y6 (iz x):=by
 unfold iz
 try simp only [aX.cD,rF]
 kernel_rfl
def GS:Lp:=⟨21,2042,GQ,fun vs rs=>dR y4 y6 (goN iz (FO vs rs)) [aG.ah.exit 2],false⟩
theorem P2:GS.Ok PG:=CA (ak.cons NH (ak.cons Cb (ak.cons Gv (ak.cons yj (ak.cons Gu (ak.cons Lc (ak.cons Jb ak.nil))))))) (r7 GP bm.nil) (pa:=FO) NI
def EK (s:aA) (p:Path):=Ke
def bP (s:aA) (p:Path):=goN fE ⟨0,⟨0,(fun i=>⟨⟨0,0,0,0,0⟩,⟨⟨0,0,0,0⟩,0,0,0,false,0⟩⟩)⟩,p.nodes,(p.nodes.n:Int),0,s,p,⟨⟨⟨0,(fun i=>⟨0,0,0⟩)⟩,⟨0,(fun i=>⟨0,0⟩)⟩,⟨0,(fun i=>⟨0,0,0⟩)⟩,⟨⟨0,0,0,0⟩,0,0,0,false,0⟩,⟨⟨0,0,0⟩,⟨0,0,0⟩⟩⟩,false,⟨0,(fun i=>⟨⟨0,0,0⟩,0,0⟩)⟩⟩,⟨((EK s p).getD default),0⟩,⟨⟨⟨0,(fun i=>⟨0,0,0⟩)⟩,⟨0,(fun i=>⟨0,0⟩)⟩,⟨0,(fun i=>⟨0,0,0⟩)⟩,⟨⟨0,0,0,0⟩,0,0,0,false,0⟩,⟨⟨0,0,0⟩,⟨0,0,0⟩⟩⟩,true,⟨0,(fun i=>⟨⟨0,0,0⟩,0,0⟩)⟩⟩,⟨0,⟨⟨⟨0,0,0⟩,⟨0,0,0⟩,⟨0,0,0⟩⟩,⟨0,0,0⟩⟩,0,⟨0,0,0⟩,⟨0,(fun i=>0)⟩,0,⟨⟨0,0,0,0,0⟩,⟨⟨0,0,0,0⟩,0,0,0,false,0⟩⟩⟩⟩
def dz (s:aA) (p:Path):=goN iz ⟨(bP s p).st.t5,(bP s p).st.aW,((bP s p).st.s.fj.get (Int.toNat (bP s p).st.n.fN)).aC,(((bP s p).st.s.fj.get (Int.toNat (bP s p).st.n.fN)).aC.n:Int),0,(bP s p).st.t4,(bP s p).st.w,(bP s p).st.out,((bP s p).st.s.fj.get (Int.toNat (bP s p).st.n.fN))⟩
def vY (s:aA) (p:Path):=wZ (dz s p).st.m.uV
def vZ (s:aA) (p:Path):=zU (dz s p).st.m
def v7 (s:aA) (p:Path):=tJ (dz s p).st.aW
def v8 (s:aA) (p:Path):=HP (dz s p).st.out.item.aC
def yx (s:aA) (p:Path):Option (Place×Int):=(some (⟨⟨(dz s p).st.out.item.aC,((vY s p).getD default),((vZ s p).getD default).fst,((v7 s p).getD default).fst,(dz s p).st.out.item.box⟩,(dz s p).st.out.rM,(dz s p).st.out.ao⟩,(dz s p).st.w.e))
def wa (s:aA) (p:Path):Option (Place×Int):=(cond (EK s p).isSome (cond ((bP s p).by (aG.ah.exit 0)) (cond ((decide (0<=(bP s p).st.n.fN))&&(decide ((bP s p).st.n.fN < ((bP s p).st.s.fj.n:Int)))) (cond (cond (cond (cond (cond (ai (bP s p).st.out.ao.n (bP s p).st.out.ao.n) (ai (bP s p).st.out.item.aC.n (bP s p).st.out.item.aC.n) false) (ai (bP s p).st.t4.ao.n (bP s p).st.t4.ao.n) false) (ai (bP s p).st.t4.item.aC.n (bP s p).st.t4.item.aC.n) false) (ai (bP s p).st.aW.n (bP s p).st.aW.n) false) (cond ((dz s p).by (aG.ah.exit 2)) (cond (vY s p).isSome (cond (vZ s p).isSome (cond (v7 s p).isSome (cond ((dz s p).st.w.e==0) (cond (decide (((dz s p).st.m.aC.n:Int) > 0)) (cond (v8 s p).isSome (some (⟨⟨(dz s p).st.out.item.aC,((vY s p).getD default),((vZ s p).getD default).fst,((v7 s p).getD default).fst,((v8 s p).getD default).fst⟩,(dz s p).st.out.rM,(dz s p).st.out.ao⟩,((v8 s p).getD default).snd)) none)
      (yx s p))
      (yx s p)) none) none) none) none) none) none) none) none)
theorem W9 (s:aA) (p:Path):rE [(39,QR),(38,BB),(37,Hw),(36,w4),(13,Hv),(52,Ny),(26,Kf)] [Cc,GS] 21 [kA s,Gt p] = (wa s p).map (fun (r:Place×Int)=>KV.ma [DN r.1,(kI .i64) r.2]):=by
 unfold wa yx
 try simp only [b6]
 kernel_rfl
def Jr:List KV->KR KV:=bR PG 21 (b8 (fun (r:Place×Int)=>KV.ma [DN r.1,(kI .i64) r.2]) fun vs=>wa (eR (v9 vs 0)) (EH (v9 vs 1)))
theorem Km:bQ PG 21 Jr:=dU (ak.cons NH (ak.cons Cb (ak.cons Gv (ak.cons yj (ak.cons Gu (ak.cons Lc (ak.cons Jb ak.nil))))))) (r7 GP (r7 P2 bm.nil)) fun w=>W9 (eR (g0 34 (w 0))) (EH (g0 50 (w 1)))
end
end Go.Proofs.Ytckbdndhmcoihaa.b
end
section
namespace Go.Proofs.Ytckbdndhmcoihaa.sc
open Go Go.K Go.Proofs.Ytckbdndhmcoihaa.nodes
def Xa (m:b.iu) (v:b.dI):b.dI:=⟨dot m.m.e0 v.x v.y v.z / 256+m.t.x,dot m.m.e1 v.x v.y v.z / 256+m.t.y,dot m.m.e2 v.x v.y v.z / 256+m.t.z⟩
open Classical in
noncomputable def lX (m:b.iu) (v:b.dI):b.dI×Int:=if Je m/\w6 v 4096/\w6 (Xa m v) 4096 then (Xa m v,0) else (Ki,20)
theorem Ym (m:b.iu) (v:b.dI):b.uu m v=some (lX m v):=by
 unfold b.uu b.DI b.DH b.Jh b.Jg;obtain ⟨e,h1,h2⟩:=yW m;rw [h1,Kg];simp only [gJ,eU,aj];rcases h2 with ⟨rfl,hm⟩ | ⟨rfl,hm⟩
 ·have hz:((0:Int) != 0)=false:=rfl
  rw [hz,aI];by_cases hv:w6 v 4096
  ·rw [aE hv,Yi m v hm hv,hz]
   simp only [gJ,eU,aj,aI];rw [Kg];simp only [gJ,eU,aj];by_cases hk:w6 (Xa m v) 4096
   ·have e1:lX m v=(Xa m v,0):=aE ⟨hm,hv,hk⟩
    rw [e1];unfold Xa at hk ⊢;rw [aE hk,hz];rfl
   ·have e1:lX m v=(Ki,20):=aa fun q=>hk q.2.2
    rw [e1];unfold Xa at hk;rw [aa hk];rfl
  ·have e1:lX m v=(Ki,20):=aa fun q=>hv q.2.1
   rw [aa hv,e1];rfl
 ·have e1:lX m v=(Ki,20):=aa fun q=>hm q.1
  rw [e1];rfl
noncomputable def fv (s:b.aA) (p:b.Path):Nat->b.iu×Int
 | 0=>(unit,0)
 | j+1=>if (fv s p j).2=0 then (if (nodeAt s p j).kind=2 then vi (fv s p j).1 (nodeAt s p j).nX else if (nodeAt s p j).kind=4 then ((fv s p j).1,(lX (fv s p j).1 (nodeAt s p j).cN).2) else fv s p j) else fv s p j
noncomputable def w7 (s:b.aA) (p:b.Path) (j:Nat):b.Gate:=
 ⟨if (fv s p j).2=0 then (lX (fv s p j).1 (nodeAt s p j).cN).1 else Ki,
  if p.kids.get j < ((nodeAt s p j).eI.n:Int) then (if 0 < p.kids.get j then (nodeAt s p j).eI.get (p.kids.get j - 1).toNat else 0) else 0,
  if p.kids.get j < ((nodeAt s p j).eI.n:Int) then (nodeAt s p j).eI.get (p.kids.get j).toNat else 0⟩
noncomputable def kf (s:b.aA) (p:b.Path):Nat->Sl b.Gate
 | 0=>⟨0,fun i=>⟨⟨0,0,0⟩,0,0⟩⟩
 | j+1=>if (nodeAt s p j).kind=4 then (kf s p j).push (w7 s p j) else kf s p j
open Classical in
noncomputable def RW (s:b.aA) (p:b.Path):Nat->Bool
 | 0=>true
 | j+1=>if (nodeAt s p j).kind=3/\¬ W0 (nodeAt s p j).rM (p.kids.get j) then false else RW s p j
noncomputable def ov (s:b.aA) (p:b.Path):Nat->Sl b.dt
 | 0=>⟨0,fun i=>⟨⟨0,0,0,0,0⟩,⟨⟨0,0,0,0⟩,0,0,0,false,0⟩⟩⟩
 | j+1=>(ov s p j).push (nodeAt s p j).bD
theorem FQ (s:b.aA) (p:b.Path):∀ j,(ov s p j).n=j
 | 0=>rfl
 | j+1=>by show (ov s p j).n+1=j+1; rw [FQ s p j]
theorem Js (s:b.aA) (p:b.Path):∀ j,(kf s p j).n<=j
 | 0=>aB _
 | j+1=>by
  have:=Js s p j;show (if (nodeAt s p j).kind=4 then (kf s p j).push (w7 s p j) else kf s p j).n<=j+1;split
  ·show (kf s p j).n+1<=j+1; omega
  ·omega
def uM:b.Item:=⟨⟨0,(fun i=>⟨0,0,0⟩)⟩,⟨0,(fun i=>⟨0,0⟩)⟩,⟨0,(fun i=>⟨0,0,0⟩)⟩,⟨⟨0,0,0,0⟩,0,0,0,false,0⟩,⟨⟨0,0,0⟩,⟨0,0,0⟩⟩⟩
def NJ:b.Place:=⟨uM,false,⟨0,(fun i=>⟨⟨0,0,0⟩,0,0⟩)⟩⟩
noncomputable def amW (s:b.aA) (p:b.Path):Nat->b.Node
 | 0=>aeP
 | j+1=>nodeAt s p j
noncomputable def Mm (s:b.aA) (p:b.Path) (j:Nat):b.cT:=
 ⟨0,ov s p j,p.nodes,(p.nodes.n:Int),(j:Int),s,p,NJ,⟨(fv s p j).1,(fv s p j).2⟩,⟨uM,RW s p j,kf s p j⟩,amW s p j⟩
theorem adw {s:b.aA} {p:b.Path} {j:Nat} (h:(nodeAt s p j).kind=2) (h0:(fv s p j).2=0):fv s p (j+1)=vi (fv s p j).1 (nodeAt s p j).nX:=by
 show (if (fv s p j).2=0 then (if (nodeAt s p j).kind=2 then vi (fv s p j).1 (nodeAt s p j).nX else if (nodeAt s p j).kind=4 then ((fv s p j).1,(lX (fv s p j).1 (nodeAt s p j).cN).2) else fv s p j) else fv s p j)=_;rw [aE h0,aE h]
theorem Xb {s:b.aA} {p:b.Path} {j:Nat} (h0:(fv s p j).2≠0):fv s p (j+1)=fv s p j:=by
 show (if (fv s p j).2=0 then (if (nodeAt s p j).kind=2 then vi (fv s p j).1 (nodeAt s p j).nX else if (nodeAt s p j).kind=4 then ((fv s p j).1,(lX (fv s p j).1 (nodeAt s p j).cN).2) else fv s p j) else fv s p j)=_;rw [aa h0]
theorem abS {s:b.aA} {p:b.Path} {j:Nat} (h:(nodeAt s p j).kind=4) (h0:(fv s p j).2=0):fv s p (j+1)=((fv s p j).1,(lX (fv s p j).1 (nodeAt s p j).cN).2):=by
 show (if (fv s p j).2=0 then (if (nodeAt s p j).kind=2 then vi (fv s p j).1 (nodeAt s p j).nX else if (nodeAt s p j).kind=4 then ((fv s p j).1,(lX (fv s p j).1 (nodeAt s p j).cN).2) else fv s p j) else fv s p j)=_;rw [aE h0,aa (by omega),aE h]
theorem Tr {s:b.aA} {p:b.Path} {j:Nat} (h:(nodeAt s p j).kind≠2) (h' : (nodeAt s p j).kind≠4):fv s p (j+1)=fv s p j:=by
 show (if (fv s p j).2=0 then (if (nodeAt s p j).kind=2 then vi (fv s p j).1 (nodeAt s p j).nX else if (nodeAt s p j).kind=4 then ((fv s p j).1,(lX (fv s p j).1 (nodeAt s p j).cN).2) else fv s p j) else fv s p j)=_;rw [aa h,aa h'];split <;> rfl
theorem Jt {s:b.aA} {p:b.Path} {j:Nat} (h:(nodeAt s p j).kind=4):kf s p (j+1)=(kf s p j).push (w7 s p j):=by
 show (if (nodeAt s p j).kind=4 then (kf s p j).push (w7 s p j) else kf s p j)=_;rw [aE h]
theorem DP {s:b.aA} {p:b.Path} {j:Nat} (h:(nodeAt s p j).kind≠4):kf s p (j+1)=kf s p j:=by
 show (if (nodeAt s p j).kind=4 then (kf s p j).push (w7 s p j) else kf s p j)=_;rw [aa h]
theorem aiA {s:b.aA} {p:b.Path} {j:Nat} (h:(nodeAt s p j).kind=3) (h' : ¬ W0 (nodeAt s p j).rM (p.kids.get j)):RW s p (j+1)=false:=by
 unfold RW;rw [aE ⟨h,h'⟩]
theorem P3 {s:b.aA} {p:b.Path} {j:Nat} (h : ¬ ((nodeAt s p j).kind=3/\¬ W0 (nodeAt s p j).rM (p.kids.get j))):RW s p (j+1)=RW s p j:=by
 conv=>lhs; unfold RW
 rw [aa h]
theorem ag5 {s:b.aA} {p:b.Path} (ha:abJ s p) (hon:aj1 s) (hn:p.nodes.n<=1000) {j:Nat} (hj:j < p.nodes.n) (hk:(nodeAt s p j).kind=3\/(nodeAt s p j).kind=4->j < p.kids.n) (hf:(nodeAt s p j).eI.n<=1000000) :
  b.fE (Mm s p j) = .next (Mm s p (j+1)):=by
 have hg:=Js s p j;have ej:Int.toNat (j:Int)=j:=rfl;have d1:decide ((j:Int) < (p.nodes.n:Int))=true:=ay (by omega);have d2:decide ((0:Int)<=(j:Int))=true:=ay (by omega);obtain ⟨s1,s2⟩:=PX ha (show j<=p.kids.n by have:=ha.2.2.2.1; omega);have e1:aO ((j:Int)+1)=((j+1:Nat):Int):=by rw [df (by omega) (by omega)]; omega
 have a1:dT 56 (ov s p j).n 1=true:=uJ (by omega) (by rw [FQ]; omega);have a2:dT 40 (kf s p j).n 1=true:=uJ;have s1':=ay s1;have s2':=ay s2;have gY:ov s p (j+1)=(ov s p j).push (nodeAt s p j).bD:=rfl;have hnd:amW s p (j+1)=nodeAt s p j:=rfl;have aqp:Mm s p (j+1)=⟨0,(ov s p j).push (nodeAt s p j).bD,p.nodes,(p.nodes.n:Int),((j+1:Nat):Int),s,p,NJ,⟨(fv s p (j+1)).1,(fv s p (j+1)).2⟩,⟨uM,RW s p (j+1),kf s p (j+1)⟩,nodeAt s p j⟩:=rfl;rw [aqp];have onu:=hon (p.nodes.get j).slot.toNat (by omega);unfold Mm b.fE b.oL b.oK b.oJ b.aZ b.cU b.cV
 dsimp only
 rw [d1,d2,ej,s1',s2',a1,e1];have amX:s.nodes.get (p.nodes.get j).slot.toNat=nodeAt s p j:=rfl;rw [amX] at onu;rw [amX,ais];generalize hN:nodeAt s p j=n at hk hf onu ⊢;have hgk:∀ kk,(p.kids.get j)=kk->True:=fun _ _=>trivial;by_cases k2:n.kind=2
 ·have b2:(n.kind==(2:Int))=true:=DX.2 k2
  have b3:(n.kind==(3:Int))=false:=by rw [<- Bool.not_eq_true,DX]; omega
  have b4:(n.kind==(4:Int))=false:=by rw [<- Bool.not_eq_true,DX]; omega
  rw [P3 (by rw [hN]; omega),DP (by rw [hN]; omega),b2,b3,b4];by_cases h0:(fv s p j).2=0
  ·rw [adw (by rw [hN]; exact k2) h0,hN]
   rw [DX.2 h0];simp only [↓aj,↓aI,cK,cv,gJ,eU]
  ·rw [Xb h0]
   have b0:((fv s p j).2==(0:Int))=false:=by rw [<- Bool.not_eq_true,DX]; exact h0
   rw [b0];simp only [↓aj,↓aI,cK,cv,gJ,eU]
 ·have b2:(n.kind==(2:Int))=false:=by rw [<- Bool.not_eq_true,DX]; exact k2
  rw [b2];by_cases k3:n.kind=3
  ·have QW:=hk (.inl k3)
   have b3:(n.kind==(3:Int))=true:=DX.2 k3;have b4:(n.kind==(4:Int))=false:=by rw [<- Bool.not_eq_true,DX]; omega
   have dk:decide ((j:Int) < (p.kids.n:Int))=true:=ay (by omega);obtain ⟨g1,g2⟩:=NC ha QW;have dg:decide (p.kids.get j < 0)=false:=bo (by omega);rw [DP (by rw [hN]; omega),Tr (by rw [hN]; omega) (by rw [hN]; omega),b3,b4,dk,dg];have hsh:=ag2 (k:=p.kids.get j) onu;by_cases aj2:W0 n.rM (p.kids.get j)
   ·have bs:(w16 ((Fo IntKind.u16 (Int.fdiv n.rM ((2:Int) ^ (min (Int.toNat (p.kids.get j)) 16))) (1:Int):Nat):Int)==(0:Int))=false:=by rw [<- Bool.not_eq_true,hsh]; exact fun q=>q aj2
    rw [P3 (by rw [hN]; exact fun q=>q.2 aj2),bs];simp only [↓aj,↓aI,cK,cv,JF]
   ·have bs:=hsh.2 aj2
    rw [aiA (by rw [hN]; exact k3) (by rw [hN]; exact aj2),bs];simp only [↓aj,↓aI,cK,cv,JF]
  ·have b3:(n.kind==(3:Int))=false:=by rw [<- Bool.not_eq_true,DX]; exact k3
   rw [b3,P3 (by rw [hN]; exact fun q=>k3 q.1)];by_cases k4:n.kind=4
   ·have QW:=hk (.inr k4)
    have b4:(n.kind==(4:Int))=true:=DX.2 k4;have dk:decide ((j:Int) < (p.kids.n:Int))=true:=ay (by omega);obtain ⟨g1,g2⟩:=NC ha QW;have dg:decide (0<=p.kids.get j)=true:=ay (by omega);rw [Jt (by rw [hN]; exact k4),b4,dk,dg,a2];have Hj:w7 s p j=⟨if (fv s p j).2=0 then (lX (fv s p j).1 n.cN).1 else Ki,if p.kids.get j < (n.eI.n:Int) then (if 0 < p.kids.get j then n.eI.get (p.kids.get j - 1).toNat else 0) else 0,if p.kids.get j < (n.eI.n:Int) then n.eI.get (p.kids.get j).toNat else 0⟩:=by
     unfold w7;rw [hN]
    rw [Hj];generalize p.kids.get j=q at *;have fin:∀ {e:Bool},((fv s p j).2 != 0)=e->(e=true->fv s p (j+1)=fv s p j)/\(e=false->(fv s p j).2=0/\fv s p (j+1)=((fv s p j).1,(lX (fv s p j).1 n.cN).2)):=fun {e} he=>by
     subst he;refine ⟨fun h=>Xb (neI.1 h),fun h=>?_⟩;have h0:=bne_eq_false_iff_eq.1 h;refine ⟨h0,?_⟩;rw [abS (by rw [hN]; exact k4) h0,hN]
    cases he:((fv s p j).2 != 0) with
    | true=>
     rw [(fin he).1 rfl];have h0 : ¬ (fv s p j).2=0:=neI.1 he;rw [aa h0];by_cases hq:q < (n.eI.n:Int)
     ·rw [aE hq,aE hq,ay hq]
      by_cases hp:0 < q
      ·have e2:aO (q - 1)=q - 1:=df (by omega) (by omega)
       have d5:decide (0<=q - 1)=true:=ay (by omega);have d6:decide (q - 1 < (n.eI.n:Int))=true:=ay (by omega);rw [aE hp,show decide (q > 0)=true from ay hp,e2,d5,d6];simp only [↓aj,↓aI,cK,cv,gJ,eU];rfl
      ·rw [aa hp,show decide (q > 0)=false from bo hp]
       simp only [↓aj,↓aI,cK,cv,gJ,eU];rfl
     ·rw [aa hq,aa hq,bo hq]
      simp only [↓aj,↓aI,cK,cv,gJ,eU];rfl
    | false=>
     obtain ⟨h0,e9⟩:=(fin he).2 rfl;rw [e9,aE h0,Ym (fv s p j).1 n.cN];by_cases hq:q < (n.eI.n:Int)
     ·rw [aE hq,aE hq,ay hq]
      by_cases hp:0 < q
      ·have e2:aO (q - 1)=q - 1:=df (by omega) (by omega)
       have d5:decide (0<=q - 1)=true:=ay (by omega);have d6:decide (q - 1 < (n.eI.n:Int))=true:=ay (by omega);rw [aE hp,show decide (q > 0)=true from ay hp,e2,d5,d6];simp only [↓aj,↓aI,cK,cv,gJ,eU]
      ·rw [aa hp,show decide (q > 0)=false from bo hp]
       simp only [↓aj,↓aI,cK,cv,gJ,eU]
     ·rw [aa hq,aa hq,bo hq]
      simp only [↓aj,↓aI,cK,cv,gJ,eU]
   ·have b4:(n.kind==(4:Int))=false:=by rw [<- Bool.not_eq_true,DX]; exact k4
    rw [DP (by rw [hN]; exact k4),Tr (by rw [hN]; exact k2) (by rw [hN]; exact k4),b4];simp only [↓aj,↓aI,cK,cv]
end Go.Proofs.Ytckbdndhmcoihaa.sc
end
section
namespace Go.Proofs.Ytckbdndhmcoihaa.sc
open Go Go.K
def aiB (s:b.dt) (i:b.cR):b.cR:=cond (s.cp.e0==0||(i.kept.e0&&decide (s.cp.e0 < 4))) i ⟨⟨s.look.color,i.look.dJ,i.look.oY,i.look.nW,i.look.kr,i.look.bin⟩,⟨(s.cp.e0==3||s.cp.e0==7),i.kept.e1,i.kept.e2,i.kept.e3,i.kept.e4⟩⟩
def aiC (s:b.dt) (i:b.cR):b.cR:=cond (s.cp.e1==0||(i.kept.e1&&decide (s.cp.e1 < 4))) i ⟨⟨i.look.color,s.look.dJ,i.look.oY,i.look.nW,i.look.kr,i.look.bin⟩,⟨i.kept.e0,(s.cp.e1==3||s.cp.e1==7),i.kept.e2,i.kept.e3,i.kept.e4⟩⟩
def aiD (s:b.dt) (i:b.cR):b.cR:=cond (s.cp.e2==0||(i.kept.e2&&decide (s.cp.e2 < 4))) i ⟨⟨i.look.color,i.look.dJ,s.look.oY,i.look.nW,i.look.kr,i.look.bin⟩,⟨i.kept.e0,i.kept.e1,(s.cp.e2==3||s.cp.e2==7),i.kept.e3,i.kept.e4⟩⟩
def aiE (s:b.dt) (i:b.cR):b.cR:=cond (s.cp.e3==0||(i.kept.e3&&decide (s.cp.e3 < 4))) i ⟨⟨i.look.color,i.look.dJ,i.look.oY,s.look.nW,i.look.kr,i.look.bin⟩,⟨i.kept.e0,i.kept.e1,i.kept.e2,(s.cp.e3==3||s.cp.e3==7),i.kept.e4⟩⟩
def aiF (s:b.dt) (i:b.cR):b.cR:=cond (s.cp.e4==0||(i.kept.e4&&decide (s.cp.e4 < 4))) i ⟨⟨i.look.color,i.look.dJ,i.look.oY,i.look.nW,s.look.kr,s.look.bin⟩,⟨i.kept.e0,i.kept.e1,i.kept.e2,i.kept.e3,(s.cp.e4==3||s.cp.e4==7)⟩⟩
theorem anN (i:b.cR) (s:b.dt) (t:b.cR) (h:l8 s.cp.e0):b.eT ⟨0,i,s,t⟩ = .next ⟨1,aiB s i,s,t⟩:=by
 obtain ⟨l,⟨k0,k1,k2,k3,k4⟩⟩:=i;obtain ⟨⟨e0,e1,e2,e3,e4⟩,m⟩:=s;rcases h with h | h | h | h | h <;> (dsimp only at h; subst h; cases k0 <;> kernel_rfl)
theorem anO (i:b.cR) (s:b.dt) (t:b.cR) (h:l8 s.cp.e1):b.eT ⟨1,i,s,t⟩ = .next ⟨2,aiC s i,s,t⟩:=by
 obtain ⟨l,⟨k0,k1,k2,k3,k4⟩⟩:=i;obtain ⟨⟨e0,e1,e2,e3,e4⟩,m⟩:=s;rcases h with h | h | h | h | h <;> (dsimp only at h; subst h; cases k1 <;> kernel_rfl)
theorem anP (i:b.cR) (s:b.dt) (t:b.cR) (h:l8 s.cp.e2):b.eT ⟨2,i,s,t⟩ = .next ⟨3,aiD s i,s,t⟩:=by
 obtain ⟨l,⟨k0,k1,k2,k3,k4⟩⟩:=i;obtain ⟨⟨e0,e1,e2,e3,e4⟩,m⟩:=s;rcases h with h | h | h | h | h <;> (dsimp only at h; subst h; cases k2 <;> kernel_rfl)
theorem anQ (i:b.cR) (s:b.dt) (t:b.cR) (h:l8 s.cp.e3):b.eT ⟨3,i,s,t⟩ = .next ⟨4,aiE s i,s,t⟩:=by
 obtain ⟨l,⟨k0,k1,k2,k3,k4⟩⟩:=i;obtain ⟨⟨e0,e1,e2,e3,e4⟩,m⟩:=s;rcases h with h | h | h | h | h <;> (dsimp only at h; subst h; cases k3 <;> kernel_rfl)
theorem anR (i:b.cR) (s:b.dt) (t:b.cR) (h:l8 s.cp.e4):b.eT ⟨4,i,s,t⟩ = .next ⟨5,aiF s i,s,t⟩:=by
 obtain ⟨l,⟨k0,k1,k2,k3,k4⟩⟩:=i;obtain ⟨⟨e0,e1,e2,e3,e4⟩,m⟩:=s;rcases h with h | h | h | h | h <;> (dsimp only at h; subst h; cases k4 <;> kernel_rfl)
def made (s:b.dt) (i:b.cR):b.cR:=aiF s (aiE s (aiD s (aiC s (aiB s i))))
theorem go5 {X:Type} {step:X->aX X} {x0 x1 x2 x3 x4 x5 xe:X} {e:aG.ah} (h0:step x0 = .next x1) (h1:step x1 = .next x2) (h2:step x2 = .next x3) (h3:step x3 = .next x4) (h4:step x4 = .next x5) (h5:step x5 = .out e xe) (he:mB e=false):goN step x0 = .out e xe:=by
 obtain ⟨e',x',q1,q2,q3⟩:=jD (step:=step) (fun j x=>x=match j with
  | 0=>x0
  | 1=>x1
  | 2=>x2
  | 3=>x3
  | 4=>x4
  | _=>x5) (fun e' x'=>e' = e/\x' = xe) 5 (by unfold gK; omega) (by
   rintro j _ hj rfl;rcases (by omega:j=0\/j=1\/j=2\/j=3\/j=4\/j=5) with rfl | rfl | rfl | rfl | rfl | rfl
   ·exact .inl ⟨_,h0,by omega,rfl⟩
   ·exact .inl ⟨_,h1,by omega,rfl⟩
   ·exact .inl ⟨_,h2,by omega,rfl⟩
   ·exact .inl ⟨_,h3,by omega,rfl⟩
   ·exact .inl ⟨_,h4,by omega,rfl⟩
   ·exact .inr ⟨_,_,h5,he,rfl,rfl⟩) (x:=x0) rfl
 rw [q1,q2,q3]
theorem ag6 (i:b.cR) (s:b.dt) (h:Zj s):b.tH i s=some (made s i):=by
 unfold b.tH b.Du;obtain ⟨h0,h1,h2,h3,h4⟩:=h;rw [go5 (anN _ s _ h0) (anO _ s _ h1) (anP _ s _ h2) (anQ _ s _ h3) (anR _ s _ h4) (e:=.exit 0) rfl rfl];cases hz:((s.cp.e0==0)&&((s.cp.e1==0)&&((s.cp.e2==0)&&((s.cp.e3==0)&&((s.cp.e4==0)&&true))))) with
 | false=>rfl
 | true=>
  simp only [aq,Bc,and_true] at hz;obtain ⟨z0,z1,z2,z3,z4⟩:=hz;have e:made s i=i:=by
   unfold made aiB aiC aiD aiE aiF;rw [z0,z1,z2,z3,z4];rfl
  rw [e];rfl
end Go.Proofs.Ytckbdndhmcoihaa.sc
end
section
namespace Go.Proofs.Ytckbdndhmcoihaa.sc
open Go Go.K Go.Proofs.Ytckbdndhmcoihaa.nodes
def begin:b.cR:=⟨⟨⟨255,255,255,255⟩,-1,0,0,false,0⟩,⟨false,false,false,false,false⟩⟩
def Vo (l:Sl b.dt):Nat->b.cR
 | 0=>begin
 | j+1=>made (l.get j) (Vo l j)
open Classical in
noncomputable def Xc (l:Sl b.dt):b.kd×Int:=if l.n<=128 then (if ∀ j,j < l.n->Mj (l.get j) then ((Vo l l.n).look,0) else (Ca,8)) else (Ca,4)
theorem acC (l:Sl b.dt) (hs:∀ j,j < l.n->QP (l.get j)):b.tJ l=some (Xc l):=by
 unfold b.tJ Xc;by_cases hn:((l.n:Nat):Int) > 128
 ·rw [ay hn,aa (by omega)]
  rfl
 rw [bo hn,aE (by omega)];have hb:b.DK l=some begin:=rfl;have key:=ou (step:=b.iy) l.n (by unfold gK; omega) (fun j=>⟨0,l,((l.n:Nat):Int),(j:Int),Ca,Vo l j⟩) (fun j=>Mj (l.get j)) (e0:=.exit 0) (er:=.ret) rfl rfl (fun x'=>x'.t2=Ca/\x'.t3=8) (xe:=⟨0,l,((l.n:Nat):Int),((l.n:Nat):Int),Ca,Vo l l.n⟩) (fun j hj=>by
  have e1:aO ((j:Int)+1)=((j+1:Nat):Int):=by rw [df (by omega) (by omega)]; omega
  have d1:decide ((j:Int) < ((l.n:Nat):Int))=true:=ay (by omega);have d2:decide ((0:Int)<=(j:Int))=true:=ay (by omega);have ej:Int.toNat (j:Int)=j:=rfl;obtain ⟨e,q1,q2⟩:=Yh (l.get j);unfold b.iy b.rY b.yk
  dsimp only
  rw [d1,d2,ej,e1,q1];simp only [cK,aj,gJ,eU];rcases q2 with ⟨rfl,h⟩ | ⟨rfl,h⟩
  ·rw [ag6 _ _ h.1]
   exact ⟨fun _=>rfl,fun k=>absurd h k⟩
  ·exact ⟨fun k=>absurd k h,fun _=>⟨_,rfl,rfl,rfl⟩⟩) (by
  unfold b.iy
  dsimp only
  rw [bo (Int.lt_irrefl _)];rfl)
 rcases key with ⟨h1,h2⟩ | ⟨x',h1,⟨h2,h3⟩,j,h4,h5⟩
 ·have e0:b.jr l = .out (.exit 0) ⟨0,l,((l.n:Nat):Int),((l.n:Nat):Int),Ca,Vo l l.n⟩:=by
   unfold b.jr;rw [hb];exact h1
  rw [hb,e0,aE h2];rfl
 ·have e0:b.jr l = .out .ret x':=by
   unfold b.jr;rw [hb];exact h1
  rw [hb,e0,aa fun k=>h5 (k j h4)];show some (x'.t2,x'.t3)=_;rw [h2,h3]
noncomputable def Lg (m:b.iu) (e:Int) (v:Sl b.dI):Nat->Int
 | 0=>e
 | j+1=>if Lg m e v j=0 then (lX m (v.get j)).2 else Lg m e v j
noncomputable def Mn (m:b.iu) (e:Int) (v:Sl b.dI):Nat->Sl b.dI
 | 0=>⟨0,fun i=>⟨0,0,0⟩⟩
 | j+1=>(Mn m e v j).push (if Lg m e v j=0 then (lX m (v.get j)).1 else Ki)
theorem Vp (m:b.iu) (e:Int) (v:Sl b.dI):∀ j,(Mn m e v j).n=j
 | 0=>rfl
 | j+1=>by show (Mn m e v j).n+1=j+1; rw [Vp m e v j]
theorem aiG (m:b.iu) (e:Int) (v:Sl b.dI) (hv:v.n<=1000) (sty:Sl b.dt) (t4:b.Place) (rM:Bool) (g:Sl b.Gate) (ms:b.gW) (hg:g.n<=1000) :
  goN b.iz ⟨0,sty,v,(v.n:Int),0,t4,⟨m,e⟩,⟨uM,rM,g⟩,ms⟩ = .out (.exit 2) ⟨0,sty,v,(v.n:Int),(v.n:Int),t4,⟨m,Lg m e v v.n⟩,⟨⟨Mn m e v v.n,uM.uV,uM.abQ,uM.look,uM.box⟩,rM,g⟩,ms⟩:=by
 obtain ⟨e',x',q1,q2,q3⟩:=jD (step:=b.iz)
  (fun j x=>x=⟨0,sty,v,(v.n:Int),(j:Int),t4,⟨m,Lg m e v j⟩,⟨⟨Mn m e v j,uM.uV,uM.abQ,uM.look,uM.box⟩,rM,g⟩,ms⟩)
  (fun e' x'=>e' = .exit 2/\x' = ⟨0,sty,v,(v.n:Int),(v.n:Int),t4,⟨m,Lg m e v v.n⟩,⟨⟨Mn m e v v.n,uM.uV,uM.abQ,uM.look,uM.box⟩,rM,g⟩,ms⟩)
  v.n (by unfold gK; omega) (by
   rintro j _ hj rfl;unfold b.iz b.rZ
   dsimp only
   have ej:Int.toNat (j:Int)=j:=rfl;by_cases bj:j < v.n
   ·have d1:decide ((j:Int) < (v.n:Int))=true:=ay (by omega)
    have d2:decide ((0:Int)<=(j:Int))=true:=ay (by omega);have e1:aO ((j:Int)+1)=((j+1:Nat):Int):=by rw [df (by omega) (by omega)]; omega
    have a1:dT 24 (Mn m e v j).n 1=true:=uJ (by omega) (by rw [Vp]; omega);rw [d1,d2,ej,e1,a1,Ym];refine .inl ⟨_,?_,by omega,rfl⟩;have s1:Lg m e v (j+1)=if Lg m e v j=0 then (lX m (v.get j)).2 else Lg m e v j:=rfl;have s2:Mn m e v (j+1)=(Mn m e v j).push (if Lg m e v j=0 then (lX m (v.get j)).1 else Ki):=rfl;rw [s1,s2];by_cases h0:Lg m e v j=0
    ·rw [aE h0,aE h0,show ((Lg m e v j) != (0:Int))=false from bne_eq_false_iff_eq.2 h0]
     simp only [↓aj,↓aI,cK,cv,gJ,eU]
    ·rw [aa h0,aa h0,neI.2 h0]
     simp only [↓aj,↓aI,cK,cv];rfl
   ·have:j=v.n:=by omega
    subst this;rw [bo (Int.lt_irrefl _)];simp only [↓aj,↓aI,cv];exact .inr ⟨_,_,rfl,rfl,rfl,rfl⟩) (x:=⟨0,sty,v,(v.n:Int),0,t4,⟨m,e⟩,⟨uM,rM,g⟩,ms⟩) rfl
 rw [q1,q2,q3]
theorem ag7 (s:Sl b.kz) (h:s.n<=1000):b.wZ s=some s:=by
 unfold b.wZ FG;have:dT 16 0 s.n=true:=uJ;rw [this];rfl
theorem aiH {m:b.gW} (hk:Jf m) (hm:Hu m):∃ l e,b.zU m=some (l,e):=by
 unfold b.zU b.DJ b.Ji;rw [abB m hk,(RP m).2 hm];have hf:=hm.1.2.2;obtain ⟨l,r,q1,_⟩:=abA m hk (by omega);rw [q1];exact ⟨_,_,rfl⟩
def InB (n:Int):Prop:=-32768<=n/\n<=32768
instance (n:Int):Decidable (InB n):=inferInstanceAs (Decidable (_/\_))
theorem Xd (n:Int):b.Ct n=some (decide (InB n)):=by
 unfold b.Ct;by_cases h:n >= -(32768:Int)
 ·rw [ay h,aj]
  by_cases k:n<=32768
  ·rw [ay k,ay (show InB n from ⟨h,k⟩)]
  ·rw [bo k,bo fun q:InB n=>k q.2]
 ·rw [bo h,aI,bo fun q:InB n=>h q.1]
def DQ (x:b.DL) (v:b.dI):Prop:=(x.low.x<=v.x/\v.x<=x.high.x)/\(x.low.y<=v.y/\v.y<=x.high.y)/\(x.low.z<=v.z/\v.z<=x.high.z)
theorem aiI (x y:b.DL):b.FN x y=some ⟨⟨min x.low.x y.low.x,min x.low.y y.low.y,min x.low.z y.low.z⟩,⟨max x.high.x y.high.x,max x.high.y y.high.y,max x.high.z y.high.z⟩⟩:=rfl
theorem amY (l:Sl b.dI) (hl:l.n<=4096):(goN b.lz ⟨l,0,l,(l.n:Int),0,⟨⟨0,0,0⟩,⟨0,0,0⟩⟩⟩ = .out (.exit 0) ⟨l,0,l,(l.n:Int),(l.n:Int),⟨⟨0,0,0⟩,⟨0,0,0⟩⟩⟩)\/
  ∃ x',goN b.lz ⟨l,0,l,(l.n:Int),0,⟨⟨0,0,0⟩,⟨0,0,0⟩⟩⟩ = .out .ret x'/\x'.e=20:=by
 have key:=ou (step:=b.lz) l.n (by unfold gK; omega) (fun j=>⟨l,0,l,(l.n:Int),(j:Int),⟨⟨0,0,0⟩,⟨0,0,0⟩⟩⟩) (fun k=>InB (l.get k).x/\InB (l.get k).y/\InB (l.get k).z) (e0:=.exit 0) (er:=.ret) rfl rfl (fun x'=>x'.e=20) (xe:=⟨l,0,l,(l.n:Int),(l.n:Int),⟨⟨0,0,0⟩,⟨0,0,0⟩⟩⟩) (fun j hj=>by
  have e1:aO ((j:Int)+1)=((j+1:Nat):Int):=by rw [df (by omega) (by omega)]; omega
  have d1:decide ((j:Int) < (l.n:Int))=true:=ay (by omega);have d2:decide ((0:Int)<=(j:Int))=true:=ay (by omega);have ej:Int.toNat (j:Int)=j:=rfl;unfold b.lz b.rP b.Jl b.Jm b.Jn
  dsimp only
  rw [d1,d2,ej,e1,Xd,Xd,Xd];simp only [cK,aj,gJ,eU];by_cases h1:InB (l.get j).x
  ·by_cases h2:InB (l.get j).y
   ·by_cases h3:InB (l.get j).z
    ·rw [ay h1,ay h2,ay h3]
     exact ⟨fun _=>rfl,fun k=>absurd ⟨h1,h2,h3⟩ k⟩
    ·rw [ay h1,ay h2,bo h3]
     exact ⟨fun k=>absurd k.2.2 h3,fun _=>⟨_,rfl,rfl⟩⟩
   ·rw [ay h1,bo h2]
    exact ⟨fun k=>absurd k.2.1 h2,fun _=>⟨_,rfl,rfl⟩⟩
  ·rw [bo h1]
   exact ⟨fun k=>absurd k.1 h1,fun _=>⟨_,rfl,rfl⟩⟩) (by
  unfold b.lz
  dsimp only
  rw [bo (Int.lt_irrefl _)];rfl)
 rcases key with ⟨h1,_⟩ | ⟨x',h1,h2,_⟩
 ·exact .inl h1
 ·exact .inr ⟨x',h1,h2⟩
theorem aiJ (e:Int) (l:Sl b.dI) (hl:l.n<=4096) (x0:b.DL) (C:b.dI->Prop) (hC:∀ v,C v->DQ x0 v):∃ x',goN b.lQ ⟨e,l,(l.n:Int),0,x0⟩ = .out (.exit 2) x'/\x'.e=e/\(∀ v,C v->DQ x'.b v)/\∀ k,k < l.n->DQ x'.b (l.get k):=by
 obtain ⟨e',x',q1,q2,q3⟩:=jD (step:=b.lQ)
  (fun j x=>x.e=e/\x.t49=l/\x.t50=(l.n:Int)/\x.t51=(j:Int)/\(∀ v,C v->DQ x.b v)/\∀ k,k < j->DQ x.b (l.get k))
  (fun e' x'=>e' = .exit 2/\x'.e=e/\(∀ v,C v->DQ x'.b v)/\∀ k,k < l.n->DQ x'.b (l.get k))
  l.n (by unfold gK; omega) (by
   rintro j ⟨xe,t49,t50,t51,xb⟩ hj ⟨i1,i2,i3,i4,i5,i6⟩
   dsimp only at i1 i2 i3 i4 i5 i6
   subst i1 i2 i3 i4;unfold b.lQ b.Gx
   dsimp only
   have ej:Int.toNat (j:Int)=j:=rfl;by_cases bj:j < t49.n
   ·have d1:decide ((j:Int) < (t49.n:Int))=true:=ay (by omega)
    have d2:decide ((0:Int)<=(j:Int))=true:=ay (by omega);have e1:aO ((j:Int)+1)=((j+1:Nat):Int):=by rw [df (by omega) (by omega)]; omega
    rw [d1,d2,ej,e1,aiI];simp only [cK,aj,gJ,eU];have wide:∀ v,DQ xb v->DQ ⟨⟨min xb.low.x (t49.get j).x,min xb.low.y (t49.get j).y,min xb.low.z (t49.get j).z⟩,⟨max xb.high.x (t49.get j).x,max xb.high.y (t49.get j).y,max xb.high.z (t49.get j).z⟩⟩ v:=fun v hv=>by
     unfold DQ at hv ⊢
     dsimp only
     omega
    refine .inl ⟨_,rfl,by omega,rfl,rfl,rfl,rfl,fun v hv=>wide v (i5 v hv),fun k hk=>?_⟩;by_cases c:k=j
    ·subst c
     unfold DQ
     dsimp only
     omega
    ·exact wide _ (i6 k (by omega))
   ·have:j=t49.n:=by omega
    subst this;rw [bo (Int.lt_irrefl _)];exact .inr ⟨_,_,rfl,rfl,rfl,rfl,i5,i6⟩) (x:=⟨e,l,(l.n:Int),0,x0⟩) ⟨rfl,rfl,rfl,rfl,hC,fun k hk=>absurd hk (by omega)⟩
 subst q2;exact ⟨x',q1,q3⟩
theorem amZ (l:Sl b.dI):∃ x e,b.HP l=some (x,e)/\(e=0->∀ k,k < l.n->DQ x (l.get k))/\(0 < l.n->l.n<=4096->e=0\/e=20):=by
 unfold b.HP b.Hy;by_cases h0:(l.n:Int)=0
 ·rw [DX.2 h0]
  exact ⟨_,_,rfl,fun q=>by simp at q,fun q=>by omega⟩
 rw [show ((l.n:Int)==0)=false by rw [<- Bool.not_eq_true,DX]; exact h0];by_cases h1:(l.n:Int) > 4096
 ·rw [ay h1]
  exact ⟨_,_,rfl,fun q=>by simp at q,fun _ q=>by omega⟩
 rw [bo h1];simp only [aI];rcases amY l (by omega) with h2 | ⟨x',h2,h3⟩
 ·have e0:b.hX l = .out (.exit 0) ⟨l,0,l,(l.n:Int),(l.n:Int),⟨⟨0,0,0⟩,⟨0,0,0⟩⟩⟩:=h2
  have e1:b.Kk l=goN b.lQ ⟨0,⟨l.n - 1,fun i=>l.get (1+i)⟩,((l.n - 1:Nat):Int),0,⟨l.get 0,l.get 0⟩⟩:=by
   unfold b.Kk;rw [e0];rfl
  obtain ⟨y,q1,q2,q3,q4⟩:=aiJ 0 ⟨l.n - 1,fun i=>l.get (1+i)⟩ (by show l.n - 1<=4096; omega) ⟨l.get 0,l.get 0⟩ (fun v=>v=l.get 0) (fun v hv=>by subst hv; exact ⟨⟨Int.le_refl _,Int.le_refl _⟩,⟨Int.le_refl _,Int.le_refl _⟩,Int.le_refl _,Int.le_refl _⟩);rw [e0,e1,q1];rw [aX.lW]
  dsimp only
  have d1:decide (0 < (l.n:Int))=true:=ay (by omega);have d2:decide (1<=(l.n:Int))=true:=ay (by omega);have d3:decide ((l.n:Int)<=(l.n:Int))=true:=ay (Int.le_refl _);rw [d1,d2,d3];refine ⟨y.b,0,rfl,fun _ k hk=>?_,fun _ _=>.inl rfl⟩;by_cases c:k=0
  ·subst c; exact q3 _ rfl
  ·have:DQ y.b (l.get (1+(k - 1))):=q4 (k - 1) (by show k - 1 < l.n - 1; omega)
   rw [show 1+(k - 1)=k by omega] at this;exact this
 ·have e0:b.hX l = .out .ret x':=h2
  rw [e0];simp only [aX.ur,aX.lW];refine ⟨x'.b,x'.e,rfl,fun q=>?_,fun _ _=>.inr h3⟩;rw [h3] at q;simp at q
theorem RX (s:b.aA) (p:b.Path):∀ n j,j < n->(ov s p n).get j=(nodeAt s p j).bD
 | 0,j,h=>absurd h (oD _)
 | n+1,j,h=>by
  show ((ov s p n).push (nodeAt s p n).bD).get j=_;by_cases c:j=n
  ·subst c
   have:=Sl.EJ (s:=ov s p j) (v:=(nodeAt s p j).bD);rw [FQ] at this;exact this
  ·rw [Sl.HM (by rw [FQ]; omega)]
   exact RX s p n j (by omega)
structure r5 (s:b.aA) (p:b.Path):Prop where
 inn:FK s
 on:aj1 s
 asked:abJ s p
 Tp:p.kids.n<=100
 fN:(nodeAt s p p.kids.n).kind=5
theorem r5.n {s:b.aA} {p:b.Path} (h:r5 s p):p.nodes.n=p.kids.n+1:=h.asked.2.2.2.1
theorem r5.slot {s:b.aA} {p:b.Path} (h:r5 s p) {j:Nat} (hj:j < p.nodes.n):(p.nodes.get j).slot.toNat < s.nodes.n:=by
 have:=PX h.asked (show j<=p.kids.n by have:=h.n; omega);omega
theorem r5.node {s:b.aA} {p:b.Path} (h:r5 s p) {j:Nat} (hj:j < p.nodes.n):Zk s (nodeAt s p j):=by
 have hh:=Yk h.asked (show j<=p.kids.n by have:=h.n; omega);have hs:=h.asked.1;exact (hs.2.2.2.1 _ (h.slot hj)).1 hh.2.2.2
theorem r5.at {s:b.aA} {p:b.Path} (h:r5 s p):0<=(nodeAt s p p.kids.n).fN/\(nodeAt s p p.kids.n).fN < (s.fj.n:Int):=(h.node (by have:=h.n; omega)).2.2.2.2.2.2.2.2.1 h.fN
def j5 (s:b.aA) (p:b.Path):b.gW:=s.fj.get (nodeAt s p p.kids.n).fN.toNat
theorem r5.ok {s:b.aA} {p:b.Path} (h:r5 s p):Hu (j5 s p)/\Jf (j5 s p):=by
 have:=h.at;exact ⟨h.asked.1.2.2.1.2.2.1 _ (by omega),h.inn.2.1 _ (by omega)⟩
theorem ag8 {s:b.aA} {p:b.Path} (h:r5 s p):goN b.fE (Mm s p 0) = .out (.exit 0) (Mm s p p.nodes.n):=by
 have hn:=h.n;have hf:=h.Tp;obtain ⟨e',x',q1,q2,q3⟩:=jD (step:=b.fE) (fun j x=>x=Mm s p j) (fun e' x'=>e' = .exit 0/\x' = Mm s p p.nodes.n) p.nodes.n (by unfold gK; omega) (by
  rintro j _ hj rfl;by_cases bj:j < p.nodes.n
  ·refine .inl ⟨_,ag5 h.asked h.on (by omega) bj (fun k=>?_) ?_,by omega,rfl⟩
   ·by_cases c:j=p.kids.n
    ·subst c; have:=h.fN; omega
    ·omega
   ·have:=(h.inn.1 _ (h.slot bj)).2
    exact Nat.le_of_lt this
  ·have:j=p.nodes.n:=by omega
   subst this;refine .inr ⟨_,_,?_,rfl,rfl,rfl⟩;unfold Mm b.fE
   dsimp only
   rw [bo (Int.lt_irrefl _)];simp only [↓aj,↓aI,cv]) (x:=Mm s p 0) rfl
 rw [q1,q2,q3]
structure FT (s:b.aA) (p:b.Path) (x:b.Place) (e:Int):Prop where
 on:x.rM=RW s p p.nodes.n
 ao:x.ao=kf s p p.nodes.n
 aC:x.item.aC=Mn (fv s p p.nodes.n).1 (fv s p p.nodes.n).2 (j5 s p).aC (j5 s p).aC.n
 uT:e=0->Lg (fv s p p.nodes.n).1 (fv s p p.nodes.n).2 (j5 s p).aC (j5 s p).aC.n=0
 box:e=0->∀ k,k < x.item.aC.n->DQ x.item.box (x.item.aC.get k)
 err:e=0\/e=20
theorem ag9 (a c:b.iu):(vi a c).2=0\/(vi a c).2=20:=by
 unfold vi;split
 ·exact .inl rfl
 ·exact .inr rfl
theorem Yn (m:b.iu) (v:b.dI):(lX m v).2=0\/(lX m v).2=20:=by
 unfold lX;split
 ·exact .inl rfl
 ·exact .inr rfl
theorem aha (s:b.aA) (p:b.Path):∀ j,(fv s p j).2=0\/(fv s p j).2=20
 | 0=>.inl rfl
 | j+1=>by
  have ih:=aha s p j;by_cases h0:(fv s p j).2=0
  ·by_cases h2:(nodeAt s p j).kind=2
   ·rw [adw h2 h0]; exact ag9 _ _
   ·by_cases h4:(nodeAt s p j).kind=4
    ·rw [abS h4 h0]; exact Yn _ _
    ·rw [Tr h2 h4]; exact ih
  ·rw [Xb h0]; exact ih
theorem ahb {m:b.iu} {e:Int} {v:Sl b.dI} (h:e=0\/e=20):∀ j,Lg m e v j=0\/Lg m e v j=20
 | 0=>h
 | j+1=>by
  have ih:=ahb (m:=m) (v:=v) h j;have e1:Lg m e v (j+1)=if Lg m e v j=0 then (lX m (v.get j)).2 else Lg m e v j:=rfl;rw [e1];split
  ·exact Yn _ _
  ·exact ih
theorem ahc {s:b.aA} {p:b.Path} (h:r5 s p):∃ x e,b.wa s p=some (x,e)/\FT s p x e:=by
 have hn:=h.n;have hf:=h.Tp;obtain ⟨hm,hk⟩:=h.ok;obtain ⟨m1,m2⟩:=h.at;have hv:(j5 s p).aC.n<=64:=hm.1.1;have e1:b.bP s p = .out (.exit 0) (Mm s p p.nodes.n):=ag8 h;have hnd:amW s p p.nodes.n=nodeAt s p p.kids.n:=by rw [hn]; rfl
 have e2:b.dz s p = .out (.exit 2) ⟨0,ov s p p.nodes.n,(j5 s p).aC,((j5 s p).aC.n:Int),((j5 s p).aC.n:Int),NJ,⟨(fv s p p.nodes.n).1,Lg (fv s p p.nodes.n).1 (fv s p p.nodes.n).2 (j5 s p).aC (j5 s p).aC.n⟩,⟨⟨Mn (fv s p p.nodes.n).1 (fv s p p.nodes.n).2 (j5 s p).aC (j5 s p).aC.n,uM.uV,uM.abQ,uM.look,uM.box⟩,RW s p p.nodes.n,kf s p p.nodes.n⟩,j5 s p⟩:=by
  unfold b.dz;rw [e1];rw [aX.lW];unfold Mm
  dsimp only
  rw [hnd];exact aiG _ _ _ (by show (j5 s p).aC.n<=1000; omega) _ _ _ _ _ (by have:=Js s p p.nodes.n; omega)
 have a3:b.vY s p=some (j5 s p).uV:=by
  unfold b.vY;rw [e2];exact ag7 _ (by have:=hm.1.2.1; show (j5 s p).uV.n<=1000; omega)
 obtain ⟨tr,te,t1⟩:=aiH hk hm;have a4:b.vZ s p=some (tr,te):=by
  unfold b.vZ;rw [e2];exact t1
 have a5:b.v7 s p=some (Xc (ov s p p.nodes.n)):=by
  unfold b.v7;rw [e2];rw [aX.lW];refine acC _ fun j hj=>?_;have hj:j < (ov s p p.nodes.n).n:=hj;rw [FQ] at hj;show QP ((ov s p p.nodes.n).get j);rw [RX s p _ j hj];exact (h.inn.1 _ (h.slot hj)).1
 obtain ⟨bx,be,b1,b2,b3⟩:=amZ (Mn (fv s p p.nodes.n).1 (fv s p p.nodes.n).2 (j5 s p).aC (j5 s p).aC.n);have a6:b.v8 s p=some (bx,be):=by
  unfold b.v8;rw [e2];exact b1
 unfold b.wa b.yx;rw [show b.EK s p=some unit from rfl,a3,a4,a5,a6,e1,e2];rw [aX.lW,aX.lW];unfold Mm
 dsimp only
 rw [hnd,ay m1,ay m2];simp only [aX.ur,zq,↓aj,↓aI,cv,cK,gJ,eU,tM];by_cases h0:Lg (fv s p p.nodes.n).1 (fv s p p.nodes.n).2 (j5 s p).aC (j5 s p).aC.n=0
 ·rw [DX.2 h0]
  by_cases h1:((j5 s p).aC.n:Int) > 0
  ·rw [ay h1]
   exact ⟨_,_,rfl,rfl,rfl,rfl,fun _=>h0,b2,b3 (by rw [Vp]; omega) (by rw [Vp]; omega)⟩
  ·rw [bo h1]
   refine ⟨_,_,rfl,rfl,rfl,rfl,fun _=>h0,fun _ k hk=>?_,.inl h0⟩;have hk:k < (Mn (fv s p p.nodes.n).1 (fv s p p.nodes.n).2 (j5 s p).aC (j5 s p).aC.n).n:=hk;rw [Vp] at hk;omega
 ·rw [show (Lg (fv s p p.nodes.n).1 (fv s p p.nodes.n).2 (j5 s p).aC (j5 s p).aC.n==0)=false by rw [<- Bool.not_eq_true,DX]; exact h0]
  exact ⟨_,_,rfl,rfl,rfl,rfl,fun q=>absurd q h0,fun q=>absurd q h0,ahb (aha s p _) _⟩
end Go.Proofs.Ytckbdndhmcoihaa.sc
end
section
namespace Go.yX
variable {n:Nat} {mG:Nat->Nat} {c:Nat->Nat->Nat}
def CB {H:Type} (mG:H->Nat) (c:H->Nat->H):Nat->H->Prop
 | 0,_=>False
 | t+1,i=>∀ k,k < mG i->CB mG c t (c i k)
theorem Vq (vp:∀ i,i < n->∀ k,k < mG i->c i k < n) (hf:GH n mG c):∀ i,i < n->CB mG c n i:=by
 intro i0 hi0;apply Classical.byContradiction;intro h0;have hc:∀ p:Nat×Nat,∃ j,p.2 < n->¬ CB mG c (p.1+1) p.2->(j < n/\¬ CB mG c p.1 j/\∃ k,k < mG p.2/\c p.2 k=j):=by
  rintro ⟨t,i⟩;by_cases hi:i < n
  ·by_cases hq:CB mG c (t+1) i
   ·exact ⟨0,fun _ k=>absurd hq k⟩
   ·have:∃ k,k < mG i/\¬ CB mG c t (c i k):=by
     apply Classical.byContradiction;intro hn;exact hq fun k hk=>Classical.byContradiction fun h=>hn ⟨k,hk,h⟩
    obtain ⟨k,h1,h2⟩:=this;exact ⟨c i k,fun _ _=>⟨vp i hi k h1,h2,k,h1,rfl⟩⟩
  ·exact ⟨0,fun k=>absurd k hi⟩
 obtain ⟨g,hg⟩:=Classical.axiomOfChoice hc
 let it:Nat->Nat:=fun j=>Nat.rec i0 (fun j x=>g (n - (j+1),x)) j
 have hit:∀ j,j<=n->it j < n/\¬ CB mG c (n - j) (it j):=by
  intro j
  induction j with
  | zero=>exact fun _=>⟨hi0,h0⟩
  | succ j ih=>
   intro hj;obtain ⟨h1,h2⟩:=ih (by omega);have e:n - j=n - (j+1)+1:=by omega
   rw [e] at h2;have:=hg (n - (j+1),it j) h1 h2;exact ⟨this.1,this.2.1⟩
 have gY:∀ j,j < n->∃ k,k < mG (it j)/\c (it j) k=it (j+1):=by
  intro j hj;obtain ⟨h1,h2⟩:=hit j (by omega);have e:n - j=n - (j+1)+1:=by omega
  rw [e] at h2;exact (hg (n - (j+1),it j) h1 h2).2.2
 have hup:∀ d j,j+d<=n->Below mG c (it (j+d)) (it j):=by
  intro d
  induction d with
  | zero=>exact fun j _=>.here
  | succ d ih=>
   intro j hj;obtain ⟨k,h1,h2⟩:=gY j (by omega);have:=ih (j+1) (by omega);rw [show j+1+d=j+(d+1) by omega] at this;refine .dW _ k h1 ?_;rw [h2];exact this
 obtain ⟨i,j,h1,h2,h3⟩:=aj0 n it fun j hj=>(hit j hj).1;obtain ⟨k,q1,q2⟩:=gY i (by omega);refine hf _ (hit i (by omega)).1 k q1 ?_;rw [q2];have:=hup (j - (i+1)) (i+1) (by omega);rw [show i+1+(j - (i+1))=j by omega,<- h3] at this;exact this
section
variable {H:Type} {mG:H->Nat} {c:H->Nat->H}
theorem CB.more:∀ (t:Nat) (i:H),CB mG c t i->CB mG c (t+1) i
 | 0,_,h=>h.elim
 | t+1,_,h=>fun k hk=>(h k hk).more t _
theorem CB.le {t u:Nat} {i:H} (h:CB mG c t i) (hle:t<=u):CB mG c u i:=by
 induction hle with
 | refl=>exact h
 | step _ ih=>exact ih.more _ _
def Vr (f:Nat->Nat):Nat->Nat
 | 0=>0
 | k+1=>max (Vr f k) (f k)
def P4 (f:Nat->Nat):Nat->Nat
 | 0=>0
 | k+1=>min (P4 f k+f k) 257
theorem abT {f g:Nat->Nat} : ∀ k,(∀ j,j < k->f j=g j)->Vr f k=Vr g k
 | 0,_=>rfl
 | k+1,h=>by rw [Vr,Vr,abT k fun j hj=>h j (by omega),h k (by omega)]
theorem NK {f g:Nat->Nat} : ∀ k,(∀ j,j < k->f j=g j)->P4 f k=P4 g k
 | 0,_=>rfl
 | k+1,h=>by rw [P4,P4,NK k fun j hj=>h j (by omega),h k (by omega)]
theorem aeR (f:Nat->Nat):∀ k j,j < k->f j<=Vr f k
 | k+1,j,h=>by
  rw [Vr];by_cases e:j=k
  ·subst e; omega
  ·have:=aeR f k j (by omega); omega
theorem aj3 (f:Nat->Nat):∀ k,P4 f k<=257
 | 0=>by rw [P4]; omega
 | k+1=>by rw [P4]; omega
def Hj {H:Type} (mG:H->Nat) (c:H->Nat->H):Nat->H->Nat
 | 0,_=>0
 | t+1,i=>Vr (fun k=>Hj mG c t (c i k)) (mG i)+1
def NL {H:Type} (mG:H->Nat) (c:H->Nat->H) (m:H->Bool):Nat->H->Nat
 | 0,_=>0
 | t+1,i=>cond (m i) 1 (P4 (fun k=>NL mG c m t (c i k)) (mG i))
theorem adx:∀ (t:Nat) (i:H),CB mG c t i->Hj mG c (t+1) i=Hj mG c t i
 | 0,_,h=>h.elim
 | t+1,i,h=>by
  rw [Hj,Hj,abT _ fun k hk=>adx t _ (h k hk)]
theorem Xe (m:H->Bool):∀ (t:Nat) (i:H),CB mG c t i->NL mG c m (t+1) i=NL mG c m t i
 | 0,_,h=>h.elim
 | t+1,i,h=>by
  rw [NL,NL,NK _ fun k hk=>Xe m t _ (h k hk)]
theorem aj4 {m:H->Bool} {t u:Nat} {i:H} (h:CB mG c t i) (hle:t<=u):NL mG c m u i=NL mG c m t i:=by
 induction hle with
 | refl=>rfl
 | step hle ih=>rw [Xe _ _ _ (h.le hle),ih]
theorem ahd:∀ (t:Nat) (i:H),CB mG c t i->CB mG c (Hj mG c t i) i
 | 0,_,h=>h.elim
 | t+1,i,h=>fun k hk=>(ahd t _ (h k hk)).le (aeR (fun k=>Hj mG c t (c i k)) _ k hk)
theorem Ts:∀ (t:Nat) (i:H),Hj mG c t i<=t
 | 0,_=>aB _
 | t+1,i=>by
  have:∀ k,Vr (fun k=>Hj mG c t (c i k)) k<=t:=by
   intro k
   induction k with
   | zero=>exact qK _
   | succ k ih=>
    have:=Ts t (c i k);rw [Vr];omega
  have:=this (mG i);rw [Hj];omega
end
theorem ak6 (vp:∀ i,i < n->∀ k,k < mG i->c i k < n) (hf:GH n mG c) {i:Nat} (hi:i < n):Hj mG c n i=Vr (fun k=>Hj mG c n (c i k)) (mG i)+1:=by
 rw [<- adx n i (Vq vp hf i hi),Hj]
theorem ak7 (m:Nat->Bool) (vp:∀ i,i < n->∀ k,k < mG i->c i k < n) (hf:GH n mG c) {i:Nat} (hi:i < n):NL mG c m n i=cond (m i) 1 (P4 (fun k=>NL mG c m n (c i k)) (mG i)):=by
 rw [<- Xe m n i (Vq vp hf i hi),NL]
end Go.yX
end
section
namespace Go.Proofs.Ytckbdndhmcoihaa.b
open Go.K
noncomputable section
def Gy (down:Int->Sl Int×Sl Int->Option (Sl Int×Sl Int)) (l:Sl Handle):Nat->Int×Int×(Sl Int×Sl Int)->Option (Int×Int×(Sl Int×Sl Int))
 | 0,x=>some x
 | k+1,x=>(Gy down l k x).bind fun y=>(down (l.get k).slot y.2.2).bind fun z=>
   some (max y.1 (z.1.get (l.get k).slot.toNat),min (aO (y.2.1+z.2.get (l.get k).slot.toNat)) 257,z)
def xa (s:aA):Nat->Int->Sl Int×Sl Int->Option (Sl Int×Sl Int)
 | 0,_,_=>none
 | f+1,slot,x=>cond (decide (0<=slot)&&decide (slot < (x.1.n:Int))&&decide (slot < (s.graph.kids.n:Int))&&decide (slot < (s.nodes.n:Int)))
   (cond (decide (x.1.get slot.toNat > 0)) (some x)
    ((Gy (xa s f) (s.graph.kids.get slot.toNat) (s.graph.kids.get slot.toNat).n (0,0,x)).bind fun y=>
     some (y.2.2.1.set slot.toNat (aO (y.1+1)),y.2.2.2.set slot.toNat (cond ((s.nodes.get slot.toNat).kind==5) 1 y.2.1)))) none
def Fits (s:aA):Prop:=s.nodes.n<=1000000/\∀ i,i < s.graph.kids.n->(s.graph.kids.get i).n<=1000000
open Classical in
def eh (s:aA):Option (Sl Int×Sl Int):=if Fits s then xa s 250 s.root.slot (⟨s.nodes.n,fun _=>0⟩,⟨s.nodes.n,fun _=>0⟩) else none
def xJ:List KV->KR KV:=bR Try.prog 23 (b8 (fun (r:Sl Int×Sl Int)=>KV.ma [(dL 3 (kI .i64)) r.1,(dL 3 (kI .i64)) r.2]) fun vs=>eh (eR (vs.getD 0 .bf)))
end
end Go.Proofs.Ytckbdndhmcoihaa.b
end
section
namespace Go.Proofs.Ytckbdndhmcoihaa.sc
open Go Go.K Go.yX Go.Proofs.Ytckbdndhmcoihaa.nodes
def Ko (s:b.aA) (i:Nat):Bool:=(s.nodes.get i).kind==5
def hH (s:b.aA) (i:Nat):Nat:=Hj (dg s.graph) (ch s.graph) s.graph.kids.n i
def mH (s:b.aA) (i:Nat):Nat:=NL (dg s.graph) (ch s.graph) (Ko s) s.graph.kids.n i
structure Down (s:b.aA):Prop where
 n:s.nodes.n=s.graph.kids.n
 small:s.graph.kids.n<=128
 inr:∀ i,i < s.graph.kids.n->∀ k,k < dg s.graph i->0<=((s.graph.kids.get i).get k).slot/\((s.graph.kids.get i).get k).slot < (s.graph.kids.n:Int)
 Tp:∀ i,i < s.graph.kids.n->dg s.graph i<=16
 free:yX.GH s.graph.kids.n (dg s.graph) (ch s.graph)
theorem Down.chl {s:b.aA} (h:Down s):∀ i,i < s.graph.kids.n->∀ k,k < dg s.graph i->ch s.graph i k < s.graph.kids.n:=fun i hi k hk=>by
 have:=h.inr i hi k hk;unfold nodes.ch;omega
theorem Down.slot {s:b.aA} (h:Down s) {i k:Nat} (hi:i < s.graph.kids.n) (hk:k < dg s.graph i):((s.graph.kids.get i).get k).slot=((ch s.graph i k:Nat):Int):=by
 have:=h.inr i hi k hk;unfold nodes.ch;omega
theorem ahe {s:b.aA} (hs:o3 s):Down s:=by
 have hg:=(HO s.graph).1 hs.1;have ha:=hg.1.Tp;have hf:=anL hg.1 hg.2.1 hg.2.2.1;exact ⟨hs.2.1,by omega,hf.inr,fun i hi=>(hg.2.2.1 i hi).1,(ak2 hg.2.2.1 hg.2.1).1 hg.2.2.2⟩
theorem ahf {s:b.aA} (h:Down s) {i:Nat} (hi:i < s.graph.kids.n):hH s i=Vr (fun k=>hH s (ch s.graph i k)) (dg s.graph i)+1:=ak6 h.chl h.free hi
theorem ahg {s:b.aA} (h:Down s) {i:Nat} (hi:i < s.graph.kids.n):mH s i=cond (Ko s i) 1 (P4 (fun k=>mH s (ch s.graph i k)) (dg s.graph i)):=ak7 _ h.chl h.free hi
theorem apc {s:b.aA} (h:Down s) {i:Nat} (hi:i < s.graph.kids.n):mH s i<=257:=by
 rw [ahg h hi];cases Ko s i with
 | true=>show 1<=257; omega
 | false=>exact aj3 _ _
structure Kn (s:b.aA) (x:Sl Int×Sl Int):Prop where
 n1:x.1.n=s.graph.kids.n
 n2:x.2.n=s.graph.kids.n
 is:∀ j,j < s.graph.kids.n->x.1.get j=0\/x.1.get j=(hH s j:Int)/\x.2.get j=(mH s j:Int)
theorem abU {s:b.aA} (h:Down s) {i:Nat} (hi:i < s.graph.kids.n) {down:Int->Sl Int×Sl Int->Option (Sl Int×Sl Int)}
  (hd:∀ k,k < dg s.graph i->∀ x,Kn s x->∃ x',down ((ch s.graph i k:Nat):Int) x=some x'/\Kn s x'/\x'.1.get (ch s.graph i k)=(hH s (ch s.graph i k):Int)/\x'.2.get (ch s.graph i k)=(mH s (ch s.graph i k):Int)) {x:Sl Int×Sl Int} (hx:Kn s x) :
  ∀ k,k<=dg s.graph i->∃ y,b.Gy down (s.graph.kids.get i) k (0,0,x)=some y/\y.1=(Vr (fun k=>hH s (ch s.graph i k)) k:Int)/\y.2.1=(P4 (fun k=>mH s (ch s.graph i k)) k:Int)/\Kn s y.2.2
 | 0,_=>⟨_,rfl,rfl,rfl,hx⟩
 | k+1,hk=>by
  obtain ⟨y,h1,h2,h3,h4⟩:=abU h hi hd hx k (by omega);obtain ⟨z,q1,q2,q3,q4⟩:=hd k (by omega) y.2.2 h4;have es:=h.slot hi (k:=k) (by omega);have hb:=aj3 (fun k=>mH s (ch s.graph i k)) k;have hm:=apc h (h.chl i hi k (by omega));refine ⟨_,by unfold b.Gy; rw [h1]; show ((down _ y.2.2).bind _)=_; rw [es,q1]; rfl,?_,?_,q2⟩
  ·show max y.1 (z.1.get ((ch s.graph i k:Nat):Int).toNat)=_
   rw [CE,q3,h2,Vr];omega
  ·show min (aO (y.2.1+z.2.get ((ch s.graph i k:Nat):Int).toNat)) 257=_
   rw [CE,q4,h3,df (by omega) (by omega),P4];omega
theorem ady {s:b.aA} (h:Down s):∀ (f i:Nat) (x:Sl Int×Sl Int),CB (dg s.graph) (ch s.graph) f i->i < s.graph.kids.n->Kn s x->
  ∃ x',b.xa s f (i:Int) x=some x'/\Kn s x'/\x'.1.get i=(hH s i:Int)/\x'.2.get i=(mH s i:Int)
 | 0,_,_,hl,_,_=>hl.elim
 | f+1,i,x,hl,hi,hx=>by
  unfold b.xa;have d1:decide ((0:Int)<=(i:Int))=true:=ay (by omega);have d2:decide ((i:Int) < (x.1.n:Int))=true:=ay (by have:=hx.n1; omega);have d3:decide ((i:Int) < (s.graph.kids.n:Int))=true:=ay (by omega);have d4:decide ((i:Int) < (s.nodes.n:Int))=true:=ay (by have:=h.n; omega);rw [d1,d2,d3,d4];simp only [cK,aj,CE];have GD:0 < hH s i:=by rw [ahf h hi]; omega
  have hhb:hH s i<=128:=gR (Ts _ _) h.small;by_cases hz:x.1.get i > 0
  ·rw [ay hz,aj]
   rcases hx.is i hi with e | e
   ·omega
   ·exact ⟨x,rfl,hx,e⟩
  ·rw [bo hz,aI]
   obtain ⟨y,h1,h2,h3,h4⟩:=abU h hi (down:=b.xa s f) (fun k hk x hx=>ady h f _ x (hl k hk) (h.chl i hi k hk) hx) hx _ (aB _);have e1:b.Gy (b.xa s f) (s.graph.kids.get i) (s.graph.kids.get i).n (0,0,x)=some y:=h1;rw [e1];have e2:aO (y.1+1)=(hH s i:Int):=by
    have:=ahf h hi;rw [h2,df (by omega) (by omega)];omega
   have e3:cond ((s.nodes.get i).kind==5) 1 y.2.1=(mH s i:Int):=by
    rw [ahg h hi,h3];unfold Ko;cases (s.nodes.get i).kind==5 <;> rfl
   refine ⟨_,rfl,⟨h4.n1,h4.n2,fun j hj=>?_⟩,?_,?_⟩
   ·show (y.2.2.1.set i _).get j=0\/(y.2.2.1.set i _).get j=_/\(y.2.2.2.set i _).get j=_
    by_cases e:j=i
    ·subst e
     rw [fG,fG,e2,e3];exact .inr ⟨rfl,rfl⟩
    ·rw [eG _ _ e,eG _ _ e]
     exact h4.is j hj
   ·show (y.2.2.1.set i _).get i=_
    rw [fG,e2]
   ·show (y.2.2.2.set i _).get i=_
    rw [fG,e3]
theorem aeS {s:b.aA} (h:Down s) {r:Nat} (hr:s.root.slot=(r:Int)) (hi:r < s.graph.kids.n):∃ x,b.eh s=some x/\Kn s x/\x.1.get r=(hH s r:Int)/\x.2.get r=(mH s r:Int):=by
 unfold b.eh;rw [aE ⟨by have:=h.n; have:=h.small; omega,fun i hi=>by have:=h.Tp i hi; unfold dg at this; omega⟩,hr];exact ady h 250 r _ ((Vq h.chl h.free r hi).le (by have:=h.small; omega)) hi ⟨h.n,h.n,fun j _=>.inl rfl⟩
end Go.Proofs.Ytckbdndhmcoihaa.sc
end
section
namespace Go.yX
variable {H:Type} (dg:H->Nat) (dW:H->Nat->H) (fN:H->Bool)
def wb:Nat->H->List (List Nat)
 | 0,_=>[]
 | t+1,h=>((List.range (dg h)).flatMap fun k=>(wb t (dW h k)).map (k::·))++cond (fN h) [[]] []
abbrev St (H:Type):=List (H×Nat)×List (List (H×Nat))
def nx:St H->St H
 | ([],out)=>([],out)
 | ((h,n)::st,out)=>cond (decide (n < dg h)) ((dW h n,0)::(h,n+1)::st,out) (st,cond (fN h) (out++[(h,n)::st]) out)
def it:Nat->St H->St H
 | 0,x=>x
 | r+1,x=>it r (nx dg dW fN x)
def ob:List (H×Nat)->H->List Nat->List (H×Nat)
 | st,h,[]=>(h,dg h)::st
 | st,h,k::ks=>ob ((h,k+1)::st) (dW h k) ks
variable {dg dW fN}
theorem NM:∀ (a c:Nat) (x:St H),it dg dW fN (a+c) x=it dg dW fN c (it dg dW fN a x)
 | 0,c,x=>by rw [ba]; rfl
 | a+1,c,x=>by
  rw [show a+1+c=(a+c)+1 by omega];exact NM a c _
theorem aeT:∀ (r:Nat) (out:List (List (H×Nat))),it dg dW fN r ([],out)=([],out)
 | 0,_=>rfl
 | r+1,out=>aeT r out
theorem visit {C:H->Prop} (hC:∀ h,C h->∀ k,k < dg h->C (dW h k)) (hf:∀ h:H,C h->dg h<=16):∀ (t:Nat) (h:H),C h->CB dg dW t h->∀ (st:List (H×Nat)) (out:List (List (H×Nat))),
  ∃ r,r+2<=3 * 17 ^ t/\1<=r/\it dg dW fN r ((h,0)::st,out)=(st,out++(wb dg dW fN t h).map (ob dg dW st h))
 | 0,_,_,hl,_,_=>hl.elim
 | t+1,h,hc,hl,st,out=>by
  have key:∀ k,k<=dg h->∃ r,r<=k * (3 * 17 ^ t - 1)/\it dg dW fN r ((h,0)::st,out)=((h,k)::st,out++((List.range k).flatMap fun k=>(wb dg dW fN t (dW h k)).map (k::·)).map (ob dg dW st h)):=by
   intro k
   induction k with
   | zero=>exact fun _=>⟨0,qK _,by simp [it]⟩
   | succ k ih=>
    intro hk;obtain ⟨r,h1,h2⟩:=ih (by omega);obtain ⟨r',q1,q2,q3⟩:=visit hC hf t (dW h k) (hC h hc k (by omega)) (hl k (by omega)) ((h,k+1)::st) (out++((List.range k).flatMap fun k=>(wb dg dW fN t (dW h k)).map (k::·)).map (ob dg dW st h));refine ⟨r+(1+r'),?_,?_⟩
    ·rw [Nat.succ_mul]; omega
    ·rw [NM,h2,NM]
     have e1:it dg dW fN 1 ((h,k)::st,out++((List.range k).flatMap fun k=>(wb dg dW fN t (dW h k)).map (k::·)).map (ob dg dW st h))=((dW h k,0)::(h,k+1)::st,out++((List.range k).flatMap fun k=>(wb dg dW fN t (dW h k)).map (k::·)).map (ob dg dW st h)):=by
      simp only [it,nx];rw [ay (by omega:k < dg h)];rfl
     rw [e1,q3,List.range_succ,List.flatMap_append,EO,List.append_assoc];congr 2;simp only [List.flatMap_cons,List.flatMap_nil,yl,List.map_map];rfl
  obtain ⟨r,h1,h2⟩:=key (dg h) (aB _);have hd:=hf h hc;refine ⟨r+1,?_,by omega,?_⟩
  ·have:dg h * (3 * 17 ^ t - 1)<=16 * (3 * 17 ^ t - 1):=Nat.mul_le_mul_right _ hd
   have hp:1<=17 ^ t:=Nat.one_le_pow _ _ (by omega);rw [Nat.pow_succ];omega
  ·rw [NM,h2]
   simp only [it,nx];rw [bo (Nat.lt_irrefl _),aI];rw [wb,EO];cases fN h with
   | true=>simp [ob]
   | false=>simp
theorem adz {α β:Type} (f:α->List β):∀ (l:List α),(l.flatMap f).length=(l.map fun x=>(f x).length).sum
 | []=>rfl
 | x::l=>by rw [List.flatMap_cons,kv,adz f l]; rfl
theorem aj5 (f:Nat->Nat):∀ k,P4 f k=min ((List.range k).map f).sum 257
 | 0=>rfl
 | k+1=>by
  rw [P4,aj5 f k,List.range_succ,EO,List.sum_append];show min (min _ 257+f k) 257=min (_+(f k+0)) 257;omega
theorem abV {C:H->Prop} (hC:∀ h,C h->∀ k,k < dg h->C (dW h k)) (hm:∀ h:H,C h->fN h=true->dg h=0):∀ (t:Nat) (h:H),C h->NL dg dW fN t h=min (wb dg dW fN t h).length 257
 | 0,h,_=>rfl
 | t+1,h,hc=>by
  rw [NL,wb,kv,adz];cases e:fN h with
  | true=>rw [hm h hc e]; rfl
  | false=>
   have ih:P4 (fun k=>NL dg dW fN t (dW h k)) (dg h)=P4 (fun k=>min (wb dg dW fN t (dW h k)).length 257) (dg h):=NK _ fun k hk=>abV hC hm t (dW h k) (hC h hc k hk);rw [aI,ih,aj5];simp only [List.length_map,aI,List.length_nil,ym];have:∀ (g:Nat->Nat) (l:List Nat),min (l.map fun k=>min (g k) 257).sum 257=min (l.map g).sum 257:=by
    intro g l
    induction l with
    | nil=>rfl
    | cons x l ih=>simp only [List.map_cons,List.sum_cons]; omega
   exact this _ _
theorem Vs:∀ (t:Nat) (h:H) (ks:List Nat),ks∈wb dg dW fN t h->ks.length+1<=Hj dg dW t h
 | 0,_,_,hk=>by simp [wb] at hk
 | t+1,h,ks,hk=>by
  rw [wb,jF] at hk;rw [Hj];rcases hk with hk | hk
  ·obtain ⟨k,h1,h2⟩:=List.mem_flatMap.1 hk
   obtain ⟨l,h3,rfl⟩:=GY.1 h2;have:=Vs t _ l h3;have:=aeR (fun k=>Hj dg dW t (dW h k)) _ k (G1.1 h1);simp only [qN];omega
  ·cases e:fN h with
   | true=>rw [e] at hk; simp at hk; subst hk; simp
   | false=>rw [e] at hk; simp at hk
def goH (dW:H->Nat->H):H->List Nat->H
 | h,[]=>h
 | h,k::ks=>goH dW (dW h k) ks
def am0 (dg:H->Nat) (dW:H->Nat->H):H->List Nat->Prop
 | _,[]=>True
 | h,k::ks=>k < dg h/\am0 dg dW (dW h k) ks
theorem abW:∀ (t:Nat) (h:H) (ks:List Nat),ks∈wb dg dW fN t h->am0 dg dW h ks/\fN (goH dW h ks)=true
 | 0,_,_,hk=>by simp [wb] at hk
 | t+1,h,ks,hk=>by
  rw [wb,jF] at hk;rcases hk with hk | hk
  ·obtain ⟨k,h1,h2⟩:=List.mem_flatMap.1 hk
   obtain ⟨l,h3,rfl⟩:=GY.1 h2;obtain ⟨h4,h5⟩:=abW t _ l h3;exact ⟨⟨G1.1 h1,h4⟩,h5⟩
  ·cases e:fN h with
   | true=>rw [e] at hk; simp at hk; subst hk; exact ⟨trivial,e⟩
   | false=>rw [e] at hk; simp at hk
theorem aj6:∀ (r:Nat) (x:St H),x.2.length<=(it dg dW fN r x).2.length
 | 0,_=>aB _
 | r+1,x=>by
  refine gR ?_ (aj6 r _);obtain ⟨st,out⟩:=x;cases st with
  | nil=>exact aB _
  | cons w st=>
   obtain ⟨h,n⟩:=w;simp only [nx];cases decide (n < dg h) with
   | true=>exact aB _
   | false=>
    cases fN h with
    | true=>simp
    | false=>exact aB _
end Go.yX
end
section
set_option maxRecDepth 20000
namespace Go.Proofs.Ytckbdndhmcoihaa.KL
open Go Go.RowKit Go.Lib Go.Shelf Go.K
open nodes (Bn)
structure Q where
 ka:Option Addr
 kc:Nat
 ia:Nat->Option Addr
 ic:Nat->Nat
 na:Option Addr
 nc:Nat
structure QAt (s:b.aA) (q:Q) (B:Nat) (W:World):Prop where
 kids:∀ i,i < s.graph.kids.n->∃ b off,q.ka=some ⟨b,off,none⟩/\b < B/\W.cell? ⟨b,off+i,none⟩=some (.slice (q.ia i) (s.graph.kids.get i).n (q.ic i))
 row:∀ i,i < s.graph.kids.n->∀ k,k < (s.graph.kids.get i).n->∃ b off,q.ia i=some ⟨b,off,none⟩/\b < B/\W.cell? ⟨b,off+k * 2,none⟩=some (.int .i64 ((s.graph.kids.get i).get k).slot)/\W.cell? ⟨b,off+k * 2+1,none⟩=some (.int .i64 ((s.graph.kids.get i).get k).gen)
 kind:∀ i,i < s.nodes.n->∃ b off,q.na=some ⟨b,off,none⟩/\b < B/\W.cell? ⟨b,off+i * 33,none⟩=some (.int .u8 (s.nodes.get i).kind)
structure CC (d m:Nat) (W W' : World):Prop where
 os:W'.os=W.os
 tape:W'.tape=W.tape
 output:W'.output=W.output
 size:W.heap.size<=W'.heap.size
 block:∀ k,k < W.heap.size->k≠d->k≠m->W'.heap[k]? = W.heap[k]?
theorem CC.refl (d m:Nat) (W:World):CC d m W W:=⟨rfl,rfl,rfl,aB _,fun _ _ _ _=>rfl⟩
theorem CC.trans {d m:Nat} {W W' W2:World} (h:CC d m W W') (k:CC d m W' W2):CC d m W W2:=
 ⟨k.os.trans h.os,k.tape.trans h.tape,k.output.trans h.output,gR h.size k.size,fun j hj hn hn2=>(k.block j (fa hj h.size) hn hn2).trans (h.block j hj hn hn2)⟩
theorem CC.cell {d m:Nat} {W W' : World} (h:CC d m W W') {b j:Nat} (hb:b < W.heap.size) (hd:b≠d) (hm:b≠m):W'.cell? ⟨b,j,none⟩=W.cell? ⟨b,j,none⟩:=by
 have:=h.block b hb hd hm;unfold World.cell?;simp only [this]
theorem CC.alloc {d m:Nat} (W:World) (o:Obj):CC d m W (W.alloc o):=⟨rfl,rfl,rfl,by simp,fun k hk _ _=>Below.heap_alloc W o k hk⟩
theorem CC.drew (d m:Nat) (W:World):CC d m W W.drew:=⟨rfl,rfl,rfl,aB _,fun _ _ _ _=>rfl⟩
theorem QAt.dP {s:b.aA} {q:Q} {B d m:Nat} {W W' : World} (h:QAt s q B W) (k:CC d m W W') (hB:B<=W.heap.size) (hd:B<=d) (hm:B<=m):QAt s q B W':=by
 refine ⟨fun i hi=>?_,fun i hi j hj=>?_,fun i hi=>?_⟩
 ·obtain ⟨b,off,h1,h2,h3⟩:=h.kids i hi
  exact ⟨b,off,h1,h2,by rw [k.cell (by omega) (by omega) (by omega)]; exact h3⟩
 ·obtain ⟨b,off,h1,h2,h3,h4⟩:=h.row i hi j hj
  exact ⟨b,off,h1,h2,by rw [k.cell (by omega) (by omega) (by omega)]; exact h3,by rw [k.cell (by omega) (by omega) (by omega)]; exact h4⟩
 ·obtain ⟨b,off,h1,h2,h3⟩:=h.kind i hi
  exact ⟨b,off,h1,h2,by rw [k.cell (by omega) (by omega) (by omega)]; exact h3⟩
structure Ju (s:b.aA) (q:Q) (B b1 b2 b3 b4 d m N:Nat) (W:World) (x:Sl Int×Sl Int):Prop where
 at_:QAt s q B W
 eV:B<=W.heap.size
 l1:b1 < W.heap.size/\b1≠d/\b1≠m
 l2:b2 < W.heap.size/\b2≠d/\b2≠m
 l3:b3 < W.heap.size/\b3≠d/\b3≠m
 l4:b4 < W.heap.size/\b4≠d/\b4≠m
 ld:B<=d/\d < W.heap.size
 lm:B<=m/\m < W.heap.size
 ne:d≠m
 n1:x.1.n=N
 n2:x.2.n=N
 c1:W.cell? ⟨b1,0,none⟩=some (.slice (some ⟨d,0,none⟩) N N)
 c2:W.cell? ⟨b2,1,none⟩=some (.slice q.ka s.graph.kids.n q.kc)
 e2:W.cell? ⟨b2,2,none⟩=some (.slice q.na s.nodes.n q.nc)
 c3:W.cell? ⟨b3,0,none⟩=some (.func (.func 50) #[] #[.pointer (some ⟨b1,0,none⟩),.pointer (some ⟨b2,0,none⟩),.pointer (some ⟨b3,0,none⟩),.pointer (some ⟨b4,0,none⟩)])
 c4:W.cell? ⟨b4,0,none⟩=some (.slice (some ⟨m,0,none⟩) N N)
 cd:∀ i,i < N->W.cell? ⟨d,i,none⟩=some (.int .i64 (x.1.get i))
 cm:∀ i,i < N->W.cell? ⟨m,i,none⟩=some (.int .i64 (x.2.get i))
 fd:∀ i,W.frozen? ⟨d,i,none⟩=false
 fm:∀ i,W.frozen? ⟨m,i,none⟩=false
theorem Ju.grow {s:b.aA} {q:Q} {B b1 b2 b3 b4 d m N:Nat} {W W' : World} {x:Sl Int×Sl Int} (h:Ju s q B b1 b2 b3 b4 d m N W x) (k:CC d m W W') (hd:W'.heap[d]? = W.heap[d]?) (hm:W'.heap[m]? = W.heap[m]?):Ju s q B b1 b2 b3 b4 d m N W' x where
 at_:=h.at_.dP k h.eV h.ld.1 h.lm.1
 eV:=gR h.eV k.size
 l1:=⟨fa h.l1.1 k.size,h.l1.2⟩
 l2:=⟨fa h.l2.1 k.size,h.l2.2⟩
 l3:=⟨fa h.l3.1 k.size,h.l3.2⟩
 l4:=⟨fa h.l4.1 k.size,h.l4.2⟩
 ld:=⟨h.ld.1,fa h.ld.2 k.size⟩
 lm:=⟨h.lm.1,fa h.lm.2 k.size⟩
 ne:=h.ne
 n1:=h.n1
 n2:=h.n2
 c1:=(k.cell h.l1.1 h.l1.2.1 h.l1.2.2).trans h.c1
 c2:=(k.cell h.l2.1 h.l2.2.1 h.l2.2.2).trans h.c2
 e2:=(k.cell h.l2.1 h.l2.2.1 h.l2.2.2).trans h.e2
 c3:=(k.cell h.l3.1 h.l3.2.1 h.l3.2.2).trans h.c3
 c4:=(k.cell h.l4.1 h.l4.2.1 h.l4.2.2).trans h.c4
 cd i hi:=by rw [<- h.cd i hi]; unfold World.cell?; simp only [hd]
 cm i hi:=by rw [<- h.cm i hi]; unfold World.cell?; simp only [hm]
 fd i:=by rw [<- h.fd i]; unfold World.frozen?; simp only [hd]
 fm i:=by rw [<- h.fm i]; unfold World.frozen?; simp only [hm]
theorem CC.set (d m:Nat) (W:World) (i k:Nat) (u v:Value):CC d m W ((W.setCell ⟨d,i,none⟩ u).setCell ⟨m,k,none⟩ v):=
 ⟨rfl,rfl,rfl,by simp,fun j _ h1 h2=>by rw [heap_setCell_other _ _ _ _ h2,heap_setCell_other _ _ _ _ h1]⟩
theorem Ju.put {s:b.aA} {q:Q} {B b1 b2 b3 b4 d m N:Nat} {W:World} {x:Sl Int×Sl Int} (h:Ju s q B b1 b2 b3 b4 d m N W x) {i:Nat} (hi:i < N) (u v:Int) :
  Ju s q B b1 b2 b3 b4 d m N ((W.setCell ⟨d,i,none⟩ (.int .i64 u)).setCell ⟨m,i,none⟩ (.int .i64 v)) (x.1.set i u,x.2.set i v):=by
 have k:=CC.set d m W i i (.int .i64 u) (.int .i64 v);have cH:∀ {a c:Nat} {j l:Nat},a≠c->(⟨a,j,none⟩:Addr)≠⟨c,l,none⟩:=fun h e=>h (by simpa using congrArg Addr.block e);have Nb:∀ {a:Nat} {j l:Nat},j≠l->(⟨a,j,none⟩:Addr)≠⟨a,l,none⟩:=fun h e=>h (by simpa using congrArg Addr.off e);have NR:∀ {s:Sl Int} {j:Nat} {w:Int},(s.set i w).get j=if j=i then w else s.get j:=fun {s j w}=>by
  by_cases e:j=i
  ·subst e
   show cond (Nat.beq j j) w (s.get j)=_;rw [tM,aE rfl]; rfl
  ·have:Nat.beq j i=false:=by
    cases q:Nat.beq j i with
    | false=>rfl
    | true=>exact absurd (aK q) e
   show cond (Nat.beq j i) w (s.get j)=_;rw [this,aa e]; rfl
 refine ⟨h.at_.dP k h.eV h.ld.1 h.lm.1,gR h.eV k.size,⟨fa h.l1.1 k.size,h.l1.2⟩,⟨fa h.l2.1 k.size,h.l2.2⟩,⟨fa h.l3.1 k.size,h.l3.2⟩,⟨fa h.l4.1 k.size,h.l4.2⟩,
  ⟨h.ld.1,fa h.ld.2 k.size⟩,⟨h.lm.1,fa h.lm.2 k.size⟩,h.ne,h.n1,h.n2,(k.cell h.l1.1 h.l1.2.1 h.l1.2.2).trans h.c1,(k.cell h.l2.1 h.l2.2.1 h.l2.2.2).trans h.c2,(k.cell h.l2.1 h.l2.2.1 h.l2.2.2).trans h.e2,
  (k.cell h.l3.1 h.l3.2.1 h.l3.2.2).trans h.c3,(k.cell h.l4.1 h.l4.2.1 h.l4.2.2).trans h.c4,fun j hj=>?_,fun j hj=>?_,fun j=>by rw [World.frozen?_setCell,World.frozen?_setCell]; exact h.fd j,fun j=>by rw [World.frozen?_setCell,World.frozen?_setCell]; exact h.fm j⟩
 ·rw [World.cell?_setCell_other (h:=cH h.ne.symm)]
  show _=some (Value.int .i64 ((x.1.set i u).get j));rw [NR];by_cases e:j=i
  ·subst e; rw [aE rfl]; exact World.cell?_setCell_same _ _ _ (h.cd j hj)
  ·rw [aa e,World.cell?_setCell_other (h:=Nb (Ne.symm e))]; exact h.cd j hj
 ·show _=some (Value.int .i64 ((x.2.set i v).get j))
  rw [NR];by_cases e:j=i
  ·subst e
   rw [aE rfl];exact World.cell?_setCell_same _ _ _ (by rw [World.cell?_setCell_other (h:=cH h.ne)]; exact h.cm j hj)
  ·rw [aa e,World.cell?_setCell_other (h:=Nb (Ne.symm e)),World.cell?_setCell_other (h:=cH h.ne)]; exact h.cm j hj
def aoB (s:b.aA) (slot:Int) (z:Int×Int×(Sl Int×Sl Int)) (v:Int):Sl Int×Sl Int:=(z.2.2.1.set slot.toNat (aO (z.1+1)),z.2.2.2.set slot.toNat v)
theorem ak8 {s:b.aA} {f:Nat} {i:Int} {x x' : Sl Int×Sl Int} (h:b.xa s f i x=some x'):0<=i/\i < (x.1.n:Int):=by
 cases f with
 | zero=>simp [b.xa] at h
 | succ f=>
  unfold b.xa at h;by_cases h1:0<=i
  ·by_cases h2:i < (x.1.n:Int)
   ·exact ⟨h1,h2⟩
   ·simp [h2] at h
  ·simp [h1] at h
set_option maxHeartbeats 4000000 in
theorem down (s:b.aA) (q:Q) (B b1 b2 b3 b4 d m N:Nat) (fp:∀ i,i < s.graph.kids.n->(s.graph.kids.get i).n<=1000000):∀ (f:Nat) (slot:Int) (x x' : Sl Int×Sl Int) (W:World),b.xa s f slot x=some x'->Ju s q B b1 b2 b3 b4 d m N W x->
  Calls Try.prog 50 #[.int .i64 slot,.pointer (some ⟨b1,0,none⟩),.pointer (some ⟨b2,0,none⟩),.pointer (some ⟨b3,0,none⟩),.pointer (some ⟨b4,0,none⟩)] W fun e W'=>e = .returned (.tuple #[])/\Ju s q B b1 b2 b3 b4 d m N W' x'/\CC d m W W'
 | 0,_,_,_,_,h,_=>by simp [b.xa] at h
 | f+1,slot,x,x',W,h,L=>by
  have mixed:=Bn;have t3:=Try.underlying3; have a3:=Try.isAgg3; have z3:=Try.sizeOf3; have v3:=Try.zeroValue3; have u3:=run_underlying Try.underlying3;have t48:=Try.underlying48; have a48:=Try.isAgg48; have z48:=Try.sizeOf48; have v48:=Try.zeroValue48; have u48:=run_underlying Try.underlying48;have t32:=Try.underlying32; have a32:=Try.isAgg32; have z32:=Try.sizeOf32; have v32:=Try.zeroValue32; have u32:=run_underlying Try.underlying32;have t34:=Try.underlying34; have a34:=Try.isAgg34; have z34:=Try.sizeOf34; have v34:=Try.zeroValue34; have u34:=run_underlying Try.underlying34;have t27:=Try.underlying27; have a27:=Try.isAgg27; have z27:=Try.sizeOf27; have v27:=Try.zeroValue27; have u27:=run_underlying Try.underlying27;have t25:=Try.underlying25; have a25:=Try.isAgg25; have z25:=Try.sizeOf25; have v25:=Try.zeroValue25; have u25:=run_underlying Try.underlying25;have t47:=Try.underlying47; have a47:=Try.isAgg47; have z47:=Try.sizeOf47; have v47:=Try.zeroValue47; have u47:=run_underlying Try.underlying47;have t28:=Try.underlying28; have a28:=Try.isAgg28; have z28:=Try.sizeOf28; have v28:=Try.zeroValue28; have u28:=run_underlying Try.underlying28;have t64:=Try.underlying64; have a64:=Try.isAgg64; have z64:=Try.sizeOf64; have v64:=Try.zeroValue64; have u64:=run_underlying Try.underlying64;have t5:=Try.underlying5; have a5:=Try.isAgg5; have z5:=Try.sizeOf5; have v5:=Try.zeroValue5; have u5:=run_underlying Try.underlying5;have t143:=Try.underlying143; have a143:=Try.isAgg143; have z143:=Try.sizeOf143; have v143:=Try.zeroValue143; have aqs:=run_underlying Try.underlying143;unfold b.xa at h;by_cases hb:0<=slot/\slot < (x.1.n:Int)/\slot < (s.graph.kids.n:Int)/\slot < (s.nodes.n:Int)
  case neg=>
   exfalso;have:(decide (0<=slot)&&decide (slot < (x.1.n:Int))&&decide (slot < (s.graph.kids.n:Int))&&decide (slot < (s.nodes.n:Int)))=false:=by
    rw [<- Bool.not_eq_true];simp only [aq,lT];rintro ⟨⟨⟨q1,q2⟩,q3⟩,q4⟩;exact hb ⟨q1,q2,q3,q4⟩
   rw [this] at h;simp at h
  obtain ⟨hp,hN,hK,hV⟩:=hb;rw [ay hp,ay hN,ay hK,ay hV] at h;simp only [cK,aj] at h;rw [L.n1] at hN;have c1:=L.c1;have cd:=L.cd slot.toNat (by omega);by_cases hz:x.1.get slot.toNat > 0
  ·rw [ay hz,aj] at h
   have:=GX h;subst this
   go_enter Try.func50,Try.ntmps50
   go_wp2
   refine bodyPost_ret (results_none rfl _ _ _) rfl ?_;exact ⟨rfl,L,.refl _ _ _⟩
  ·rw [bo hz,aI] at h
   cases hk:b.Gy (b.xa s f) (s.graph.kids.get slot.toNat) (s.graph.kids.get slot.toNat).n (0,0,x) with
   | none=>rw [hk] at h; simp at h
   | some y=>
   rw [hk] at h
   replace h:=GX h
   have ZO:∀ k,k<=(s.graph.kids.get slot.toNat).n->∃ z,b.Gy (b.xa s f) (s.graph.kids.get slot.toNat) k (0,0,x)=some z:=by
    intro k mF;obtain ⟨r,hr⟩:∃ r,(s.graph.kids.get slot.toNat).n=k+r:=⟨(s.graph.kids.get slot.toNat).n - k,by omega⟩
    rw [hr] at hk;clear hr mF;clear h
    induction r generalizing y with
    | zero=>exact ⟨y,hk⟩
    | succ r ih=>
     rw [show k+(r+1)=(k+r)+1 by omega] at hk;unfold b.Gy at hk;obtain ⟨z,h1,_⟩:=cC.1 hk;exact ih z h1
   have c2:=L.c2;have e2:=L.e2;obtain ⟨bk,ok,hka,hbk,hkd⟩:=L.at_.kids slot.toNat (by omega);obtain ⟨bn,on,hna,KF,hkn⟩:=L.at_.kind slot.toNat (by omega);rw [hka] at c2;rw [hna] at e2;have hcnt:=fp slot.toNat (by omega);generalize hcn:(s.graph.kids.get slot.toNat).n=cn at *
   go_enter Try.func50,Try.ntmps50
   go_wp2
   go_loopg [6,7,22] cn (fun gg s6 s7 s22 wr=>∃ kk:Nat,kk<=cn/\cn - kk<=gg/\s22 = .int .i64 kk/\∃ z,b.Gy (b.xa s f) (s.graph.kids.get slot.toNat) kk (0,0,x)=some z/\s6 = .int .i64 z.1/\s7 = .int .i64 z.2.1/\Aside (Ju s q B b1 b2 b3 b4 d m N wr z.2.2/\CC d m W wr))
   case atStart=>exact ⟨0,qK _,by omega,rfl,_,rfl,rfl,rfl,L,.refl _ _ _⟩
   case round=>
    obtain ⟨kk,hkk,hgg,rfl,z,Ky,rfl,rfl,BW⟩:=hrel;obtain ⟨LZ,KZ⟩:=BW.out;clear BW;by_cases bj:kk < cn
    ·have ags:(kk:Int) < (cn:Int):=by omega
     obtain ⟨z2,Cz⟩:=ZO (kk+1) (by omega);unfold b.Gy at Cz;rw [Ky] at Cz;have Cz:((b.xa s f ((s.graph.kids.get slot.toNat).get kk).slot z.2.2).bind fun z'=>some (max z.1 (z'.1.get ((s.graph.kids.get slot.toNat).get kk).slot.toNat),min (aO (z.2.1+z'.2.get ((s.graph.kids.get slot.toNat).get kk).slot.toNat)) 257,z'))=some z2:=Cz;obtain ⟨zz,hzz,hz3⟩:=cC.1 Cz;obtain ⟨bc,oc,hia,Yu,xg,tS⟩:=LZ.at_.row slot.toNat (by omega) kk (by omega);have KA:=CC.alloc (d:=d) (m:=m) wr (.cells #[.int .i64 ((s.graph.kids.get slot.toNat).get kk).slot,.int .i64 ((s.graph.kids.get slot.toNat).get kk).gen] 32);have LA:=LZ.grow KA (Below.heap_alloc wr _ d LZ.ld.2) (Below.heap_alloc wr _ m LZ.lm.2);have c3A:=LA.c3;have h0A:(wr.alloc (.cells #[.int .i64 ((s.graph.kids.get slot.toNat).get kk).slot,.int .i64 ((s.graph.kids.get slot.toNat).get kk).gen] 32)).cell? ⟨wr.heap.size,0,none⟩=some (.int .i64 ((s.graph.kids.get slot.toNat).get kk).slot):=by simp
     have yK:=down s q B b1 b2 b3 b4 d m N fp f ((s.graph.kids.get slot.toNat).get kk).slot z.2.2 zz _ hzz LA;have hd9:wr.heap.size≠d/\wr.heap.size≠m:=by have:=LZ.ld.2; have:=LZ.lm.2; omega
     have aqt:wr.heap.size < (wr.alloc (.cells #[.int .i64 ((s.graph.kids.get slot.toNat).get kk).slot,.int .i64 ((s.graph.kids.get slot.toNat).get kk).gen] 32)).heap.size:=by simp
     generalize abk:((s.graph.kids.get slot.toNat).get kk).slot=ks at *;generalize hWA:wr.alloc (.cells #[.int .i64 ks,.int .i64 ((s.graph.kids.get slot.toNat).get kk).gen] 32)=WA at *
     go_wp2_with (go_at_call 50; go_loud (refine yK.mono ?_; rintro e w2 ⟨rfl,L2,K2⟩; have g1:=L2.c1; have g4:=L2.c4; have g9:=(K2.cell aqt hd9.1 hd9.2).trans h0A))
     have vp:=ak8 hzz;rw [LZ.n1] at vp;have g2:=L2.cd ks.toNat (by omega);have g3:=L2.cm ks.toNat (by omega);have hin1:=vp.1;have hin2:=vp.2
     go_region_held3 (fun w'=>w'.cell? ⟨b1,0,none⟩=some (.slice (some ⟨d,0,none⟩) N N)/\w'.cell? ⟨b4,0,none⟩=some (.slice (some ⟨m,0,none⟩) N N)/\w'.cell? ⟨wr.heap.size,0,none⟩=some (.int .i64 ks)/\w'.cell? ⟨d,ks.toNat,none⟩=some (.int .i64 (zz.1.get ks.toNat))/\w'.cell? ⟨m,ks.toNat,none⟩=some (.int .i64 (zz.2.get ks.toNat))) (go_keep) (fail)
     all_goals
      replace hz3:=GX hz3
      have hkM:b.Gy (b.xa s f) (s.graph.kids.get slot.toNat) (kk+1) (0,0,x)=some z2:=by
       unfold b.Gy;rw [Ky];show ((b.xa s f ((s.graph.kids.get slot.toNat).get kk).slot z.2.2).bind _)=_;rw [abk,hzz];exact congrArg some hz3
      have RM:Aside (Ju s q B b1 b2 b3 b4 d m N w2.drew z2.2.2/\CC d m W w2.drew):=by
       rw [<- hz3];exact ⟨L2.grow (.drew _ _ _) rfl rfl,KZ.trans (KA.trans (K2.trans (.drew _ _ _)))⟩
      have h61:max z.1 (zz.1.get ks.toNat)=z2.1:=by rw [<- hz3]
      have h71:min (IntKind.i64.wrap (z.2.1+zz.2.get ks.toNat)) 257=z2.2.1:=by rw [<- hz3]
      clear LZ LA KZ KA K2 L2 yK ZO Cz hz3 xg tS
      go_wp2
      simp only [<- hia]
      go_roundg (cn - (kk+1))
     all_goals first | omega | exact ⟨kk+1,by omega,by omega,by go_num,z2,hkM,by rw [h61],by rw [h71],RM⟩
    ·have ags : ¬ (kk:Int) < (cn:Int):=by omega
     have:kk=cn:=by omega
     subst this;rw [Ky] at hk;have:=GX hk;subst this;have g1:=LZ.c1;have g4:=LZ.c4;have g2:=LZ.e2;rw [hna] at g2;obtain ⟨bn2,on2,aoC,hbn2,hkn2⟩:=LZ.at_.kind slot.toNat (by omega);rw [hna] at aoC;obtain ⟨rfl,rfl⟩:bn=bn2/\on=on2:=by simpa using aoC
     have e1:z.2.2.1.n=N:=LZ.n1;have f1:=LZ.cd slot.toNat (by omega);have f4:=LZ.fd slot.toNat;have f5:=LZ.fm slot.toNat;have f6:=LZ.cm slot.toNat (by omega);have hdm:=LZ.ne;have hb1d:=LZ.l1.2.1;have hb1m:=LZ.l1.2.2;have hb4d:=LZ.l4.2.1;have hb4m:=LZ.l4.2.2;have hb1d':=LZ.l1.2.1.symm;have hb4d':=LZ.l4.2.1.symm;have hb1m':=LZ.l1.2.2.symm;have hb4m':=LZ.l4.2.2.symm;have hmd:=LZ.ne.symm;have fin:∀ v,((aoB s slot z v)=x'->Ending.returned (.tuple #[]) = .returned (.tuple #[])/\Ju s q B b1 b2 b3 b4 d m N ((wr.setCell ⟨d,slot.toNat,none⟩ (.int .i64 (aO (z.1+1)))).setCell ⟨m,slot.toNat,none⟩ (.int .i64 v)).drew x'/\CC d m W ((wr.setCell ⟨d,slot.toNat,none⟩ (.int .i64 (aO (z.1+1)))).setCell ⟨m,slot.toNat,none⟩ (.int .i64 v)).drew):=fun v hv=>by
      subst hv;exact ⟨rfl,(LZ.put (by omega) _ v).grow (.drew _ _ _) rfl rfl,KZ.trans ((CC.set d m wr _ _ _ _).trans (.drew _ _ _))⟩
     have hx:aoB s slot z (cond ((s.nodes.get slot.toNat).kind==5) 1 z.2.1)=x':=h;clear h LZ KZ L ZO hkd;by_cases hk5:(s.nodes.get slot.toNat).kind=5
     ·have am1:((s.nodes.get slot.toNat).kind==5)=true:=by simp [hk5]
      rw [am1] at hx;have RM:=fin 1 hx
      go_wp2
      go_region_held3 (fun w'=>w'.cell? ⟨b1,0,none⟩=some (.slice (some ⟨d,0,none⟩) N N)/\w'.cell? ⟨b4,0,none⟩=some (.slice (some ⟨m,0,none⟩) N N)/\(w'.cell? ⟨d,slot.toNat,none⟩).isSome=true/\(w'.cell? ⟨m,slot.toNat,none⟩).isSome=true/\w'.frozen? ⟨d,slot.toNat,none⟩=false/\w'.frozen? ⟨m,slot.toNat,none⟩=false) (simp [*,World.cell?_setCell_far,World.cell?_setCell_same']) (fail)
      all_goals (go_wp2; go_end0; exact ⟨rfl,RM.2⟩)
     ·have am1:((s.nodes.get slot.toNat).kind==5)=false:=by simp [hk5]
      rw [am1] at hx;have RM:=fin z.2.1 hx
      go_wp2
      go_region_held3 (fun w'=>w'.cell? ⟨b1,0,none⟩=some (.slice (some ⟨d,0,none⟩) N N)/\w'.cell? ⟨b4,0,none⟩=some (.slice (some ⟨m,0,none⟩) N N)/\(w'.cell? ⟨d,slot.toNat,none⟩).isSome=true/\(w'.cell? ⟨m,slot.toNat,none⟩).isSome=true/\w'.frozen? ⟨d,slot.toNat,none⟩=false/\w'.frozen? ⟨m,slot.toNat,none⟩=false) (simp [*,World.cell?_setCell_far,World.cell?_setCell_same']) (fail)
      all_goals (go_wp2; go_end0; exact ⟨rfl,RM.2⟩)
end Go.Proofs.Ytckbdndhmcoihaa.KL
end
section
namespace Go.K
open Go Go.aG
variable {P:Program} {E:Env}
theorem cO.trans {E1 E2 E3:Env} {A1 A2 A3:ae} {B1 B2 B3:St} (am2:B1.next<=B2.next) (h:cO P E1 A1 B1 E2 A2 B2) (k:cO P E2 A2 B2 E3 A3 B3):cO P E1 A1 B1 E3 A3 B3 where
 fT:=k.fT
 le:=Env.le_trans h.le k.le
 next:=gR h.next k.next
 dP x hx hn ha:=by
  refine (k.dP x (fa hx am2) (fun b e=>?_) fun q=>?_).trans (h.dP x hx hn ha)
  ·rcases h.new b x e with e | e
   ·exact h.CW b (hn b e)
   ·omega
  ·rcases h.lZ x q with e | e
   ·exact ha e
   ·omega
 new b x e:=by
  rcases k.new b x e with e | e
  ·exact h.new b x e
  ·have:=h.next; exact .inr (by omega)
 tW b r e:=by
  rcases k.tW b r e with e | e | e
  ·exact h.tW b r e
  ·exact .inr (h.kq b e)
  ·exact .inr (.inr (by omega))
 se b g e:=by
  rcases k.se b g e with e | e
  ·exact h.se b g e
  ·exact .inr (by omega)
 oU g hg hn ha:=by
  refine (k.oU g (fa hg am2) (fun b e=>?_) fun q=>?_).trans (h.oU g hg hn ha)
  ·rcases h.se b g e with e | e
   ·exact hn b e
   ·omega
  ·rcases h.kL g q with e | e
   ·exact ha e
   ·omega
 kq x e:=by
  rcases k.kq x e with e | e
  ·exact h.kq x e
  ·exact .inr (by omega)
 kL g e:=by
  rcases k.kL g e with e | e
  ·exact h.kL g e
  ·exact .inr (by omega)
 vz g y e:=by
  rcases k.vz g y e with e | e
  ·exact h.vz g y e
  ·exact .inr (by omega)
 lZ y e:=by
  rcases k.lZ y e with e | e
  ·exact h.lZ y e
  ·exact .inr (by omega)
 rows y hy cs e own bK q:=by
  obtain ⟨c1,h1,h2⟩:=k.rows y (fa hy am2) cs e own bK q;obtain ⟨c0,h3,h4⟩:=h.rows y hy c1 e own bK h1;exact ⟨c0,h3,h4.trans h2⟩
 CW b q:=k.CW b (h.CW b q)
def abX (ρ:Ren) (B:St) (k:Nat):Prop:=∀ b l,B.get b≠none->B.get b≠some .dead->ρ b=some l->l.cb≠k
structure Made (ρ:Ren) (base:Nat) (w w1:World) (k bp:Nat) (cs:List Value):Prop where
 base:base<=k
 new:w.heap.size<=k
 lG:k < w1.heap.size
 cells:∀ (i:Nat) (v:Value),cs[i]? = some v->∃ v',w1.cell? ⟨k,i,.none⟩=some v'/\VR ρ v v'/\scalar v=true
 free:∀ j,w1.frozen? ⟨k,j,.none⟩=false
theorem Made.mono {ρ aF:Ren} {base:Nat} {w w1:World} {k bp:Nat} {cs:List Value} (h:Made ρ base w w1 k bp cs) (m:ρ.le aF):Made aF base w w1 k bp cs:=
 ⟨h.base,h.new,h.lG,fun i v hi=>by obtain ⟨v',h1,h2,h3⟩:=h.cells i v hi; exact ⟨v',h1,h2.mono m,h3⟩,h.free⟩
theorem iU.late {base:Nat} {ρ kD:Ren} {B B1:St} {w w1:World} (g:iU base ρ B w kD B1 w1) {k bp:Nat} {cs:List Value} (hm:Made kD base w w1 k bp cs) (hf:abX kD B1 k) :
  iU base ρ B w (kD.set B1.next ⟨k,0,cs.length,bp⟩) (B1.new (.row cs bp true none)) w1:=by
 have hs:=g.fT;have hle:=hs.EV ⟨k,0,cs.length,bp⟩;have hk:∀ b o l',B1.get b=some o->o≠.dead->kD b=some l'->l'.cb≠k:=fun b o l' h1 h2 h3=>hf b l' (by rw [h1]; simp) (by rw [h1]; simpa using h2) h3;refine ⟨⟨.EW ?_ ?_ ?_,?_,hs.size,hs.HX.mono hle⟩,?_,g.kept,by have:=g.next; simp; omega,by simpa using g.low,?_,?_⟩
 ·intro b o' hg hd
  rw [St.cq] at hg;split at hg
  ·rename_i e; subst e; simp at hg; subst hg
   refine ⟨_,Ren.fG _ _ _,⟨fun i v hi=>?_,fun h=>by simp at h,fun _=>hm.base,fun _ j hj=>?_,by simp,fun _ _=>by simp,rfl,hm.lG,fun _ _ j=>hm.free j⟩⟩
   ·obtain ⟨v',h1,h2,h3⟩:=hm.cells i v hi
    exact ⟨v',by rw [ba]; exact h1,h2.mono hle,h3⟩
   ·have hj:j < cs.length:=hj
    obtain ⟨v',h1,_⟩:=hm.cells j _ (cI hj);exact ⟨by rw [h1]; rfl,hm.free j⟩
  ·obtain ⟨l',h1,h2⟩:=hs.rel.obj hg hd
   exact ⟨l',hle _ _ h1,h2.dP hle rfl (aB _)⟩
 ·intro b1 b2 o1 o2 l1 l2 cH g1 g2 m1 m2 r1 r2 Cy
  have hd1:o1≠.dead:=by intro e; subst e; simp [ct.eF] at m1
  have hd2:o2≠.dead:=by intro e; subst e; simp [ct.eF] at m2
  rw [St.cq] at g1 g2;by_cases e1:b1=B1.next
  ·have e2:b2≠B1.next:=fun e=>cH (e1.trans e.symm)
   rw [aa e2] at g2;rw [e1,Ren.fG] at r1;rw [Ren.eG _ _ e2] at r2;simp at r1; subst r1;exact absurd Cy.symm (hk b2 o2 l2 g2 hd2 r2)
  ·rw [aa e1] at g1
   rw [Ren.eG _ _ e1] at r1;by_cases e2:b2=B1.next
   ·rw [e2,Ren.fG] at r2
    simp at r2; subst r2;exact absurd Cy (hk b1 o1 l1 g1 hd1 r1)
   ·rw [aa e2] at g2
    rw [Ren.eG _ _ e2] at r2;exact hs.rel.apart b1 b2 o1 o2 l1 l2 cH g1 g2 m1 m2 r1 r2 Cy
 ·intro b o' aP f hg mF
  rw [St.cq] at hg;split at hg
  ·simp at hg; subst hg; simp [ct.lF] at mF
  ·exact hs.rel.cY b o' aP f hg mF
 ·intro b l' h
  rw [St.bS];by_cases e:b=B1.next
  ·omega
  ·rw [Ren.eG _ _ e] at h; have:=hs.jI b l' h; omega
 ·intro b hb
  rw [Ren.eG _ _ (by have:=g.next; omega)];exact g.ext b hb
 ·intro b hb wB
  rw [St.cq,aa (by have:=g.next; omega)];exact g.same b hb (by simpa using wB)
 ·rintro k' mF ⟨b,o',l',hg,OJ,hr,rfl⟩
  by_cases e:b=B1.next
  ·subst e
   rw [Ren.fG] at hr;simp at hr; subst hr;have:=hm.new;simp only at mF;omega
  ·rw [St.cq,aa e] at hg
   rw [Ren.eG _ _ e] at hr;exact g.img _ mF ⟨b,o',l',hg,OJ,hr,rfl⟩
theorem abY {base:Nat} {ρ:Ren} {B:St} {w:World} (h:vm ρ B base w) {k:Nat} (hk:w.heap.size<=k):abX ρ B k:=fun b l h1 h2 h3=>by
 cases hg:B.get b with
 | none=>exact absurd hg h1
 | some o=>
  have hd:o≠.dead:=fun e=>h2 (by rw [hg,e]);obtain ⟨l',e,ok⟩:=h.rel.obj hg hd;rw [h3] at e; simp at e; subst e;have:=ok.lt hd;omega
theorem abX.late {ρ:Ren} {B:St} {k k' bp:Nat} {cs:List Value} (h:abX ρ B k) (cH:k'≠k):abX (ρ.set B.next ⟨k',0,cs.length,bp⟩) (B.new (.row cs bp true none)) k:=fun b l h1 h2 h3=>by
 by_cases e:b=B.next
 ·subst e
  rw [Ren.fG] at h3;simp at h3; subst h3;exact cH
 ·rw [St.cq,aa e] at h1 h2
  rw [Ren.eG _ _ e] at h3;exact h b l h1 h2 h3
theorem Yo {ρ:Ren} {b k:Nat} {s:Sl Int} {T:TypeId} (hT:aU P T=1) (aaq:dH (aQ P T) ((List.range s.n).map fun i=>kI .i64 (s.get i))=true) (hz:E.z b=some ⟨(List.range s.n).map fun i=>.int .i64 (s.get i),1,true,none⟩) (kC:ρ b=some ⟨k,0,s.n,1⟩) :
  VC P E ρ (dL T (kI .i64) s) (.slice (some ⟨k,0,.none⟩) s.n s.n):=by
 have hvk:∀ (l:List Nat),aV P E (l.map fun i=>kI .i64 (s.get i)) (l.map fun i=>.int .i64 (s.get i)):=by
  intro l
  induction l with
  | nil=>exact .nil
  | cons x l ih=>exact .cons .mkInt ih
 refine ⟨.slice (some ⟨b,0,.none⟩) s.n s.n,?_,?_⟩
 ·unfold dL
  simp only [VK];refine ⟨⟨by simp,fun i hi=>?_,aaq⟩,_,hvk _,some ⟨b,0,.none⟩,s.n,rfl,aB _,.inr ⟨b,0,⟨_,1,true,.none⟩,rfl,hz,hT.symm,?_⟩,trivial⟩
  ·rw [fC,o8,List.getElem?_range hi]
   rfl
  ·rw [hT]
   intro i y hy;refine ⟨?_,fun j z hz=>?_⟩
   ·rw [o8] at hy
    obtain ⟨x,_,rfl⟩:=ck.1 hy;rfl
   ·rw [o8] at hy
    obtain ⟨x,hx,rfl⟩:=ck.1 hy;have hj:j < 1:=(rV.1 hz).1;have:j=0:=by omega
    subst this;rw [show 0+i * 1+0=i by omega,o8,hx];exact hz
 ·simp only [VR]
  exact ⟨trivial,aB _,⟨k,0,s.n,1⟩,⟨k,0,.none⟩,s.n,kC,aB _,fun _=>rfl,by simp,rfl⟩
structure Kq (w w1:World) (k:Nat) (s:Sl Int):Prop where
 new:w.heap.size<=k
 lG:k < w1.heap.size
 cells:∀ i,i < s.n->w1.cell? ⟨k,i,.none⟩=some (.int .i64 (s.get i))
 free:∀ j,w1.frozen? ⟨k,j,.none⟩=false
theorem Kq.made {ρ:Ren} {base:Nat} {w w1:World} {k:Nat} {s:Sl Int} (h:Kq w w1 k s) (hb:base<=w.heap.size):Made ρ base w w1 k 1 ((List.range s.n).map fun i=>.int .i64 (s.get i)):=
 ⟨gR hb h.new,h.new,h.lG,fun i v hi=>by
  rw [o8] at hi;obtain ⟨x,hx,rfl⟩:=ck.1 hi;obtain ⟨hl,rfl⟩:=cG.1 hx;rw [List.length_range] at hl;rw [List.getElem_range];exact ⟨_,h.cells i hl,by simp [VR],rfl⟩,h.free⟩
theorem ak9 {g:FuncId} {F:List KV->KR KV} {T:TypeId} (hc:xM P g) (hT:aU P T=1) (aaq:∀ s:Sl Int,dH (aQ P T) ((List.range s.n).map fun i=>kI .i64 (s.get i))=true)
  (h:∀ args v (E:Env) (A:ae) (B:St) (ρ:Ren) (base:Nat) (w:World) (dZ:List Value),aH (F (normArgs P (bT P g) args)) v->args.length=(bT P g).length->rK P E ρ args dZ->KJ P E A B ρ base w->
   Calls P g dZ.toArray w fun e w'=>∃ (s1 s2:Sl Int) (k1 k2:Nat),v = .ma [dL T (kI .i64) s1,dL T (kI .i64) s2]/\e = .returned (.tuple #[.slice (some ⟨k1,0,.none⟩) s1.n s1.n,.slice (some ⟨k2,0,.none⟩) s2.n s2.n])/\k1≠k2/\Kq w w' k1 s1/\Kq w w' k2 s2/\RowKit.Below w.heap.size w w'):bQ P g F:=
 fun args v hF hlen=>⟨hc,fun E A B ρ base w dZ hv hj=>(h args v E A B ρ base w dZ hF hlen hv hj).mono fun e w' ⟨s1,s2,k1,k2,h1,h2,cH,i1,i2,hb⟩=>by
  subst h1;have g0:=iU.below hj.s hb;have g1:=iU.late g0 (i1.made hj.s.size) (abY hj.s i1.new);have aqu:=hj.s.EV ⟨k1,0,((List.range s1.n).map fun i=>Value.int .i64 (s1.get i)).length,1⟩;have g2:=iU.late g1 ((i2.made hj.s.size).mono aqu) ((abY hj.s i2.new).late cH);have z1:=cO.aaj (bL:=(List.range s1.n).map fun i=>Value.int .i64 (s1.get i)) (bp:=1) hj.k;have z2:=cO.aaj (bL:=(List.range s2.n).map fun i=>Value.int .i64 (s2.get i)) (bp:=1) z1.fT;have z:=z1.trans (by simp) z2;have an8:=g1.fT.EV ⟨k2,0,((List.range s2.n).map fun i=>Value.int .i64 (s2.get i)).length,1⟩;refine ⟨_,_,_,_,h2,?_,z.ev g2⟩;have q1:=Yo (P:=P) (b:=B.next) (k:=k1) (s:=s1) hT (aaq s1) (E:=E.eL B.next ⟨(List.range s1.n).map fun i=>Value.int .i64 (s1.get i),1,true,.none⟩) (by simp [Env.eL]) (ρ:=ρ.set B.next ⟨k1,0,((List.range s1.n).map fun i=>Value.int .i64 (s1.get i)).length,1⟩) (by simp [Ren.set]);have q2:=Yo (P:=P) (b:=(B.new (.row ((List.range s1.n).map fun i=>Value.int .i64 (s1.get i)) 1 true none)).next) (k:=k2) (s:=s2) hT (aaq s2) (E:=(E.eL B.next ⟨(List.range s1.n).map fun i=>Value.int .i64 (s1.get i),1,true,.none⟩).eL (B.new (.row ((List.range s1.n).map fun i=>Value.int .i64 (s1.get i)) 1 true none)).next ⟨(List.range s2.n).map fun i=>Value.int .i64 (s2.get i),1,true,.none⟩) (by simp [Env.eL]) (ρ:=(ρ.set B.next ⟨k1,0,((List.range s1.n).map fun i=>Value.int .i64 (s1.get i)).length,1⟩).set (B.new (.row ((List.range s1.n).map fun i=>Value.int .i64 (s1.get i)) 1 true none)).next ⟨k2,0,((List.range s2.n).map fun i=>Value.int .i64 (s2.get i)).length,1⟩) (by simp [Ren.set]);obtain ⟨m,a1,a2⟩:rK P _ _ [dL T (kI .i64) s1,dL T (kI .i64) s2] [.slice (some ⟨k1,0,.none⟩) s1.n s1.n,.slice (some ⟨k2,0,.none⟩) s2.n s2.n]:=rK.FB (q1.mono z2.le an8) (rK.FB q2 ⟨[],.nil,.nil⟩);exact ⟨.tuple ⟨m⟩,.V9 a1,VR.mkTuple (l':=[.slice (some ⟨k1,0,.none⟩) s1.n s1.n,.slice (some ⟨k2,0,.none⟩) s2.n s2.n]) a2⟩⟩
end Go.K
end
section
set_option maxRecDepth 20000
namespace Go.Proofs.Ytckbdndhmcoihaa.KL
open Go Go.RowKit Go.Lib Go.Shelf Go.K
open nodes (Bn)
theorem aqv:aU Try.prog 47=1:=by kernel_rfl
theorem amG:aU Try.prog 32=2:=by kernel_rfl
theorem aqw:aU Try.prog 64=33:=by kernel_rfl
theorem ala {E:Env} {A:ae} {B:aG.St} {ρ:aG.Ren} {base:Nat} {w:World} {s:b.aA} {u:Value} (hj:KJ Try.prog E A B ρ base w) (h:VC Try.prog E ρ (b.kA s) u) :
  ∃ (q:Q) (x0 x3 x4:Value),u = .agg #[x0,.slice q.ka s.graph.kids.n q.kc,.slice q.na s.nodes.n q.nc,x3,x4,.int .i64 s.root.slot,.int .i64 s.root.gen]/\QAt s q w.heap.size w:=by
 obtain ⟨l,rfl,hl⟩:=h.ajT;obtain ⟨x0,l1,rfl,h0,ZM⟩:=hl.xH;obtain ⟨x1,l2,rfl,h1,kT⟩:=ZM.xH;obtain ⟨x2,l3,rfl,h2,hl3⟩:=kT.xH;obtain ⟨x3,l4,rfl,h3,hl4⟩:=hl3.xH;obtain ⟨x4,l5,rfl,h4,hl5⟩:=hl4.xH;obtain ⟨x5,l6,rfl,h5,hl6⟩:=hl5.xH;obtain ⟨x6,l7,rfl,h6,hl7⟩:=hl6.xH;obtain rfl:=hl7.U1;obtain ⟨ka,kc,rfl,H2⟩:=HK hj h1;obtain ⟨na,nc,rfl,HN⟩:=HK hj h2;obtain rfl:=h5.cj;obtain rfl:=h6.cj;have H3:∀ i,∃ p:Option Addr×Nat,i < s.graph.kids.n->(∃ b off,ka=some ⟨b,off,none⟩/\b < w.heap.size/\w.cell? ⟨b,off+i,none⟩=some (.slice p.1 (s.graph.kids.get i).n p.2))/\
   ∀ k,k < (s.graph.kids.get i).n->∃ b off,p.1=some ⟨b,off,none⟩/\b < w.heap.size/\w.cell? ⟨b,off+k * 2,none⟩=some (.int .i64 ((s.graph.kids.get i).get k).slot)/\w.cell? ⟨b,off+k * 2+1,none⟩=some (.int .i64 ((s.graph.kids.get i).get k).gen):=by
  intro i;by_cases hi:i < s.graph.kids.n
  ·obtain ⟨bb,off,e1,e2,e3⟩:=H2 i hi
   obtain ⟨z,z1,z2⟩:=e3 0 (dL 32 b.gM (s.graph.kids.get i)) rfl;obtain ⟨a,c,rfl,H⟩:=HK hj z2;rw [aqv] at z1;refine ⟨(a,c),fun _=>⟨⟨bb,off,e1,e2,by rw [show off+i=off+i * 1+0 by omega]; exact z1⟩,fun k hk=>?_⟩⟩;obtain ⟨bc,amH,r1,r2,r3⟩:=H k hk;obtain ⟨z,s1,s2⟩:=r3 0 (.int .i64 ((s.graph.kids.get i).get k).slot) rfl;obtain ⟨z',t1,t2⟩:=r3 1 (.int .i64 ((s.graph.kids.get i).get k).gen) rfl;rw [amG] at s1 t1;rw [s2.cj] at s1;rw [t2.cj] at t1;exact ⟨bc,amH,r1,r2,s1,t1⟩
  ·exact ⟨(none,0),fun h=>absurd h hi⟩
 obtain ⟨f,hf⟩:=Classical.axiomOfChoice H3;refine ⟨⟨ka,kc,fun i=>(f i).1,fun i=>(f i).2,na,nc⟩,x0,x3,x4,rfl,⟨fun i hi=>(hf i hi).1,fun i hi k hk=>(hf i hi).2 k hk,fun i hi=>?_⟩⟩;obtain ⟨bb,off,e1,e2,e3⟩:=HN i hi;obtain ⟨z,s1,s2⟩:=e3 0 (.int .u8 (s.nodes.get i).kind) rfl;rw [aqw] at s1;rw [s2.cj] at s1;exact ⟨bb,off,e1,e2,s1⟩
theorem run_mk (n:Nat) (hn:n<=1000000):∃ Z:Obj,(∀ W,(Instr.makeSlice 48 (.int .i64 (n:Int)) (.int .i64 (n:Int))).run Try.prog W = .ok (.slice (some ⟨W.heap.size,0,none⟩) n n) (W.alloc Z))/\(∀ (W:World) (b i:Nat),W.heap[b]? = some Z->i < n->W.cell? ⟨b,i,none⟩=some (.int .i64 0))/\∀ (W:World) (b i:Nat),W.heap[b]? = some Z->W.frozen? ⟨b,i,none⟩=false:=by
 refine ⟨.cells (madeCells #[.int .i64 0] n) 3,fun W=>?_,fun W b i hb hi=>?_,fun W b i hb=>?_⟩
 ·have:=Go.run_make (P:=Try.prog) W 48 3 _ (.int .i64 0) Try.underlying48 (show Try.prog.info? 3=some _ from rfl) rfl .i64 .i64 n n (by omega) (Int.le_refl _) (by show ((8:Nat):Int) * n<=_; omega) (by omega)
  rw [CE] at this;exact (this.trans (by rw [show ∀ k,n * k=n * k from fun _=>rfl]; exact congrArg (fun c=>Result.ok _ (W.alloc (.cells (madeCells #[.int .i64 0] c) 3))) (Nat.mul_one n)))
 ·rw [nodes.mo hb]
  simp [madeCells,hi,Nat.mod_one]
 ·unfold World.frozen?
  simp [hb]
def Good (W:World) (a:Addr):Prop:=(W.cell? a).isSome=true/\W.frozen? a=false
theorem Vt {W:World} {a:Addr} (h:Good W a):∃ v,W.cell? a=some v:=Qi.1 h.1
theorem anS {W:World} {a:Addr} (h:Good W a):W.frozen? a=false:=h.2
theorem Tt {W:World} {a:Addr} (h:Good W a):Good W.drew a:=h
theorem y7 {W:World} {o:Obj} {a:Addr} (h:Good W a):Good (W.alloc o) a:=by
 obtain ⟨v,hv⟩:=Vt h;have bj:a.block < W.heap.size:=by
  apply Classical.byContradiction;intro hn;unfold World.cell? at hv;rw [Array.getElem?_eq_none (by omega)] at hv;simp at hv
 refine ⟨by rw [World.cell?_alloc_some (h:=h.1)]; exact h.1,?_⟩;have:=h.2;unfold World.frozen? at this ⊢;rw [Below.heap_alloc _ _ _ bj];exact this
theorem HQ {W:World} {p a:Addr} {x:Value} (h:Good W a):Good (W.setCell p x) a:=by
 obtain ⟨v,hv⟩:=Vt h;obtain ⟨v',h'⟩:=RowKit.cell?_setCell_some (p:=p) (x:=x) hv;exact ⟨by rw [h']; rfl,by rw [World.frozen?_setCell]; exact h.2⟩
theorem xc {W:World} {a:Addr} {v:Value} (h:W.cell? a=some v):W.drew.cell? a=some v:=h
theorem y8 {W:World} {o:Obj} {a:Addr} {v:Value} (h:W.cell? a=some v):(W.alloc o).cell? a=some v:=by rw [World.cell?_alloc_some (h:=by rw [h]; rfl)]; exact h
theorem tK {W:World} {p a:Addr} {x v:Value} (hp:p.block≠a.block) (h:W.cell? a=some v):(W.setCell p x).cell? a=some v:=by rw [World.cell?_setCell_far _ _ _ _ hp]; exact h
theorem three (W:World) (A0 A1 A2:Obj):∃ V,((W.alloc A0).alloc A1).alloc A2=V/\V.heap[W.heap.size]? = some A0/\V.heap[W.heap.size+1]? = some A1/\V.heap[W.heap.size+1+1]? = some A2/\V.heap.size=W.heap.size+3/\RowKit.Below W.heap.size W V:=by
 have s1:(W.alloc A0).heap.size=W.heap.size+1:=by simp
 have s2:((W.alloc A0).alloc A1).heap.size=W.heap.size+2:=by simp
 refine ⟨_,rfl,?_,?_,nodes.zr _ _ _ (by omega),by simp,(((Below.refl _ _).alloc (aB _) _).alloc (by simp) _).alloc (by simp; omega) _⟩
 ·rw [Below.heap_alloc _ _ _ (by omega),Below.heap_alloc _ _ _ (by omega)]
  exact nodes.zr _ _ _ rfl
 ·rw [Below.heap_alloc _ _ _ (by omega)]
  exact nodes.zr _ _ _ (by omega)
theorem abZ {fn:Func} {p q:Tmp} {ty:TypeId} (h:fn.results = #[.cell p ty,.cell q ty]) (tmps:Array Value) (P:Program) (w:World) :
  (results fn tmps).run P w=((asAddr (tmps.getD p undef)).run P w).andThen fun a aqx=>((loadVar ty a).run P aqx).andThen fun v aqy=>((asAddr (tmps.getD q undef)).run P aqy).andThen fun a' aqz=>((loadVar ty a').run P aqz).andThen fun v' aqA=>.ok (.tuple #[v,v']) aqA:=by
 simp only [results,h];simp [Sem.run_bind,Result.andThen]
theorem filled {w V:World} {Z:Obj} {s:b.aA} {q:Q} {c1 c2:Value} (sV:V.heap.size=w.heap.size+3) (bV:RowKit.Below w.heap.size w V) (e1:V.cell? ⟨w.heap.size,1,none⟩=some c1) (e2:V.cell? ⟨w.heap.size,2,none⟩=some c2)
  (e5:V.cell? ⟨w.heap.size,5,none⟩=some (.int .i64 s.root.slot)) (o1:Good V ⟨w.heap.size+1,0,none⟩) (o2:Good V ⟨w.heap.size+1+1,0,none⟩) (hq:QAt s q w.heap.size w) (u1 u2:Value) :
  ∃ Y,((((V.setCell ⟨w.heap.size+1,0,none⟩ u1).setCell ⟨w.heap.size+1+1,0,none⟩ u2).alloc Z).alloc Z).drew=Y/\Y.heap.size=w.heap.size+5/\RowKit.Below w.heap.size w Y/\Y.cell? ⟨w.heap.size,1,none⟩=some c1/\Y.cell? ⟨w.heap.size,2,none⟩=some c2/\Y.cell? ⟨w.heap.size,5,none⟩=some (.int .i64 s.root.slot)/\
   Y.cell? ⟨w.heap.size+1,0,none⟩=some u1/\Y.cell? ⟨w.heap.size+1+1,0,none⟩=some u2/\Good Y ⟨w.heap.size+1,0,none⟩/\Good Y ⟨w.heap.size+1+1,0,none⟩/\Y.heap[w.heap.size+3]? = some Z/\Y.heap[w.heap.size+3+1]? = some Z/\QAt s q w.heap.size Y:=by
 have cH:∀ {a c:Nat} {j l:Nat},a≠c->(⟨a,j,none⟩:Addr)≠⟨c,l,none⟩:=fun h e=>h (by simpa using congrArg Addr.block e);have hs1:((V.setCell ⟨w.heap.size+1,0,none⟩ u1).setCell ⟨w.heap.size+1+1,0,none⟩ u2).heap.size=w.heap.size+3:=by simp [sV]
 have jE:(((V.setCell ⟨w.heap.size+1,0,none⟩ u1).setCell ⟨w.heap.size+1+1,0,none⟩ u2).alloc Z).heap.size=w.heap.size+3+1:=by simp [sV]
 have bY:RowKit.Below w.heap.size w ((((V.setCell ⟨w.heap.size+1,0,none⟩ u1).setCell ⟨w.heap.size+1+1,0,none⟩ u2).alloc Z).alloc Z).drew:=by
  refine (((bV.setCell ?_ _).setCell ?_ _).alloc ?_ _ |>.alloc ?_ _).drew <;> simp [sV] <;> omega
 have lift:∀ {a:Addr} {v:Value},a.block≠w.heap.size+1->a.block≠w.heap.size+1+1->V.cell? a=some v->((((V.setCell ⟨w.heap.size+1,0,none⟩ u1).setCell ⟨w.heap.size+1+1,0,none⟩ u2).alloc Z).alloc Z).drew.cell? a=some v:=fun h1 h2 h=>xc (y8 (y8 (tK (Ne.symm h2) (tK (Ne.symm h1) h))));refine ⟨_,rfl,by simp [sV],bY,lift (by show w.heap.size≠_; omega) (by show w.heap.size≠_; omega) e1,lift (by show w.heap.size≠_; omega) (by show w.heap.size≠_; omega) e2,lift (by show w.heap.size≠_; omega) (by show w.heap.size≠_; omega) e5,?_,?_,Tt (y7 (y7 (HQ (HQ o1)))),Tt (y7 (y7 (HQ (HQ o2)))),?_,?_,hq.dP (d:=w.heap.size) (m:=w.heap.size) ⟨bY.os,bY.tape,bY.output,bY.size,fun k hk _ _=>bY.block k hk⟩ (aB _) (aB _) (aB _)⟩
 ·obtain ⟨v,hv⟩:=Vt o1
  exact xc (y8 (y8 (tK (by show w.heap.size+1+1≠w.heap.size+1; omega) (World.cell?_setCell_same _ _ _ hv))))
 ·obtain ⟨v,hv⟩:=Vt (HQ (p:=⟨w.heap.size+1,0,none⟩) (x:=u1) o2)
  exact xc (y8 (y8 (World.cell?_setCell_same _ _ _ hv)))
 ·show ((((V.setCell _ _).setCell _ _).alloc Z).alloc Z).heap[w.heap.size+3]? = _
  rw [Below.heap_alloc _ _ _ (by omega)];exact nodes.zr _ _ _ (by omega)
 ·exact nodes.zr _ _ _ (by omega)
theorem CC.uT {d m:Nat} {W W' : World} (h:CC d m W W') {b j:Nat} (hb:b < W.heap.size) (hd:b≠d) (hm:b≠m) (g:Good W ⟨b,j,none⟩):Good W' ⟨b,j,none⟩:=by
 have e:=h.block b hb hd hm;refine ⟨by rw [h.cell hb hd hm]; exact g.1,?_⟩;have:=g.2;unfold World.frozen? at this ⊢;rw [e];exact this
abbrev fnV (n:Nat):Value:=.func (.func 50) #[] #[.pointer (some ⟨n+1,0,none⟩),.pointer (some ⟨n,0,none⟩),.pointer (some ⟨n+5,0,none⟩),.pointer (some ⟨n+1+1,0,none⟩)]
theorem start {s:b.aA} {q:Q} {n d m N:Nat} {Y:World} {Z:Obj} (sY:Y.heap.size=n+5) (y1:Y.cell? ⟨n,1,none⟩=some (.slice q.ka s.graph.kids.n q.kc)) (y2:Y.cell? ⟨n,2,none⟩=some (.slice q.na s.nodes.n q.nc)) (w1:Y.cell? ⟨n+1,0,none⟩=some (.slice (some ⟨d,0,none⟩) N N)) (w2:Y.cell? ⟨n+1+1,0,none⟩=some (.slice (some ⟨m,0,none⟩) N N))
  (zd:Y.heap[d]? = some Z) (zm:Y.heap[m]? = some Z) (hd:n+3<=d) (hm:n+3<=m) (cH:d≠m) (hq:QAt s q n Y) (hZ1:∀ (W:World) (b i:Nat),W.heap[b]? = some Z->i < N->W.cell? ⟨b,i,none⟩=some (.int .i64 0)) (hZ2:∀ (W:World) (b i:Nat),W.heap[b]? = some Z->W.frozen? ⟨b,i,none⟩=false) :
  Ju s q n (n+1) n (n+5) (n+1+1) d m N (Y.alloc (.cells #[fnV n] 143)) (⟨N,fun _=>0⟩,⟨N,fun _=>0⟩):=by
 have ld:d < Y.heap.size:=(rV.1 zd).1;have lm:m < Y.heap.size:=(rV.1 zm).1;have k:CC d m Y (Y.alloc (.cells #[fnV n] 143)):=.alloc _ _;have zd' : (Y.alloc (.cells #[fnV n] 143)).heap[d]? = some Z:=by rw [Below.heap_alloc _ _ _ ld]; exact zd
 have zm' : (Y.alloc (.cells #[fnV n] 143)).heap[m]? = some Z:=by rw [Below.heap_alloc _ _ _ lm]; exact zm
 have hs:(Y.alloc (.cells #[fnV n] 143)).heap.size=n+6:=by simp [sY]
 exact ⟨hq.dP k (by omega) (by omega) (by omega),by omega,by omega,by omega,by omega,by omega,by omega,by omega,cH,rfl,rfl,(k.cell (by omega) (by omega) (by omega)).trans w1,(k.cell (by omega) (by omega) (by omega)).trans y1,(k.cell (by omega) (by omega) (by omega)).trans y2,
  by rw [nodes.mo (nodes.zr _ _ _ (by omega))]; rfl,(k.cell (by omega) (by omega) (by omega)).trans w2,fun i hi=>hZ1 _ _ _ zd' hi,fun i hi=>hZ1 _ _ _ zm' hi,fun i=>hZ2 _ _ _ zd',fun i=>hZ2 _ _ _ zm'⟩
theorem finish {s:b.aA} {q:Q} {d m N b3:Nat} {w Y W2:World} {o:Obj} {x:Sl Int×Sl Int} (L:Ju s q w.heap.size (w.heap.size+1) w.heap.size b3 (w.heap.size+1+1) d m N W2 x) (k:CC d m (Y.alloc o) W2) (bY:RowKit.Below w.heap.size w Y) (hd:w.heap.size+3<=d) (hm:w.heap.size+3<=m) (u1 u2:Value) :
  d≠m/\Kq w ((W2.setCell ⟨w.heap.size+1,0,none⟩ u1).setCell ⟨w.heap.size+1+1,0,none⟩ u2).drew d x.1/\Kq w ((W2.setCell ⟨w.heap.size+1,0,none⟩ u1).setCell ⟨w.heap.size+1+1,0,none⟩ u2).drew m x.2/\RowKit.Below w.heap.size w ((W2.setCell ⟨w.heap.size+1,0,none⟩ u1).setCell ⟨w.heap.size+1+1,0,none⟩ u2).drew:=by
 have b0:RowKit.Below w.heap.size w (Y.alloc o):=bY.alloc bY.size _;have b2:RowKit.Below w.heap.size w W2:=⟨k.os.trans b0.os,k.tape.trans b0.tape,k.output.trans b0.output,gR b0.size k.size,fun j hj=>(k.block j (fa hj b0.size) (by omega) (by omega)).trans (b0.block j hj)⟩
 have n1:=L.n1;have n2:=L.n2;refine ⟨L.ne,⟨by omega,by show d < ((W2.setCell _ _).setCell _ _).heap.size; simpa using L.ld.2,fun i hi=>?_,fun j=>?_⟩,⟨by omega,by show m < ((W2.setCell _ _).setCell _ _).heap.size; simpa using L.lm.2,fun i hi=>?_,fun j=>?_⟩,((b2.setCell (by show w.heap.size<=w.heap.size+1; omega) _).setCell (by show w.heap.size<=w.heap.size+1+1; omega) _).drew⟩
 ·exact xc (tK (by show w.heap.size+1+1≠d; omega) (tK (by show w.heap.size+1≠d; omega) (L.cd i (by omega))))
 ·rw [World.frozen?_drew,World.frozen?_setCell,World.frozen?_setCell]; exact L.fd j
 ·exact xc (tK (by show w.heap.size+1+1≠m; omega) (tK (by show w.heap.size+1≠m; omega) (L.cm i (by omega))))
 ·rw [World.frozen?_drew,World.frozen?_setCell,World.frozen?_setCell]; exact L.fm j
set_option maxHeartbeats 8000000 in
theorem counts (s:b.aA) (q:Q) (x0 x3 x4:Value) (w:World) (hq:QAt s q w.heap.size w) (x:Sl Int×Sl Int) (hx0:b.eh s=some x) :
  Calls Try.prog 23 #[.agg #[x0,.slice q.ka s.graph.kids.n q.kc,.slice q.na s.nodes.n q.nc,x3,x4,.int .i64 s.root.slot,.int .i64 s.root.gen]] w fun e w'=>
   ∃ k1 k2,e = .returned (.tuple #[.slice (some ⟨k1,0,.none⟩) x.1.n x.1.n,.slice (some ⟨k2,0,.none⟩) x.2.n x.2.n])/\k1≠k2/\Kq w w' k1 x.1/\Kq w w' k2 x.2/\RowKit.Below w.heap.size w w':=by
 have mI:b.Fits s:=by
  apply Classical.byContradiction;intro hf;unfold b.eh at hx0;rw [aa hf] at hx0;simp at hx0
 have hx:b.xa s 250 s.root.slot (⟨s.nodes.n,fun _=>0⟩,⟨s.nodes.n,fun _=>0⟩)=some x:=by
  unfold b.eh at hx0;rwa [aE mI] at hx0
 obtain ⟨hn,fp⟩:=mI;clear hx0;have mixed:=Bn;have t3:=Try.underlying3; have a3:=Try.isAgg3; have z3:=Try.sizeOf3; have v3:=Try.zeroValue3; have u3:=run_underlying Try.underlying3;have t48:=Try.underlying48; have a48:=Try.isAgg48; have z48:=Try.sizeOf48; have v48:=Try.zeroValue48; have u48:=run_underlying Try.underlying48;have t32:=Try.underlying32; have a32:=Try.isAgg32; have z32:=Try.sizeOf32; have v32:=Try.zeroValue32; have u32:=run_underlying Try.underlying32;have t34:=Try.underlying34; have a34:=Try.isAgg34; have z34:=Try.sizeOf34; have v34:=Try.zeroValue34; have u34:=run_underlying Try.underlying34;have t28:=Try.underlying28; have a28:=Try.isAgg28; have z28:=Try.sizeOf28; have v28:=Try.zeroValue28; have u28:=run_underlying Try.underlying28;have t143:=Try.underlying143; have a143:=Try.isAgg143; have z143:=Try.sizeOf143; have v143:=Try.zeroValue143; have aqs:=run_underlying Try.underlying143
 go_enter Try.func23,Try.ntmps23
 go_wp2
 obtain ⟨V,hV,v0,v1,v2,sV,bV⟩:=three w (Obj.cells #[x0,.slice q.ka s.graph.kids.n q.kc,.slice q.na s.nodes.n q.nc,x3,x4,.int .i64 s.root.slot,.int .i64 s.root.gen] 34) (Obj.cells #[.slice none 0 0] 48) (Obj.cells #[.slice none 0 0] 48);have e1:V.cell? ⟨w.heap.size,1,none⟩=some (.slice q.ka s.graph.kids.n q.kc):=by rw [nodes.mo v0]; rfl
 have e2:V.cell? ⟨w.heap.size,2,none⟩=some (.slice q.na s.nodes.n q.nc):=by rw [nodes.mo v0]; rfl
 have e5:V.cell? ⟨w.heap.size,5,none⟩=some (.int .i64 s.root.slot):=by rw [nodes.mo v0]; rfl
 have o1:V.cell? ⟨w.heap.size+1,0,none⟩=some (.slice none 0 0):=by rw [nodes.mo v1]; rfl
 have o2:V.cell? ⟨w.heap.size+1+1,0,none⟩=some (.slice none 0 0):=by rw [nodes.mo v2]; rfl
 have r1:V.frozen? ⟨w.heap.size+1,0,none⟩=false:=by unfold World.frozen?; simp [v1]
 have r2:V.frozen? ⟨w.heap.size+1+1,0,none⟩=false:=by unfold World.frozen?; simp [v2]
 obtain ⟨Z,SA,hZ1,hZ2⟩:=run_mk s.nodes.n hn;rw [hV];clear hV
 go_region_held3 (fun w'=>w'.cell? ⟨w.heap.size,2,none⟩=some (.slice q.na s.nodes.n q.nc)/\(∃ v,w'.cell? ⟨w.heap.size+1,0,none⟩=some v)/\(∃ v,w'.cell? ⟨w.heap.size+1+1,0,none⟩=some v)/\w'.frozen? ⟨w.heap.size+1,0,none⟩=false/\w'.frozen? ⟨w.heap.size+1+1,0,none⟩=false) ((try refine ⟨?_,?_,?_,?_,?_⟩) <;> first | (first | refine Vt ?_ | refine anS ?_); (repeat with_reducible first | refine Tt ?_ | refine y7 ?_ | refine HQ ?_); (exact ⟨by simp [*],by simp [*]⟩) | ((repeat with_reducible first | refine xc ?_ | refine y8 ?_ | refine tK (by dsimp only; omega) ?_); assumption)) (fail)
 all_goals
  have g1:Good V ⟨w.heap.size+1,0,none⟩:=⟨by rw [o1]; rfl,r1⟩
  have g2:Good V ⟨w.heap.size+1+1,0,none⟩:=⟨by rw [o2]; rfl,r2⟩
  first
   | (obtain ⟨Y,hY,sY,bY,y1,y2,y5,w1,w2,p1,p2,z1,z2,qY⟩:=filled (Z:=Z) (s:=s) (q:=q) sV bV e1 e2 e5 g1 g2 hq (.slice (some ⟨w.heap.size+3,0,none⟩) s.nodes.n s.nodes.n) (.slice (some ⟨w.heap.size+3+1,0,none⟩) s.nodes.n s.nodes.n); rw [hY]; clear hY)
   | (obtain ⟨Y,hY,sY,bY,y1,y2,y5,w1,w2,p1,p2,z1,z2,qY⟩:=filled (Z:=Z) (s:=s) (q:=q) sV bV e1 e2 e5 g1 g2 hq (.slice (some ⟨w.heap.size+3+1,0,none⟩) s.nodes.n s.nodes.n) (.slice (some ⟨w.heap.size+3,0,none⟩) s.nodes.n s.nodes.n); rw [hY]; clear hY)
  clear g1 g2 e1 e2 e5 o1 o2 r1 r2 v0 v1 v2 bV sV SA;have hL:∃ d m,w.heap.size+3<=d/\w.heap.size+3<=m/\Ju s q w.heap.size (w.heap.size+1) w.heap.size (w.heap.size+5) (w.heap.size+1+1) d m s.nodes.n (Y.alloc (.cells #[fnV w.heap.size] 143)) (⟨s.nodes.n,fun _=>0⟩,⟨s.nodes.n,fun _=>0⟩):=by
   first
    | exact ⟨_,_,aB _,by omega,start sY y1 y2 w1 w2 z1 z2 (aB _) (by omega) (by omega) qY hZ1 hZ2⟩
    | exact ⟨_,_,by omega,aB _,start sY y1 y2 w1 w2 z2 z1 (by omega) (aB _) (by omega) qY hZ1 hZ2⟩
  obtain ⟨d,m,hd,hm,L⟩:=hL;have PB:=down s q _ _ _ _ _ _ _ _ fp 250 s.root.slot _ x _ hx L;have fin:∀ W2,Ju s q w.heap.size (w.heap.size+1) w.heap.size (w.heap.size+5) (w.heap.size+1+1) d m s.nodes.n W2 x->CC d m (Y.alloc (.cells #[fnV w.heap.size] 143)) W2->_:=fun W2 L2 K2=>finish L2 K2 bY hd hm (.slice (some ⟨d,0,none⟩) s.nodes.n s.nodes.n) (.slice (some ⟨m,0,none⟩) s.nodes.n s.nodes.n);clear hq hx fp hn z1 z2 qY hZ1 hZ2 bY
  go_wp2_with (go_at_call 50; go_loud (refine PB.mono ?_; rintro e w2 ⟨rfl,L2,K2⟩; have q1:=L2.c1; have q4:=L2.c4; have gA:=CC.uT K2 (by simp [sY]) (by omega) (by omega) (y7 (o:=.cells #[fnV w.heap.size] 143) p1); have gB:=CC.uT K2 (by simp [sY]) (by omega) (by omega) (y7 (o:=.cells #[fnV w.heap.size] 143) p2)))
  have gA1:=gA.1;have gA2:=gA.2;have gB1:=gB.1;have gB2:=gB.2
  go_region_held3 (fun w'=>w'.cell? ⟨w.heap.size+1,0,none⟩=some (.slice (some ⟨d,0,none⟩) s.nodes.n s.nodes.n)/\w'.cell? ⟨w.heap.size+1+1,0,none⟩=some (.slice (some ⟨m,0,none⟩) s.nodes.n s.nodes.n)/\w'.frozen? ⟨w.heap.size+1,0,none⟩=false/\w'.frozen? ⟨w.heap.size+1+1,0,none⟩=false) ((try refine ⟨?_,?_,?_,?_⟩) <;> first | ((repeat with_reducible first | refine xc ?_ | refine tK (by dsimp only; omega) ?_); first | assumption | exact World.cell?_setCell_same _ _ _ (by first | assumption | exact tK (by dsimp only; omega) (by assumption))) | simp [*]) (fail)
  all_goals
   go_wp2
   have n1:=L2.n1;have n2:=L2.n2;obtain ⟨f1,f2,f3,f4⟩:=fin _ L2 K2;have h1:((w2.setCell ⟨w.heap.size+1,0,none⟩ (.slice (some ⟨d,0,none⟩) s.nodes.n s.nodes.n)).setCell ⟨w.heap.size+1+1,0,none⟩ (.slice (some ⟨m,0,none⟩) s.nodes.n s.nodes.n)).drew.cell? ⟨w.heap.size+1,0,none⟩=some (.slice (some ⟨d,0,none⟩) s.nodes.n s.nodes.n):=
    xc (tK (by dsimp only; omega) (World.cell?_setCell_same _ _ _ q1))
   have h2:((w2.setCell ⟨w.heap.size+1,0,none⟩ (.slice (some ⟨d,0,none⟩) s.nodes.n s.nodes.n)).setCell ⟨w.heap.size+1+1,0,none⟩ (.slice (some ⟨m,0,none⟩) s.nodes.n s.nodes.n)).drew.cell? ⟨w.heap.size+1+1,0,none⟩=some (.slice (some ⟨m,0,none⟩) s.nodes.n s.nodes.n):=
    xc (World.cell?_setCell_same _ _ _ (tK (by dsimp only; omega) q4))
   generalize ((w2.setCell ⟨w.heap.size+1,0,none⟩ (.slice (some ⟨d,0,none⟩) s.nodes.n s.nodes.n)).setCell ⟨w.heap.size+1+1,0,none⟩ (.slice (some ⟨m,0,none⟩) s.nodes.n s.nodes.n)).drew=WE at *;refine bodyPost_ret (v:=.tuple #[.slice (some ⟨d,0,none⟩) s.nodes.n s.nodes.n,.slice (some ⟨m,0,none⟩) s.nodes.n s.nodes.n]) ?_ rfl ⟨d,m,by rw [n1,n2],f1,f2,f3,f4⟩;rw [abZ rfl]
   go_simp
theorem call23:xM Try.prog 23:=by
 refine ⟨by kernel_rfl,_,Try.func23,rfl,by kernel_rfl⟩
theorem anT (w:Nat->KV):vJ Try.prog [34] w 0 = [b.kA (b.eR (ij Try.prog (cg Try.prog dB) 34 (w 0)))]:=by kernel_rfl
theorem aqB (l:List Nat) (g:Nat->Int):dH (aQ Try.prog 3) (l.map fun i=>kI .i64 (g i))=true:=by
 induction l with
 | nil=>rfl
 | cons x l ih=>
  show (cw (aQ Try.prog 3) (kI .i64 (g x))&&dH (aQ Try.prog 3) (l.map fun i=>kI .i64 (g i)))=true;rw [ih,EP]
  kernel_rfl
end Go.Proofs.Ytckbdndhmcoihaa.KL
namespace Go.Proofs.Ytckbdndhmcoihaa.b
open Go Go.RowKit Go.K
theorem Cd:bQ Try.prog 23 xJ:=by
 refine ak9 KL.call23 (by kernel_rfl) (fun s=>KL.aqB _ _) fun args v E A B ρ base w dZ hF hlen hv hj=>?_;have ep:bT Try.prog 23 = [34]:=by kernel_rfl
 unfold xJ bR at hF;obtain ⟨hb,hF⟩:=aH.cond hF;obtain ⟨ww,hw⟩:=IJ 0 hb;have CO:rK Try.prog E ρ (normArgs Try.prog (bT Try.prog 23) args) dZ:=by
  obtain ⟨m,h1,h2⟩:=hv;exact ⟨m,aV.Nf (.of rfl) h1 hlen,h2⟩
 rw [hw,ep,KL.anT] at hF CO;generalize eR (ij Try.prog (cg Try.prog dB) 34 (ww 0))=s at hF CO;obtain ⟨u,us,rfl,hu,Ly⟩:=CO.xH;obtain rfl:=Ly.U1;obtain ⟨q,x0,x3,x4,rfl,hq⟩:=KL.ala hj hu;unfold b8 at hF;obtain ⟨h1,h2⟩:=aH.jJ hF;have h1:(eh s).isSome=true:=h1;obtain ⟨x,hx⟩:=Qi.1 h1;have h2:KV.ma [(dL 3 (kI .i64)) ((eh s).getD default).1,(dL 3 (kI .i64)) ((eh s).getD default).2] = v:=h2;rw [hx] at h2;refine (KL.counts s q x0 x3 x4 w hq x hx).mono ?_;rintro e w' ⟨k1,k2,rfl,cH,i1,i2,hb⟩;exact ⟨x.1,x.2,k1,k2,h2.symm,rfl,cH,i1,i2,hb⟩
end Go.Proofs.Ytckbdndhmcoihaa.b
end
section
namespace Go.Proofs.Ytckbdndhmcoihaa.b
open Go.K
noncomputable section
structure e8 where
 h:Handle
 fe:Int
instance:Inhabited e8:=⟨⟨default,default⟩⟩
def aeU (x:e8):List KV:=[.int .i64 x.h.slot,.int .i64 x.h.gen,.int .i64 x.fe]
def mA (x:e8):KV:=.agg (aeU x)
def aeV (c:Nat->KV):e8:=⟨⟨av (c 0),av (c 1)⟩,av (c 2)⟩
def gG (v:KV):e8:=aeV fun k=>v.cells.getD k .bf
theorem wg (x:e8):gG (mA x)=x:=rfl
theorem ab0:gG .bf=default:=rfl
theorem Mo (s t:Sl e8):s.join t=au gG (s.n+t.n) (aw s.n (fun i=>mA (s.get i)) (fun i=>mA (t.get i))):=(gL wg s t).symm
theorem Oa (l:List e8):Sl.lit l=au gG l.length (cZ (l.map mA)):=(jK wg ab0 l).symm
theorem Ob (s:Sl e8) (i:Nat) (v:e8):s.set i v=au gG s.n (bN (fun j=>mA (s.get j)) i (mA v)):=(jL wg s i v).symm
theorem Oc (m n n' : Nat) (acc ax:Nat->KV):au gG m (aw n (fun i=>mA ((au gG n' acc).get i)) ax)=au gG m (aw n acc ax):=j8 wg ..
theorem Od (m n n' : Nat) (acc ax:Nat->KV):au gG m (aw n acc (fun i=>mA ((au gG n' ax).get i)))=au gG m (aw n acc ax):=j9 wg ..
theorem YK (m n' i:Nat) (acc:Nat->KV) (v:KV):au gG m (bN (fun j=>mA ((au gG n' acc).get j)) i v)=au gG m (bN acc i v):=kb wg ..
structure dQ where
 l:(Sl e8)
 t7:Int
 t8:Int
 t2:Path
 p:Path
instance:Inhabited dQ:=⟨⟨default,default,default,default,default⟩⟩
def jt (x:dQ):List KV:=[dL 98 mA x.l,.int .i64 x.t7,.int .i64 x.t8]
def ju (x:dQ):List (List KV):=[WR x.t2,WR x.p]
def uv (vs:List KV) (rs:List (List KV)):dQ:=⟨eX gG (v9 vs 0),av (v9 vs 1),av (v9 vs 2),WS (r9 rs 0),WS (r9 rs 1)⟩
def uW:aJ:=⟨[(0,⟨false,[.arr 98]⟩),(7,w9 i9),(8,w9 i9)],[(2,[.aP 32,.aP 3],1),(3,[.aP 32,.aP 3],1)],[(2,0,0),(3,1,0),(6,1000000,0)]⟩
def DR:=Np PG (pw PG [(23,xJ),(22,Ff)] [] (fun q=>Nat.beq q 98||Nat.beq q 3000098||Nat.beq q 4000098)) 9 9 24 58 (Da PG 24 58) uW
def cX (x:dQ):aX dQ:=(cond (decide (x.t8 < x.t7)) (cond ((decide (0<=x.t8))&&(decide (x.t8 < (x.l.n:Int)))) (cond ((ai x.p.nodes.n x.p.nodes.n)&&(dT 16 x.p.nodes.n 1)) (cond (decide (x.t8 > 0)) (cond ((decide (0<=(aO (x.t8 - 1))))&&(decide ((aO (x.t8 - 1)) < (x.l.n:Int)))) (cond ((ai x.p.kids.n x.p.kids.n)&&(dT 8 x.p.kids.n 1)) (cond (cond ((((((Nat.beq x.l.n x.l.n)&&true)&&true)&&true)&&true)&&true) (cond (cond (cond (cond (ai (x.p.kids.n+1) (x.p.kids.n+1)) (ai (x.p.nodes.n+1) (x.p.nodes.n+1)) false) (ai x.t2.kids.n x.t2.kids.n) false) (ai x.t2.nodes.n x.t2.nodes.n) false) (ai x.l.n x.l.n) false) false) (.next ⟨x.l,x.t7,(aO (x.t8+1)),x.t2,⟨(x.p.nodes.push (x.l.get (0+(Int.toNat x.t8))).h),(x.p.kids.push (aO ((x.l.get (0+(Int.toNat (aO (x.t8 - 1))))).fe - 1)))⟩⟩) .fail) .fail) .fail) (cond (cond ((((((Nat.beq x.l.n x.l.n)&&true)&&true)&&true)&&true)&&true) (cond (cond (cond (cond (ai x.p.kids.n x.p.kids.n) (ai (x.p.nodes.n+1) (x.p.nodes.n+1)) false) (ai x.t2.kids.n x.t2.kids.n) false) (ai x.t2.nodes.n x.t2.nodes.n) false) (ai x.l.n x.l.n) false) false) (.next ⟨x.l,x.t7,(aO (x.t8+1)),x.t2,⟨(x.p.nodes.push (x.l.get (0+(Int.toNat x.t8))).h),x.p.kids⟩⟩) .fail)) .fail) .fail) (cond (cond ((((((Nat.beq x.l.n x.l.n)&&true)&&true)&&true)&&true)&&true) (cond (cond (cond (cond (ai x.p.kids.n x.p.kids.n) (ai x.p.nodes.n x.p.nodes.n) false) (ai x.t2.kids.n x.t2.kids.n) false) (ai x.t2.nodes.n x.t2.nodes.n) false) (ai x.l.n x.l.n) false) false) (.out (aG.ah.exit 0) x) .fail))
theorem Ce (x:dQ):DR (jt x) (ju x)=aX.enc jt ju (cX x):=by
 unfold cX
 try simp only [aX.cD,jX,rD]
 kernel_rfl
def nQ:Lp:=⟨24,58,uW,fun vs rs=>dR jt ju (goN cX (uv vs rs)) [aG.ah.exit 0],true⟩
theorem uw:nQ.Ok PG:=aeC funcs mixed (ak.cons Cd (ak.cons EG ak.nil)) bm.nil (L:=9) (n:=9) (step:=cX) (ev:=jt) (er:=ju) (pa:=uv) rfl (fun wv wr=>⟨by kernel_rfl,by kernel_rfl⟩) Ce
structure cz where
 t2:(Sl Path)
 t3:Int
 out:(Sl Path)
 stack:(Sl e8)
 s:aA
instance:Inhabited cz:=⟨⟨default,default,default,default,default⟩⟩
def ux (x:cz):List KV:=[dL 50 Gt x.t2,.int .i64 x.t3,dL 50 Gt x.out,dL 98 mA x.stack]
def uy (x:cz):List (List KV):=[Bp x.s]
def FU (vs:List KV) (rs:List (List KV)):cz:=⟨eX EH (v9 vs 0),av (v9 vs 1),eX EH (v9 vs 2),eX gG (v9 vs 3),Bq (r9 rs 0)⟩
def GU:aJ:=⟨[(2,w9 (n9 50)),(3,w9 i9),(7,⟨false,[.aP 50]⟩),(8,⟨false,[.arr 98]⟩)],[(1,[n9 139,n9 47,n9 64,n9 79,n9 118,i9,i9],1)],[(1,0,0)]⟩
def P5:=aeA PG (pw PG [(23,xJ),(22,Ff)] [nQ] (fun q=>Nat.beq q 98||Nat.beq q 3000098||Nat.beq q 4000098)) 9 9 9 3 GU
def jg (x:cz):=goN cX ⟨x.stack,(x.stack.n:Int),0,⟨⟨0,(fun i=>⟨0,0⟩)⟩,⟨0,(fun i=>0)⟩⟩,⟨⟨0,(fun i=>⟨0,0⟩)⟩,⟨0,(fun i=>0)⟩⟩⟩
def bO (x:cz):aX cz:=(cond ((decide (0<=(aO ((x.stack.n:Int) - 1))))&&(decide ((aO ((x.stack.n:Int) - 1)) < (x.stack.n:Int)))) (cond ((decide (0<=(x.stack.get (0+(Int.toNat (aO ((x.stack.n:Int) - 1))))).h.slot))&&(decide ((x.stack.get (0+(Int.toNat (aO ((x.stack.n:Int) - 1))))).h.slot < (x.s.graph.kids.n:Int)))) (cond (decide ((x.stack.get (0+(Int.toNat (aO ((x.stack.n:Int) - 1))))).fe < ((x.s.graph.kids.get (Int.toNat (x.stack.get (0+(Int.toNat (aO ((x.stack.n:Int) - 1))))).h.slot)).n:Int))) (cond ((decide (0<=(aO (((x.stack.set (0+(Int.toNat (aO ((x.stack.n:Int) - 1)))) ⟨(x.stack.get (0+(Int.toNat (aO ((x.stack.n:Int) - 1))))).h,(aO ((x.stack.get (0+(Int.toNat (aO ((x.stack.n:Int) - 1))))).fe+1))⟩).get (0+(Int.toNat (aO ((x.stack.n:Int) - 1))))).fe - 1))))&&(decide ((aO (((x.stack.set (0+(Int.toNat (aO ((x.stack.n:Int) - 1)))) ⟨(x.stack.get (0+(Int.toNat (aO ((x.stack.n:Int) - 1))))).h,(aO ((x.stack.get (0+(Int.toNat (aO ((x.stack.n:Int) - 1))))).fe+1))⟩).get (0+(Int.toNat (aO ((x.stack.n:Int) - 1))))).fe - 1)) < ((x.s.graph.kids.get (Int.toNat (x.stack.get (0+(Int.toNat (aO ((x.stack.n:Int) - 1))))).h.slot)).n:Int)))) (cond ((Nat.ble ((x.stack.n+1) * 24) 140737488355328)&&(Nat.ble (x.stack.n+1) 17592186044416)) (cond (cond (ai (x.stack.n+1) (x.stack.n+1)) (ai x.out.n x.out.n) false) (.next ⟨x.t2,x.t3,x.out,((x.stack.set (0+(Int.toNat (aO ((x.stack.n:Int) - 1)))) ⟨(x.stack.get (0+(Int.toNat (aO ((x.stack.n:Int) - 1))))).h,(aO ((x.stack.get (0+(Int.toNat (aO ((x.stack.n:Int) - 1))))).fe+1))⟩).join (Sl.lit [⟨((x.s.graph.kids.get (Int.toNat (x.stack.get (0+(Int.toNat (aO ((x.stack.n:Int) - 1))))).h.slot)).get (Int.toNat (aO (((x.stack.set (0+(Int.toNat (aO ((x.stack.n:Int) - 1)))) ⟨(x.stack.get (0+(Int.toNat (aO ((x.stack.n:Int) - 1))))).h,(aO ((x.stack.get (0+(Int.toNat (aO ((x.stack.n:Int) - 1))))).fe+1))⟩).get (0+(Int.toNat (aO ((x.stack.n:Int) - 1))))).fe - 1)))),0⟩])),x.s⟩) .fail) .fail) .fail) (cond ((decide (0<=(x.stack.get (0+(Int.toNat (aO ((x.stack.n:Int) - 1))))).h.slot))&&(decide ((x.stack.get (0+(Int.toNat (aO ((x.stack.n:Int) - 1))))).h.slot < (x.s.nodes.n:Int)))) (cond ((x.s.nodes.get (Int.toNat (x.stack.get (0+(Int.toNat (aO ((x.stack.n:Int) - 1))))).h.slot)).kind==5) (cond (cond ((((((Nat.beq x.stack.n x.stack.n)&&true)&&true)&&true)&&true)&&true) (ai x.stack.n x.stack.n) false) (cond ((jg x).by (aG.ah.exit 0)) (cond ((ai x.out.n x.out.n)&&(dT 48 x.out.n 1)) (cond ((decide (0<=(aO ((x.stack.n:Int) - 1))))&&(decide ((aO ((x.stack.n:Int) - 1))<=(x.stack.n:Int)))) (cond (decide ((((Int.toNat (aO ((x.stack.n:Int) - 1))):Nat):Int) > 0)) (cond (cond (ai (Int.toNat (aO ((x.stack.n:Int) - 1))) (Int.toNat (aO ((x.stack.n:Int) - 1)))) (ai (x.out.n+1) (x.out.n+1)) false) (.next ⟨x.t2,x.t3,(x.out.push (jg x).st.p),⟨(Int.toNat (aO ((x.stack.n:Int) - 1))),(jg x).st.l.get⟩,x.s⟩) .fail) (cond (cond (ai (Int.toNat (aO ((x.stack.n:Int) - 1))) (Int.toNat (aO ((x.stack.n:Int) - 1)))) (ai (x.out.n+1) (x.out.n+1)) false) (.out aG.ah.ret ⟨(x.out.push (jg x).st.p),0,(x.out.push (jg x).st.p),⟨(Int.toNat (aO ((x.stack.n:Int) - 1))),(jg x).st.l.get⟩,x.s⟩) .fail)) .fail) .fail) .fail) .fail) (cond ((decide (0<=(aO ((x.stack.n:Int) - 1))))&&(decide ((aO ((x.stack.n:Int) - 1))<=(x.stack.n:Int)))) (cond (decide ((((Int.toNat (aO ((x.stack.n:Int) - 1))):Nat):Int) > 0)) (cond (cond (ai (Int.toNat (aO ((x.stack.n:Int) - 1))) (Int.toNat (aO ((x.stack.n:Int) - 1)))) (ai x.out.n x.out.n) false) (.next ⟨x.t2,x.t3,x.out,⟨(Int.toNat (aO ((x.stack.n:Int) - 1))),x.stack.get⟩,x.s⟩) .fail) (cond (cond (ai (Int.toNat (aO ((x.stack.n:Int) - 1))) (Int.toNat (aO ((x.stack.n:Int) - 1)))) (ai x.out.n x.out.n) false) (.out aG.ah.ret ⟨x.out,0,x.out,⟨(Int.toNat (aO ((x.stack.n:Int) - 1))),x.stack.get⟩,x.s⟩) .fail)) .fail)) .fail)) .fail) .fail)
theorem NN (x:cz):P5 (ux x) (uy x)=aX.enc ux uy (bO x):=by
 unfold bO
 try simp only [aX.cD,Mo,Oa,Oc,Od,Ob,Yl]
 kernel_rfl
def GV:Lp:=⟨9,3,GU,fun vs rs=>dR ux uy (goN bO (FU vs rs)) [aG.ah.exit 999983,aG.ah.ret],false⟩
theorem P6:GV.OkG PG:=aeB funcs mixed (ak.cons Cd (ak.cons EG ak.nil)) (r7 uw bm.nil) (L:=9) (n:=9) (step:=bO) (ev:=ux) (er:=uy) (pa:=FU) rfl (fun wv wr=>⟨by kernel_rfl,by kernel_rfl⟩) NN
def Xf (g:aX cz):Option (Sl Path×Int):=
 cond (g.by (aG.ah.exit 999983)) (some (g.st.t2,g.st.t3)) (cond (g.by aG.ah.ret) (some (g.st.t2,g.st.t3)) none)
def wh:aX cz->Option (Sl Path×Int)
 | .next x=>Xf (goN bO x)
 | .out _ x=>some (x.t2,x.t3)
 | .fail=>none
theorem alb (c:Bool) (a b:aX cz):wh (cond c a b)=cond c (wh a) (wh b):=by cases c <;> rfl
theorem adA (x:cz):wh (.next x)=cond ((goN bO x).by (aG.ah.exit 999983)) (some ((goN bO x).st.t2,(goN bO x).st.t3)) (cond ((goN bO x).by aG.ah.ret) (some ((goN bO x).st.t2,(goN bO x).st.t3)) none):=rfl
def qC (s:aA):cz:=⟨⟨0,fun _=>⟨⟨0,fun _=>⟨0,0⟩⟩,⟨0,fun _=>0⟩⟩⟩,0,⟨0,fun _=>⟨⟨0,fun _=>⟨0,0⟩⟩,⟨0,fun _=>0⟩⟩⟩,Sl.lit [⟨s.root,0⟩],s⟩
def gb (s:aA):Option (Sl Path×Int):=
 (cond (rA s).isSome
  (cond (((rA s).getD default) != 0)
  (some ((qC s).t2,((rA s).getD default)))
  (cond ((s.root.slot==0)&&((s.root.gen==0)&&true))
   (some ((qC s).t2,0))
   (cond (eh s).isSome
   (cond ((decide (0<=s.root.slot))&&(decide (s.root.slot < (((eh s).getD default).fst.n:Int))))
    (cond (decide ((((eh s).getD default).fst.get (Int.toNat s.root.slot)) > 16))
    (some ((qC s).t2,120))
    (cond ((decide (0<=s.root.slot))&&(decide (s.root.slot < (((eh s).getD default).snd.n:Int))))
     (cond (decide ((((eh s).getD default).snd.get (Int.toNat s.root.slot)) > 256))
     (some ((qC s).t2,120))
     (wh (bO (qC s))))
     none))
    none)
   none)))
  none)
theorem Xg (s:aA):CV PG (pw PG [(23,xJ),(22,Ff)] [nQ,GV] (fun q=>Nat.beq q 98||Nat.beq q 3000098||Nat.beq q 4000098)) 9 9 9 [kA s] = (gb s).map (fun (r:Sl Path×Int)=>KV.ma [dL 50 Gt r.1,(kI .i64) r.2]):=by
 unfold gb bO qC;simp only [alb,adA,b6,Mo,Oa,Oc,Od,YK,Ob,Yl]
 kernel_rfl
def wi:List KV->KR KV:=bR PG 9 (b8 (fun (r:Sl Path×Int)=>KV.ma [dL 50 Gt r.1,(kI .i64) r.2]) fun vs=>gb (eR (v9 vs 0)))
theorem uz:bQ PG 9 wi:=dU (ak.cons Cd (ak.cons EG ak.nil)) (r7 uw (bm.ao0 P6 bm.nil)) fun w=>Xg (eR (g0 34 (w 0)))
end
end Go.Proofs.Ytckbdndhmcoihaa.b
end
section
namespace Go.Proofs.Ytckbdndhmcoihaa.sc
open Go Go.K Go.aG Go.yX Go.Proofs.Ytckbdndhmcoihaa.nodes
def l9 (s:b.aA) (h:b.Handle):Nat:=(s.graph.kids.get h.slot.toNat).n
def gd (s:b.aA) (h:b.Handle) (k:Nat):b.Handle:=(s.graph.kids.get h.slot.toNat).get k
def jz (s:b.aA) (h:b.Handle):Bool:=(s.nodes.get h.slot.toNat).kind==5
def rQ (s:b.aA) (g:Nat->b.e8):List (b.Handle×Nat)->Prop
 | []=>True
 | (h,n)::r=>g r.length=⟨h,(n:Int)⟩/\n<=l9 s h/\mz s.graph.cB h/\CB (l9 s) (gd s) (16 - r.length) h/\rQ s g r
theorem rQ.congr {s:b.aA} {g g' : Nat->b.e8} : ∀ {st:List (b.Handle×Nat)},(∀ i,i < st.length->g' i=g i)->rQ s g st->rQ s g' st
 | [],_,_=>trivial
 | (h,n)::r,hq,hi=>⟨(hq r.length (by simp)).trans hi.1,hi.2.1,hi.2.2.1,hi.2.2.2.1,hi.2.2.2.2.congr fun i hl=>hq i (by simp only [qN]; omega)⟩
theorem rQ.at {s:b.aA} {g:Nat->b.e8} : ∀ {st:List (b.Handle×Nat)},rQ s g st->∀ i,i < st.length->∃ (h:b.Handle) (n:Nat),g i=⟨h,(n:Int)⟩/\n<=l9 s h/\mz s.graph.cB h
 | [],_,i,hl=>absurd hl (oD _)
 | (h,n)::r,hi,i,hl=>by
  by_cases e:i=r.length
  ·subst e
   exact ⟨h,n,hi.1,hi.2.1,hi.2.2.1⟩
  ·exact hi.2.2.2.2.at i (by simp only [qN] at hl; omega)
theorem rQ.len {s:b.aA} {g:Nat->b.e8} : ∀ {st:List (b.Handle×Nat)},rQ s g st->st.length<=16
 | [],_=>qK _
 | (h,n)::r,hi=>by
  have hl:=hi.2.2.2.1;by_cases e:r.length < 16
  ·simp only [qN]; omega
  ·rw [show 16 - r.length=0 by omega] at hl
   exact hl.elim
theorem ab1 {s:b.aA} (hs:o3 s) {h:b.Handle} (hh:mz s.graph.cB h):l9 s h<=16:=by
 have:=(Ml hs hh)
 exact (ahe hs).Tp h.slot.toNat (by omega)
def QU (p:b.Path) (g:Nat->b.e8) (n:Nat):Prop:=p.nodes.n=n/\p.kids.n=n - 1/\(∀ i,i < n->p.nodes.get i=(g i).h)/\∀ i,i+1 < n->p.kids.get i=(g i).fe - 1
theorem aiK (stack:Sl b.e8) (hn:stack.n<=16) (hb:∀ i,i < stack.n->0<=(stack.get i).fe/\(stack.get i).fe<=1000) :
  ∃ x',goN b.cX ⟨stack,(stack.n:Int),0,⟨⟨0,(fun i=>⟨0,0⟩)⟩,⟨0,(fun i=>0)⟩⟩,⟨⟨0,(fun i=>⟨0,0⟩)⟩,⟨0,(fun i=>0)⟩⟩⟩ = .out (.exit 0) x'/\x'.l=stack/\QU x'.p stack.get stack.n:=by
 obtain ⟨e,x',h1,h2,h3,h4⟩:=jD (step:=b.cX) (fun j x=>x.l=stack/\x.t7=(stack.n:Int)/\x.t8=(j:Int)/\QU x.p stack.get j) (fun e x=>e = .exit 0/\x.l=stack/\QU x.p stack.get stack.n) stack.n (by unfold gK; omega) (fun j x hj hI=>by
  obtain ⟨l,t7,t8,t2,p⟩:=x;obtain ⟨h1,h2,h3,h4⟩:=hI
  dsimp only at h1 h2 h3 h4
  subst h1 h2 h3;obtain ⟨q1,q2,q3,q4⟩:=h4;unfold b.cX
  dsimp only
  by_cases bj:j < l.n
  ·refine .inl ?_
   have d1:decide ((j:Int) < (l.n:Int))=true:=ay (by omega);have d2:decide ((0:Int)<=(j:Int))=true:=ay (by omega);have e1:aO ((j:Int)+1)=((j+1:Nat):Int):=by rw [df (by omega) (by omega)]; omega
   have a1:dT 16 p.nodes.n 1=true:=uJ;have a2:dT 8 p.kids.n 1=true:=uJ;rw [d1,d2,a1,a2];simp only [cv,tM,cK,aj,CE,ba,e1];by_cases h0:0 < j
   ·have d3:decide ((j:Int) > 0)=true:=ay (by omega)
    have e2:aO ((j:Int) - 1)=((j - 1:Nat):Int):=by rw [df (by omega) (by omega)]; omega
    have d4:decide ((0:Int)<=((j - 1:Nat):Int))=true:=ay (by omega);have d5:decide (((j - 1:Nat):Int) < (l.n:Int))=true:=ay (by omega);rw [d3,e2,d4,d5];simp only [cK,aj,CE];refine ⟨_,rfl,bj,rfl,rfl,rfl,?_⟩;have hbj:=hb (j - 1) (by omega);refine ⟨by show p.nodes.n+1=_; omega,by show p.kids.n+1=_; omega,fun i hi=>?_,fun i hi=>?_⟩
    ·by_cases e:i=j
     ·subst e
      show (p.nodes.push _).get i=_;rw [<- q1];exact Sl.EJ
     ·show (p.nodes.push _).get i=_
      rw [Sl.HM (by omega)];exact q3 i (by omega)
    ·by_cases e:i+1=j
     ·show (p.kids.push _).get i=_
      have e3:i=p.kids.n:=by omega
      rw [e3,Sl.EJ,<- e3,show j - 1=i by omega];have:=hb i (by omega);exact df (by omega) (by omega)
     ·show (p.kids.push _).get i=_
      rw [Sl.HM (by omega)];exact q4 i (by omega)
   ·have d3:decide ((j:Int) > 0)=false:=bo (by omega)
    rw [d3];simp only [aI];refine ⟨_,rfl,bj,rfl,rfl,rfl,?_⟩;refine ⟨by show p.nodes.n+1=_; omega,by show p.kids.n=_; omega,fun i hi=>?_,fun i hi=>by omega⟩;show (p.nodes.push _).get i=_;have e:i=p.nodes.n:=by omega
    rw [e,Sl.EJ,<- e,show j=i by omega]
  ·have hjn:j=l.n:=by omega
   subst hjn;have d1:decide ((l.n:Int) < (l.n:Int))=false:=bo (by omega);rw [d1];simp only [cv,tM,cK,aj,aI];exact .inr ⟨_,_,rfl,rfl,rfl,rfl,q1,q2,q3,q4⟩) (x:=⟨stack,(stack.n:Int),0,⟨⟨0,(fun i=>⟨0,0⟩)⟩,⟨0,(fun i=>0)⟩⟩,⟨⟨0,(fun i=>⟨0,0⟩)⟩,⟨0,(fun i=>0)⟩⟩⟩) ⟨rfl,rfl,rfl,rfl,rfl,fun i hi=>absurd hi (oD _),fun i hi=>by omega⟩
 subst h2;exact ⟨x',h1,h3,h4⟩
def Lh (s:b.aA) (o:Sl b.Path) (l:List (List (b.Handle×Nat))):Prop:=o.n=l.length/\∀ j w,l[j]? = some w->∃ g,rQ s g w/\QU (o.get j) g w.length
theorem Lh.push {s:b.aA} {o:Sl b.Path} {l:List (List (b.Handle×Nat))} (h:Lh s o l) {w:List (b.Handle×Nat)} {g:Nat->b.e8} {p:b.Path} (hg:rQ s g w) (hp:QU p g w.length):Lh s (o.push p) (l++[w]):=by
 refine ⟨by show o.n+1=_; rw [kv,h.1]; rfl,fun j v hj=>?_⟩;by_cases hl:j < l.length
 ·rw [qM hl] at hj
  rw [Sl.HM (by rw [h.1]; exact hl)];exact h.2 j v hj
 ·rw [tL (by omega)] at hj
  have e:j=l.length:=by
   obtain ⟨h3,_⟩:=cG.1 hj;simp only [List.length_singleton] at h3;omega
  subst e;rw [Nat.sub_self] at hj;have e2:w=v:=by simpa using hj
  subst e2;rw [<- h.1,Sl.EJ];exact ⟨g,hg,hp⟩
structure Rel (s:b.aA) (x:b.cz) (y:St b.Handle):Prop where
 sc:x.s=s
 n:x.stack.n=y.1.length
 st:rQ s x.stack.get y.1
 out:Lh s x.out y.2
theorem round {s:b.aA} (hs:o3 s) {x:b.cz} {h:b.Handle} {n:Nat} {r:List (b.Handle×Nat)} {out:List (List (b.Handle×Nat))} (hx:Rel s x ((h,n)::r,out)) (hb:out.length<=1000) :
  ((nx (l9 s) (gd s) (jz s) ((h,n)::r,out)).1≠[]/\∃ x',b.bO x = .next x'/\Rel s x' (nx (l9 s) (gd s) (jz s) ((h,n)::r,out)))\/
  ((nx (l9 s) (gd s) (jz s) ((h,n)::r,out)).1 = []/\∃ x',b.bO x = .out .ret x'/\x'.t3=0/\Lh s x'.t2 (nx (l9 s) (gd s) (jz s) ((h,n)::r,out)).2):=by
 obtain ⟨t2,t3,o,stack,s'⟩:=x;obtain ⟨h1,h2,h3,h4⟩:=hx
 dsimp only at h1 h2 h3 h4
 subst h1;have hlen:=h3.len;have aqD:∀ i,i < stack.n->0<=(stack.get i).fe/\(stack.get i).fe<=1000:=fun i hi=>by
  obtain ⟨h',n',e,q1,q2⟩:=h3.at i (by omega);have:=ab1 hs q2;rw [e]
  dsimp only
  omega
 have h3':=h3;obtain ⟨g1,g2,g3,g4,g5⟩:=h3;obtain ⟨s1,s2,s3⟩:=Ml hs g3;have hdg:=ab1 hs g3;simp only [qN] at h2 hlen;have e1:aO ((stack.n:Int) - 1)=(r.length:Int):=by rw [df (by omega) (by omega)]; omega
 have d1:decide ((0:Int)<=(r.length:Int))=true:=ay (by omega);have d2:decide ((r.length:Int) < (stack.n:Int))=true:=ay (by omega);have d2' : decide ((r.length:Int)<=(stack.n:Int))=true:=ay (by omega);have d3:=ay s1;have d4:=ay s2;have d5:=ay s3;have e5:aO ((n:Int)+1)=((n+1:Nat):Int):=by rw [df (by omega) (by omega)]; omega
 have e6:aO (((n+1:Nat):Int) - 1)=(n:Int):=by rw [df (by omega) (by omega)]; omega
 have d6:decide ((0:Int)<=(n:Int))=true:=ay (by omega);have b1:(Nat.ble ((stack.n+1) * 24) 140737488355328&&Nat.ble (stack.n+1) 17592186044416)=true:=by
  rw [aq];exact ⟨Nat.ble_eq_true_of_le (by omega),Nat.ble_eq_true_of_le (by omega)⟩
 have b2:dT 48 o.n 1=true:=by
  have:=h4.1;exact uJ
 unfold b.bO b.jg
 dsimp only
 simp only [e1,CE,ba,g1,fG,e5,e6,d1,d2,d2',d3,d4,d5,d6,b1,b2,cv,tM,cK,CF,aj];by_cases bj:n < l9 s' h
 ·have d7:decide ((n:Int) < (((s'.graph.kids.get h.slot.toNat).n:Nat):Int))=true:=ay (by unfold l9 at bj; omega)
  rw [d7];simp only [aj];have en:nx (l9 s') (gd s') (jz s') ((h,n)::r,out)=((gd s' h n,0)::(h,n+1)::r,out):=by
   simp only [nx];rw [ay bj,aj]
  rw [en];refine .inl ⟨by simp,_,rfl,⟨rfl,?_,?_,h4⟩⟩
  ·show stack.n+1=_
   simp only [qN];omega
  ·have hk:mz s'.graph.cB (gd s' h n):=WZ hs g3 bj
   have ht:∃ t,16 - r.length=t+1:=⟨16 - r.length - 1,by omega⟩
   obtain ⟨t,ht⟩:=ht;have Xq:CB (l9 s') (gd s') (16 - (r.length+1)) (gd s' h n):=by
    rw [ht] at g4;rw [show 16 - (r.length+1)=t by omega];exact g4 n bj
   have NR:(stack.set r.length ⟨h,((n+1:Nat):Int)⟩).n=r.length+1:=h2;refine ⟨?_,qK _,hk,Xq,?_,bj,g3,g4,?_⟩
   ·show (Sl.join _ _).get (r.length+1)=_
    rw [Sl.agK (by rw [NR]; exact aB _),NR,Nat.sub_self];rfl
   ·show (Sl.join _ _).get r.length=_
    rw [Sl.abx (by rw [NR]; exact Mt _),fG]
   ·refine g5.congr fun i hi=>?_
    show (Sl.join _ _).get i=_;rw [Sl.abx (by rw [NR]; omega),eG _ _ (by omega)]
 ·have d7:decide ((n:Int) < (((s'.graph.kids.get h.slot.toNat).n:Nat):Int))=false:=bo (by unfold l9 at bj; omega)
  rw [d7];simp only [aI];have en:nx (l9 s') (gd s') (jz s') ((h,n)::r,out)=(r,cond (jz s' h) (out++[(h,n)::r]) out):=by
   simp only [nx];rw [bo bj,aI]
  rw [en];have key:∀ (o' : Sl b.Path) (aj7:List (List (b.Handle×Nat))) (g:Nat->b.e8),(∀ i,i < r.length->g i=stack.get i)->Lh s' o' aj7->
    (r≠[]/\∃ x',cond (decide ((r.length:Int) > 0)) (aX.next (⟨t2,t3,o',⟨r.length,g⟩,s'⟩:b.cz)) (.out .ret ⟨o',0,o',⟨r.length,g⟩,s'⟩) = .next x'/\Rel s' x' (r,aj7))\/
    (r = []/\∃ x',cond (decide ((r.length:Int) > 0)) (aX.next (⟨t2,t3,o',⟨r.length,g⟩,s'⟩:b.cz)) (.out .ret ⟨o',0,o',⟨r.length,g⟩,s'⟩) = .out .ret x'/\x'.t3=0/\Lh s' x'.t2 aj7):=by
   intro o' aj7 g hg ho;cases r with
   | nil=>exact .inr ⟨rfl,_,rfl,rfl,ho⟩
   | cons w r=>
    refine .inl ⟨by simp,?_⟩;rw [ay (by simp only [qN]; omega),aj];exact ⟨_,rfl,rfl,rfl,g5.congr hg,ho⟩
  by_cases hm:jz s' h=true
  ·have OJ:((s'.nodes.get h.slot.toNat).kind==5)=true:=hm
   rw [OJ,hm];simp only [aj];obtain ⟨x',q1,q2,q3⟩:=aiK stack (by omega) aqD;rw [q1];have es:zq (ah.exit 0) (ah.exit 0)=true:=rfl;simp only [aX.ur,aX.lW,es,aj,q2];exact key _ _ _ (fun i hi=>rfl) (h4.push h3' (by simp only [qN]; rw [<- h2]; exact q3))
  ·rw [Bool.not_eq_true] at hm
   have OJ:((s'.nodes.get h.slot.toNat).kind==5)=false:=hm;rw [OJ,hm];simp only [aI];exact key _ _ _ (fun i hi=>rfl) h4
theorem am3 (s:b.aA) (j:Nat) (y:St b.Handle):it (l9 s) (gd s) (jz s) (j+1) y=nx (l9 s) (gd s) (jz s) (it (l9 s) (gd s) (jz s) j y):=NM j 1 y
theorem alc {s:b.aA} (hs:o3 s) {y:St b.Handle} {r:Nat} (hr:r < gK) {ahh:List (List (b.Handle×Nat))} (hF:it (l9 s) (gd s) (jz s) r y=([],ahh)) (hl:ahh.length<=1000) {x:b.cz} (hx:Rel s x y) (hy:y.1≠[]) :
  ∃ x',goN b.bO x = .out .ret x'/\x'.t3=0/\Lh s x'.t2 ahh:=by
 obtain ⟨e,x',h1,h2,h3,h4⟩:=jD (step:=b.bO) (fun j x=>Rel s x (it (l9 s) (gd s) (jz s) j y)/\(it (l9 s) (gd s) (jz s) j y).1≠[]) (fun e x=>e = .ret/\x.t3=0/\Lh s x.t2 ahh) r hr (fun j x hj hI=>by
  obtain ⟨q1,q2⟩:=hI;have bj:j < r:=by
   by_cases e:j=r
   ·subst e; rw [hF] at q2; exact absurd rfl q2
   ·omega
  have hn:=am3 s j y;have hle:(it (l9 s) (gd s) (jz s) j y).2.length<=1000:=by
   have:=aj6 (dg:=l9 s) (dW:=gd s) (fN:=jz s) (r - j) (it (l9 s) (gd s) (jz s) j y);rw [<- NM,show j+(r - j)=r by omega,hF] at this;exact gR this hl
  revert q1 q2 hn hle
  generalize hz:it (l9 s) (gd s) (jz s) j y=z;obtain ⟨st,out⟩:=z;intro q1 q2 hn hle;cases st with
  | nil=>exact absurd rfl q2
  | cons w st=>
   obtain ⟨h,n⟩:=w;rcases round hs q1 hle with ⟨g1,x',g2,g3⟩ | ⟨g1,x',g2,g3,g4⟩
   ·exact .inl ⟨x',g2,bj,by rw [hn]; exact g3,by rw [hn]; exact g1⟩
   ·refine .inr ⟨_,x',g2,rfl,rfl,g3,?_⟩
    have e2:(nx (l9 s) (gd s) (jz s) ((h,n)::st,out))=([],(nx (l9 s) (gd s) (jz s) ((h,n)::st,out)).2):=by
     rw [<- g1]
    have e3:=NM (dg:=l9 s) (dW:=gd s) (fN:=jz s) (j+1) (r - (j+1)) y;rw [hn,e2,aeT,show j+1+(r - (j+1))=r by omega,hF] at e3;have e4:ahh=(nx (l9 s) (gd s) (jz s) ((h,n)::st,out)).2:=congrArg (·.2) e3;rw [e4];exact g4) (x:=x) ⟨hx,hy⟩
 subst h2;exact ⟨x',h1,h3,h4⟩
theorem am4 {s:b.aA} (h:Down s):∀ (t:Nat) (x:b.Handle) (i:Nat),x.slot=(i:Int)->i < s.graph.kids.n->CB (dg s.graph) (ch s.graph) t i->CB (l9 s) (gd s) t x
 | 0,_,_,_,_,hl=>hl.elim
 | t+1,x,i,hx,hi,hl=>fun k hk=>by
  unfold l9 at hk;unfold gd;rw [hx,CE] at hk ⊢;exact am4 h t _ _ (h.slot hi hk) (h.chl i hi k hk) (hl k hk)
theorem am5 {s:b.aA} (h:Down s):∀ (t:Nat) (x:b.Handle) (i:Nat),x.slot=(i:Int)->i < s.graph.kids.n->NL (l9 s) (gd s) (jz s) t x=NL (dg s.graph) (ch s.graph) (Ko s) t i
 | 0,_,_,_,_=>rfl
 | t+1,x,i,hx,hi=>by
  have e1:jz s x=Ko s i:=by unfold jz Ko; rw [hx,CE]
  have e2:l9 s x=dg s.graph i:=by unfold l9 dg; rw [hx,CE]
  rw [NL,NL,e1,e2];congr 1;refine NK _ fun k hk=>?_;refine am5 h t _ _ ?_ (h.chl i hi k hk);unfold gd;rw [hx,CE];exact h.slot hi hk
def ways (s:b.aA):List (List Nat):=wb (l9 s) (gd s) (jz s) 16 s.root
structure Xh (s:b.aA) (p:b.Path) (ks:List Nat):Prop where
 n:p.kids.n=ks.length
 is:∀ (i k:Nat),ks[i]? = some k->p.kids.get i=(k:Int)
 leads:amQ s p.kids
 at_:Zm s p.kids p.nodes
theorem adB {s:b.aA} : ∀ (ks:List Nat) (h:b.Handle) (st:List (b.Handle×Nat)) (g:Nat->b.e8),rQ s g (ob (l9 s) (gd s) st h ks)->
  (ob (l9 s) (gd s) st h ks).length=st.length+ks.length+1/\(g st.length).h=h/\(∀ i k:Nat,ks[i]? = some k->(g (st.length+i)).fe=(k:Int)+1/\k < l9 s (g (st.length+i)).h/\(g (st.length+(i+1))).h=gd s (g (st.length+i)).h k)
 | [],h,st,g,hi=>⟨rfl,by rw [hi.1],fun i k hk=>by simp at hk⟩
 | k::ks,h,st,g,hi=>by
  obtain ⟨h1,h2,h3⟩:=adB ks (gd s h k) ((h,k+1)::st) g hi;have below:∀ (ks:List Nat) (h:b.Handle) (w:List (b.Handle×Nat)),rQ s g (ob (l9 s) (gd s) w h ks)->rQ s g w:=by
   intro ks
   induction ks with
   | nil=>exact fun h w q=>q.2.2.2.2
   | cons k ks ih=>exact fun h w q=>(ih _ _ q).2.2.2.2
  have hb:=below ks _ _ hi;simp only [qN] at h1 h2 h3;refine ⟨by rw [show ob (l9 s) (gd s) st h (k::ks)=ob (l9 s) (gd s) ((h,k+1)::st) (gd s h k) ks from rfl,h1]; simp only [qN]; omega,by rw [hb.1],fun i k' hk=>?_⟩;cases i with
  | zero=>
   simp only [List.getElem?_cons_zero,bM] at hk;subst hk;rw [ym,ba,h2,hb.1];refine ⟨by push_cast; rfl,hb.2.1,rfl⟩
  | succ i=>
   simp only [Ms] at hk;have:=h3 i k' hk;rw [show st.length+1+i=st.length+(i+1) by omega,show st.length+1+(i+1)=st.length+(i+1+1) by omega] at this;exact this
theorem anU {s:b.aA} {p:b.Path} {g:Nat->b.e8} {ks:List Nat} (hg:rQ s g (ob (l9 s) (gd s) [] s.root ks)) (hp:QU p g (ob (l9 s) (gd s) [] s.root ks).length):Xh s p ks:=by
 obtain ⟨h1,h2,h3⟩:=adB ks s.root [] g hg;simp only [List.length_nil,ba] at h1 h2 h3;rw [h1] at hp;obtain ⟨q1,q2,q3,q4⟩:=hp;have his:∀ (i k:Nat),ks[i]? = some k->p.kids.get i=(k:Int):=fun i k hk=>by
  obtain ⟨hl,_⟩:=cG.1 hk;rw [q4 i (by omega),(h3 i k hk).1];omega
 have uZ:∀ i,i<=ks.length->Vi s p.kids i=(g i).h/\∀ j,j < i->Zl s p.kids j:=by
  intro i
  induction i with
  | zero=>exact fun _=>⟨h2.symm,fun j hj=>absurd hj (oD _)⟩
  | succ i ih=>
   intro hi;obtain ⟨e,gY⟩:=ih (by omega);have hk:ks[i]? = some ks[i]:=cI (by omega);have hh:=h3 i _ hk;have hki:=his i _ hk;refine ⟨?_,fun j hj=>?_⟩
   ·show (s.graph.kids.get (Vi s p.kids i).slot.toNat).get (p.kids.get i).toNat=_
    rw [e,hki,CE,hh.2.2];rfl
   ·by_cases ej:j=i
    ·subst ej
     have:=hh.2.1;unfold l9 at this;unfold Zl;rw [hki,e];omega
    ·exact gY j (by omega)
 refine ⟨by omega,his,fun j hj=>(uZ (j+1) (by omega)).2 j (Mt _),by omega,fun i hi=>?_⟩;rw [(uZ i (by omega)).1];exact q3 i (by omega)
theorem aj8 {s:b.aA} (hs:o3 s):∀ h,mz s.graph.cB h->∀ k,k < l9 s h->mz s.graph.cB (gd s h k):=fun h hh k hk=>WZ hs hh hk
theorem anV {s:b.aA} (hs:o3 s):∀ h,mz s.graph.cB h->jz s h=true->l9 s h=0:=fun h hh hm=>by
 have:=Ml hs hh;refine (hs.2.2.2.1 h.slot.toNat (by omega)).2.2 ?_;unfold jz at hm;exact eq_of_beq hm
theorem ahi {s:b.aA} (vp:FK s) (hs:o3 s):∃ l e,b.gb s=some (l,e)/\
  ((s.root=DF/\l.n=0/\e=0)\/(s.root≠DF/\l.n=0/\e=120)\/
   (s.root≠DF/\mz s.graph.cB s.root/\CB (l9 s) (gd s) 16 s.root/\e=0/\l.n<=256/\l.n=(ways s).length/\∀ (j:Nat) ks,(ways s)[j]? = some ks->Xh s (l.get j) ks)):=by
 obtain ⟨e,h1,h2⟩:=abG s vp;have he:e=0:=by
  rcases h2 with h | h
  ·exact h.1
  ·exact absurd hs h.2
 subst he;unfold b.gb;rw [h1];simp only [gJ,eU,aj];have hz:((0:Int) != 0)=false:=rfl;rw [hz,aI];by_cases hr:s.root=DF
 ·have:((s.root.slot==0)&&((s.root.gen==0)&&true))=true:=(ag0 s.root DF).2 hr
  rw [this,aj];exact ⟨_,_,rfl,.inl ⟨hr,rfl,rfl⟩⟩
 ·have:((s.root.slot==0)&&((s.root.gen==0)&&true))=false:=by
   rw [<- Bool.not_eq_true];exact fun h=>hr ((ag0 s.root DF).1 h)
  rw [this,aI];have hh:mz s.graph.cB s.root:=by
   rcases hs.2.2.2.2 with h | h
   ·exact absurd h hr
   ·exact h
  obtain ⟨s1,s2,s3⟩:=Ml hs hh;obtain ⟨r,er⟩:∃ r:Nat,s.root.slot=(r:Int):=⟨s.root.slot.toNat,by omega⟩
  have hd:=ahe hs;have hi:r < s.graph.kids.n:=by omega
  obtain ⟨c,c1,c2,c3,c4⟩:=aeS hd er hi;have c1a:(b.eh s).isSome=true:=by rw [c1]; rfl
  have c1b:(b.eh s).getD default=c:=by rw [c1]; rfl
  rw [c1a,c1b,aj];have d1:decide ((0:Int)<=s.root.slot)=true:=ay s1;have d2:decide (s.root.slot < (c.1.n:Int))=true:=ay (by have:=c2.n1; omega);have d3:decide (s.root.slot < (c.2.n:Int))=true:=ay (by have:=c2.n2; omega);have en:s.root.slot.toNat=r:=by omega
  rw [d1,d2,d3,en];simp only [cK,aj];by_cases Ww:c.1.get r > 16
  ·rw [ay Ww,aj]
   exact ⟨_,_,rfl,.inr (.inl ⟨hr,rfl,rfl⟩)⟩
  rw [bo Ww,aI];by_cases WY:c.2.get r > 256
  ·rw [ay WY,aj]
   exact ⟨_,_,rfl,.inr (.inl ⟨hr,rfl,rfl⟩)⟩
  rw [bo WY,aI];have Lw:CB (dg s.graph) (ch s.graph) s.graph.kids.n r:=Vq hd.chl hd.free r hi;have ZM:CB (dg s.graph) (ch s.graph) 16 r:=(ahd _ _ Lw).le (by rw [c3] at Ww; unfold hH at Ww; omega);have hl:CB (l9 s) (gd s) 16 s.root:=am4 hd 16 s.root r er hi ZM;have aqE:NL (dg s.graph) (ch s.graph) (Ko s) 16 r=mH s r:=by
   unfold mH;by_cases hq:s.graph.kids.n<=16
   ·exact aj4 Lw hq
   ·exact (aj4 ZM (by omega)).symm
  have hlen:(ways s).length<=256:=by
   have:=abV (aj8 hs) (anV hs) 16 s.root hh;rw [am5 hd 16 s.root r er hi,aqE] at this;unfold ways;omega
  obtain ⟨rr,r1,r2,r3⟩:=visit (fN:=jz s) (aj8 hs) (fun h hh=>ab1 hs hh) 16 s.root hh hl [] [];have hrel:Rel s (b.qC s) ([(s.root,0)],[]):=⟨rfl,rfl,⟨rfl,qK _,hh,hl,trivial⟩,⟨rfl,fun j w hj=>by simp at hj⟩⟩
  have RM:∀ l,Lh s l ([]++(wb (l9 s) (gd s) (jz s) 16 s.root).map (ob (l9 s) (gd s) [] s.root))->(s.root≠DF/\mz s.graph.cB s.root/\CB (l9 s) (gd s) 16 s.root/\(0:Int)=0/\l.n<=256/\l.n=(ways s).length/\∀ (j:Nat) ks,(ways s)[j]? = some ks->Xh s (l.get j) ks):=by
   intro l hq;obtain ⟨q1,q2⟩:=hq;rw [List.nil_append,List.length_map] at q1;refine ⟨hr,hh,hl,rfl,by unfold ways at hlen; omega,q1,fun j ks hj=>?_⟩;obtain ⟨g,g1,g2⟩:=q2 j (ob (l9 s) (gd s) [] s.root ks) (by
    rw [List.nil_append,o8];unfold ways at hj;rw [hj];rfl)
   exact anU g1 g2
  have anW:([]++(wb (l9 s) (gd s) (jz s) 16 s.root).map (ob (l9 s) (gd s) [] s.root)).length<=1000:=by
   rw [List.nil_append,List.length_map];unfold ways at hlen;omega
  obtain ⟨m,rfl⟩:∃ m,rr=m+1:=⟨rr - 1,by omega⟩
  have hnx:it (l9 s) (gd s) (jz s) m (nx (l9 s) (gd s) (jz s) ([(s.root,0)],[]))=([],[]++(wb (l9 s) (gd s) (jz s) 16 s.root).map (ob (l9 s) (gd s) [] s.root)):=r3;rcases round hs hrel (qK _) with ⟨g1,x',g2,g3⟩ | ⟨g1,x',g2,g3,g4⟩
  ·rw [g2,b.adA]
   obtain ⟨y,y1,y2,y3⟩:=alc hs (r:=m) (by unfold gK; omega) hnx anW g3 g1;rw [y1];have e1:(aX.out ah.ret y).by (ah.exit 999983)=false:=rfl
   have e2:(aX.out ah.ret y).by ah.ret=true:=rfl
   rw [e1,e2,aI,aj];refine ⟨_,_,rfl,.inr (.inr ?_)⟩;rw [aX.lW,y2];exact RM _ y3
  ·rw [g2]
   refine ⟨_,_,rfl,.inr (.inr ?_)⟩;rw [g3];refine RM _ ?_;have e2:(nx (l9 s) (gd s) (jz s) ([(s.root,0)],[]))=([],(nx (l9 s) (gd s) (jz s) ([(s.root,0)],[])).2):=Prod.ext g1 rfl;rw [e2,aeT] at hnx;have e4:=congrArg (·.2) hnx
   dsimp only at e4
   rw [<- e4];exact g4
theorem aiL {s:b.aA} (vp:FK s) (hs : ¬ o3 s):∃ l,b.gb s=some (l,8)/\l.n=0:=by
 obtain ⟨e,h1,h2⟩:=abG s vp;have he:e=8:=by
  rcases h2 with h | h
  ·exact absurd h.2 hs
  ·exact h.1
 subst he;unfold b.gb;rw [h1];exact ⟨_,rfl,rfl⟩
end Go.Proofs.Ytckbdndhmcoihaa.sc
end
section
namespace Go.Proofs.Ytckbdndhmcoihaa.b
open Go.K
noncomputable section
theorem aeW (s:Sl Place) (v:Place):s.push v=au (fun e=>Kl (ij Try.prog (cg Try.prog 5) 75 e)) (s.n+1) (aw s.n (fun i=>DN (s.get i)) (cZ [DN v])):=(fP (p:=fun e=>Kl (ij Try.prog (cg Try.prog 5) 75 e)) (fun x=>by kernel_rfl) (by kernel_rfl) s v).symm
structure jM where
 t2:(Sl Place)
 t3:Int
 out:(Sl Place)
 t19:(Sl Path)
 t20:Int
 t21:Int
 s:aA
instance:Inhabited jM:=⟨by constructor<;>exact default⟩
def Ar (x:jM):List KV:=[dL 75 DN x.t2,.int .i64 x.t3,dL 75 DN x.out,dL 50 Gt x.t19,.int .i64 x.t20,.int .i64 x.t21]
def Au (x:jM):List (List KV):=[Bp x.s]
def GW (vs:List KV) (rs:List (List KV)):jM:=⟨eX Kl (v9 vs 0),av (v9 vs 1),eX Kl (v9 vs 2),eX EH (v9 vs 3),av (v9 vs 4),av (v9 vs 5),Bq (r9 rs 0)⟩
def Jv:aJ:=⟨[(2,w9 (n9 75)),(3,w9 i9),(6,⟨false,[.aP 75]⟩),(19,w9 (n9 50)),(20,w9 i9),(21,w9 i9)],[(1,[n9 139,n9 47,n9 64,n9 79,n9 118,i9,i9],1)],[(1,0,0)]⟩
def Re:=BU [(21,Jr),(9,wi)] [] 8 250 Jv
def o4 (x:jM):=wa x.s (x.t19.get (Int.toNat x.t21))
def fF (x:jM):aX jM:=(cond (decide (x.t21 < x.t20)) (cond ((decide (0<=x.t21))&&(decide (x.t21 < (x.t19.n:Int)))) (cond (o4 x).isSome (cond (((o4 x).getD default).snd != 0) (cond (ai x.out.n x.out.n) (.out aG.ah.ret ⟨⟨0,(fun i=>⟨⟨⟨0,(fun i=>⟨0,0,0⟩)⟩,⟨0,(fun i=>⟨0,0⟩)⟩,⟨0,(fun i=>⟨0,0,0⟩)⟩,⟨⟨0,0,0,0⟩,0,0,0,false,0⟩,⟨⟨0,0,0⟩,⟨0,0,0⟩⟩⟩,false,⟨0,(fun i=>⟨⟨0,0,0⟩,0,0⟩)⟩⟩)⟩,((o4 x).getD default).snd,x.out,x.t19,x.t20,x.t21,x.s⟩) .fail) (cond ((ai x.out.n x.out.n)&&(dT 200 x.out.n 1)) (cond (ai (x.out.n+1) (x.out.n+1)) (.next ⟨x.t2,x.t3,(x.out.push ((o4 x).getD default).fst),x.t19,x.t20,(aO (x.t21+1)),x.s⟩) .fail) .fail)) .fail) .fail) (cond (ai x.out.n x.out.n) (.out (aG.ah.exit 0) x) .fail))
theorem Oz (x:jM):Re (Ar x) (Au x)=aX.enc Ar Au (fF x):=by
 unfold fF
 try simp only [aX.cD,aeW]
 kernel_rfl
def Jw:Lp:=⟨8,250,Jv,fun vs rs=>dR Ar Au (goN fF (GW vs rs)) [aG.ah.exit 0,aG.ah.ret],false⟩
theorem Rf:Jw.Ok PG:=CA (ak.cons Km (ak.cons uz ak.nil)) bm.nil (pa:=GW) Oz
def ow (s:aA):=gb s
def fS (s:aA):=goN fF ⟨⟨0,(fun i=>⟨⟨⟨0,(fun i=>⟨0,0,0⟩)⟩,⟨0,(fun i=>⟨0,0⟩)⟩,⟨0,(fun i=>⟨0,0,0⟩)⟩,⟨⟨0,0,0,0⟩,0,0,0,false,0⟩,⟨⟨0,0,0⟩,⟨0,0,0⟩⟩⟩,false,⟨0,(fun i=>⟨⟨0,0,0⟩,0,0⟩)⟩⟩)⟩,0,⟨0,(fun i=>⟨⟨⟨0,(fun i=>⟨0,0,0⟩)⟩,⟨0,(fun i=>⟨0,0⟩)⟩,⟨0,(fun i=>⟨0,0,0⟩)⟩,⟨⟨0,0,0,0⟩,0,0,0,false,0⟩,⟨⟨0,0,0⟩,⟨0,0,0⟩⟩⟩,false,⟨0,(fun i=>⟨⟨0,0,0⟩,0,0⟩)⟩⟩)⟩,((ow s).getD default).fst,(((ow s).getD default).fst.n:Int),0,s⟩
def wj (s:aA):Option ((Sl Place)×Int):=(cond (ow s).isSome (cond (((ow s).getD default).snd != 0) (some (⟨0,(fun i=>⟨⟨⟨0,(fun i=>⟨0,0,0⟩)⟩,⟨0,(fun i=>⟨0,0⟩)⟩,⟨0,(fun i=>⟨0,0,0⟩)⟩,⟨⟨0,0,0,0⟩,0,0,0,false,0⟩,⟨⟨0,0,0⟩,⟨0,0,0⟩⟩⟩,false,⟨0,(fun i=>⟨⟨0,0,0⟩,0,0⟩)⟩⟩)⟩,((ow s).getD default).snd)) (cond ((fS s).by (aG.ah.exit 0)) (some ((fS s).st.out,0)) (cond ((fS s).by aG.ah.ret) (some ((fS s).st.t2,(fS s).st.t3)) none))) none)
theorem Xi (s:aA):rE [(21,Jr),(9,wi)] [Jw] 8 [kA s] = (wj s).map (fun (r:(Sl Place)×Int)=>KV.ma [(dL 75 DN) r.1,(kI .i64) r.2]):=by
 unfold wj
 try simp only [b6]
 kernel_rfl
def DS:List KV->KR KV:=bR PG 8 (b8 (fun (r:(Sl Place)×Int)=>KV.ma [(dL 75 DN) r.1,(kI .i64) r.2]) fun vs=>wj (eR (v9 vs 0)))
theorem DT:bQ PG 8 DS:=dU (ak.cons Km (ak.cons uz ak.nil)) (r7 Rf bm.nil) fun w=>Xi (eR (g0 34 (w 0)))
def xZ (a:Int) (b:Int):Option (Int):=(some ((uU ((uU (max a b)) - (uU (min a b))))))
theorem YL (a:Int) (b:Int):rE [] [] 32 [(kI .i64) a,(kI .i64) b] = (xZ a b).map (kI .u64):=by
 unfold xZ
 kernel_rfl
def RY:List KV->KR KV:=bR PG 32 (b8 (kI .u64) fun vs=>xZ (av (v9 vs 0)) (av (v9 vs 1)))
theorem Xj:bQ PG 32 RY:=dU ak.nil bm.nil fun w=>YL (av (g0 3 (w 0))) (av (g0 3 (w 1)))
def ox (d:Int) (n:Int):Option (Bool):=(cond (decide (n<=0)) (some (true)) (some ((decide (d >= (uU n))))))
theorem Tu (d:Int) (n:Int):rE [] [] 33 [(kI .u64) d,(kI .i64) n] = (ox d n).map kB:=by
 unfold ox
 try simp only [b6]
 kernel_rfl
def Mp:List KV->KR KV:=bR PG 33 (b8 kB fun vs=>ox (av (v9 vs 0)) (av (v9 vs 1)))
theorem Rg:bQ PG 33 Mp:=dU ak.nil bm.nil fun w=>Tu (av (g0 113 (w 0))) (av (g0 3 (w 1)))
def BC (g:Gate) (from_:dI):=xZ g.cN.x from_.x
def BD (g:Gate) (from_:dI):=xZ g.cN.y from_.y
def BF (g:Gate) (from_:dI):=xZ g.cN.z from_.z
def BG (g:Gate) (from_:dI):=ox (max (max ((BC g from_).getD default) ((BD g from_).getD default)) ((BF g from_).getD default)) g.from_
def BH (g:Gate) (from_:dI):=ox (max (max ((BC g from_).getD default) ((BD g from_).getD default)) ((BF g from_).getD default)) g.to_
def oM (g:Gate) (from_:dI):Option (Bool):=(cond (BC g from_).isSome (cond (BD g from_).isSome (cond (BF g from_).isSome (cond (BG g from_).isSome (cond ((BG g from_).getD default) (cond (BH g from_).isSome (some ((!((BH g from_).getD default)))) none) (some (false))) none) none) none) none)
theorem YM (g:Gate) (from_:dI):rE [(33,Mp),(32,RY)] [] 16 [abR g,np from_] = (oM g from_).map kB:=by
 unfold oM
 try simp only [b6]
 kernel_rfl
def Fh:List KV->KR KV:=bR PG 16 (b8 kB fun vs=>oM (W8 (v9 vs 0)) (jV (v9 vs 1)))
theorem EL:bQ PG 16 Fh:=dU (ak.cons Rg (ak.cons Xj ak.nil)) bm.nil fun w=>YM (W8 (g0 87 (w 0))) (jV (g0 36 (w 1)))
structure rR where
 t4:Int
 i:Int
 a:Path
 b:Path
instance:Inhabited rR:=⟨⟨default,default,default,default⟩⟩
def Gz (x:rR):List KV:=[.int .i64 x.t4,.int .i64 x.i]
def GA (x:rR):List (List KV):=[WR x.a,WR x.b]
def Oe (vs:List KV) (rs:List (List KV)):rR:=⟨av (v9 vs 0),av (v9 vs 1),WS (r9 rs 0),WS (r9 rs 1)⟩
def P7:aJ:=⟨[(4,w9 i9),(5,w9 i9)],[(2,[n9 32,n9 3],1),(3,[n9 32,n9 3],1)],[(2,0,0),(3,1,0)]⟩
def YN:=BU [] [] 10 26 P7
def ph (x:rR):aX rR:=(cond (decide (x.i < (x.a.kids.n:Int))) (cond (decide (x.i < (x.b.kids.n:Int))) (cond ((decide (0<=x.i))&&(decide (x.i < (x.a.kids.n:Int)))) (cond ((decide (0<=x.i))&&(decide (x.i < (x.b.kids.n:Int)))) (cond ((x.a.kids.get (Int.toNat x.i)) != (x.b.kids.get (Int.toNat x.i))) (.out aG.ah.ret ⟨x.i,x.i,x.a,x.b⟩) (.next ⟨x.t4,(aO (x.i+1)),x.a,x.b⟩)) .fail) .fail) (.out (aG.ah.exit 0) x)) (.out (aG.ah.exit 0) x))
theorem Vu (x:rR):YN (Gz x) (GA x)=aX.enc Gz GA (ph x):=by
 unfold ph
 try simp only [aX.cD]
 kernel_rfl
def P8:Lp:=⟨10,26,P7,fun vs rs=>dR Gz GA (goN ph (Oe vs rs)) [aG.ah.exit 0,aG.ah.ret],false⟩
theorem YO:P8.Ok PG:=CA ak.nil bm.nil (pa:=Oe) Vu
def Vv:List (Nat×(List KV->KR KV)):=[]
def Vw:List Lp:=[P8]
theorem ab2:ak PG Vv:=ak.nil
theorem ab3:bm PG Vw:=(r7 YO bm.nil)
def Fi (a:Path) (b:Path):=goN ph ⟨0,0,a,b⟩
def Cu (a:Path) (b:Path):Option (Int):=(cond ((Fi a b).by (aG.ah.exit 0)) (some ((-(1:Int)))) (cond ((Fi a b).by aG.ah.ret) (some ((Fi a b).st.t4)) none))
theorem acD (a:Path) (b:Path):CV PG (pw PG Vv Vw (fun q=>Nat.beq q 3)) 9 9 10 [Gt a,Gt b] = (Cu a b).map (kI .i64):=by
 unfold Cu
 try simp only [b6]
 kernel_rfl
def Kr:List KV->KR KV:=bR PG 10 (b8 (kI .i64) fun vs=>Cu (EH (v9 vs 0)) (EH (v9 vs 1)))
theorem Jx:bQ PG 10 Kr:=dU ab2 ab3 fun w=>acD (EH (g0 50 (w 0))) (EH (g0 50 (w 1)))
structure nM where
 t4:Bool
 i:Int
 p:Place
 from_:dI
instance:Inhabited nM:=⟨⟨default,default,default,default⟩⟩
def EM (x:nM):List KV:=[.bool x.t4,.int .i64 x.i]
def EN (x:nM):List (List KV):=[QS x.p,ajP x.from_]
def Mq (vs:List KV) (rs:List (List KV)):nM:=⟨fh (v9 vs 0),av (v9 vs 1),QT (r9 rs 0),ajQ (r9 rs 1)⟩
def Og:aJ:=⟨[(4,w9 b9),(5,w9 i9)],[(2,[n9 36,n9 125,n9 51,u9,u9,u9,u9,i9,u9,i9,b9,i9,i9,i9,i9,i9,i9,i9,b9,n9 87],1),(3,[i9,i9,i9],1)],[(2,0,0),(3,1,0)]⟩
def Xk:=BU [(16,Fh)] [] 11 26 Og
def DU (x:nM):=oM (x.p.ao.get (Int.toNat x.i)) x.from_
def lE (x:nM):aX nM:=(cond (decide (x.i < (x.p.ao.n:Int))) (cond ((decide (0<=x.i))&&(decide (x.i < (x.p.ao.n:Int)))) (cond (DU x).isSome (cond (!((DU x).getD default)) (.out aG.ah.ret ⟨false,x.i,x.p,x.from_⟩) (.next ⟨x.t4,(aO (x.i+1)),x.p,x.from_⟩)) .fail) .fail) (.out (aG.ah.exit 0) x))
theorem Tv (x:nM):Xk (EM x) (EN x)=aX.enc EM EN (lE x):=by
 unfold lE
 try simp only [aX.cD]
 kernel_rfl
def Oh:Lp:=⟨11,26,Og,fun vs rs=>dR EM EN (goN lE (Mq vs rs)) [aG.ah.exit 0,aG.ah.ret],false⟩
theorem Xl:Oh.Ok PG:=CA (ak.cons EL ak.nil) bm.nil (pa:=Mq) Tv
def RZ:List (Nat×(List KV->KR KV)):=[(16,Fh)]
def R0:List Lp:=[Oh]
theorem YP:ak PG RZ:=(ak.cons EL ak.nil)
theorem YQ:bm PG R0:=(r7 Xl bm.nil)
def wk (p:Place) (from_:dI):=goN lE ⟨false,0,p,from_⟩
def xd (p:Place) (from_:dI):Option (Bool):=(cond ((wk p from_).by (aG.ah.exit 0)) (some ((wk p from_).st.p.rM)) (cond ((wk p from_).by aG.ah.ret) (some ((wk p from_).st.t4)) none))
theorem ab4 (p:Place) (from_:dI):CV PG (pw PG RZ R0 (fun q=>Nat.beq q 3)) 9 9 11 [DN p,np from_] = (xd p from_).map kB:=by
 unfold xd
 try simp only [b6]
 kernel_rfl
def Hz:List KV->KR KV:=bR PG 11 (b8 kB fun vs=>xd (Kl (v9 vs 0)) (jV (v9 vs 1)))
theorem GB:bQ PG 11 Hz:=dU YP YQ fun w=>ab4 (Kl (g0 75 (w 0))) (jV (g0 36 (w 1)))
def R1:List (Nat×(List KV->KR KV)):=[(16,Fh)]
def R2:List Lp:=[]
theorem YR:ak PG R1:=(ak.cons EL ak.nil)
theorem YS:bm PG R2:=bm.nil
def P9  : (Option Bool):=(oM (⟨(⟨(0:Int),(0:Int),(0:Int)⟩:dI),(2:Int),(5:Int)⟩:Gate) (⟨(0:Int),(-(2:Int)),(1:Int)⟩:dI))
def Qa  : (Option Bool):=(oM (⟨(⟨(0:Int),(0:Int),(0:Int)⟩:dI),(2:Int),(5:Int)⟩:Gate) (⟨(5:Int),(0:Int),(0:Int)⟩:dI))
def Qb  : (Option Bool):=(oM (⟨(⟨(0:Int),(0:Int),(0:Int)⟩:dI),(0:Int),(0:Int)⟩:Gate) (⟨(0:Int),(0:Int),(0:Int)⟩:dI))
def DV  : Option (Bool):=(cond P9.isSome (cond (P9.getD default) (cond Qa.isSome (cond (!(Qa.getD default)) (cond Qb.isSome (some ((!(Qb.getD default)))) none) (some (false))) none) (some (false))) none)
theorem ab5  : CV PG (pw PG R1 R2 (fun q=>Nat.beq q 3)) 9 9 6 [] = (DV ).map kB:=by
 unfold DV
 try simp only [b6]
 kernel_rfl
def HA:List KV->KR KV:=bR PG 6 (b8 kB fun vs=>DV )
theorem GC:bQ PG 6 HA:=dU YR YS fun w=>ab5
end
end Go.Proofs.Ytckbdndhmcoihaa.b
end
section
namespace Go.Proofs.Ytckbdndhmcoihaa.sc
open Go Go.K Go.aG Go.yX Go.Proofs.Ytckbdndhmcoihaa.nodes
theorem adC {H:Type} (dW:H->Nat->H):∀ (l:List Nat) (h:H) (k:Nat),goH dW h (l++[k])=dW (goH dW h l) k
 | [],_,_=>rfl
 | a::l,h,k=>adC dW l (dW h a) k
structure Qc (kids:Sl Int) (ks:List Nat):Prop where
 n:kids.n=ks.length
 is:∀ (i k:Nat),ks[i]? = some k->kids.get i=(k:Int)
theorem Qc.at {kids:Sl Int} {ks:List Nat} (h:Qc kids ks) {i:Nat} (hi:i < ks.length):kids.get i=((ks[i] : Nat):Int):=h.is i _ (cI hi)
theorem aj9 {s:b.aA} {kids:Sl Int} {ks:List Nat} (h:Qc kids ks):∀ i,i<=ks.length->Vi s kids i=goH (gd s) s.root (ks.take i)
 | 0,_=>by rw [List.take_zero]; rfl
 | i+1,hi=>by
  rw [List.take_succ_eq_append_getElem (by omega),adC,<- aj9 h i (by omega)];show (s.graph.kids.get (Vi s kids i).slot.toNat).get (kids.get i).toNat=_;rw [h.at (by omega),CE];rfl
theorem am6 {s:b.aA} {kids:Sl Int} {ks:List Nat} (h:Qc kids ks):Vi s kids ks.length=goH (gd s) s.root ks:=by
 rw [aj9 h _ (aB _),List.take_length]
theorem ald {s:b.aA} (vp:FK s) (hon:aj1 s) (hs:o3 s) (hr:s.root≠DF) (hl:CB (l9 s) (gd s) 16 s.root) {j:Nat} {ks:List Nat} (qE:(ways s)[j]? = some ks) {p:b.Path} (hp:Xh s p ks):r5 s p:=by
 have hm:=gh qE;obtain ⟨h1,h2⟩:=abW _ _ _ hm;have h3:=Vs _ _ _ hm;have h4:=Ts (mG:=l9 s) (c:=gd s) 16 s.root;have hk:Qc p.kids ks:=⟨hp.n,hp.is⟩
 have hn:=hp.n;refine ⟨vp,hon,⟨hs,hr,hp.leads,hp.at_⟩,by omega,?_⟩;have e:=hp.at_.2 p.kids.n (aB _);unfold nodeAt;rw [e,hn,am6 hk];exact DX.1 h2
theorem aeX {s:b.aA} (l:Sl b.Path) (hl:l.n<=256) (ht:∀ j,j < l.n->r5 s (l.get j)) (z o:Sl b.Place) (ho:o.n=0) :
  (∃ x',goN b.fF ⟨z,0,o,l,(l.n:Int),0,s⟩ = .out (.exit 0) x'/\x'.out.n=l.n/\∀ j,j < l.n->FT s (l.get j) (x'.out.get j) 0)\/
  ∃ x',goN b.fF ⟨z,0,o,l,(l.n:Int),0,s⟩ = .out .ret x'/\x'.t2.n=0/\x'.t3=20:=by
 obtain ⟨e',x',q1,q2⟩:=jD (step:=b.fF)
  (fun j x=>x.t2=z/\x.t3=0/\x.t19=l/\x.t20=(l.n:Int)/\x.t21=(j:Int)/\x.s=s/\x.out.n=j/\∀ k,k < j->FT s (l.get k) (x.out.get k) 0)
  (fun e' x'=>(e' = .exit 0/\x'.out.n=l.n/\∀ j,j < l.n->FT s (l.get j) (x'.out.get j) 0)\/(e' = .ret/\x'.t2.n=0/\x'.t3=20))
  l.n (by unfold gK; omega) (by
   rintro j ⟨t2,t3,out,t19,t20,t21,xs⟩ hj ⟨i1,i2,i3,i4,i5,i6,i7,i8⟩
   dsimp only at i1 i2 i3 i4 i5 i6 i7 i8
   subst i1 i2 i3 i4 i5 i6;unfold b.fF b.o4
   dsimp only
   have ej:Int.toNat (j:Int)=j:=rfl;by_cases bj:j < t19.n
   ·have d1:decide ((j:Int) < (t19.n:Int))=true:=ay (by omega)
    have d2:decide ((0:Int)<=(j:Int))=true:=ay (by omega);have e1:aO ((j:Int)+1)=((j+1:Nat):Int):=by rw [df (by omega) (by omega)]; omega
    have a1:dT 200 out.n 1=true:=uJ;obtain ⟨x,e,p1,p2⟩:=ahc (ht j bj);rw [d1,d2,ej,e1,a1,p1];simp only [↓aj,↓aI,cv,cK,gJ,eU];rcases p2.err with rfl | rfl
    ·rw [show ((0:Int) != 0)=false from rfl]
     refine .inl ⟨_,rfl,by omega,rfl,rfl,rfl,rfl,rfl,rfl,by show out.n+1=j+1; omega,fun k hk=>?_⟩;show FT xs (t19.get k) ((out.push x).get k) 0;by_cases c:k=j
     ·subst c
      have:=Sl.EJ (s:=out) (v:=x);rw [i7] at this;rw [this];exact p2
     ·rw [Sl.HM (by omega)]
      exact i8 k (by omega)
    ·rw [show ((20:Int) != 0)=true from rfl]
     exact .inr ⟨_,_,rfl,rfl,.inr ⟨rfl,rfl,rfl⟩⟩
   ·have:j=t19.n:=by omega
    subst this;rw [bo (Int.lt_irrefl _)];simp only [↓aj,↓aI,cv];exact .inr ⟨_,_,rfl,rfl,.inl ⟨rfl,i7,i8⟩⟩) (x:=⟨z,0,o,l,(l.n:Int),0,s⟩) ⟨rfl,rfl,rfl,rfl,rfl,rfl,ho,fun k hk=>absurd hk (oD _)⟩
 rcases q2 with ⟨rfl,q3,q4⟩ | ⟨rfl,q3,q4⟩
 ·exact .inl ⟨x',q1,q3,q4⟩
 ·exact .inr ⟨x',q1,q3,q4⟩
structure aka (s:b.aA) (l:Sl b.Place) (p:Sl b.Path):Prop where
 n:l.n=p.n
 Tp:p.n<=256
 low:0 < p.n->o3 s
 way:∀ j,j < p.n->∃ ks,(ways s)[j]? = some ks/\Xh s (p.get j) ks/\r5 s (p.get j)
 ok:∀ j,j < p.n->FT s (p.get j) (l.get j) 0
theorem ahj {s:b.aA} (vp:FK s) (hon:aj1 s):∃ l e p f,b.wj s=some (l,e)/\b.gb s=some (p,f)/\((e≠0/\l.n=0/\(f≠0\/e=20))\/(e=0/\f=0/\aka s l p)):=by
 unfold b.wj b.ow;by_cases hs:o3 s
 ·obtain ⟨p,f,h1,h2⟩:=ahi vp hs
  have fin:f=0->p.n<=256->(∀ j,j < p.n->∃ ks,(ways s)[j]? = some ks/\Xh s (p.get j) ks/\r5 s (p.get j))->∃ l e p' f',cond (b.gb s).isSome (cond (((b.gb s).getD default).snd != 0) (some (⟨0,(fun i=>⟨⟨⟨0,(fun i=>⟨0,0,0⟩)⟩,⟨0,(fun i=>⟨0,0⟩)⟩,⟨0,(fun i=>⟨0,0,0⟩)⟩,⟨⟨0,0,0,0⟩,0,0,0,false,0⟩,⟨⟨0,0,0⟩,⟨0,0,0⟩⟩⟩,false,⟨0,(fun i=>⟨⟨0,0,0⟩,0,0⟩)⟩⟩)⟩,((b.gb s).getD default).snd)) (cond ((b.fS s).by (aG.ah.exit 0)) (some ((b.fS s).st.out,0)) (cond ((b.fS s).by aG.ah.ret) (some ((b.fS s).st.t2,(b.fS s).st.t3)) none))) none=some (l,e)/\b.gb s=some (p',f')/\((e≠0/\l.n=0/\(f'≠0\/e=20))\/(e=0/\f' = 0/\aka s l p')):=by
   rintro rfl hn hw;rw [h1];simp only [gJ,eU,aj];rw [show ((0:Int) != 0)=false from rfl,aI];have e1:b.fS s=goN b.fF ⟨⟨0,fun i=>NJ⟩,0,⟨0,fun i=>NJ⟩,p,(p.n:Int),0,s⟩:=by
    unfold b.fS b.ow;rw [h1];rfl
   rcases aeX p hn (fun j hj=>by obtain ⟨_,_,_,q⟩:=hw j hj; exact q) ⟨0,fun i=>NJ⟩ ⟨0,fun i=>NJ⟩ rfl with ⟨x',q1,q2,q3⟩ | ⟨x',q1,q2,q3⟩
   ·rw [e1,q1]
    exact ⟨_,_,_,_,rfl,rfl,.inr ⟨rfl,rfl,q2,hn,fun _=>hs,hw,q3⟩⟩
   ·rw [e1,q1]
    refine ⟨_,_,_,_,rfl,rfl,.inl ⟨?_,q2,.inr q3⟩⟩;show x'.t3≠0;rw [q3]; decide
  rcases h2 with ⟨hr,hn,hf⟩ | ⟨hr,hn,rfl⟩ | ⟨hr,hh,hl,hf,h3,h4,h5⟩
  ·exact fin hf (by omega) fun j hj=>absurd hj (by omega)
  ·rw [h1]
   exact ⟨_,_,_,_,rfl,rfl,.inl ⟨show (120:Int)≠0 by decide,rfl,.inl (by decide)⟩⟩
  ·refine fin hf h3 fun j hj=>?_
   have z7:j < (ways s).length:=by omega
   have qE:(ways s)[j]? = some (ways s)[j]:=cI z7;exact ⟨_,qE,h5 j _ qE,ald vp hon hs hr hl qE (h5 j _ qE)⟩
 ·obtain ⟨p,h1,h2⟩:=aiL vp hs
  rw [h1];exact ⟨_,_,_,_,rfl,rfl,.inl ⟨show (8:Int)≠0 by decide,rfl,.inl (by decide)⟩⟩
end Go.Proofs.Ytckbdndhmcoihaa.sc
end
section
namespace Go.Proofs.Ytckbdndhmcoihaa.sc
open Go Go.K Go.Proofs.Ytckbdndhmcoihaa.nodes
structure Mr (s:b.aA):Prop where
 cp:∀ i,i < s.nodes.n->QP (s.nodes.get i).bD
 on:∀ i,i < s.nodes.n->U16 (s.nodes.get i).rM
 kind:∀ i,i < s.fj.n->Jf (s.fj.get i)
theorem Mr.inn {s:b.aA} (h:Mr s) (hf:Few s):FK s:=
 ⟨fun i hi=>⟨h.cp i hi,by have:=hf.eI i hi; omega⟩,h.kind,by have:=hf.cM; omega,by have:=hf.nodes; omega,by have:=hf.fj; omega,by have:=hf.j3; omega⟩
end Go.Proofs.Ytckbdndhmcoihaa.sc
end
