/- Part of the proof of PathsWhole: the machine, shown to be the model's, and plain models. No conditions. -/
import Derived.Test.YtckbdndhmcoihaaGreatJq
import Derived.Test.YtckbdndhmcoihaaGreatIq
import Derived.Test.YtckbdndhmcoihaaGreatHq
import Derived.Below
import Derived.ChangeSame
import Derived.ProofKit
import Derived.WideKeyArgs
set_option linter.unusedSimpArgs false
set_option linter.unusedVariables false
section
namespace Go.Proofs.YtckbdndhmcoihaaGreat.sc
open Go Go.K Go.Proofs.YtckbdndhmcoihaaGreat.nodes
theorem dj {α:Type} (s:Sl α) (i:Nat) (v:α):(s.set i v).get i=v:=by
 unfold Sl.set;show cond (Nat.beq i i) v (s.get i)=v;rw [p9];rfl
theorem cX {α:Type} (s:Sl α) {i j:Nat} (v:α) (h:j≠i):(s.set i v).get j=s.get j:=by
 unfold Sl.set;show cond (Nat.beq j i) v (s.get j)=s.get j;have:Nat.beq j i=false:=by
  cases q:Nat.beq j i with
  | false=>rfl
  | true=>exact absurd (aE q) h
 rw [this];rfl
def xU (g:b.gz) (M:Nat->Int) (i:Nat):Nat->Int
 | 0=>1
 | k+1=>if 0<=((g.kids.get i).get k).slot/\((g.kids.get i).get k).slot < (g.kids.n:Int) then min (xU g M i k+M ((g.kids.get i).get k).slot.toNat) 100000 else xU g M i k
theorem Ny (g:b.gz) (M:Nat->Int) (i k:Nat):xU g M i (k+1)=if 0<=((g.kids.get i).get k).slot/\((g.kids.get i).get k).slot < (g.kids.n:Int) then min (xU g M i k+M ((g.kids.get i).get k).slot.toNat) 100000 else xU g M i k:=rfl
def PU (g:b.gz):Nat->Nat->Int
 | 0,_=>0
 | t+1,i=>xU g (PU g t) i (min (g.kids.get i).n 1000)
theorem Wm {g:b.gz} {M:Nat->Int} (hM:∀ j,0<=M j) (i:Nat):∀ k,1<=xU g M i k/\xU g M i k<=100000
 | 0=>⟨Int.le_refl _,by show (1:Int)<=100000; omega⟩
 | k+1=>by
  have:=Wm hM (g:=g) i k;have hm:=hM ((g.kids.get i).get k).slot.toNat;unfold xU;split
  ·exact ⟨by omega,by omega⟩
  ·exact this
theorem acO (g:b.gz):∀ t i,0<=PU g t i/\PU g t i<=100000
 | 0,i=>⟨Int.le_refl _,by show (0:Int)<=100000; omega⟩
 | t+1,i=>by
  have:=Wm (g:=g) (fun j=>(acO g t j).1) i (min (g.kids.get i).n 1000);show 0<=xU _ _ _ _/\xU _ _ _ _<=100000;omega
theorem aet (s:b.aD) (M:Nat->Int) (hM:∀ j,0<=M j/\M j<=100000) (t2:Bool) (many nx:Sl Int) (step:Int) (i:Nat) (hi:i < s.graph.kids.n) (hm:many.n=s.graph.kids.n) (hx:nx.n=s.graph.kids.n) (h1:nx.get i=1) (Rq:∀ j,j < s.graph.kids.n->many.get j=M j) :
  ∃ xF kk,goN b.fT (⟨t2,((s.graph.kids.n:Nat):Int),many,step,nx,(i:Int),(0:Int),s⟩:b.eI) = .out (.exit 4) ⟨t2,((s.graph.kids.n:Nat):Int),many,step,xF,(i:Int),kk,s⟩/\xF.n=s.graph.kids.n/\xF.get i=xU s.graph M i (min (s.graph.kids.get i).n 1000)/\∀ j,j≠i->xF.get j=nx.get j:=by
 obtain ⟨e,x',h2,he,xF,kk,h3,h4⟩:=lB (step:=b.fT)
  (fun k x=>∃ q:Sl Int,x=⟨t2,((s.graph.kids.n:Nat):Int),many,step,q,(i:Int),(k:Int),s⟩/\q.n=s.graph.kids.n/\q.get i=xU s.graph M i k/\∀ j,j≠i->q.get j=nx.get j)
  (fun e x'=>e = .exit 4/\∃ xF kk,x' = ⟨t2,((s.graph.kids.n:Nat):Int),many,step,xF,(i:Int),kk,s⟩/\xF.n=s.graph.kids.n/\xF.get i=xU s.graph M i (min (s.graph.kids.get i).n 1000)/\∀ j,j≠i->xF.get j=nx.get j)
  (min (s.graph.kids.get i).n 1000) (by unfold hX; omega) (by
   rintro k _ hk ⟨q,rfl,hq,hqi,Xl⟩;have ei:Int.toNat (i:Int)=i:=rfl;have ek:Int.toNat (k:Int)=k:=rfl;have d1:decide ((0:Int)<=(i:Int))=true:=au (by omega);have d2:decide ((i:Int) < ((s.graph.kids.n:Nat):Int))=true:=au (by omega);have d3:decide ((i:Int) < ((q.n:Nat):Int))=true:=au (by omega);have d4:decide ((0:Int)<=(k:Int))=true:=au (by omega);unfold b.fT b.kh
   dsimp only
   rw [ei,ek,d1,d2,d3,d4];simp only [cY,yI,uu,ah,eT,bF];by_cases oj:(k:Int) < (((s.graph.kids.get i).n:Nat):Int)
   ·rw [au oj]
    by_cases KD:(k:Int) < 1000
    ·rw [au KD]
     simp only [ah];have e1:bR ((k:Int)+1)=((k+1:Nat):Int):=by rw [eX (by omega) (by omega)]; omega
     rw [e1];refine .inl ?_;by_cases g1:0<=((s.graph.kids.get i).get k).slot
     ·by_cases g2:((s.graph.kids.get i).get k).slot < ((s.graph.kids.n:Nat):Int)
      ·have g3:((s.graph.kids.get i).get k).slot < ((many.n:Nat):Int):=by rw [hm]; exact g2
       have ed:decide (((s.graph.kids.get i).get k).slot >= 0)=true:=au g1;rw [ed,au g2,au g3];simp only [cY,ah];refine ⟨_,rfl,by omega,_,rfl,hq,?_,fun j hj=>?_⟩
       ·rw [dj,hqi,Rq _ (by omega)]
        have b1:=Wm (g:=s.graph) (fun j=>(hM j).1) i k;have b2:=hM ((s.graph.kids.get i).get k).slot.toNat;rw [eX (by omega) (by omega),Ny,ax ⟨g1,g2⟩]
       ·rw [cX _ _ hj]; exact Xl j hj
      ·have ed:decide (((s.graph.kids.get i).get k).slot >= 0)=true:=au g1
       rw [ed,bu g2];simp only [ah,ay];refine ⟨_,rfl,by omega,_,rfl,hq,?_,Xl⟩;rw [hqi,Ny,ae fun h=>g2 h.2]
     ·have ed:decide (((s.graph.kids.get i).get k).slot >= 0)=false:=bu g1
      rw [ed];simp only [ay];refine ⟨_,rfl,by omega,_,rfl,hq,?_,Xl⟩;rw [hqi,Ny,ae fun h=>g1 h.1]
    ·rw [bu KD]
     have:k=min (s.graph.kids.get i).n 1000:=by omega
     exact .inr ⟨_,_,rfl,rfl,rfl,q,_,rfl,hq,by rw [<- this]; exact hqi,Xl⟩
   ·rw [bu oj]
    have:k=min (s.graph.kids.get i).n 1000:=by omega
    exact .inr ⟨_,_,rfl,rfl,rfl,q,_,rfl,hq,by rw [<- this]; exact hqi,Xl⟩
   ) (x:=⟨t2,((s.graph.kids.n:Nat):Int),many,step,nx,(i:Int),(0:Int),s⟩) ⟨nx,rfl,hx,h1,fun _ _=>rfl⟩
 ·subst he h3; exact ⟨xF,kk,h2,h4⟩
theorem ajS (s:b.aD) (M:Nat->Int) (hM:∀ j,0<=M j/\M j<=100000) (hn:s.graph.kids.n<=300) (t2:Bool) (many nx:Sl Int) (step:Int) (hm:many.n=s.graph.kids.n) (hx:nx.n=s.graph.kids.n) (Rq:∀ j,j < s.graph.kids.n->many.get j=M j) :
  (∃ xF,goN b.gm (⟨t2,((s.graph.kids.n:Nat):Int),many,step,nx,(0:Int),s⟩:b.fY) = .out (.exit 2) ⟨t2,((s.graph.kids.n:Nat):Int),many,step,xF,((s.graph.kids.n:Nat):Int),s⟩/\xF.n=s.graph.kids.n/\∀ j,j < s.graph.kids.n->xF.get j=xU s.graph M j (min (s.graph.kids.get j).n 1000)/\xF.get j<=10000)\/
  ∃ x',goN b.gm (⟨t2,((s.graph.kids.n:Nat):Int),many,step,nx,(0:Int),s⟩:b.fY) = .out .ret x'/\x'.t2=true/\x'.many=many:=by
 obtain ⟨e,x',h2,h3⟩:=lB (step:=b.gm)
  (fun k x=>∃ q:Sl Int,x=⟨t2,((s.graph.kids.n:Nat):Int),many,step,q,(k:Int),s⟩/\q.n=s.graph.kids.n/\∀ j,j < k->q.get j=xU s.graph M j (min (s.graph.kids.get j).n 1000)/\q.get j<=10000)
  (fun e x'=>(e = .exit 2/\∃ xF,x' = ⟨t2,((s.graph.kids.n:Nat):Int),many,step,xF,((s.graph.kids.n:Nat):Int),s⟩/\xF.n=s.graph.kids.n/\∀ j,j < s.graph.kids.n->xF.get j=xU s.graph M j (min (s.graph.kids.get j).n 1000)/\xF.get j<=10000)\/(e = .ret/\x'.t2=true/\x'.many=many))
  s.graph.kids.n (by unfold hX; omega) (by
   rintro k _ hk ⟨q,rfl,hq,Xl⟩;have ek:Int.toNat (k:Int)=k:=rfl;have d1:decide ((0:Int)<=(k:Int))=true:=au (by omega);unfold b.gm b.aL
   dsimp only
   rw [ek,d1];simp only [cY,yI,uu,ah,eT,bF];by_cases aI:(k:Int) < ((s.graph.kids.n:Nat):Int)
   ·have d2:decide ((k:Int) < ((q.n:Nat):Int))=true:=au (by omega)
    rw [au aI,d2];simp only [ah];obtain ⟨xF,kk,r1,r2,r3,r4⟩:=aet s M hM t2 many (q.set k 1) step k (by omega) hm hq (dj q k 1) Rq;rw [r1];rw [ba.nH];simp only [ba.qI,eT,ah];have ex:vN (.exit 4) (.exit 4)=true:=rfl;have d3:decide ((k:Int) < ((xF.n:Nat):Int))=true:=au (by omega);rw [ex,d1,d3,ek];simp only [cY,ah];by_cases hb:xF.get k > 10000
    ·rw [au hb]
     exact .inr ⟨_,_,rfl,rfl,.inr ⟨rfl,rfl,rfl⟩⟩
    ·rw [bu hb]
     have e1:bR ((k:Int)+1)=((k+1:Nat):Int):=by rw [eX (by omega) (by omega)]; omega
     rw [e1];refine .inl ⟨_,rfl,by omega,xF,rfl,r2,fun j hj=>?_⟩;by_cases SR:j=k
     ·subst SR; exact ⟨r3,by omega⟩
     ·rw [r4 j SR,cX _ _ SR]; exact Xl j (by omega)
   ·have:k=s.graph.kids.n:=by omega
    subst this;rw [bu aI];exact .inr ⟨_,_,rfl,rfl,.inl ⟨rfl,q,rfl,hq,Xl⟩⟩
   ) (x:=⟨t2,((s.graph.kids.n:Nat):Int),many,step,nx,(0:Int),s⟩) ⟨nx,rfl,hx,fun j hj=>absurd hj (mM j)⟩
 ·rcases h3 with ⟨rfl,xF,rfl,h4⟩ | ⟨rfl,h4⟩
  ·exact .inl ⟨xF,h2,h4⟩
  ·exact .inr ⟨x',h2,h4⟩
def acP (g:b.gz):Prop:=g.kids.n<=300/\∀ t,t<=18->∀ i,i < g.kids.n->PU g t i<=10000
theorem aeu (s:b.aD):∃ r,b.vO s=some r/\(r=false->acP s.graph):=by
 unfold b.vO b.yY;by_cases hn:((s.graph.kids.n:Nat):Int) > 300
 ·rw [au hn]; exact ⟨true,rfl,fun h=>by simp at h⟩
 rw [bu hn];have en:Int.toNat ((s.graph.kids.n:Nat):Int)=s.graph.kids.n:=rfl;have d1:decide (((s.graph.kids.n:Nat):Int)<=((s.graph.kids.n:Nat):Int))=true:=au (Int.le_refl _);have d2:Nat.ble (8 * s.graph.kids.n) 281474976710656=true:=by rw [Nat.ble_eq]; omega
 rw [en,d1,d2];simp only [cY,ah,ay,eT];obtain ⟨e,x',h2,h3⟩:=lB (step:=b.lu)
  (fun t x=>∃ q:Sl Int,x=⟨false,((s.graph.kids.n:Nat):Int),q,(t:Int),s⟩/\q.n=s.graph.kids.n/\(∀ j,j < s.graph.kids.n->q.get j=PU s.graph t j)/\∀ t',t'<=t->∀ j,j < s.graph.kids.n->PU s.graph t' j<=10000)
  (fun e x'=>(e = .exit 0/\∀ t',t'<=18->∀ j,j < s.graph.kids.n->PU s.graph t' j<=10000)\/(e = .ret/\x'.t2=true))
  18 (by unfold hX; omega) (by
   rintro t _ ht ⟨q,rfl,hq,Xl,hqb⟩;unfold b.lu b.cN
   dsimp only
   have d0:decide ((0:Int)<=((s.graph.kids.n:Nat):Int))=true:=au (by omega);rw [en,d0,d1,d2];simp only [cY,ah,eT];by_cases aI:(t:Int) < 18
   ·rw [au aI,ah]
    rcases ajS s (PU s.graph t) (acO s.graph t) (by omega) false q ⟨s.graph.kids.n,fun _=>0⟩ (t:Int) hq rfl Xl with ⟨xF,r1,r2,r3⟩ | ⟨x',r1,r2,r3⟩
    ·rw [r1]
     simp only [ba.qI,ba.nH,eT];have e1:bR ((t:Int)+1)=((t+1:Nat):Int):=by rw [eX (by omega) (by omega)]; omega
     rw [e1];refine .inl ⟨_,rfl,by omega,xF,rfl,r2,fun j hj=>(r3 j hj).1,fun t' wB j hj=>?_⟩;by_cases htt:t' = t+1
     ·subst htt
      have:=r3 j hj;show xU s.graph (PU s.graph t) j _<=10000;omega
     ·exact hqb t' (by omega) j hj
    ·rw [r1]
     simp only [ba.qI,ba.nH,eT];exact .inr ⟨_,_,rfl,rfl,.inr ⟨rfl,r2⟩⟩
   ·have:t=18:=by omega
    subst this;rw [bu aI];exact .inr ⟨_,_,rfl,rfl,.inl ⟨rfl,hqb⟩⟩
   ) (x:=⟨false,((s.graph.kids.n:Nat):Int),⟨s.graph.kids.n,fun _=>0⟩,(0:Int),s⟩) ⟨_,rfl,rfl,fun _ _=>rfl,fun t' ht j hj=>by
   have:t' = 0:=by omega
   subst this;show (0:Int)<=10000;omega⟩
 ·rw [h2]
  rcases h3 with ⟨rfl,h3⟩ | ⟨rfl,h3⟩
  ·exact ⟨false,rfl,fun _=>⟨by omega,h3⟩⟩
  ·exact ⟨x'.t2,rfl,fun h=>by rw [h3] at h; simp at h⟩
theorem Xm (g:b.gz):∃ r,b.ov g=some r/\(r=false->g.bZ.cu.n<=200/\g.kids.n<=200):=by
 unfold b.ov b.xa;by_cases h1:((g.bZ.cu.n:Nat):Int) > 200
 ·rw [au h1]; exact ⟨true,rfl,fun h=>by simp at h⟩
 rw [bu h1];by_cases h2:((g.kids.n:Nat):Int) > 200
 ·rw [au h2]; exact ⟨true,rfl,fun h=>by simp at h⟩
 rw [bu h2];simp only [ay];obtain ⟨e,x',q1,q2⟩:=lB (step:=b.kq)
  (fun t x=>∃ m:Int,x=⟨false,m,(t:Int),g⟩)
  (fun e x'=>e = .exit 0\/e = .ret)
  g.kids.n (by unfold hX; omega) (by
   rintro t _ ht ⟨m,rfl⟩;have et:Int.toNat (t:Int)=t:=rfl;have d1:decide ((0:Int)<=(t:Int))=true:=au (by omega);unfold b.kq
   dsimp only
   rw [et,d1];by_cases aI:(t:Int) < ((g.kids.n:Nat):Int)
   ·rw [au aI]
    simp only [cY,ah];have e1:bR ((t:Int)+1)=((t+1:Nat):Int):=by rw [eX (by omega) (by omega)]; omega
    rw [e1];by_cases hb:bR (m+(((g.kids.get t).n:Nat):Int)) > 400
    ·rw [au hb]
     exact .inr ⟨_,_,rfl,rfl,.inr rfl⟩
    ·rw [bu hb]
     exact .inl ⟨_,rfl,by omega,_,rfl⟩
   ·rw [bu aI]
    exact .inr ⟨_,_,rfl,rfl,.inl rfl⟩) (x:=⟨false,(0:Int),(0:Int),g⟩) ⟨0,rfl⟩
 rw [q1];rcases q2 with rfl | rfl
 ·exact ⟨false,rfl,fun _=>⟨by omega,by omega⟩⟩
 ·exact ⟨x'.t2,rfl,fun _=>⟨by omega,by omega⟩⟩
theorem Xn (l:Sl b.kf):∃ r,b.oz l=some r:=by
 unfold b.oz b.xf;obtain ⟨e,x',q1,q2⟩:=lB (step:=b.ly)
  (fun t x=>∃ m:Int,x=⟨l,false,m,(t:Int)⟩)
  (fun e x'=>e = .exit 0)
  100 (by unfold hX; omega) (by
   rintro t _ ht ⟨m,rfl⟩;have et:Int.toNat (t:Int)=t:=rfl;have d1:decide ((0:Int)<=(t:Int))=true:=au (by omega);unfold b.ly
   dsimp only
   rw [et,d1];by_cases aI:(t:Int) < ((l.n:Nat):Int)
   ·rw [au aI]
    simp only [cY,ah];by_cases hb:(t:Int) < 100
    ·rw [au hb]
     have e1:bR ((t:Int)+1)=((t+1:Nat):Int):=by rw [eX (by omega) (by omega)]; omega
     rw [e1];exact .inl ⟨_,rfl,by omega,_,rfl⟩
    ·rw [bu hb]
     exact .inr ⟨_,_,rfl,rfl,rfl⟩
   ·rw [bu aI]
    exact .inr ⟨_,_,rfl,rfl,rfl⟩) (x:=⟨l,false,(0:Int),(0:Int)⟩) ⟨0,rfl⟩
 rw [q1];subst q2;rw [ba.nH];simp only [ba.qI];by_cases h:(((x'.l.n:Nat):Int) > 40)
 ·rw [au h]; exact ⟨true,rfl⟩
 ·rw [bu h]; exact ⟨_,rfl⟩
def acQ (m:b.kD):Prop:=m.nQ.n<=1000/\m.uV.n<=1000/\m.fh.n<=100/\∀ i,i < m.fh.n->(m.fh.get i).index.n<=1000
theorem LN (m:b.kD):∃ r,b.qy m=some r/\(r=false->acQ m):=by
 unfold b.qy b.xg;by_cases h1:((m.nQ.n:Nat):Int) > 1000
 ·rw [au h1]; exact ⟨true,rfl,fun h=>by simp at h⟩
 rw [bu h1];by_cases h2:((m.uV.n:Nat):Int) > 1000
 ·rw [au h2]; exact ⟨true,rfl,fun h=>by simp at h⟩
 rw [bu h2];by_cases h3:((m.fh.n:Nat):Int) > 100
 ·rw [au h3]; exact ⟨true,rfl,fun h=>by simp at h⟩
 rw [bu h3];simp only [ay];have key:=mq (step:=b.gC) m.fh.n (by unfold hX; omega) (fun j=>⟨false,(j:Int),m⟩) (fun k=>(m.fh.get k).index.n<=1000) (e0:=.exit 0) (er:=.ret) rfl rfl (fun x'=>x'.t2=true) (xe:=⟨false,((m.fh.n:Nat):Int),m⟩) (fun j hj=>by
  have e1:bR ((j:Int)+1)=((j+1:Nat):Int):=by rw [eX (by omega) (by omega)]; omega
  have d1:decide ((j:Int) < ((m.fh.n:Nat):Int))=true:=au (by omega);have d2:decide ((0:Int)<=(j:Int))=true:=au (by omega);have ej:Int.toNat (j:Int)=j:=rfl;unfold b.gC
  dsimp only
  rw [d1,d2,ej,e1];simp only [cY,ah];by_cases h:(((m.fh.get j).index.n:Nat):Int) > 1000
  ·rw [au h]
   exact ⟨fun k=>by omega,fun _=>⟨_,rfl,rfl⟩⟩
  ·rw [bu h]
   exact ⟨fun _=>rfl,fun k=>by omega⟩) (by
  unfold b.gC
  dsimp only
  rw [bu (Int.lt_irrefl _)];rfl)
 have e0:goN b.gC (⟨false,(0:Int),m⟩:b.kF)=goN b.gC ⟨false,((0:Nat):Int),m⟩:=rfl;rw [e0];rcases key with ⟨k1,k2⟩ | ⟨x',k1,k2,_⟩
 ·rw [k1]; exact ⟨false,rfl,fun _=>⟨by omega,by omega,by omega,k2⟩⟩
 ·rw [k1]; exact ⟨x'.t2,rfl,fun h=>by rw [k2] at h; simp at h⟩
structure Few (s:b.aD):Prop where
 g6:b.ov s.graph=some false
 g9:b.oz s.iV=some false
 ways:acP s.graph
 cu:s.graph.bZ.cu.n<=200
 kids:s.graph.kids.n<=200
 nodes:s.nodes.n<=200
 fJ:s.fJ.n<=60
 iV:s.iV.n<=60
 xJ:∀ i,i < s.nodes.n->(s.nodes.get i).xJ.n<=200
 fB:∀ i,i < s.fJ.n->acQ (s.fJ.get i)
theorem stepT {p:Prop} {c:Bool} {x:Option Bool} {Q:Prop} (hc:c=true↔p) (h2 : ¬ p->∃ r,x=some r/\(r=false->Q)):∃ r,cond c (some true) x=some r/\(r=false->Q):=by
 cases c with
 | true=>exact ⟨true,rfl,fun k=>by simp at k⟩
 | false=>exact h2 fun k=>by have:=hc.2 k; simp at this
theorem acR (s:b.aD):∃ r,b.s9 s=some r/\(r=false->Few s):=by
 unfold b.s9 b.Cr b.Cs b.Ct b.xl b.pF;obtain ⟨r1,q1,p1⟩:=aeu s;obtain ⟨r2,q2,p2⟩:=Xm s.graph;obtain ⟨r3,q3⟩:=Xn s.iV;rw [q1,q2,q3];simp only [nm,iD,ah];refine stepT Iff.rfl fun k1=>?_;refine stepT Iff.rfl fun k2=>?_;refine stepT PS fun k3=>?_;refine stepT PS fun k4=>?_;refine stepT PS fun k5=>?_;refine stepT Iff.rfl fun k6=>?_;have f6:b.ov s.graph=some false:=by rw [q2]; exact congrArg some (by simpa using k2)
 have f9:b.oz s.iV=some false:=by rw [q3]; exact congrArg some (by simpa using k6)
 have p1:=p1 (by simpa using k1);have p2:=p2 (by simpa using k2);have key:=mq (step:=b.fK) s.nodes.n (by unfold hX; omega) (fun j=>⟨false,(j:Int),s⟩) (fun k=>(s.nodes.get k).xJ.n<=200) (e0:=.exit 0) (er:=.ret) rfl rfl (fun x'=>x'.t2=true) (xe:=⟨false,((s.nodes.n:Nat):Int),s⟩) (fun j hj=>by
  have e1:bR ((j:Int)+1)=((j+1:Nat):Int):=by rw [eX (by omega) (by omega)]; omega
  have d1:decide ((j:Int) < ((s.nodes.n:Nat):Int))=true:=au (by omega);have d2:decide ((0:Int)<=(j:Int))=true:=au (by omega);have ej:Int.toNat (j:Int)=j:=rfl;unfold b.fK
  dsimp only
  rw [d1,d2,ej,e1];simp only [cY,ah];by_cases h:(((s.nodes.get j).xJ.n:Nat):Int) > 200
  ·rw [au h]
   exact ⟨fun k=>by omega,fun _=>⟨_,rfl,rfl⟩⟩
  ·rw [bu h]
   exact ⟨fun _=>rfl,fun k=>by omega⟩) (by
  unfold b.fK
  dsimp only
  rw [bu (Int.lt_irrefl _)];rfl)
 have e0:goN b.fK (⟨false,(0:Int),s⟩:b.jN)=goN b.fK ⟨false,((0:Nat):Int),s⟩:=rfl;rw [e0];rcases key with ⟨g1,g2⟩ | ⟨x',g1,g2,_⟩
 ·rw [g1]
  simp only [ba.nH];have key:=mq (step:=b.fL) s.fJ.n (by unfold hX; omega) (fun j=>⟨false,(j:Int),s⟩) (fun k=>b.qy (s.fJ.get k)=some false) (e0:=.exit 2) (er:=.ret) rfl rfl (fun x'=>x'.t2=true) (xe:=⟨false,((s.fJ.n:Nat):Int),s⟩) (fun j hj=>by
   have e1:bR ((j:Int)+1)=((j+1:Nat):Int):=by rw [eX (by omega) (by omega)]; omega
   have d1:decide ((j:Int) < ((s.fJ.n:Nat):Int))=true:=au (by omega);have d2:decide ((0:Int)<=(j:Int))=true:=au (by omega);have ej:Int.toNat (j:Int)=j:=rfl;obtain ⟨r,m1,_⟩:=LN (s.fJ.get j);unfold b.fL b.vm
   dsimp only
   rw [d1,d2,ej,e1,m1];cases r with
   | true=>exact ⟨fun k=>by simp at k,fun _=>⟨_,rfl,rfl⟩⟩
   | false=>exact ⟨fun _=>rfl,fun k=>absurd rfl k⟩) (by
   unfold b.fL
   dsimp only
   rw [bu (Int.lt_irrefl _)];rfl)
  have e0:goN b.fL (⟨false,(0:Int),s⟩:b.iW)=goN b.fL ⟨false,((0:Nat):Int),s⟩:=rfl;rw [e0];rcases key with ⟨f1,f2⟩ | ⟨x',f1,f2,_⟩
  ·rw [f1]
   refine ⟨false,rfl,fun _=>⟨f6,f9,p1,p2.1,p2.2,by omega,by omega,by omega,g2,fun i hi=>?_⟩⟩;obtain ⟨r,m1,m2⟩:=LN (s.fJ.get i);rw [f2 i hi] at m1;exact m2 (wa m1).symm
  ·rw [f1]; exact ⟨x'.t2,rfl,fun h=>by rw [f2] at h; simp at h⟩
 ·rw [g1]; exact ⟨x'.t2,rfl,fun h=>by rw [g2] at h; simp at h⟩
theorem CJ (a c:b.Handle):((a.slot==c.slot)&&((a.gen==c.gen)&&true))=true↔a=c:=by
 obtain ⟨a0,a1⟩:=a;obtain ⟨c0,c1⟩:=c;simp
theorem aev (a c:Sl b.Handle) (hn:a.n < 1000000):∃ r,b.lA a c=some r/\(r=true↔JI a c):=by
 unfold b.lA b.oI;by_cases hq:a.n=c.n
 ·have bA:(((a.n:Nat):Int) != ((c.n:Nat):Int))=false:=by simp [hq]
  rw [bA,ay];have key:=mq (step:=b.dQ) a.n (by unfold hX; omega) (fun j=>⟨a,c,false,(j:Int)⟩) (fun j=>a.get j=c.get j) (e0:=.exit 0) (er:=.ret) rfl rfl (fun x'=>x'.t4=false) (xe:=⟨a,c,false,((a.n:Nat):Int)⟩) (fun j hj=>by
   have e1:bR ((j:Int)+1)=((j+1:Nat):Int):=by rw [eX (by omega) (by omega)]; omega
   have d1:decide ((j:Int) < ((a.n:Nat):Int))=true:=au (by omega);have d2:decide ((0:Int)<=(j:Int))=true:=au (by omega);have d3:decide ((j:Int) < ((c.n:Nat):Int))=true:=au (by omega);have ej:Int.toNat (j:Int)=j:=rfl;unfold b.dQ
   dsimp only
   rw [d1,d2,d3,ej,e1];simp only [cY,ah];by_cases h1:a.get j=c.get j
   ·rw [(CJ (a.get j) (c.get j)).2 h1]
    exact ⟨fun _=>rfl,fun h=>absurd h1 h⟩
   ·have:(((a.get j).slot==(c.get j).slot)&&(((a.get j).gen==(c.get j).gen)&&true))=false:=by rw [<- Bool.not_eq_true,CJ]; exact h1
    rw [this];exact ⟨fun h=>absurd h h1,fun _=>⟨_,rfl,rfl⟩⟩) (by
   unfold b.dQ
   dsimp only
   rw [bu (Int.lt_irrefl _)];rfl)
  have e0:goN b.dQ (⟨a,c,false,(0:Int)⟩:b.fD)=goN b.dQ ⟨a,c,false,((0:Nat):Int)⟩:=rfl;rw [e0];rcases key with ⟨h1,h2⟩ | ⟨x',h1,h2,j,h3,h4⟩
  ·rw [h1]
   exact ⟨true,rfl,⟨fun _=>⟨hq,h2⟩,fun _=>rfl⟩⟩
  ·rw [h1]
   exact ⟨x'.t4,rfl,⟨fun h=>by rw [h2] at h; simp at h,fun h=>absurd (h.2 j h3) h4⟩⟩
 ·have bA:(((a.n:Nat):Int) != ((c.n:Nat):Int))=true:=by simp; omega
  rw [bA,ah];exact ⟨false,rfl,⟨fun h=>by simp at h,fun h=>absurd h.1 hq⟩⟩
def S8 (s:b.aD) (kids:Sl Int):Nat->b.Handle
 | 0=>s.root
 | j+1=>(s.graph.kids.get (S8 s kids j).slot.toNat).get (kids.get j).toNat
def Ky (s:b.aD) (kids:Sl Int) (j:Nat):Prop:=0<=kids.get j/\kids.get j < ((s.graph.kids.get (S8 s kids j).slot.toNat).n:Int)
def Nz (s:b.aD) (kids:Sl Int):Prop:=∀ j,j < kids.n->Ky s kids j
def Kz (s:b.aD) (kids:Sl Int) (l:Sl b.Handle):Prop:=l.n=kids.n+1/\∀ i,i<=kids.n->l.get i=S8 s kids i
theorem Rr {s:b.aD} (hs:jQ s) {h:b.Handle} (hh:iC s.graph.bZ h) {k:Nat} (hk:k < (s.graph.kids.get h.slot.toNat).n):iC s.graph.bZ ((s.graph.kids.get h.slot.toNat).get k):=by
 have hg:=(FG s.graph).1 hs.1;refine (hg.2.2.1 h.slot.toNat ?_).2.2 k hk;have:=hh.1;have:=hh.2.1;have:=hg.2.1;omega
theorem Wn {s:b.aD} (hs:jQ s) (hr:s.root≠sH) (kids:Sl Int):∀ j,(∀ i,i < j->Ky s kids i)->iC s.graph.bZ (S8 s kids j)
 | 0,_=>by
  rcases hs.2.2.2.2 with h | h
  ·exact absurd h hr
  ·exact h
 | j+1,h=>by
  have h1:=Wn hs hr kids j fun i hi=>h i (by omega);have h2:=h j (by omega);exact Rr hs h1 (by have:=h2.1; have:=h2.2; omega)
theorem zG {s:b.aD} (hs:jQ s) {h:b.Handle} (hh:iC s.graph.bZ h):0<=h.slot/\h.slot < (s.graph.kids.n:Int)/\h.slot < (s.nodes.n:Int):=by
 have hg:=(FG s.graph).1 hs.1;have:=hh.1;have:=hh.2.1;have:=hg.2.1;have:=hs.2.1;omega
theorem aaq {s:b.aD} (hs:jQ s) (hr:s.root≠sH) (kids:Sl Int) (hn:kids.n<=400) :
  ∃ p ok,b.nY s kids=some (p,ok)/\(ok=true/\Nz s kids/\Kz s kids p.nodes/\p.kids=kids\/ok=false/\¬ Nz s kids):=by
 unfold b.nY b.qC b.ki b.rP;have hc:b.qB kids=some kids:=by
  unfold b.qB zB;rw [sG (by omega) (by omega) (by omega)];rfl
 rw [hc];simp only [nm,iD,ah];by_cases h0:(0:Int) < ((kids.n:Nat):Int)
 ·rw [au h0]
  simp only [ah];have hh:=Wn hs hr kids 0 fun i hi=>absurd hi (mM i);have amD:iC s.graph.bZ s.root:=hh;obtain ⟨r1,r2,_⟩:=zG hs amD;rw [au r1,au r2];simp only [cY,ah];by_cases k1:kids.get 0 < 0
  ·rw [au k1]
   exact ⟨_,_,rfl,.inr ⟨rfl,fun h=>by have:=(h 0 (by omega)).1; omega⟩⟩
  rw [bu k1];simp only [ay];by_cases k2:kids.get 0 >= (((s.graph.kids.get (Int.toNat s.root.slot)).n:Nat):Int)
  ·rw [au k2]
   exact ⟨_,_,rfl,.inr ⟨rfl,fun h=>absurd (h 0 (by omega)).2 (by show ¬ (kids.get 0 < (((s.graph.kids.get s.root.slot.toNat).n:Nat):Int)); omega)⟩⟩
  have k3:(0:Int)<=kids.get 0:=by omega
  have k4:kids.get 0 < (((s.graph.kids.get (Int.toNat s.root.slot)).n:Nat):Int):=by omega
  rw [bu k2,au k3,au k4];simp only [cY,ah,ay];obtain ⟨e,x',q1,q2⟩:=lB (step:=b.iX)
   (fun r x=>∃ l:Sl b.Handle,x=⟨false,kids,((kids.n:Nat):Int),((r+1:Nat):Int),s,⟨⟨0,fun _=>⟨0,0⟩⟩,⟨0,fun _=>0⟩⟩,⟨l,kids⟩,S8 s kids (r+1)⟩/\r+1<=kids.n/\(∀ i,i < r+1->Ky s kids i)/\l.n=r+2/\∀ i,i < r+2->l.get i=S8 s kids i)
   (fun e x'=>(e = .exit 0/\Nz s kids/\Kz s kids x'.p.nodes/\x'.p.kids=kids)\/(e = .ret/\x'.t5=false/\¬ Nz s kids))
   (kids.n - 1) (by unfold hX; omega) (by
    rintro r _ hj ⟨l,rfl,hrn,eZ,hl,hlg⟩;have ej:Int.toNat ((r+1:Nat):Int)=r+1:=rfl;have d1:decide ((0:Int)<=((r+1:Nat):Int))=true:=au (by omega);obtain ⟨s1,s2,_⟩:=zG hs (Wn hs hr kids (r+1) eZ);unfold b.iX b.kT
    dsimp only
    rw [ej,d1,au s1,au s2];simp only [eT,ah,cY,uu];by_cases aI:(((r+1:Nat):Int)) < ((kids.n:Nat):Int)
    ·rw [au aI]
     simp only [ah];by_cases m1:kids.get (r+1) < 0
     ·rw [au m1]
      exact .inr ⟨_,_,rfl,rfl,.inr ⟨rfl,rfl,fun h=>by have:=(h (r+1) (by omega)).1; omega⟩⟩
     rw [bu m1];by_cases m2:kids.get (r+1) >= (((s.graph.kids.get (Int.toNat (S8 s kids (r+1)).slot)).n:Nat):Int)
     ·rw [au m2]
      exact .inr ⟨_,_,rfl,rfl,.inr ⟨rfl,rfl,fun h=>by have:=(h (r+1) (by omega)).2; omega⟩⟩
     have m3:(0:Int)<=kids.get (r+1):=by omega
     have m4:kids.get (r+1) < (((s.graph.kids.get (Int.toNat (S8 s kids (r+1)).slot)).n:Nat):Int):=by omega
     rw [bu m2,au m3,au m4,sG (by omega) (by omega) (by omega)];have e1:bR (((r+1:Nat):Int)+1)=((r+1+1:Nat):Int):=by rw [eX (by omega) (by omega)]; omega
     rw [e1];refine .inl ⟨_,rfl,by omega,_,rfl,by omega,fun i hi=>?_,by show l.n+1=r+1+2; omega,fun i hi=>?_⟩
     ·by_cases hir:i=r+1
      ·subst hir; exact ⟨m3,m4⟩
      ·exact eZ i (by omega)
     ·by_cases hir:i=r+2
      ·subst hir
       rw [<- hl,Sl.Bu];rw [hl];rfl
      ·rw [Sl.FF (by omega)]
       exact hlg i (by omega)
    ·rw [bu aI]
     have:r+1=kids.n:=by omega
     refine .inr ⟨_,_,rfl,rfl,.inl ⟨rfl,fun j hj=>eZ j (by omega),⟨by show l.n=kids.n+1; omega,fun i hi=>hlg i (by omega)⟩,rfl⟩⟩
    ) (x:=⟨false,kids,((kids.n:Nat):Int),(1:Int),s,⟨⟨0,fun _=>⟨0,0⟩⟩,⟨0,fun _=>0⟩⟩,⟨(Sl.lit [s.root]).push ((s.graph.kids.get (Int.toNat s.root.slot)).get (Int.toNat (kids.get 0))),kids⟩,(s.graph.kids.get (Int.toNat s.root.slot)).get (Int.toNat (kids.get 0))⟩) ⟨_,rfl,by omega,fun i hi=>by
    have:i=0:=by omega
    subst this;exact ⟨k3,k4⟩,rfl,fun i hi=>by
    rcases (by omega:i=0\/i=1) with rfl | rfl
    ·rfl
    ·rfl⟩
  ·rw [q1]
   rcases q2 with ⟨rfl,g1,g2,g3⟩ | ⟨rfl,g1,g2⟩
   ·exact ⟨x'.p,true,rfl,.inl ⟨rfl,g1,g2,g3⟩⟩
   ·exact ⟨x'.t4,x'.t5,rfl,.inr ⟨g1,g2⟩⟩
 ·rw [bu h0]
  refine ⟨_,true,rfl,.inl ⟨rfl,fun j hj=>absurd hj (by omega),⟨by show 1=kids.n+1; omega,fun i hi=>?_⟩,rfl⟩⟩;have:i=0:=by omega
  subst this;rfl
end Go.Proofs.YtckbdndhmcoihaaGreat.sc
end
section
namespace Go.Proofs.YtckbdndhmcoihaaGreat.sc
open Go Go.K Go.tT Go.Proofs.YtckbdndhmcoihaaGreat.nodes
def DF (s:b.aD) (i:Nat):Bool:=(s.nodes.get i).kind==5
def hH (s:b.aD) (i:Nat):Nat:=CM (dg s.graph) (ch s.graph) s.graph.kids.n i
def mH (s:b.aD) (i:Nat):Nat:=G6 (dg s.graph) (ch s.graph) (DF s) s.graph.kids.n i
structure Down (s:b.aD):Prop where
 n:s.nodes.n=s.graph.kids.n
 small:s.graph.kids.n<=128
 inr:∀ i,i < s.graph.kids.n->∀ k,k < dg s.graph i->0<=((s.graph.kids.get i).get k).slot/\((s.graph.kids.get i).get k).slot < (s.graph.kids.n:Int)
 few:∀ i,i < s.graph.kids.n->dg s.graph i<=16
 free:tT.Aw s.graph.kids.n (dg s.graph) (ch s.graph)
theorem Down.chl {s:b.aD} (h:Down s):∀ i,i < s.graph.kids.n->∀ k,k < dg s.graph i->ch s.graph i k < s.graph.kids.n:=fun i hi k hk=>by
 have:=h.inr i hi k hk;unfold nodes.ch;omega
theorem Down.slot {s:b.aD} (h:Down s) {i k:Nat} (hi:i < s.graph.kids.n) (hk:k < dg s.graph i):((s.graph.kids.get i).get k).slot=((ch s.graph i k:Nat):Int):=by
 have:=h.inr i hi k hk;unfold nodes.ch;omega
theorem acS {s:b.aD} (hs:jQ s):Down s:=by
 have hg:=(FG s.graph).1 hs.1;have ha:=hg.1.few;have hf:=akX hg.1 hg.2.1 hg.2.2.1;exact ⟨hs.2.1,by omega,hf.inr,fun i hi=>(hg.2.2.1 i hi).1,(ahB hg.2.2.1 hg.2.1).1 hg.2.2.2⟩
theorem acT {s:b.aD} (h:Down s) {i:Nat} (hi:i < s.graph.kids.n):hH s i=PQ (fun k=>hH s (ch s.graph i k)) (dg s.graph i)+1:=ahp h.chl h.free hi
theorem acU {s:b.aD} (h:Down s) {i:Nat} (hi:i < s.graph.kids.n):mH s i=cond (DF s i) 1 (JE (fun k=>mH s (ch s.graph i k)) (dg s.graph i)):=ahq _ h.chl h.free hi
theorem amE {s:b.aD} (h:Down s) {i:Nat} (hi:i < s.graph.kids.n):mH s i<=257:=by
 rw [acU h hi];cases DF s i with
 | true=>show 1<=257; omega
 | false=>exact agc _ _
structure Kn (s:b.aD) (x:Sl Int×Sl Int):Prop where
 n1:x.1.n=s.graph.kids.n
 n2:x.2.n=s.graph.kids.n
 is:∀ j,j < s.graph.kids.n->x.1.get j=0\/x.1.get j=(hH s j:Int)/\x.2.get j=(mH s j:Int)
theorem Wo {s:b.aD} (h:Down s) {i:Nat} (hi:i < s.graph.kids.n) {down:Int->Sl Int×Sl Int->Option (Sl Int×Sl Int)}
  (hd:∀ k,k < dg s.graph i->∀ x,Kn s x->∃ x',down ((ch s.graph i k:Nat):Int) x=some x'/\Kn s x'/\x'.1.get (ch s.graph i k)=(hH s (ch s.graph i k):Int)/\x'.2.get (ch s.graph i k)=(mH s (ch s.graph i k):Int)) {x:Sl Int×Sl Int} (hx:Kn s x) :
  ∀ k,k<=dg s.graph i->∃ y,b.Al down (s.graph.kids.get i) k (0,0,x)=some y/\y.1=(PQ (fun k=>hH s (ch s.graph i k)) k:Int)/\y.2.1=(JE (fun k=>mH s (ch s.graph i k)) k:Int)/\Kn s y.2.2
 | 0,_=>⟨_,rfl,rfl,rfl,hx⟩
 | k+1,hk=>by
  obtain ⟨y,h1,h2,h3,h4⟩:=Wo h hi hd hx k (by omega);obtain ⟨z,q1,q2,q3,q4⟩:=hd k (by omega) y.2.2 h4;have es:=h.slot hi (k:=k) (by omega);have hb:=agc (fun k=>mH s (ch s.graph i k)) k;have hm:=amE h (h.chl i hi k (by omega));refine ⟨_,by unfold b.Al; rw [h1]; show ((down _ y.2.2).bind _)=_; rw [es,q1]; rfl,?_,?_,q2⟩
  ·show max y.1 (z.1.get ((ch s.graph i k:Nat):Int).toNat)=_
   rw [tD,q3,h2,PQ];omega
  ·show min (bR (y.2.1+z.2.get ((ch s.graph i k:Nat):Int).toNat)) 257=_
   rw [tD,q4,h3,eX (by omega) (by omega),JE];omega
theorem Yo {s:b.aD} (h:Down s):∀ (f i:Nat) (x:Sl Int×Sl Int),v8 (dg s.graph) (ch s.graph) f i->i < s.graph.kids.n->Kn s x->
  ∃ x',b.qD s f (i:Int) x=some x'/\Kn s x'/\x'.1.get i=(hH s i:Int)/\x'.2.get i=(mH s i:Int)
 | 0,_,_,hl,_,_=>hl.elim
 | f+1,i,x,hl,hi,hx=>by
  unfold b.qD;have d1:decide ((0:Int)<=(i:Int))=true:=au (by omega);have d2:decide ((i:Int) < (x.1.n:Int))=true:=au (by have:=hx.n1; omega);have d3:decide ((i:Int) < (s.graph.kids.n:Int))=true:=au (by omega);have d4:decide ((i:Int) < (s.nodes.n:Int))=true:=au (by have:=h.n; omega);rw [d1,d2,d3,d4];simp only [cY,ah,tD];have Aq:0 < hH s i:=by rw [acT h hi]; omega
  have hhb:hH s i<=128:=dx (Nu _ _) h.small;by_cases hz:x.1.get i > 0
  ·rw [au hz,ah]
   rcases hx.is i hi with e | e
   ·omega
   ·exact ⟨x,rfl,hx,e⟩
  ·rw [bu hz,ay]
   obtain ⟨y,h1,h2,h3,h4⟩:=Wo h hi (down:=b.qD s f) (fun k hk x hx=>Yo h f _ x (hl k hk) (h.chl i hi k hk) hx) hx _ (ao _);have e1:b.Al (b.qD s f) (s.graph.kids.get i) (s.graph.kids.get i).n (0,0,x)=some y:=h1;rw [e1];have e2:bR (y.1+1)=(hH s i:Int):=by
    have:=acT h hi;rw [h2,eX (by omega) (by omega)];omega
   have e3:cond ((s.nodes.get i).kind==5) 1 y.2.1=(mH s i:Int):=by
    rw [acU h hi,h3];unfold DF;cases (s.nodes.get i).kind==5 <;> rfl
   refine ⟨_,rfl,⟨h4.n1,h4.n2,fun j hj=>?_⟩,?_,?_⟩
   ·show (y.2.2.1.set i _).get j=0\/(y.2.2.1.set i _).get j=_/\(y.2.2.2.set i _).get j=_
    by_cases e:j=i
    ·subst e
     rw [dj,dj,e2,e3];exact .inr ⟨rfl,rfl⟩
    ·rw [cX _ _ e,cX _ _ e]
     exact h4.is j hj
   ·show (y.2.2.1.set i _).get i=_
    rw [dj,e2]
   ·show (y.2.2.2.set i _).get i=_
    rw [dj,e3]
theorem aar {s:b.aD} (h:Down s) {r:Nat} (hr:s.root.slot=(r:Int)) (hi:r < s.graph.kids.n):∃ x,b.dE s=some x/\Kn s x/\x.1.get r=(hH s r:Int)/\x.2.get r=(mH s r:Int):=by
 unfold b.dE;rw [ax ⟨by have:=h.n; have:=h.small; omega,fun i hi=>by have:=h.few i hi; unfold dg at this; omega⟩,hr];exact Yo h 250 r _ ((PO h.chl h.free r hi).le (by have:=h.small; omega)) hi ⟨h.n,h.n,fun j _=>.inl rfl⟩
end Go.Proofs.YtckbdndhmcoihaaGreat.sc
end
section
namespace Go.tT
variable {H:Type} (dg:H->Nat) (cR:H->Nat->H) (fB:H->Bool)
def lC:Nat->H->List (List Nat)
 | 0,_=>[]
 | t+1,h=>((List.range (dg h)).flatMap fun k=>(lC t (cR h k)).map (k::·))++cond (fB h) [[]] []
abbrev St (H:Type):=List (H×Nat)×List (List (H×Nat))
def nx:St H->St H
 | ([],out)=>([],out)
 | ((h,n)::st,out)=>cond (decide (n < dg h)) ((cR h n,0)::(h,n+1)::st,out) (st,cond (fB h) (out++[(h,n)::st]) out)
def it:Nat->St H->St H
 | 0,x=>x
 | r+1,x=>it r (nx dg cR fB x)
def k7:List (H×Nat)->H->List Nat->List (H×Nat)
 | st,h,[]=>(h,dg h)::st
 | st,h,k::ks=>k7 ((h,k+1)::st) (cR h k) ks
variable {dg cR fB}
theorem Ha:∀ (a c:Nat) (x:St H),it dg cR fB (a+c) x=it dg cR fB c (it dg cR fB a x)
 | 0,c,x=>by rw [bF]; rfl
 | a+1,c,x=>by
  rw [show a+1+c=(a+c)+1 by omega];exact Ha a c _
theorem aas:∀ (r:Nat) (out:List (List (H×Nat))),it dg cR fB r ([],out)=([],out)
 | 0,_=>rfl
 | r+1,out=>aas r out
theorem visit {C:H->Prop} (hC:∀ h,C h->∀ k,k < dg h->C (cR h k)) (hf:∀ h:H,C h->dg h<=16):∀ (t:Nat) (h:H),C h->v8 dg cR t h->∀ (st:List (H×Nat)) (out:List (List (H×Nat))),
  ∃ r,r+2<=3 * 17 ^ t/\1<=r/\it dg cR fB r ((h,0)::st,out)=(st,out++(lC dg cR fB t h).map (k7 dg cR st h))
 | 0,_,_,hl,_,_=>hl.elim
 | t+1,h,hc,hl,st,out=>by
  have key:∀ k,k<=dg h->∃ r,r<=k * (3 * 17 ^ t - 1)/\it dg cR fB r ((h,0)::st,out)=((h,k)::st,out++((List.range k).flatMap fun k=>(lC dg cR fB t (cR h k)).map (k::·)).map (k7 dg cR st h)):=by
   intro k
   induction k with
   | zero=>exact fun _=>⟨0,mf _,by simp [it]⟩
   | succ k ih=>
    intro hk;obtain ⟨r,h1,h2⟩:=ih (by omega);obtain ⟨r',q1,q2,q3⟩:=visit hC hf t (cR h k) (hC h hc k (by omega)) (hl k (by omega)) ((h,k+1)::st) (out++((List.range k).flatMap fun k=>(lC dg cR fB t (cR h k)).map (k::·)).map (k7 dg cR st h));refine ⟨r+(1+r'),?_,?_⟩
    ·rw [Nat.succ_mul]; omega
    ·rw [Ha,h2,Ha]
     have e1:it dg cR fB 1 ((h,k)::st,out++((List.range k).flatMap fun k=>(lC dg cR fB t (cR h k)).map (k::·)).map (k7 dg cR st h))=((cR h k,0)::(h,k+1)::st,out++((List.range k).flatMap fun k=>(lC dg cR fB t (cR h k)).map (k::·)).map (k7 dg cR st h)):=by
      simp only [it,nx];rw [au (by omega:k < dg h)];rfl
     rw [e1,q3,List.range_succ,List.flatMap_append,yH,JO];congr 2;simp only [List.flatMap_cons,List.flatMap_nil,n5,List.map_map];rfl
  obtain ⟨r,h1,h2⟩:=key (dg h) (ao _);have hd:=hf h hc;refine ⟨r+1,?_,by omega,?_⟩
  ·have:dg h * (3 * 17 ^ t - 1)<=16 * (3 * 17 ^ t - 1):=Nat.mul_le_mul_right _ hd
   have hp:1<=17 ^ t:=Nat.one_le_pow _ _ (by omega);rw [Nat.pow_succ];omega
  ·rw [Ha,h2]
   simp only [it,nx];rw [bu (Nat.lt_irrefl _),ay];rw [lC,yH];cases fB h with
   | true=>simp [k7]
   | false=>simp
theorem Yp {α β:Type} (f:α->List β):∀ (l:List α),(l.flatMap f).length=(l.map fun x=>(f x).length).sum
 | []=>rfl
 | x::l=>by rw [List.flatMap_cons,fE,Yp f l]; rfl
theorem agi (f:Nat->Nat):∀ k,JE f k=min ((List.range k).map f).sum 257
 | 0=>rfl
 | k+1=>by
  rw [JE,agi f k,List.range_succ,yH,List.sum_append];show min (min _ 257+f k) 257=min (_+(f k+0)) 257;omega
theorem Wp {C:H->Prop} (hC:∀ h,C h->∀ k,k < dg h->C (cR h k)) (hm:∀ h:H,C h->fB h=true->dg h=0):∀ (t:Nat) (h:H),C h->G6 dg cR fB t h=min (lC dg cR fB t h).length 257
 | 0,h,_=>rfl
 | t+1,h,hc=>by
  rw [G6,lC,fE,Yp];cases e:fB h with
  | true=>rw [hm h hc e]; rfl
  | false=>
   have ih:JE (fun k=>G6 dg cR fB t (cR h k)) (dg h)=JE (fun k=>min (lC dg cR fB t (cR h k)).length 257) (dg h):=G5 _ fun k hk=>Wp hC hm t (cR h k) (hC h hc k hk);rw [ay,ih,agi];simp only [List.length_map,ay,FL,p8];have:∀ (g:Nat->Nat) (l:List Nat),min (l.map fun k=>min (g k) 257).sum 257=min (l.map g).sum 257:=by
    intro g l
    induction l with
    | nil=>rfl
    | cons x l ih=>simp only [List.map_cons,List.sum_cons]; omega
   exact this _ _
theorem PV:∀ (t:Nat) (h:H) (ks:List Nat),ks∈lC dg cR fB t h->ks.length+1<=CM dg cR t h
 | 0,_,_,hk=>by simp [lC] at hk
 | t+1,h,ks,hk=>by
  rw [lC,eP] at hk;rw [CM];rcases hk with hk | hk
  ·obtain ⟨k,h1,h2⟩:=FM.1 hk
   obtain ⟨l,h3,rfl⟩:=ur.1 h2;have:=PV t _ l h3;have:=aah (fun k=>CM dg cR t (cR h k)) _ k (wb.1 h1);simp only [lF];omega
  ·cases e:fB h with
   | true=>rw [e] at hk; simp at hk; subst hk; simp
   | false=>rw [e] at hk; simp at hk
def K6 (cR:H->Nat->H):H->List Nat->H
 | h,[]=>h
 | h,k::ks=>K6 cR (cR h k) ks
def Em (dg:H->Nat) (cR:H->Nat->H):H->List Nat->Prop
 | _,[]=>True
 | h,k::ks=>k < dg h/\Em dg cR (cR h k) ks
theorem Wq:∀ (t:Nat) (h:H) (ks:List Nat),ks∈lC dg cR fB t h->Em dg cR h ks/\fB (K6 cR h ks)=true
 | 0,_,_,hk=>by simp [lC] at hk
 | t+1,h,ks,hk=>by
  rw [lC,eP] at hk;rcases hk with hk | hk
  ·obtain ⟨k,h1,h2⟩:=FM.1 hk
   obtain ⟨l,h3,rfl⟩:=ur.1 h2;obtain ⟨h4,h5⟩:=Wq t _ l h3;exact ⟨⟨wb.1 h1,h4⟩,h5⟩
  ·cases e:fB h with
   | true=>rw [e] at hk; simp at hk; subst hk; exact ⟨trivial,e⟩
   | false=>rw [e] at hk; simp at hk
theorem Wr:∀ (t:Nat) (h:H) (ks:List Nat),v8 dg cR t h->Em dg cR h ks->fB (K6 cR h ks)=true->ks∈lC dg cR fB t h
 | 0,_,_,hl,_,_=>hl.elim
 | t+1,h,[],_,_,hm=>by
  rw [lC,eP];have e:fB h=true:=hm;rw [e];exact .inr (by simp)
 | t+1,h,k::ks,hl,hw,hm=>by
  rw [lC,eP];refine .inl (FM.2 ⟨k,wb.2 hw.1,ur.2 ⟨ks,Wr t _ ks (hl k hw.1) hw.2 hm,rfl⟩⟩)
def Ws:List Nat->List Nat->Prop
 | a::l,c::m=>a < c\/a=c/\Ws l m
 | _,_=>False
theorem SB {C:H->Prop} (hC:∀ h,C h->∀ k,k < dg h->C (cR h k)) (hm:∀ h:H,C h->fB h=true->dg h=0):∀ (t:Nat) (h:H),C h->(lC dg cR fB t h).Pairwise Ws
 | 0,_,_=>by rw [lC]; exact List.Pairwise.nil
 | t+1,h,hc=>by
  rw [lC];cases e:fB h with
  | true=>rw [hm h hc e]; exact List.pairwise_singleton _ _
  | false=>
   rw [ay,n5];have key:∀ n,n<=dg h->((List.range n).flatMap fun k=>(lC dg cR fB t (cR h k)).map (k::·)).Pairwise Ws:=by
    intro n
    induction n with
    | zero=>exact fun _=>List.Pairwise.nil
    | succ n ih=>
     intro hn;rw [List.range_succ,List.flatMap_append,List.pairwise_append];refine ⟨ih (by omega),?_,?_⟩
     ·simp only [List.flatMap_cons,List.flatMap_nil,n5]
      rw [List.pairwise_map];exact (SB hC hm t _ (hC h hc n (by omega))).imp fun h=>.inr ⟨rfl,h⟩
     ·intro a ha c hc
      simp only [List.flatMap_cons,List.flatMap_nil,n5] at hc;obtain ⟨k,h1,h2⟩:=FM.1 ha;obtain ⟨l,_,rfl⟩:=ur.1 h2;obtain ⟨m,_,rfl⟩:=ur.1 hc;exact .inl (wb.1 h1)
   exact key _ (ao _)
theorem Rs:∀ {a c:List Nat},Ws a c->a≠c
 | a::l,c::m,h,e=>by
  simp only [List.cons.injEq] at e;rcases h with h | h
  ·omega
  ·exact Rs h.2 e.2
 | [],_,h,_=>h.elim
 | _::_,[],h,_=>h.elim
theorem agj:∀ (r:Nat) (x:St H),x.2.length<=(it dg cR fB r x).2.length
 | 0,_=>ao _
 | r+1,x=>by
  refine dx ?_ (agj r _);obtain ⟨st,out⟩:=x;cases st with
  | nil=>exact ao _
  | cons w st=>
   obtain ⟨h,n⟩:=w;simp only [nx];cases decide (n < dg h) with
   | true=>exact ao _
   | false=>
    cases fB h with
    | true=>simp
    | false=>exact ao _
end Go.tT
end
section
namespace Go.Proofs.YtckbdndhmcoihaaGreat.sc
open Go Go.K Go.aA Go.tT Go.Proofs.YtckbdndhmcoihaaGreat.nodes
def jm (s:b.aD) (h:b.Handle):Nat:=(s.graph.kids.get h.slot.toNat).n
def ef (s:b.aD) (h:b.Handle) (k:Nat):b.Handle:=(s.graph.kids.get h.slot.toNat).get k
def fU (s:b.aD) (h:b.Handle):Bool:=(s.nodes.get h.slot.toNat).kind==5
def nC (s:b.aD) (g:Nat->b.eo):List (b.Handle×Nat)->Prop
 | []=>True
 | (h,n)::r=>g r.length=⟨h,(n:Int)⟩/\n<=jm s h/\iC s.graph.bZ h/\v8 (jm s) (ef s) (16 - r.length) h/\nC s g r
theorem nC.congr {s:b.aD} {g g' : Nat->b.eo} : ∀ {st:List (b.Handle×Nat)},(∀ i,i < st.length->g' i=g i)->nC s g st->nC s g' st
 | [],_,_=>trivial
 | (h,n)::r,hq,hi=>⟨(hq r.length (by simp)).trans hi.1,hi.2.1,hi.2.2.1,hi.2.2.2.1,hi.2.2.2.2.congr fun i hl=>hq i (by simp only [lF]; omega)⟩
theorem nC.at {s:b.aD} {g:Nat->b.eo} : ∀ {st:List (b.Handle×Nat)},nC s g st->∀ i,i < st.length->∃ (h:b.Handle) (n:Nat),g i=⟨h,(n:Int)⟩/\n<=jm s h/\iC s.graph.bZ h
 | [],_,i,hl=>absurd hl (mM _)
 | (h,n)::r,hi,i,hl=>by
  by_cases e:i=r.length
  ·subst e
   exact ⟨h,n,hi.1,hi.2.1,hi.2.2.1⟩
  ·exact hi.2.2.2.2.at i (by simp only [lF] at hl; omega)
theorem nC.len {s:b.aD} {g:Nat->b.eo} : ∀ {st:List (b.Handle×Nat)},nC s g st->st.length<=16
 | [],_=>mf _
 | (h,n)::r,hi=>by
  have hl:=hi.2.2.2.1;by_cases e:r.length < 16
  ·simp only [lF]; omega
  ·rw [show 16 - r.length=0 by omega] at hl
   exact hl.elim
theorem PW {s:b.aD} (hs:jQ s) {h:b.Handle} (hh:iC s.graph.bZ h):jm s h<=16:=by
 have:=(zG hs hh)
 exact (acS hs).few h.slot.toNat (by omega)
def KB (p:b.Path) (g:Nat->b.eo) (n:Nat):Prop:=p.nodes.n=n/\p.kids.n=n - 1/\(∀ i,i < n->p.nodes.get i=(g i).h)/\∀ i,i+1 < n->p.kids.get i=(g i).eB - 1
theorem aew (stack:Sl b.eo) (hn:stack.n<=16) (hb:∀ i,i < stack.n->0<=(stack.get i).eB/\(stack.get i).eB<=1000) :
  ∃ x',goN b.cz ⟨stack,(stack.n:Int),0,⟨⟨0,(fun i=>⟨0,0⟩)⟩,⟨0,(fun i=>0)⟩⟩,⟨⟨0,(fun i=>⟨0,0⟩)⟩,⟨0,(fun i=>0)⟩⟩⟩ = .out (.exit 0) x'/\x'.l=stack/\KB x'.p stack.get stack.n:=by
 obtain ⟨e,x',h1,h2,h3,h4⟩:=lB (step:=b.cz) (fun j x=>x.l=stack/\x.t7=(stack.n:Int)/\x.t8=(j:Int)/\KB x.p stack.get j) (fun e x=>e = .exit 0/\x.l=stack/\KB x.p stack.get stack.n) stack.n (by unfold hX; omega) (fun j x hj hI=>by
  obtain ⟨l,t7,t8,t2,p⟩:=x;obtain ⟨h1,h2,h3,h4⟩:=hI
  dsimp only at h1 h2 h3 h4
  subst h1 h2 h3;obtain ⟨q1,q2,q3,q4⟩:=h4;unfold b.cz
  dsimp only
  by_cases aI:j < l.n
  ·refine .inl ?_
   have d1:decide ((j:Int) < (l.n:Int))=true:=au (by omega);have d2:decide ((0:Int)<=(j:Int))=true:=au (by omega);have e1:bR ((j:Int)+1)=((j+1:Nat):Int):=by rw [eX (by omega) (by omega)]; omega
   have a1:lP 16 p.nodes.n 1=true:=sG;have a2:lP 8 p.kids.n 1=true:=sG;rw [d1,d2,a1,a2];simp only [eT,p9,cY,ah,tD,bF,e1];by_cases h0:0 < j
   ·have d3:decide ((j:Int) > 0)=true:=au (by omega)
    have e2:bR ((j:Int) - 1)=((j - 1:Nat):Int):=by rw [eX (by omega) (by omega)]; omega
    have d4:decide ((0:Int)<=((j - 1:Nat):Int))=true:=au (by omega);have d5:decide (((j - 1:Nat):Int) < (l.n:Int))=true:=au (by omega);rw [d3,e2,d4,d5];simp only [cY,ah,tD];refine ⟨_,rfl,aI,rfl,rfl,rfl,?_⟩;have hbj:=hb (j - 1) (by omega);refine ⟨by show p.nodes.n+1=_; omega,by show p.kids.n+1=_; omega,fun i hi=>?_,fun i hi=>?_⟩
    ·by_cases e:i=j
     ·subst e
      show (p.nodes.push _).get i=_;rw [<- q1];exact Sl.Bu
     ·show (p.nodes.push _).get i=_
      rw [Sl.FF (by omega)];exact q3 i (by omega)
    ·by_cases e:i+1=j
     ·show (p.kids.push _).get i=_
      have e3:i=p.kids.n:=by omega
      rw [e3,Sl.Bu,<- e3,show j - 1=i by omega];have:=hb i (by omega);exact eX (by omega) (by omega)
     ·show (p.kids.push _).get i=_
      rw [Sl.FF (by omega)];exact q4 i (by omega)
   ·have d3:decide ((j:Int) > 0)=false:=bu (by omega)
    rw [d3];simp only [ay];refine ⟨_,rfl,aI,rfl,rfl,rfl,?_⟩;refine ⟨by show p.nodes.n+1=_; omega,by show p.kids.n=_; omega,fun i hi=>?_,fun i hi=>by omega⟩;show (p.nodes.push _).get i=_;have e:i=p.nodes.n:=by omega
    rw [e,Sl.Bu,<- e,show j=i by omega]
  ·have U9:j=l.n:=by omega
   subst U9;have d1:decide ((l.n:Int) < (l.n:Int))=false:=bu (by omega);rw [d1];simp only [eT,p9,cY,ah,ay];exact .inr ⟨_,_,rfl,rfl,rfl,rfl,q1,q2,q3,q4⟩) (x:=⟨stack,(stack.n:Int),0,⟨⟨0,(fun i=>⟨0,0⟩)⟩,⟨0,(fun i=>0)⟩⟩,⟨⟨0,(fun i=>⟨0,0⟩)⟩,⟨0,(fun i=>0)⟩⟩⟩) ⟨rfl,rfl,rfl,rfl,rfl,fun i hi=>absurd hi (mM _),fun i hi=>by omega⟩
 subst h2;exact ⟨x',h1,h3,h4⟩
def En (s:b.aD) (o:Sl b.Path) (l:List (List (b.Handle×Nat))):Prop:=o.n=l.length/\∀ j w,l[j]? = some w->∃ g,nC s g w/\KB (o.get j) g w.length
theorem En.push {s:b.aD} {o:Sl b.Path} {l:List (List (b.Handle×Nat))} (h:En s o l) {w:List (b.Handle×Nat)} {g:Nat->b.eo} {p:b.Path} (hg:nC s g w) (hp:KB p g w.length):En s (o.push p) (l++[w]):=by
 refine ⟨by show o.n+1=_; rw [fE,h.1]; rfl,fun j v hj=>?_⟩;by_cases hl:j < l.length
 ·rw [mL hl] at hj
  rw [Sl.FF (by rw [h.1]; exact hl)];exact h.2 j v hj
 ·rw [n4 (by omega)] at hj
  have e:j=l.length:=by
   obtain ⟨h3,_⟩:=cp.1 hj;simp only [List.length_singleton] at h3;omega
  subst e;rw [Nat.sub_self] at hj;have e2:w=v:=by simpa using hj
  subst e2;rw [<- h.1,Sl.Bu];exact ⟨g,hg,hp⟩
structure Rel (s:b.aD) (x:b.cj) (y:St b.Handle):Prop where
 sc:x.s=s
 n:x.stack.n=y.1.length
 st:nC s x.stack.get y.1
 out:En s x.out y.2
theorem round {s:b.aD} (hs:jQ s) {x:b.cj} {h:b.Handle} {n:Nat} {r:List (b.Handle×Nat)} {out:List (List (b.Handle×Nat))} (hx:Rel s x ((h,n)::r,out)) (hb:out.length<=1000) :
  ((nx (jm s) (ef s) (fU s) ((h,n)::r,out)).1≠[]/\∃ x',b.bD x = .next x'/\Rel s x' (nx (jm s) (ef s) (fU s) ((h,n)::r,out)))\/
  ((nx (jm s) (ef s) (fU s) ((h,n)::r,out)).1 = []/\∃ x',b.bD x = .out .ret x'/\x'.t3=0/\En s x'.t2 (nx (jm s) (ef s) (fU s) ((h,n)::r,out)).2):=by
 obtain ⟨t2,t3,o,stack,s'⟩:=x;obtain ⟨h1,h2,h3,h4⟩:=hx
 dsimp only at h1 h2 h3 h4
 subst h1;have hlen:=h3.len;have an5:∀ i,i < stack.n->0<=(stack.get i).eB/\(stack.get i).eB<=1000:=fun i hi=>by
  obtain ⟨h',n',e,q1,q2⟩:=h3.at i (by omega);have:=PW hs q2;rw [e]
  dsimp only
  omega
 have Zz:=h3;obtain ⟨g1,g2,g3,g4,g5⟩:=h3;obtain ⟨s1,s2,s3⟩:=zG hs g3;have hdg:=PW hs g3;simp only [lF] at h2 hlen;have e1:bR ((stack.n:Int) - 1)=(r.length:Int):=by rw [eX (by omega) (by omega)]; omega
 have d1:decide ((0:Int)<=(r.length:Int))=true:=au (by omega);have d2:decide ((r.length:Int) < (stack.n:Int))=true:=au (by omega);have d2' : decide ((r.length:Int)<=(stack.n:Int))=true:=au (by omega);have d3:=au s1;have d4:=au s2;have d5:=au s3;have e5:bR ((n:Int)+1)=((n+1:Nat):Int):=by rw [eX (by omega) (by omega)]; omega
 have e6:bR (((n+1:Nat):Int) - 1)=(n:Int):=by rw [eX (by omega) (by omega)]; omega
 have d6:decide ((0:Int)<=(n:Int))=true:=au (by omega);have b1:(Nat.ble ((stack.n+1) * 24) 140737488355328&&Nat.ble (stack.n+1) 17592186044416)=true:=by
  rw [aj];exact ⟨Nat.ble_eq_true_of_le (by omega),Nat.ble_eq_true_of_le (by omega)⟩
 have b2:lP 48 o.n 1=true:=by
  have:=h4.1;exact sG
 unfold b.bD b.hJ
 dsimp only
 simp only [e1,tD,bF,g1,dj,e5,e6,d1,d2,d2',d3,d4,d5,d6,b1,b2,eT,p9,cY,uu,ah];by_cases aI:n < jm s' h
 ·have d7:decide ((n:Int) < (((s'.graph.kids.get h.slot.toNat).n:Nat):Int))=true:=au (by unfold jm at aI; omega)
  rw [d7];simp only [ah];have en:nx (jm s') (ef s') (fU s') ((h,n)::r,out)=((ef s' h n,0)::(h,n+1)::r,out):=by
   simp only [nx];rw [au aI,ah]
  rw [en];refine .inl ⟨by simp,_,rfl,⟨rfl,?_,?_,h4⟩⟩
  ·show stack.n+1=_
   simp only [lF];omega
  ·have hk:iC s'.graph.bZ (ef s' h n):=Rr hs g3 aI
   have ht:∃ t,16 - r.length=t+1:=⟨16 - r.length - 1,by omega⟩
   obtain ⟨t,ht⟩:=ht;have ER:v8 (jm s') (ef s') (16 - (r.length+1)) (ef s' h n):=by
    rw [ht] at g4;rw [show 16 - (r.length+1)=t by omega];exact g4 n aI
   have BG:(stack.set r.length ⟨h,((n+1:Nat):Int)⟩).n=r.length+1:=h2;refine ⟨?_,mf _,hk,ER,?_,aI,g3,g4,?_⟩
   ·show (Sl.join _ _).get (r.length+1)=_
    rw [Sl.acE (by rw [BG]; exact ao _),BG,Nat.sub_self];rfl
   ·show (Sl.join _ _).get r.length=_
    rw [Sl.Wf (by rw [BG]; exact yJ _),dj]
   ·refine g5.congr fun i hi=>?_
    show (Sl.join _ _).get i=_;rw [Sl.Wf (by rw [BG]; omega),cX _ _ (by omega)]
 ·have d7:decide ((n:Int) < (((s'.graph.kids.get h.slot.toNat).n:Nat):Int))=false:=bu (by unfold jm at aI; omega)
  rw [d7];simp only [ay];have en:nx (jm s') (ef s') (fU s') ((h,n)::r,out)=(r,cond (fU s' h) (out++[(h,n)::r]) out):=by
   simp only [nx];rw [bu aI,ay]
  rw [en];have key:∀ (o' : Sl b.Path) (agk:List (List (b.Handle×Nat))) (g:Nat->b.eo),(∀ i,i < r.length->g i=stack.get i)->En s' o' agk->
    (r≠[]/\∃ x',cond (decide ((r.length:Int) > 0)) (ba.next (⟨t2,t3,o',⟨r.length,g⟩,s'⟩:b.cj)) (.out .ret ⟨o',0,o',⟨r.length,g⟩,s'⟩) = .next x'/\Rel s' x' (r,agk))\/
    (r = []/\∃ x',cond (decide ((r.length:Int) > 0)) (ba.next (⟨t2,t3,o',⟨r.length,g⟩,s'⟩:b.cj)) (.out .ret ⟨o',0,o',⟨r.length,g⟩,s'⟩) = .out .ret x'/\x'.t3=0/\En s' x'.t2 agk):=by
   intro o' agk g hg ho;cases r with
   | nil=>exact .inr ⟨rfl,_,rfl,rfl,ho⟩
   | cons w r=>
    refine .inl ⟨by simp,?_⟩;rw [au (by simp only [lF]; omega),ah];exact ⟨_,rfl,rfl,rfl,g5.congr hg,ho⟩
  by_cases hm:fU s' h=true
  ·have AI:((s'.nodes.get h.slot.toNat).kind==5)=true:=hm
   rw [AI,hm];simp only [ah];obtain ⟨x',q1,q2,q3⟩:=aew stack (by omega) an5;rw [q1];have es:vN (aa.exit 0) (aa.exit 0)=true:=rfl;simp only [ba.qI,ba.nH,es,ah,q2];exact key _ _ _ (fun i hi=>rfl) (h4.push Zz (by simp only [lF]; rw [<- h2]; exact q3))
  ·rw [Bool.not_eq_true] at hm
   have AI:((s'.nodes.get h.slot.toNat).kind==5)=false:=hm;rw [AI,hm];simp only [ay];exact key _ _ _ (fun i hi=>rfl) h4
theorem ajT (s:b.aD) (j:Nat) (y:St b.Handle):it (jm s) (ef s) (fU s) (j+1) y=nx (jm s) (ef s) (fU s) (it (jm s) (ef s) (fU s) j y):=Ha j 1 y
theorem ahD {s:b.aD} (hs:jQ s) {y:St b.Handle} {r:Nat} (hr:r < hX) {acV:List (List (b.Handle×Nat))} (hF:it (jm s) (ef s) (fU s) r y=([],acV)) (hl:acV.length<=1000) {x:b.cj} (hx:Rel s x y) (hy:y.1≠[]) :
  ∃ x',goN b.bD x = .out .ret x'/\x'.t3=0/\En s x'.t2 acV:=by
 obtain ⟨e,x',h1,h2,h3,h4⟩:=lB (step:=b.bD) (fun j x=>Rel s x (it (jm s) (ef s) (fU s) j y)/\(it (jm s) (ef s) (fU s) j y).1≠[]) (fun e x=>e = .ret/\x.t3=0/\En s x.t2 acV) r hr (fun j x hj hI=>by
  obtain ⟨q1,q2⟩:=hI;have aI:j < r:=by
   by_cases e:j=r
   ·subst e; rw [hF] at q2; exact absurd rfl q2
   ·omega
  have hn:=ajT s j y;have hle:(it (jm s) (ef s) (fU s) j y).2.length<=1000:=by
   have:=agj (dg:=jm s) (cR:=ef s) (fB:=fU s) (r - j) (it (jm s) (ef s) (fU s) j y);rw [<- Ha,show j+(r - j)=r by omega,hF] at this;exact dx this hl
  revert q1 q2 hn hle
  generalize hz:it (jm s) (ef s) (fU s) j y=z;obtain ⟨st,out⟩:=z;intro q1 q2 hn hle;cases st with
  | nil=>exact absurd rfl q2
  | cons w st=>
   obtain ⟨h,n⟩:=w;rcases round hs q1 hle with ⟨g1,x',g2,g3⟩ | ⟨g1,x',g2,g3,g4⟩
   ·exact .inl ⟨x',g2,aI,by rw [hn]; exact g3,by rw [hn]; exact g1⟩
   ·refine .inr ⟨_,x',g2,rfl,rfl,g3,?_⟩
    have e2:(nx (jm s) (ef s) (fU s) ((h,n)::st,out))=([],(nx (jm s) (ef s) (fU s) ((h,n)::st,out)).2):=by
     rw [<- g1]
    have e3:=Ha (dg:=jm s) (cR:=ef s) (fB:=fU s) (j+1) (r - (j+1)) y;rw [hn,e2,aas,show j+1+(r - (j+1))=r by omega,hF] at e3;have e4:acV=(nx (jm s) (ef s) (fU s) ((h,n)::st,out)).2:=congrArg (·.2) e3;rw [e4];exact g4) (x:=x) ⟨hx,hy⟩
 subst h2;exact ⟨x',h1,h3,h4⟩
theorem ajU {s:b.aD} (h:Down s):∀ (t:Nat) (x:b.Handle) (i:Nat),x.slot=(i:Int)->i < s.graph.kids.n->v8 (dg s.graph) (ch s.graph) t i->v8 (jm s) (ef s) t x
 | 0,_,_,_,_,hl=>hl.elim
 | t+1,x,i,hx,hi,hl=>fun k hk=>by
  unfold jm at hk;unfold ef;rw [hx,tD] at hk ⊢;exact ajU h t _ _ (h.slot hi hk) (h.chl i hi k hk) (hl k hk)
theorem ajV {s:b.aD} (h:Down s):∀ (t:Nat) (x:b.Handle) (i:Nat),x.slot=(i:Int)->i < s.graph.kids.n->G6 (jm s) (ef s) (fU s) t x=G6 (dg s.graph) (ch s.graph) (DF s) t i
 | 0,_,_,_,_=>rfl
 | t+1,x,i,hx,hi=>by
  have e1:fU s x=DF s i:=by unfold fU DF; rw [hx,tD]
  have e2:jm s x=dg s.graph i:=by unfold jm dg; rw [hx,tD]
  rw [G6,G6,e1,e2];congr 1;refine G5 _ fun k hk=>?_;refine ajV h t _ _ ?_ (h.chl i hi k hk);unfold ef;rw [hx,tD];exact h.slot hi hk
def ways (s:b.aD):List (List Nat):=lC (jm s) (ef s) (fU s) 16 s.root
structure aex (s:b.aD) (p:b.Path) (ks:List Nat):Prop where
 n:p.kids.n=ks.length
 is:∀ (i k:Nat),ks[i]? = some k->p.kids.get i=(k:Int)
 leads:Nz s p.kids
 at_:Kz s p.kids p.nodes
theorem Yq {s:b.aD} : ∀ (ks:List Nat) (h:b.Handle) (st:List (b.Handle×Nat)) (g:Nat->b.eo),nC s g (k7 (jm s) (ef s) st h ks)->
  (k7 (jm s) (ef s) st h ks).length=st.length+ks.length+1/\(g st.length).h=h/\(∀ i k:Nat,ks[i]? = some k->(g (st.length+i)).eB=(k:Int)+1/\k < jm s (g (st.length+i)).h/\(g (st.length+(i+1))).h=ef s (g (st.length+i)).h k)
 | [],h,st,g,hi=>⟨rfl,by rw [hi.1],fun i k hk=>by simp at hk⟩
 | k::ks,h,st,g,hi=>by
  obtain ⟨h1,h2,h3⟩:=Yq ks (ef s h k) ((h,k+1)::st) g hi;have below:∀ (ks:List Nat) (h:b.Handle) (w:List (b.Handle×Nat)),nC s g (k7 (jm s) (ef s) w h ks)->nC s g w:=by
   intro ks
   induction ks with
   | nil=>exact fun h w q=>q.2.2.2.2
   | cons k ks ih=>exact fun h w q=>(ih _ _ q).2.2.2.2
  have hb:=below ks _ _ hi;simp only [lF] at h1 h2 h3;refine ⟨by rw [show k7 (jm s) (ef s) st h (k::ks)=k7 (jm s) (ef s) ((h,k+1)::st) (ef s h k) ks from rfl,h1]; simp only [lF]; omega,by rw [hb.1],fun i k' hk=>?_⟩;cases i with
  | zero=>
   simp only [List.getElem?_cons_zero,aR] at hk;subst hk;rw [p8,bF,h2,hb.1];refine ⟨by push_cast; rfl,hb.2.1,rfl⟩
  | succ i=>
   simp only [FK] at hk;have:=h3 i k' hk;rw [show st.length+1+i=st.length+(i+1) by omega,show st.length+1+(i+1)=st.length+(i+1+1) by omega] at this;exact this
theorem akY {s:b.aD} {p:b.Path} {g:Nat->b.eo} {ks:List Nat} (hg:nC s g (k7 (jm s) (ef s) [] s.root ks)) (hp:KB p g (k7 (jm s) (ef s) [] s.root ks).length):aex s p ks:=by
 obtain ⟨h1,h2,h3⟩:=Yq ks s.root [] g hg;simp only [FL,bF] at h1 h2 h3;rw [h1] at hp;obtain ⟨q1,q2,q3,q4⟩:=hp;have his:∀ (i k:Nat),ks[i]? = some k->p.kids.get i=(k:Int):=fun i k hk=>by
  obtain ⟨hl,_⟩:=cp.1 hk;rw [q4 i (by omega),(h3 i k hk).1];omega
 have pQ:∀ i,i<=ks.length->S8 s p.kids i=(g i).h/\∀ j,j < i->Ky s p.kids j:=by
  intro i
  induction i with
  | zero=>exact fun _=>⟨h2.symm,fun j hj=>absurd hj (mM _)⟩
  | succ i ih=>
   intro hi;obtain ⟨e,eZ⟩:=ih (by omega);have hk:ks[i]? = some ks[i]:=cl (by omega);have hh:=h3 i _ hk;have hki:=his i _ hk;refine ⟨?_,fun j hj=>?_⟩
   ·show (s.graph.kids.get (S8 s p.kids i).slot.toNat).get (p.kids.get i).toNat=_
    rw [e,hki,tD,hh.2.2];rfl
   ·by_cases ej:j=i
    ·subst ej
     have:=hh.2.1;unfold jm at this;unfold Ky;rw [hki,e];omega
    ·exact eZ j (by omega)
 refine ⟨by omega,his,fun j hj=>(pQ (j+1) (by omega)).2 j (yJ _),by omega,fun i hi=>?_⟩;rw [(pQ i (by omega)).1];exact q3 i (by omega)
theorem Tu {s:b.aD} (hs:jQ s):∀ h,iC s.graph.bZ h->∀ k,k < jm s h->iC s.graph.bZ (ef s h k):=fun h hh k hk=>Rr hs hh hk
theorem agl {s:b.aD} (hs:jQ s):∀ h,iC s.graph.bZ h->fU s h=true->jm s h=0:=fun h hh hm=>by
 have:=zG hs hh;refine (hs.2.2.2.1 h.slot.toNat (by omega)).2.2 ?_;unfold fU at hm;exact eq_of_beq hm
theorem acW {s:b.aD} (mr:FH s) (hs:jQ s):∃ l e,b.lZ s=some (l,e)/\
  ((s.root=sH/\l.n=0/\e=0)\/(s.root≠sH/\l.n=0/\e=120)\/
   (s.root≠sH/\iC s.graph.bZ s.root/\v8 (jm s) (ef s) 16 s.root/\e=0/\l.n<=256/\l.n=(ways s).length/\∀ (j:Nat) ks,(ways s)[j]? = some ks->aex s (l.get j) ks)):=by
 obtain ⟨e,h1,h2⟩:=Nx s mr;have he:e=0:=by
  rcases h2 with h | h
  ·exact h.1
  ·exact absurd hs h.2
 subst he;unfold b.lZ;rw [h1];simp only [nm,iD,ah];have hz:((0:Int) != 0)=false:=rfl;rw [hz,ay];by_cases hr:s.root=sH
 ·have:((s.root.slot==0)&&((s.root.gen==0)&&true))=true:=(CJ s.root sH).2 hr
  rw [this,ah];exact ⟨_,_,rfl,.inl ⟨hr,rfl,rfl⟩⟩
 ·have:((s.root.slot==0)&&((s.root.gen==0)&&true))=false:=by
   rw [<- Bool.not_eq_true];exact fun h=>hr ((CJ s.root sH).1 h)
  rw [this,ay];have hh:iC s.graph.bZ s.root:=by
   rcases hs.2.2.2.2 with h | h
   ·exact absurd h hr
   ·exact h
  obtain ⟨s1,s2,s3⟩:=zG hs hh;obtain ⟨r,er⟩:∃ r:Nat,s.root.slot=(r:Int):=⟨s.root.slot.toNat,by omega⟩
  have hd:=acS hs;have hi:r < s.graph.kids.n:=by omega
  obtain ⟨c,c1,c2,c3,c4⟩:=aar hd er hi;have c1a:(b.dE s).isSome=true:=by rw [c1]; rfl
  have c1b:(b.dE s).getD default=c:=by rw [c1]; rfl
  rw [c1a,c1b,ah];have d1:decide ((0:Int)<=s.root.slot)=true:=au s1;have d2:decide (s.root.slot < (c.1.n:Int))=true:=au (by have:=c2.n1; omega);have d3:decide (s.root.slot < (c.2.n:Int))=true:=au (by have:=c2.n2; omega);have en:s.root.slot.toNat=r:=by omega
  rw [d1,d2,d3,en];simp only [cY,ah];by_cases QU:c.1.get r > 16
  ·rw [au QU,ah]
   exact ⟨_,_,rfl,.inr (.inl ⟨hr,rfl,rfl⟩)⟩
  rw [bu QU,ay];by_cases Rq:c.2.get r > 256
  ·rw [au Rq,ah]
   exact ⟨_,_,rfl,.inr (.inl ⟨hr,rfl,rfl⟩)⟩
  rw [bu Rq,ay];have DM:v8 (dg s.graph) (ch s.graph) s.graph.kids.n r:=PO hd.chl hd.free r hi;have AL:v8 (dg s.graph) (ch s.graph) 16 r:=(acD _ _ DM).le (by rw [c3] at QU; unfold hH at QU; omega);have hl:v8 (jm s) (ef s) 16 s.root:=ajU hd 16 s.root r er hi AL;have an6:G6 (dg s.graph) (ch s.graph) (DF s) 16 r=mH s r:=by
   unfold mH;by_cases hq:s.graph.kids.n<=16
   ·exact agd DM hq
   ·exact (agd AL (by omega)).symm
  have hlen:(ways s).length<=256:=by
   have:=Wp (Tu hs) (agl hs) 16 s.root hh;rw [ajV hd 16 s.root r er hi,an6] at this;unfold ways;omega
  obtain ⟨rr,r1,r2,r3⟩:=visit (fB:=fU s) (Tu hs) (fun h hh=>PW hs hh) 16 s.root hh hl [] [];have hrel:Rel s (b.mB s) ([(s.root,0)],[]):=⟨rfl,rfl,⟨rfl,mf _,hh,hl,trivial⟩,⟨rfl,fun j w hj=>by simp at hj⟩⟩
  have C8:∀ l,En s l ([]++(lC (jm s) (ef s) (fU s) 16 s.root).map (k7 (jm s) (ef s) [] s.root))->(s.root≠sH/\iC s.graph.bZ s.root/\v8 (jm s) (ef s) 16 s.root/\(0:Int)=0/\l.n<=256/\l.n=(ways s).length/\∀ (j:Nat) ks,(ways s)[j]? = some ks->aex s (l.get j) ks):=by
   intro l hq;obtain ⟨q1,q2⟩:=hq;rw [List.nil_append,List.length_map] at q1;refine ⟨hr,hh,hl,rfl,by unfold ways at hlen; omega,q1,fun j ks hj=>?_⟩;obtain ⟨g,g1,g2⟩:=q2 j (k7 (jm s) (ef s) [] s.root ks) (by
    rw [List.nil_append,mg];unfold ways at hj;rw [hj];rfl)
   exact akY g1 g2
  have akZ:([]++(lC (jm s) (ef s) (fU s) 16 s.root).map (k7 (jm s) (ef s) [] s.root)).length<=1000:=by
   rw [List.nil_append,List.length_map];unfold ways at hlen;omega
  obtain ⟨m,rfl⟩:∃ m,rr=m+1:=⟨rr - 1,by omega⟩
  have KF:it (jm s) (ef s) (fU s) m (nx (jm s) (ef s) (fU s) ([(s.root,0)],[]))=([],[]++(lC (jm s) (ef s) (fU s) 16 s.root).map (k7 (jm s) (ef s) [] s.root)):=r3;rcases round hs hrel (mf _) with ⟨g1,x',g2,g3⟩ | ⟨g1,x',g2,g3,g4⟩
  ·rw [g2,b.Yj]
   obtain ⟨y,y1,y2,y3⟩:=ahD hs (r:=m) (by unfold hX; omega) KF akZ g3 g1;rw [y1];have e1:(ba.out aa.ret y).by (aa.exit 999983)=false:=rfl
   have e2:(ba.out aa.ret y).by aa.ret=true:=rfl
   rw [e1,e2,ay,ah];refine ⟨_,_,rfl,.inr (.inr ?_)⟩;rw [ba.nH,y2];exact C8 _ y3
  ·rw [g2]
   refine ⟨_,_,rfl,.inr (.inr ?_)⟩;rw [g3];refine C8 _ ?_;have e2:(nx (jm s) (ef s) (fU s) ([(s.root,0)],[]))=([],(nx (jm s) (ef s) (fU s) ([(s.root,0)],[])).2):=Prod.ext g1 rfl;rw [e2,aas] at KF;have e4:=congrArg (·.2) KF
   dsimp only at e4
   rw [<- e4];exact g4
theorem aey {s:b.aD} (mr:FH s) (hs : ¬ jQ s):∃ l,b.lZ s=some (l,8)/\l.n=0:=by
 obtain ⟨e,h1,h2⟩:=Nx s mr;have he:e=8:=by
  rcases h2 with h | h
  ·exact absurd h.2 hs
  ·exact h.1
 subst he;unfold b.lZ;rw [h1];exact ⟨_,rfl,rfl⟩
end Go.Proofs.YtckbdndhmcoihaaGreat.sc
end
section
namespace Go.Proofs.YtckbdndhmcoihaaGreat.sc
open Go Go.K Go.Proofs.YtckbdndhmcoihaaGreat.nodes
def U16 (n:Int):Prop:=0<=n/\n<=65535
end Go.Proofs.YtckbdndhmcoihaaGreat.sc
end
section
namespace Go.Proofs.YtckbdndhmcoihaaGreat.b
open Go.K
noncomputable section
end
end Go.Proofs.YtckbdndhmcoihaaGreat.b
end
section
namespace Go.Proofs.YtckbdndhmcoihaaGreat.sc
open Go Go.K Go.Proofs.YtckbdndhmcoihaaGreat.nodes
structure FJ (s:b.aD):Prop where
 dm:∀ i,i < s.nodes.n->Tt (s.nodes.get i).cO
 on:∀ i,i < s.nodes.n->U16 (s.nodes.get i).SX
 kind:∀ i,i < s.fJ.n->JG (s.fJ.get i)
theorem FJ.inn {s:b.aD} (h:FJ s) (hf:Few s):FH s:=
 ⟨fun i hi=>⟨h.dm i hi,by have:=hf.xJ i hi; omega⟩,h.kind,by have:=hf.cu; omega,by have:=hf.nodes; omega,by have:=hf.fJ; omega,by have:=hf.iV; omega⟩
end Go.Proofs.YtckbdndhmcoihaaGreat.sc
end
section
namespace Go.Proofs.YtckbdndhmcoihaaGreat.sc
open Go Go.K Go.aA Go.tT Go.Proofs.YtckbdndhmcoihaaGreat.nodes
theorem aez {s:b.aD} {kids:Sl Int} (mr:FH s) (hs:jQ s) (hr:s.root≠sH) (hl:Nz s kids) (hn:kids.n<=400):∃ p,b.n3 s kids=some (p,0)/\Kz s kids p.nodes/\p.kids=kids:=by
 unfold b.n3 b.rQ b.rR;obtain ⟨e,q1,q2⟩:=Nx s mr;have he:e=0:=by
  rcases q2 with h | h
  ·exact h.1
  ·exact absurd hs h.2
 subst he;rw [q1];simp only [nm,iD,ah];have hz:((0:Int) != 0)=false:=rfl;have h0:((s.root.slot==0)&&((s.root.gen==0)&&true))=false:=by
  rw [<- Bool.not_eq_true];exact fun h=>hr ((CJ s.root sH).1 h)
 rw [hz,h0];obtain ⟨x,ok,p1,p2⟩:=aaq hs hr kids hn;rw [p1];rcases p2 with ⟨rfl,g1,g2,g3⟩ | ⟨rfl,g1⟩
 ·exact ⟨x,rfl,g2,g3⟩
 ·exact absurd hl g1
theorem aeA (a c:b.Path) (h1:a.nodes.n < 1000000) (h2:a.kids.n < 1000000):∃ r,b.mC a c=some r/\(r=true↔JI a.nodes c.nodes/\JI a.kids c.kids):=by
 unfold b.mC b.xB b.xC;obtain ⟨r1,p1,p2⟩:=aev a.nodes c.nodes h1;obtain ⟨r2,q1,q2⟩:=ahx a.kids c.kids h2;rw [p1,q1];simp only [nm,iD,ah];cases r1 with
 | true=>exact ⟨r2,rfl,fun h=>⟨p2.1 rfl,q2.1 h⟩,fun h=>q2.2 h.2⟩
 | false=>exact ⟨false,rfl,fun h=>by simp at h,fun h=>by have:=p2.2 h.1; simp at this⟩
theorem Rt {H:Type} (cR:H->Nat->H):∀ (l:List Nat) (h:H) (k:Nat),K6 cR h (l++[k])=cR (K6 cR h l) k
 | [],_,_=>rfl
 | a::l,h,k=>Rt cR l (cR h a) k
theorem SC {H:Type} {dg:H->Nat} {cR:H->Nat->H} : ∀ (l:List Nat) (h:H) (k:Nat),Em dg cR h l->k < dg (K6 cR h l)->Em dg cR h (l++[k])
 | [],_,_,_,hk=>⟨hk,trivial⟩
 | a::l,h,k,hw,hk=>⟨hw.1,SC l (cR h a) k hw.2 hk⟩
theorem Yr {H:Type} {dg:H->Nat} {cR:H->Nat->H} : ∀ (l:List Nat) (h:H),Em dg cR h l->∀ (i:Nat) (hi:i < l.length),l[i] < dg (K6 cR h (l.take i))
 | a::l,h,hw,0,_=>hw.1
 | a::l,h,hw,i+1,hi=>Yr l (cR h a) hw.2 i (Nat.lt_of_succ_lt_succ hi)
theorem Wt {s:b.aD} (hs:jQ s):∀ (l:List Nat) (h:b.Handle),iC s.graph.bZ h->Em (jm s) (ef s) h l->iC s.graph.bZ (K6 (ef s) h l)
 | [],_,hh,_=>hh
 | a::l,h,hh,hw=>Wt hs l _ (Tu hs h hh a hw.1) hw.2
structure uq (kids:Sl Int) (ks:List Nat):Prop where
 n:kids.n=ks.length
 is:∀ (i k:Nat),ks[i]? = some k->kids.get i=(k:Int)
theorem uq.at {kids:Sl Int} {ks:List Nat} (h:uq kids ks) {i:Nat} (hi:i < ks.length):kids.get i=((ks[i] : Nat):Int):=h.is i _ (cl hi)
theorem Tv {s:b.aD} {kids:Sl Int} {ks:List Nat} (h:uq kids ks):∀ i,i<=ks.length->S8 s kids i=K6 (ef s) s.root (ks.take i)
 | 0,_=>by rw [List.take_zero]; rfl
 | i+1,hi=>by
  rw [List.take_succ_eq_append_getElem (by omega),Rt,<- Tv h i (by omega)];show (s.graph.kids.get (S8 s kids i).slot.toNat).get (kids.get i).toNat=_;rw [h.at (by omega),tD];rfl
theorem ahE {s:b.aD} {kids:Sl Int} {ks:List Nat} (h:uq kids ks) (hw:Em (jm s) (ef s) s.root ks):Nz s kids:=fun j hj=>by
 have N8:j < ks.length:=by have:=h.n; omega
 have:=Yr ks s.root hw j N8;unfold Ky;rw [h.at N8,Tv h j (by omega)];unfold jm at this;omega
theorem Wu {a c:Sl Int} {l m:List Nat} (ha:uq a l) (hc:uq c m):JI a c↔l=m:=by
 constructor
 ·rintro ⟨h1,h2⟩
  have e:l.length=m.length:=by rw [<- ha.n,<- hc.n]; exact h1
  refine List.ext_getElem e fun i h3 h4=>?_;have:=h2 i (by rw [ha.n]; exact h3);rw [ha.at h3,hc.at h4] at this;omega
 ·rintro rfl
  exact ⟨by rw [ha.n,hc.n],fun i hi=>by rw [ha.n] at hi; rw [ha.at hi,hc.at hi]⟩
theorem ajW {s:b.aD} {k k' : Sl Int} {ks:List Nat} {l l' : Sl b.Handle} (hk:uq k ks) (pb:uq k' ks) (h:Kz s k l) (h' : Kz s k' l'):JI l l':=by
 have e1:=hk.n;have e2:=pb.n;refine ⟨by have:=h.1; have:=h'.1; omega,fun i hi=>?_⟩;have KC:i<=ks.length:=by have:=h.1; omega
 rw [h.2 i (by omega),h'.2 i (by omega),Tv hk i KC,Tv pb i KC]
theorem ajX {s:b.aD} (hs:jQ s) (hh:iC s.graph.bZ s.root) {j:Nat} {ks:List Nat} (h:(ways s)[j]? = some ks):ks.length+1<=16/\Em (jm s) (ef s) s.root ks/\fU s (K6 (ef s) s.root ks)=true:=by
 have hm:=eW h;have h1:=PV 16 s.root ks hm;have h2:=Nu (kv:=jm s) (c:=ef s) 16 s.root;exact ⟨by omega,Wq 16 s.root ks hm⟩
theorem Wv {s:b.aD} (hs:jQ s) (hh:iC s.graph.bZ s.root) {i j:Nat} {k l:List Nat} (h1:(ways s)[i]? = some k) (h2:(ways s)[j]? = some l) (hij:i < j):Ws k l:=by
 have hp:=SB (fB:=fU s) (Tu hs) (agl hs) 16 s.root hh;rw [List.pairwise_iff_getElem] at hp;obtain ⟨i1,i2⟩:=cp.1 h1;obtain ⟨j1,j2⟩:=cp.1 h2;rw [<- i2,<- j2];exact hp i j i1 j1 hij
structure agm (s:b.aD) (cC:Sl Int) (l:Sl b.Path) (j:Nat) (ks:List Nat) (x:b.eG):Prop where
 cC:x.cC=cC
 pl:x.l=l
 sc:x.s=s
 kids:uq x.kids ks
 len:ks.length=j
 way:Em (jm s) (ef s) s.root ks
 h:x.h=K6 (ef s) s.root ks
theorem aeB {s:b.aD} (hs:jQ s) (hh:iC s.graph.bZ s.root) (cC:Sl Int) (l:Sl b.Path) (hp:cC.n<=200) :
  ∃ x' ks,goN b.ew ⟨cC,false,l,⟨0,(fun i=>0)⟩,0,s,s.root⟩ = .out (.exit 0) x'/\agm s cC l ks.length ks x'/\ks.length<=200:=by
 obtain ⟨e,x',h1,h2,ks,h3,h4⟩:=lB (step:=b.ew) (fun j x=>x.i=(j:Int)/\∃ ks,agm s cC l j ks x) (fun e x=>e = .exit 0/\∃ ks:List Nat,agm s cC l ks.length ks x/\ks.length<=200) cC.n (by unfold hX; omega) (fun j x hj ⟨hi,ks,hg⟩=>by
  obtain ⟨pk,t4,l',kids,i,s',h⟩:=x;obtain ⟨g1,g2,g3,g4,g5,g6,g7⟩:=hg
  dsimp only at hi g1 g2 g3 g4 g7
  subst hi g1 g2 g3 g7;have aat:=Wt hs ks s'.root hh g6;obtain ⟨s1,s2,s3⟩:=zG hs aat;have hdg:=PW hs aat;have XH:∀ t4,∃ e x',(ba.out (aa.exit 0) ⟨pk,t4,l',kids,(j:Int),s',K6 (ef s') s'.root ks⟩:ba b.eG) = .out e x'/\ko e=false/\(e = .exit 0/\∃ ks:List Nat,agm s' pk l' ks.length ks x'/\ks.length<=200):=fun t4=>⟨_,_,rfl,rfl,rfl,ks,⟨rfl,rfl,rfl,g4,rfl,g6,rfl⟩,by omega⟩
  unfold b.ew
  dsimp only
  simp only [eT,ah];by_cases aI:j < pk.n
  ·have d1:decide ((j:Int) < (pk.n:Int))=true:=au (by omega)
   have d2:decide ((0:Int)<=(j:Int))=true:=au (by omega);simp only [d1,d2,au s1,au s2,cY,ah,tD];generalize hH:K6 (ef s') s'.root ks=h at *;by_cases h0:(s'.graph.kids.get h.slot.toNat).n=0
   ·have:(((s'.graph.kids.get h.slot.toNat).n:Int)==0)=true:=by rw [h0]; rfl
    rw [this,ah];exact .inr (XH _)
   ·have:(((s'.graph.kids.get h.slot.toNat).n:Int)==0)=false:=by simp; exact h0
    rw [this,ay];by_cases aeW:pk.get j < 0
    ·rw [au aeW,ah]
     exact .inr (XH _)
    ·have f1:decide (((s'.graph.kids.get h.slot.toNat).n:Int)=0)=false:=bu (by omega)
     have m1:0<=Int.tmod (pk.get j) ((s'.graph.kids.get h.slot.toNat).n:Int):=Int.tmod_nonneg _ (by omega);have m2:Int.tmod (pk.get j) ((s'.graph.kids.get h.slot.toNat).n:Int) < ((s'.graph.kids.get h.slot.toNat).n:Int):=Int.tmod_lt_of_pos _ (by omega);have a1:lP 8 kids.n 1=true:=by have:=g4.n; exact sG
     have e1:bR ((j:Int)+1)=((j+1:Nat):Int):=by rw [eX (by omega) (by omega)]; omega
     rw [bu aeW,f1,au m1,au m2,a1,e1];simp only [Bool.not_false,ah,ay,cY];refine .inl ⟨_,rfl,aI,rfl,ks++[(Int.tmod (pk.get j) ((s'.graph.kids.get h.slot.toNat).n:Int)).toNat],⟨rfl,rfl,rfl,⟨?_,?_⟩,?_,?_,?_⟩⟩
     ·show kids.n+1=_
      rw [g4.n,fE];rfl
     ·intro i k hk
      show (kids.push _).get i=_;by_cases hl:i < ks.length
      ·rw [mL hl] at hk
       rw [Sl.FF (by rw [g4.n]; exact hl)];exact g4.is i k hk
      ·rw [n4 (by omega)] at hk
       have hq:i=ks.length:=by
        obtain ⟨h3,_⟩:=cp.1 hk;simp only [List.length_singleton] at h3;omega
       subst hq;rw [Nat.sub_self] at hk;have e2:(Int.tmod (pk.get j) ((s'.graph.kids.get h.slot.toNat).n:Int)).toNat=k:=by simpa using hk
       rw [<- e2,<- g4.n,Sl.Bu];omega
     ·rw [fE,g5]; rfl
     ·refine SC ks s'.root _ g6 ?_
      rw [hH];unfold jm;omega
     ·rw [Rt,hH]
      rfl
  ·have d1:decide ((j:Int) < (pk.n:Int))=false:=bu (by omega)
   rw [d1,ay];exact .inr (XH _)) (x:=⟨cC,false,l,⟨0,(fun i=>0)⟩,0,s,s.root⟩) ⟨rfl,[],rfl,rfl,rfl,⟨rfl,fun i k hk=>by simp at hk⟩,rfl,trivial,rfl⟩
 subst h2;exact ⟨x',ks,h1,h3,h4⟩
theorem acX (l:Sl b.Path) (p:b.Path) (j0:Nat) (h0:j0 < l.n) (hn:l.n<=256) (t4:Bool) (hq:∀ j,j < l.n->b.mC (l.get j) p=some (decide (j=j0))) :
  ∃ x',goN b.eN ⟨t4,l,0,0,p⟩ = .out (.exit 2) x'/\x'.n=1:=by
 obtain ⟨e,x',h1,h2,h3⟩:=lB (step:=b.eN) (fun j x=>x=⟨t4,l,(if j0 < j then 1 else 0),(j:Int),p⟩) (fun e x=>e = .exit 2/\x.n=1) l.n (by unfold hX; omega) (fun j x hj hx=>by
  subst hx;unfold b.eN b.nR
  dsimp only
  by_cases aI:j < l.n
  ·have d1:decide ((j:Int) < (l.n:Int))=true:=au (by omega)
   have d2:decide ((0:Int)<=(j:Int))=true:=au (by omega);have e1:bR ((j:Int)+1)=((j+1:Nat):Int):=by rw [eX (by omega) (by omega)]; omega
   rw [d1,d2,e1,tD,hq j aI];simp only [cY,ah,nm,iD];by_cases Ch:j=j0
   ·subst Ch
    rw [au rfl,ah,ae (Nat.lt_irrefl _)];refine .inl ⟨_,rfl,aI,?_⟩;rw [ax (yJ _)];rfl
   ·rw [bu Ch,ay]
    refine .inl ⟨_,rfl,aI,?_⟩;by_cases hc:j0 < j
    ·rw [ax hc,ax (by omega)]
    ·rw [ae hc,ae (by omega)]
  ·have:j=l.n:=by omega
   subst this;rw [bu (by omega),ay];refine .inr ⟨_,_,rfl,rfl,rfl,?_⟩;show (if j0 < l.n then (1:Int) else 0)=1;rw [ax h0]) (x:=⟨t4,l,0,0,p⟩) (by rw [ae (mM _)]; rfl)
 subst h2;exact ⟨x',h1,h3⟩
theorem PX (s:b.aD) (cC:Sl Int) (hr:FJ s):b.rS s cC=some true:=by
 obtain ⟨g,q1,q2⟩:=acR s;unfold b.rS b.tR;rw [q1];simp only [nm,iD,ah];cases g with
 | true=>rfl
 | false=>
  have mr:=hr.inn (q2 rfl);rw [ay];by_cases hp:(cC.n:Int) > 200
  ·rw [au hp]; rfl
  rw [bu hp,ay];by_cases hs:jQ s
  ·obtain ⟨l,e,h1,h2⟩:=acW mr hs
   have e1:b.fO s cC=some (l,e):=h1;have e2:b.dt s cC=goN b.ew ⟨cC,false,l,⟨0,(fun i=>0)⟩,0,s,s.root⟩:=by
    unfold b.dt;rw [e1];rfl
   unfold b.l8;rw [e1];simp only [nm,iD,ah];rcases h2 with ⟨hz,hn,rfl⟩ | ⟨hz,hn,rfl⟩ | ⟨hz,hh,ER,rfl,an7,hlen,hw⟩
   ·rw [show ((s.root.slot==0)&&((s.root.gen==0)&&true))=true from (CJ s.root sH).2 hz,hn]
    rfl
   ·rw [hn]
    rfl
   ·have h0:((s.root.slot==0)&&((s.root.gen==0)&&true))=false:=by
     rw [<- Bool.not_eq_true];exact fun h=>hz ((CJ s.root sH).1 h)
    obtain ⟨x',ks,k1,k2,k3⟩:=aeB hs hh cC l (by omega);have HJ:((0:Int) != 0)=false:=rfl;have Zn:b.dt s cC = .out (.exit 0) x':=e2.trans k1;have b1:(ba.out (aa.exit 0) x').by (aa.exit 0)=true:=rfl
    unfold b.tS b.o6;rw [h0,HJ,Zn,b1];simp only [ay,ah,ba.nH,k2.h,k2.sc,k2.pl];have aat:=Wt hs ks s.root hh k2.way;obtain ⟨s1,s2,s3⟩:=zG hs aat;rw [au s1,au s3];simp only [cY,ah];by_cases hm:fU s (K6 (ef s) s.root ks)=true
    ·have AI:((s.nodes.get (K6 (ef s) s.root ks).slot.toNat).kind != 5)=false:=by
      unfold fU at hm;simp [eq_of_beq hm]
     rw [AI,ay];obtain ⟨p,p1,p2,p3⟩:=aez mr hs hz (ahE k2.kids k2.way) (by have:=k2.kids.n; omega);rw [p1];simp only [nm,iD,ah,HJ,ay];have jV:=Wr 16 s.root ks ER k2.way hm;obtain ⟨j0,Ch⟩:=List.mem_iff_getElem?.1 jV;have agn:(ways s)[j0]? = some ks:=Ch;obtain ⟨DM,_⟩:=cp.1 agn;obtain ⟨y,y1,y2⟩:=acX l p j0 (by omega) an7 x'.t4 (fun j hj=>by
      obtain ⟨kj,hkj⟩:∃ kj,(ways s)[j]? = some kj:=⟨_,cl (by omega)⟩
      have W:=hw j kj hkj;have K:uq (l.get j).kids kj:=⟨W.n,W.is⟩
      obtain ⟨w1,w2,w3⟩:=ajX hs hh hkj;obtain ⟨r,r1,r2⟩:=aeA (l.get j) p (by have:=W.at_.1; have:=W.n; omega) (by have:=W.n; omega);rw [r1];congr 1;rw [Bool.eq_iff_iff,r2,decide_eq_true_iff];constructor
      ·rintro ⟨_,h⟩
       rw [p3] at h;have e:=(Wu K k2.kids).1 h;subst e;rcases Nat.lt_trichotomy j j0 with h | h | h
       ·exact absurd rfl (Rs (Wv hs hh hkj agn h))
       ·exact h
       ·exact absurd rfl (Rs (Wv hs hh agn hkj h))
      ·rintro rfl
       have e:kj=ks:=by rw [agn] at hkj; exact (wa hkj).symm
       subst e;exact ⟨ajW K k2.kids W.at_ p2,by rw [p3]; exact (Wu K k2.kids).2 rfl⟩)
     rw [y1];show cond true (some (y.n==1)) none=_;rw [y2];rfl
    ·have AI:((s.nodes.get (K6 (ef s) s.root ks).slot.toNat).kind != 5)=true:=by
      unfold fU at hm;simp only [bne,Bool.not_eq_true] at hm ⊢;rw [hm];rfl
     rw [AI];rfl
  ·obtain ⟨l,h1,h2⟩:=aey mr hs
   have e1:b.fO s cC=some (l,8):=h1;unfold b.l8;rw [e1];simp only [nm,iD,ah];rw [h2];rfl
end Go.Proofs.YtckbdndhmcoihaaGreat.sc
end
section
namespace Go.Proofs.YtckbdndhmcoihaaGreat.sc
open Go Go.K Go.Proofs.YtckbdndhmcoihaaGreat.nodes
theorem JK {P:Program} : ∀ {l:List KV},uJ P l->∀ v∈l,zY P v
 | [],_,v,hv=>by simp at hv
 | x::l,h,v,hv=>by
  simp only [uJ] at h;rcases bd.1 hv with rfl | hv
  ·exact h.1
  ·exact JK h.2 v hv
theorem JL {P:Program} {ks:List CK} {v:KV} (h:cf ⟨true,ks⟩ v=true) (hw:KK P v) (hd:zY P v) {j:Nat} {c:CK} (hj:ks[j]? = some c):K.kindOk c (v.cells.getD j .bx)=true/\KK P (v.cells.getD j .bx)/\zY P (v.cells.getD j .bx):=by
 obtain ⟨cs,rfl,hk⟩:=aha h;obtain ⟨u,h1,h2⟩:=wM hk hj;have e:(KV.agg cs).cells.getD j .bx=u:=by
  show cs.getD j .bx=u;rw [eO,h1];rfl
 have hm:=eW h1;rw [e];have CP:uJ P cs:=by simpa [zY] using hd
 have ZX:xP P cs:=by simpa [KK] using hw
 exact ⟨h2,QT ZX u hm,JK CP u hm⟩
theorem aeC {P:Program} {v:KV} {T:TypeId} (h:K.kindOk (.slice T) v=true) (hw:KK P v) (hd:zY P v) {i:Nat} (hi:i < lenOf v):cf (aH P T) (tG v i)=true/\KK P (tG v i)/\zY P (tG v i):=by
 cases v with
 | ts t m n es acc=>
  have ht:T=t:=by
   cases m <;> simp [K.kindOk] at h;exact h
  subst ht;simp only [zY] at hd;simp only [KK] at hw;obtain ⟨aeD,an8⟩:=hd;have hi:i < n:=hi;have hl:i < es.length:=by rw [<- aeD.len]; exact hi
  have e:acc i=es.getD i .bx:=aeD.acc i hi;have e2:es.getD i .bx=es[i]:=by rw [eO,cl hl]; rfl
  show cf (aH P T) (acc i)=true/\KK P (acc i)/\zY P (acc i);rw [e,e2];exact ⟨fI aeD.typed (cl hl),QT hw.2.1 _ (JP hl),JK an8 _ (JP hl)⟩
 | _=>simp [K.kindOk] at h
theorem Ru {P:Program} {v:KV} (h:K.kindOk (.int .u8) v=true) (hw:KK P v):0<=av v/\av v<=255:=by
 cases v with
 | int k n=>
  have hk:k = .u8:=by
   have:decide (IntKind.u8=k)=true:=h;exact (JN this).symm
  subst hk;have h:(Lit.int .u8 n).wf=true:=hw;simp only [Lit.wf,aj,jR] at h;show 0<=n/\n<=255;exact h
 | _=>simp [K.kindOk] at h
theorem ak0 {P:Program} {v:KV} (h:K.kindOk (.int .u16) v=true) (hw:KK P v):0<=av v/\av v<=65535:=by
 cases v with
 | int k n=>
  have hk:k = .u16:=by
   have:decide (IntKind.u16=k)=true:=h;exact (JN this).symm
  subst hk;have h:(Lit.int .u16 n).wf=true:=hw;simp only [Lit.wf,aj,jR] at h;show 0<=n/\n<=65535;exact h
 | _=>simp [K.kindOk] at h
noncomputable abbrev xG (a:KV):b.aD:=b.mT (gX Tryz.prog (bX Tryz.prog df) 34 a)
theorem amF:aH Tryz.prog 34=⟨true,[.slice 111,.slice 35,.slice 77,.slice 88,.slice 91,.int .i64,.int .i64]⟩:=by kernel_rfl
theorem amG:∃ ks,aH Tryz.prog 77=⟨true,ks⟩/\ks[13]? = some (.int .u16)/\ks[19]? = some (.int .u8)/\ks[20]? = some (.int .u8)/\ks[21]? = some (.int .u8)/\ks[22]? = some (.int .u8)/\ks[23]? = some (.int .u8):=⟨(aH Tryz.prog 77).ks,by kernel_rfl,by kernel_rfl,by kernel_rfl,by kernel_rfl,by kernel_rfl,by kernel_rfl,by kernel_rfl⟩
theorem amH:∃ ks,aH Tryz.prog 88=⟨true,ks⟩/\ks[2]? = some (.slice 172):=⟨(aH Tryz.prog 88).ks,by kernel_rfl,by kernel_rfl⟩
theorem ajY:∃ ks,aH Tryz.prog 172=⟨true,ks⟩/\ks[0]? = some (.int .u8):=⟨(aH Tryz.prog 172).ks,by kernel_rfl,by kernel_rfl⟩
theorem ahF (a:KV):(xG a).nodes.n=lenOf (a.cells.getD 2 .bx):=by kernel_rfl
theorem aeE (a:KV):(xG a).fJ.n=lenOf (a.cells.getD 3 .bx):=by kernel_rfl
theorem amI (a:KV) (i:Nat):((xG a).nodes.get i).SX=av ((tG (a.cells.getD 2 .bx) i).cells.getD 13 .bx):=by kernel_rfl
theorem ak1 (a:KV) (i:Nat):((xG a).nodes.get i).cO.dm=⟨av ((tG (a.cells.getD 2 .bx) i).cells.getD 19 .bx),av ((tG (a.cells.getD 2 .bx) i).cells.getD 20 .bx),av ((tG (a.cells.getD 2 .bx) i).cells.getD 21 .bx),av ((tG (a.cells.getD 2 .bx) i).cells.getD 22 .bx),av ((tG (a.cells.getD 2 .bx) i).cells.getD 23 .bx)⟩:=by kernel_rfl
theorem ahG (a:KV) (i:Nat):((xG a).fJ.get i).fh.n=lenOf ((tG (a.cells.getD 3 .bx) i).cells.getD 2 .bx):=by kernel_rfl
theorem ajZ (a:KV) (i k:Nat):(((xG a).fJ.get i).fh.get k).kind=av ((tG ((tG (a.cells.getD 3 .bx) i).cells.getD 2 .bx) k).cells.getD 0 .bx):=by kernel_rfl
theorem aeF {a:KV} (h:cf (aH Tryz.prog 34) a=true) (hw:KK Tryz.prog a) (hd:zY Tryz.prog a):FJ (xG a):=by
 rw [amF] at h;obtain ⟨i1,i2,i3⟩:=JL h hw hd (j:=2) rfl;obtain ⟨t1,t2,t3⟩:=JL h hw hd (j:=3) rfl;obtain ⟨ks,l0,l13,l19,l20,l21,l22,l23⟩:=amG;obtain ⟨kt,m0,m2⟩:=amH;obtain ⟨kp,n0,n1⟩:=ajY;have node:∀ i,i < (xG a).nodes.n->∀ j c,ks[j]? = some c->K.kindOk c ((tG (a.cells.getD 2 .bx) i).cells.getD j .bx)=true/\KK Tryz.prog ((tG (a.cells.getD 2 .bx) i).cells.getD j .bx):=fun i hi j c hj=>by
  rw [ahF] at hi;obtain ⟨q1,q2,q3⟩:=aeC i1 i2 i3 hi;rw [l0] at q1;obtain ⟨r1,r2,_⟩:=JL q1 q2 q3 hj;exact ⟨r1,r2⟩
 refine ⟨fun i hi=>?_,fun i hi=>?_,fun i hi k hk=>?_⟩
 ·unfold Tt
  rw [ak1];exact ⟨Ru (node i hi 19 _ l19).1 (node i hi 19 _ l19).2,Ru (node i hi 20 _ l20).1 (node i hi 20 _ l20).2,Ru (node i hi 21 _ l21).1 (node i hi 21 _ l21).2,Ru (node i hi 22 _ l22).1 (node i hi 22 _ l22).2,Ru (node i hi 23 _ l23).1 (node i hi 23 _ l23).2⟩
 ·rw [amI]
  exact ak0 (node i hi 13 _ l13).1 (node i hi 13 _ l13).2
 ·rw [aeE] at hi
  obtain ⟨q1,q2,q3⟩:=aeC t1 t2 t3 hi;rw [m0] at q1;obtain ⟨r1,r2,r3⟩:=JL q1 q2 q3 m2;rw [ahG] at hk;obtain ⟨c1,c2,c3⟩:=aeC r1 r2 r3 hk;rw [n0] at c1;rw [ajZ];obtain ⟨x0,y0,_⟩:=JL c1 c2 c3 n1;exact (Ru x0 y0).1
theorem Ww {P:Program} : ∀ {ts:List TypeId} {xs:List KV} {i:Nat} {t:TypeId},jS P ts xs=true->xP P xs->uJ P xs->ts[i]? = some t->cf (aH P t) (xs.getD i .bx)=true/\KK P (xs.getD i .bx)/\zY P (xs.getD i .bx)
 | [],_,_,_,_,_,_,h=>by simp at h
 | _::_,[],_,_,h,_,_,_=>by simp [jS] at h
 | t::ts,v::vs,i,u,h,hw,hd,ht=>by
  simp only [jS,aj] at h;cases i with
  | zero=>
   rw [List.getElem?_cons_zero] at ht;rw [<- wa ht];exact ⟨h.1,hw.1,hd.1⟩
  | succ i=>
   rw [FK] at ht;have:=Ww (ts:=ts) (xs:=vs) (i:=i) h.2 hw.2 hd.2 ht;rw [List.getD_cons_succ];exact this
theorem aeG {ts:List TypeId} {xs:List KV} (i:Nat) (ht:ts[i]? = some 34) (h:jS Tryz.prog ts xs=true) (hw:xP Tryz.prog xs) (hd:uJ Tryz.prog xs):FJ (xG (xs.getD i .bx)):=by
 obtain ⟨h1,h2,h3⟩:=Ww h hw hd ht;exact aeF h1 h2 h3
end Go.Proofs.YtckbdndhmcoihaaGreat.sc
end
section
namespace Go.aA
open Go.RowKit Go.WideShapes Go.ChangeShapes
theorem acY {H:Type} {enc:TypeId×Value->H} {P:Program} {f:Func} {s:ChangeSpec} {apart fresh handsOn again:Bool} {W W' : World} {args:Array Value} {v:Value} {ds gs:List (DataW H)} {before pa pv:List MemPlace}
  (whole:DataW.Whole enc P f.params.toList s.vars apart W args.toList ds gs before) (below:Below W.heap.size W W') (Tw:before=pa++pv)
  (res:∀ (b:Nat) (sp:Nat->Bool) (hd:Bool),DataW.TrodAll enc P W' b sp hd f.resultTypes.toList (v.resultList f.resultTypes.size) (s.fn H (ds++gs)).results [])
  (arg:∀ sp:Nat->Bool,(∀ p∈before,sp p.block=true)->DataW.TrodAll enc P W' 0 sp true f.params.toList args.toList (s.fn H (ds++gs)).args pa)
  (var:∀ sp:Nat->Bool,(∀ p∈before,sp p.block=true)->DataW.TrodVars enc P W' sp s.vars (s.fn H (ds++gs)).vars pv)
  (wide:∀ (j:Nat) (t:TypeId) (r:Value),f.resultTypes[j]? = some t->(v.resultList f.resultTypes.size)[j]? = some r->Value.okWide P W' .any 0 t r) :
  s.post enc P f apart fresh handsOn again W args v W':=by
 have lt:∀ p∈before,p.block < W.heap.size:=fun p hp=>whole.lt p hp;have eD:∀ p∈before,(fun b=>decide (b < W.heap.size)) p.block=true:=fun p hp=>by simpa using lt p hp
 refine ⟨ds,gs,before,[],pa,pv,whole,res _ _ _,arg _ eD,var _ eD,World.keptBut_mono (fun p hp=>⟨hp,?_⟩) (below.frame (·∈before)),fun _=>?_⟩
 ·rw [Tw,eP] at hp; exact Or.inr hp
 ·obtain ⟨_,_,_,_,_,fz,nd⟩:=whole
  refine ⟨wide,_,_,([]++pa)++pv,⟨[]++pa,pv,trodAll_append (arg _ (fun _ _=>rfl)) (res _ _ _),var _ (fun _ _=>rfl),rfl,fun b off hp=>?_,fun ha=>?_⟩,fun p hp _=>?_⟩
  ·have here:MemPlace.cell b off∈before:=by rw [Tw]; simpa using hp
   rw [below.frozen (lt _ here)];exact fz b off here
  ·have:=nd ha
   rw [Tw] at this;simpa using this
  ·rw [Tw]; simpa using hp
end Go.aA
end
section
namespace Go.K
open Go Go.aA Go.RowKit Go.WideShapes Go.ChangeShapes
section
variable {H:Type} {enc:TypeId×Value->H} {P:Program} {W W' : World}
theorem PY {base:Nat} {sp:Nat->Bool} {held:Bool} : ∀ {ts:List TypeId} {vs:List Value} {ds:List (DataW H)} {ps:List MemPlace},DataW.TrodAll enc P W base sp held ts vs ds ps->ds.length=ts.length
 | [],_,_,_,h=>by
  obtain ⟨rfl,rfl,rfl⟩:=trodAll_nil h;rfl
 | t::ts,vs,ds,ps,h=>by
  obtain ⟨v,ZS,d,ds1,a,b,rfl,rfl,rfl,_,h2⟩:=trodAll_cons h;simp [PY h2]
theorem Ys {α:Type} {n:Nat} {l:List α} (h:l.length=n+1):∃ x xs,l=x::xs:=by
 cases l with
 | nil=>simp at h
 | cons x xs=>exact ⟨x,xs,rfl⟩
theorem JM (hl:laidOutB P=true) (hb:Below W.heap.size W W') {sp:Nat->Bool} : ∀ {ts:List TypeId} {vs:List Value} {ds:List (DataW H)} {ps:List MemPlace},ts.all (fun t=>P.readableRec t&&Nat.blt t P.types.size)=true->
  DataW.TrodAll enc P W 0 (fun _=>true) true ts vs ds ps->(∀ x∈ps,x.block < W.heap.size)->(∀ x∈ps,sp x.block=true)->DataW.TrodAll enc P W' 0 sp true ts vs ds ps
 | [],_,_,_,_,h,_,_=>by
  obtain ⟨rfl,rfl,rfl⟩:=trodAll_nil h;exact trodAll_mk0
 | t::ts,vs,ds,ps,ht,h,aI,ua=>by
  obtain ⟨v,ZS,d,ds1,a,b,rfl,rfl,rfl,h1,h2⟩:=trodAll_cons h;simp only [List.all_cons,aj] at ht;obtain ⟨⟨hr,dB⟩,ht⟩:=ht;rw [b8] at dB;refine ⟨a,b,WideElems.Trod_stays hl hr dB h1 (fun x hx=>hb.same (aI x (by simp [hx]))) (fun x hx=>ua x (by simp [hx])),?_,rfl⟩;exact JM hl hb ht h2 (fun x hx=>aI x (by simp [hx])) (fun x hx=>ua x (by simp [hx]))
theorem ahI {s:ChangeSpec} {f:Func} {apart fresh handsOn again:Bool} {args:Array Value} {ds gs:List (DataW H)} {before:List MemPlace} (hl:laidOutB P=true) (hts:f.params.toList.all (fun t=>P.readableRec t&&Nat.blt t P.types.size)=true)
  (aj0:s.vars = []) (adx:(s.fn H ds).args=ds) (C7:(s.fn H ds).results = [.lit (.bool true)]) (hv:(s.fn H ds).vars = []) {t:TypeId} (hrt:f.resultTypes = #[t]) (hb:P.underlying t=some .bool)
  (hW:DataW.Whole enc P f.params.toList s.vars apart W args.toList ds gs before) (hg:Below W.heap.size W W'):s.post enc P f apart fresh handsOn again W args (.bool true) W':=by
 have hW':=hW;obtain ⟨p,q,hA,hV,alV,_,_⟩:=hW;rw [aj0] at hV;obtain ⟨rfl,rfl⟩:=trodVars_none hV;rw [n5] at alV;subst alV;have aI:∀ x∈before,x.block < W.heap.size:=fun x hx=>hW'.lt x (by simpa using hx);refine aA.acY (pa:=before) (pv:=[]) hW' hg (by simp) (fun b sp hd=>?_) (fun sp ua=>?_) (fun sp ua=>?_) (ok_one hrt rfl (okWide_bool_mk hb _))
 ·rw [n5,C7,hrt]
  exact trodAll_cons_mk (shut_bool hb _) trodAll_mk0
 ·rw [n5,adx]
  exact JM hl hg hts hA aI (fun x hx=>ua x (by simpa using hx))
 ·rw [n5,hv,aj0]
  rfl
end
end Go.K
end
