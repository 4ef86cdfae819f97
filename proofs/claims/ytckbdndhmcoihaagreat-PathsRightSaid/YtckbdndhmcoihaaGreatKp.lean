/- Part of the proof of PathsRight: the machine, shown to be the model's, and plain models. No conditions. -/
import Derived.Test.YtckbdndhmcoihaaGreatJp
import Derived.Test.YtckbdndhmcoihaaGreatIp
import Derived.Test.YtckbdndhmcoihaaGreatHp
import Derived.Below
import Derived.ChangeSame
import Derived.ProofKit
import Derived.WideKeyArgs
set_option linter.unusedSimpArgs false
set_option linter.unusedVariables false
section
namespace Go.Proofs.YtckbdndhmcoihaaGreat.sc
open Go Go.K Go.Proofs.YtckbdndhmcoihaaGreat.nodes
theorem ac5 (s:b.aE) (mr:Fw s) (hlen:s.nodes.n=s.graph.kids.n) (hg:s.graph.kids.n=s.graph.b5.ct.n):(goN b.fg (⟨0,s.nodes,((s.nodes.n:Nat):Int),(0:Int),s⟩:b.ef) = .out (.exit 0) ⟨0,s.nodes,((s.nodes.n:Nat):Int),((s.nodes.n:Nat):Int),s⟩/\∀ i,i < s.nodes.n->Qf s i)\/
  ∃ x',goN b.fg (⟨0,s.nodes,((s.nodes.n:Nat):Int),(0:Int),s⟩:b.ef) = .out .ret x'/\x'.t2=8/\∃ i,i < s.nodes.n/\¬ Qf s i:=by
 have hn:=mr.2.2.2.1;exact lD (step:=b.fg) s.nodes.n (by unfold gI; omega) (fun j=>⟨0,s.nodes,((s.nodes.n:Nat):Int),(j:Int),s⟩) (fun k=>Qf s k) (e0:=.exit 0) (er:=.ret) rfl rfl (fun x'=>x'.t2=8) (xe:=⟨0,s.nodes,((s.nodes.n:Nat):Int),((s.nodes.n:Nat):Int),s⟩) (fun j hj=>by
  have e1:bB ((j:Int)+1)=((j+1:Nat):Int):=by rw [eE (by omega) (by omega)]; omega
  have d1:decide ((j:Int) < ((s.nodes.n:Nat):Int))=true:=aq (by omega);have d2:decide ((0:Int)<=(j:Int))=true:=aq (by omega);have d3:decide ((j:Int) < ((s.graph.b5.ct.n:Nat):Int))=true:=aq (by omega);have d4:decide ((j:Int) < ((s.graph.kids.n:Nat):Int))=true:=aq (by omega);have ej:Int.toNat (j:Int)=j:=rfl;obtain ⟨amb,CT⟩:=mr.1 j hj;unfold b.fg b.jM b.tL b.tM
  dsimp only
  rw [ej];obtain ⟨r,q1,q2⟩:=WJ (s.nodes.get j) aeK CT;obtain ⟨e,g1,g2⟩:=aeI s (s.nodes.get j) amb CT;unfold aeK YF YG agA at q1;rw [d1,d2,d3,d4,e1,q1,g1];unfold Qf;cases hl:(s.graph.b5.ct.get j).live with
  | false=>
   simp only [cY,ah,ay,nj,iB,Bool.not_false,Bool.not_true];cases r with
   | true=>
    have hz:=q2.1 rfl;have h0:(s.nodes.get j).kind=0:=hz.1;exact ⟨fun _=>rfl,fun k=>absurd ⟨fun h=>by simp at h,fun _=>hz,fun h=>by omega⟩ k⟩
   | false=>exact ⟨fun k=>by have:=q2.2 (k.2.1 trivial); simp at this,fun _=>⟨_,rfl,rfl⟩⟩
  | true=>
   simp only [cY,ah,ay,nj,iB,Bool.not_false,Bool.not_true];rcases g2 with ⟨g3,g4⟩ | ⟨g3,g4⟩
   ·rw [g3]
    have:((0:Int) != 0)=false:=rfl;rw [this,ay];by_cases h5:(s.nodes.get j).kind=5
    ·rw [rC.2 h5,ah]
     by_cases hk:(((s.graph.kids.get j).n:Nat):Int) > 0
     ·rw [aq hk]
      exact ⟨fun k=>absurd (k.2.2 h5) (by omega),fun _=>⟨_,rfl,rfl⟩⟩
     ·rw [bu hk]
      exact ⟨fun _=>rfl,fun k=>absurd ⟨fun _=>g4,fun h=>by simp at h,fun _=>by omega⟩ k⟩
    ·have:((s.nodes.get j).kind==(5:Int))=false:=by rw [<- Bool.not_eq_true,S3]; exact h5
     rw [this,ay];exact ⟨fun _=>rfl,fun k=>absurd ⟨fun _=>g4,fun h=>by simp at h,fun h=>absurd h h5⟩ k⟩
   ·rw [g3]
    exact ⟨fun k=>absurd (k.1 trivial) g4,fun _=>⟨_,rfl,rfl⟩⟩) (by
  unfold b.fg b.jM
  dsimp only
  rw [bu (Int.lt_irrefl _)];rfl)
theorem aj8 (h:b.Handle):((h.slot==(0:Int))&&((h.gen==(0:Int))&&true))=true↔h=vu:=by
 obtain ⟨x,y⟩:=h;unfold vu;simp
theorem aeM {s:b.aE} (hg:mL s.graph) (h:b.Handle):b.de s.graph.b5 h=some (decide (b.de s.graph.b5 h=some true))/\(b.de s.graph.b5 h=some true↔iW s.graph.b5 h):=by
 obtain ⟨r,q1,q2⟩:=SX s.graph.b5 h;have ha:=((Fv s.graph).1 hg).1;rw [q1];cases r with
 | true=>exact ⟨rfl,fun _=>(q2.1 rfl).2,fun _=>rfl⟩
 | false=>exact ⟨rfl,fun k=>by simp at k,fun k=>by have:=q2.2 ⟨ha,k⟩; simp at this⟩
open Classical in
theorem NQ (s:b.aE) (mr:Fw s):∃ e,b.lJ s=some e/\(e=0/\kh s\/e=8/\¬ kh s):=by
 unfold b.lJ b.tr b.tq b.Ab b.Ac;have hq:b.Cb s.graph=some (if mL s.graph then 0 else 8):=ac4 s.graph;rw [hq];simp only [nj,iB,ah];by_cases hg:mL s.graph
 ·rw [ax hg]
  have hlen:=((Fv s.graph).1 hg).2.1;refine Ec neI (fun h=>absurd rfl h) fun _=>?_;refine Ec neI (fun h k=>h (by rw [k.2.1])) fun k1=>?_;refine Ec Qe (fun h k=>by have:=k.2.2.1.1; omega) fun k2=>?_;unfold b.uG;rcases aaD s.fE (by omega) mr.2.1 with ⟨x',q1,q2⟩ | ⟨x',q1,q2,i,q3,q4⟩
  ·rw [q1]
   simp only [ba.qI,ba.nL];have ex:vG (.exit 0) (.exit 0)=true:=rfl;rw [ex,ah];refine Ec Qe (fun h k=>by have:=k.2.2.1.2.1; omega) fun k3=>?_;unfold b.uH;rcases aeL s.iR (by omega) with ⟨y',r1,r2⟩ | ⟨y',r1,r2,i,r3,r4⟩
   ·rw [r1]
    simp only [ba.qI,ba.nL];rw [ex,ah];unfold b.kO;rcases ac5 s mr (by omega) hlen with ⟨s1,s2⟩ | ⟨z',s1,s2,i,s3,s4⟩
    ·rw [s1]
     simp only [ba.qI,ba.nL];rw [ex,ah];obtain ⟨t1,t2⟩:=aeM hg s.root;by_cases hr:s.root=vu
     ·rw [(ac1 (aj8 s.root) |> fun h=>by rw [<- Bool.not_eq_true,h]; exact fun k=>k hr:(!((s.root.slot==(0:Int))&&((s.root.gen==(0:Int))&&true)))=false)]
      exact ⟨0,rfl,.inl ⟨rfl,hg,by omega,⟨by omega,by omega,q2,r2⟩,s2,.inl hr⟩⟩
     ·rw [(ac1 (aj8 s.root)).2 hr]
      rw [t1];simp only [nj,iB,ah];refine Ec (ac1 Qe) (fun h k=>by
       rcases k.2.2.2.2 with g | g
       ·exact hr g
       ·exact h (t2.2 g)) fun k5=>?_
      exact ⟨0,rfl,.inl ⟨rfl,hg,by omega,⟨by omega,by omega,q2,r2⟩,s2,.inr (t2.1 (Classical.byContradiction k5))⟩⟩
    ·rw [s1]
     exact ⟨z'.t2,rfl,.inr ⟨s2,fun k=>s4 (k.2.2.2.1 i s3)⟩⟩
   ·rw [r1]
    simp only [ba.qI,ba.nL,r2,decide_true];exact ⟨8,rfl,.inr ⟨rfl,fun k=>r4 (k.2.2.1.2.2.2 i r3)⟩⟩
  ·rw [q1]
   simp only [ba.qI,ba.nL,q2,decide_true];exact ⟨8,rfl,.inr ⟨rfl,fun k=>q4 (k.2.2.1.2.2.1 i q3)⟩⟩
 ·rw [ae hg]
  exact ⟨8,rfl,.inr ⟨rfl,fun k=>hg k.1⟩⟩
theorem dk {α:Type} (s:Sl α) (i:Nat) (v:α):(s.set i v).get i=v:=by
 unfold Sl.set;show cond (Nat.beq i i) v (s.get i)=v;rw [p8];rfl
theorem cX {α:Type} (s:Sl α) {i j:Nat} (v:α) (h:j≠i):(s.set i v).get j=s.get j:=by
 unfold Sl.set;show cond (Nat.beq j i) v (s.get j)=s.get j;have:Nat.beq j i=false:=by
  cases q:Nat.beq j i with
  | false=>rfl
  | true=>exact absurd (aD q) h
 rw [this];rfl
def xK (g:b.gq) (M:Nat->Int) (i:Nat):Nat->Int
 | 0=>1
 | k+1=>if 0<=((g.kids.get i).get k).slot/\((g.kids.get i).get k).slot < (g.kids.n:Int) then min (xK g M i k+M ((g.kids.get i).get k).slot.toNat) 100000 else xK g M i k
theorem NR (g:b.gq) (M:Nat->Int) (i k:Nat):xK g M i (k+1)=if 0<=((g.kids.get i).get k).slot/\((g.kids.get i).get k).slot < (g.kids.n:Int) then min (xK g M i k+M ((g.kids.get i).get k).slot.toNat) 100000 else xK g M i k:=rfl
def Qg (g:b.gq):Nat->Nat->Int
 | 0,_=>0
 | t+1,i=>xK g (Qg g t) i (min (g.kids.get i).n 1000)
theorem WL {g:b.gq} {M:Nat->Int} (hM:∀ j,0<=M j) (i:Nat):∀ k,1<=xK g M i k/\xK g M i k<=100000
 | 0=>⟨Int.le_refl _,by show (1:Int)<=100000; omega⟩
 | k+1=>by
  have:=WL hM (g:=g) i k;have hm:=hM ((g.kids.get i).get k).slot.toNat;unfold xK;split
  ·exact ⟨by omega,by omega⟩
  ·exact this
theorem ac6 (g:b.gq):∀ t i,0<=Qg g t i/\Qg g t i<=100000
 | 0,i=>⟨Int.le_refl _,by show (0:Int)<=100000; omega⟩
 | t+1,i=>by
  have:=WL (g:=g) (fun j=>(ac6 g t j).1) i (min (g.kids.get i).n 1000);show 0<=xK _ _ _ _/\xK _ _ _ _<=100000;omega
theorem aeN (s:b.aE) (M:Nat->Int) (hM:∀ j,0<=M j/\M j<=100000) (t2:Bool) (many nx:Sl Int) (step:Int) (i:Nat) (hi:i < s.graph.kids.n) (hm:many.n=s.graph.kids.n) (hx:nx.n=s.graph.kids.n) (h1:nx.get i=1) (RK:∀ j,j < s.graph.kids.n->many.get j=M j) :
  ∃ xq kk,goN b.fO (⟨t2,((s.graph.kids.n:Nat):Int),many,step,nx,(i:Int),(0:Int),s⟩:b.eH) = .out (.exit 4) ⟨t2,((s.graph.kids.n:Nat):Int),many,step,xq,(i:Int),kk,s⟩/\xq.n=s.graph.kids.n/\xq.get i=xK s.graph M i (min (s.graph.kids.get i).n 1000)/\∀ j,j≠i->xq.get j=nx.get j:=by
 obtain ⟨e,x',h2,he,xq,kk,h3,h4⟩:=ku (step:=b.fO)
  (fun k x=>∃ q:Sl Int,x=⟨t2,((s.graph.kids.n:Nat):Int),many,step,q,(i:Int),(k:Int),s⟩/\q.n=s.graph.kids.n/\q.get i=xK s.graph M i k/\∀ j,j≠i->q.get j=nx.get j)
  (fun e x'=>e = .exit 4/\∃ xq kk,x' = ⟨t2,((s.graph.kids.n:Nat):Int),many,step,xq,(i:Int),kk,s⟩/\xq.n=s.graph.kids.n/\xq.get i=xK s.graph M i (min (s.graph.kids.get i).n 1000)/\∀ j,j≠i->xq.get j=nx.get j)
  (min (s.graph.kids.get i).n 1000) (by unfold gI; omega) (by
   rintro k _ hk ⟨q,rfl,hq,hqi,XE⟩;have ei:Int.toNat (i:Int)=i:=rfl;have ek:Int.toNat (k:Int)=k:=rfl;have d1:decide ((0:Int)<=(i:Int))=true:=aq (by omega);have d2:decide ((i:Int) < ((s.graph.kids.n:Nat):Int))=true:=aq (by omega);have d3:decide ((i:Int) < ((q.n:Nat):Int))=true:=aq (by omega);have d4:decide ((0:Int)<=(k:Int))=true:=aq (by omega);unfold b.fO b.kd
   dsimp only
   rw [ei,ek,d1,d2,d3,d4];simp only [cY,yD,uh,ah,fj,bG];by_cases ot:(k:Int) < (((s.graph.kids.get i).n:Nat):Int)
   ·rw [aq ot]
    by_cases KL:(k:Int) < 1000
    ·rw [aq KL]
     simp only [ah];have e1:bB ((k:Int)+1)=((k+1:Nat):Int):=by rw [eE (by omega) (by omega)]; omega
     rw [e1];refine .inl ?_;by_cases g1:0<=((s.graph.kids.get i).get k).slot
     ·by_cases g2:((s.graph.kids.get i).get k).slot < ((s.graph.kids.n:Nat):Int)
      ·have g3:((s.graph.kids.get i).get k).slot < ((many.n:Nat):Int):=by rw [hm]; exact g2
       have ed:decide (((s.graph.kids.get i).get k).slot >= 0)=true:=aq g1;rw [ed,aq g2,aq g3];simp only [cY,ah];refine ⟨_,rfl,by omega,_,rfl,hq,?_,fun j hj=>?_⟩
       ·rw [dk,hqi,RK _ (by omega)]
        have b1:=WL (g:=s.graph) (fun j=>(hM j).1) i k;have b2:=hM ((s.graph.kids.get i).get k).slot.toNat;rw [eE (by omega) (by omega),NR,ax ⟨g1,g2⟩]
       ·rw [cX _ _ hj]; exact XE j hj
      ·have ed:decide (((s.graph.kids.get i).get k).slot >= 0)=true:=aq g1
       rw [ed,bu g2];simp only [ah,ay];refine ⟨_,rfl,by omega,_,rfl,hq,?_,XE⟩;rw [hqi,NR,ae fun h=>g2 h.2]
     ·have ed:decide (((s.graph.kids.get i).get k).slot >= 0)=false:=bu g1
      rw [ed];simp only [ay];refine ⟨_,rfl,by omega,_,rfl,hq,?_,XE⟩;rw [hqi,NR,ae fun h=>g1 h.1]
    ·rw [bu KL]
     have:k=min (s.graph.kids.get i).n 1000:=by omega
     exact .inr ⟨_,_,rfl,rfl,rfl,q,_,rfl,hq,by rw [<- this]; exact hqi,XE⟩
   ·rw [bu ot]
    have:k=min (s.graph.kids.get i).n 1000:=by omega
    exact .inr ⟨_,_,rfl,rfl,rfl,q,_,rfl,hq,by rw [<- this]; exact hqi,XE⟩
   ) (x:=⟨t2,((s.graph.kids.n:Nat):Int),many,step,nx,(i:Int),(0:Int),s⟩) ⟨nx,rfl,hx,h1,fun _ _=>rfl⟩
 ·subst he h3; exact ⟨xq,kk,h2,h4⟩
theorem aj9 (s:b.aE) (M:Nat->Int) (hM:∀ j,0<=M j/\M j<=100000) (hn:s.graph.kids.n<=300) (t2:Bool) (many nx:Sl Int) (step:Int) (hm:many.n=s.graph.kids.n) (hx:nx.n=s.graph.kids.n) (RK:∀ j,j < s.graph.kids.n->many.get j=M j) :
  (∃ xq,goN b.fZ (⟨t2,((s.graph.kids.n:Nat):Int),many,step,nx,(0:Int),s⟩:b.fS) = .out (.exit 2) ⟨t2,((s.graph.kids.n:Nat):Int),many,step,xq,((s.graph.kids.n:Nat):Int),s⟩/\xq.n=s.graph.kids.n/\∀ j,j < s.graph.kids.n->xq.get j=xK s.graph M j (min (s.graph.kids.get j).n 1000)/\xq.get j<=10000)\/
  ∃ x',goN b.fZ (⟨t2,((s.graph.kids.n:Nat):Int),many,step,nx,(0:Int),s⟩:b.fS) = .out .ret x'/\x'.t2=true/\x'.many=many:=by
 obtain ⟨e,x',h2,h3⟩:=ku (step:=b.fZ)
  (fun k x=>∃ q:Sl Int,x=⟨t2,((s.graph.kids.n:Nat):Int),many,step,q,(k:Int),s⟩/\q.n=s.graph.kids.n/\∀ j,j < k->q.get j=xK s.graph M j (min (s.graph.kids.get j).n 1000)/\q.get j<=10000)
  (fun e x'=>(e = .exit 2/\∃ xq,x' = ⟨t2,((s.graph.kids.n:Nat):Int),many,step,xq,((s.graph.kids.n:Nat):Int),s⟩/\xq.n=s.graph.kids.n/\∀ j,j < s.graph.kids.n->xq.get j=xK s.graph M j (min (s.graph.kids.get j).n 1000)/\xq.get j<=10000)\/(e = .ret/\x'.t2=true/\x'.many=many))
  s.graph.kids.n (by unfold gI; omega) (by
   rintro k _ hk ⟨q,rfl,hq,XE⟩;have ek:Int.toNat (k:Int)=k:=rfl;have d1:decide ((0:Int)<=(k:Int))=true:=aq (by omega);unfold b.fZ b.aL
   dsimp only
   rw [ek,d1];simp only [cY,yD,uh,ah,fj,bG];by_cases aJ:(k:Int) < ((s.graph.kids.n:Nat):Int)
   ·have d2:decide ((k:Int) < ((q.n:Nat):Int))=true:=aq (by omega)
    rw [aq aJ,d2];simp only [ah];obtain ⟨xq,kk,r1,r2,r3,r4⟩:=aeN s M hM t2 many (q.set k 1) step k (by omega) hm hq (dk q k 1) RK;rw [r1];rw [ba.nL];simp only [ba.qI,fj,ah];have ex:vG (.exit 4) (.exit 4)=true:=rfl;have d3:decide ((k:Int) < ((xq.n:Nat):Int))=true:=aq (by omega);rw [ex,d1,d3,ek];simp only [cY,ah];by_cases hb:xq.get k > 10000
    ·rw [aq hb]
     exact .inr ⟨_,_,rfl,rfl,.inr ⟨rfl,rfl,rfl⟩⟩
    ·rw [bu hb]
     have e1:bB ((k:Int)+1)=((k+1:Nat):Int):=by rw [eE (by omega) (by omega)]; omega
     rw [e1];refine .inl ⟨_,rfl,by omega,xq,rfl,r2,fun j hj=>?_⟩;by_cases Tg:j=k
     ·subst Tg; exact ⟨r3,by omega⟩
     ·rw [r4 j Tg,cX _ _ Tg]; exact XE j (by omega)
   ·have:k=s.graph.kids.n:=by omega
    subst this;rw [bu aJ];exact .inr ⟨_,_,rfl,rfl,.inl ⟨rfl,q,rfl,hq,XE⟩⟩
   ) (x:=⟨t2,((s.graph.kids.n:Nat):Int),many,step,nx,(0:Int),s⟩) ⟨nx,rfl,hx,fun j hj=>absurd hj (nF j)⟩
 ·rcases h3 with ⟨rfl,xq,rfl,h4⟩ | ⟨rfl,h4⟩
  ·exact .inl ⟨xq,h2,h4⟩
  ·exact .inr ⟨x',h2,h4⟩
def ac7 (g:b.gq):Prop:=g.kids.n<=300/\∀ t,t<=18->∀ i,i < g.kids.n->Qg g t i<=10000
theorem aeO (s:b.aE):∃ r,b.vH s=some r/\(r=false->ac7 s.graph):=by
 unfold b.vH b.yS;by_cases hn:((s.graph.kids.n:Nat):Int) > 300
 ·rw [aq hn]; exact ⟨true,rfl,fun h=>by simp at h⟩
 rw [bu hn];have en:Int.toNat ((s.graph.kids.n:Nat):Int)=s.graph.kids.n:=rfl;have d1:decide (((s.graph.kids.n:Nat):Int)<=((s.graph.kids.n:Nat):Int))=true:=aq (Int.le_refl _);have d2:Nat.ble (8 * s.graph.kids.n) 281474976710656=true:=by rw [Nat.ble_eq]; omega
 rw [en,d1,d2];simp only [cY,ah,ay,fj];obtain ⟨e,x',h2,h3⟩:=ku (step:=b.lz)
  (fun t x=>∃ q:Sl Int,x=⟨false,((s.graph.kids.n:Nat):Int),q,(t:Int),s⟩/\q.n=s.graph.kids.n/\(∀ j,j < s.graph.kids.n->q.get j=Qg s.graph t j)/\∀ t',t'<=t->∀ j,j < s.graph.kids.n->Qg s.graph t' j<=10000)
  (fun e x'=>(e = .exit 0/\∀ t',t'<=18->∀ j,j < s.graph.kids.n->Qg s.graph t' j<=10000)\/(e = .ret/\x'.t2=true))
  18 (by unfold gI; omega) (by
   rintro t _ ht ⟨q,rfl,hq,XE,hqb⟩;unfold b.lz b.cO
   dsimp only
   have d0:decide ((0:Int)<=((s.graph.kids.n:Nat):Int))=true:=aq (by omega);rw [en,d0,d1,d2];simp only [cY,ah,fj];by_cases aJ:(t:Int) < 18
   ·rw [aq aJ,ah]
    rcases aj9 s (Qg s.graph t) (ac6 s.graph t) (by omega) false q ⟨s.graph.kids.n,fun _=>0⟩ (t:Int) hq rfl XE with ⟨xq,r1,r2,r3⟩ | ⟨x',r1,r2,r3⟩
    ·rw [r1]
     simp only [ba.qI,ba.nL,fj];have e1:bB ((t:Int)+1)=((t+1:Nat):Int):=by rw [eE (by omega) (by omega)]; omega
     rw [e1];refine .inl ⟨_,rfl,by omega,xq,rfl,r2,fun j hj=>(r3 j hj).1,fun t' wh j hj=>?_⟩;by_cases htt:t' = t+1
     ·subst htt
      have:=r3 j hj;show xK s.graph (Qg s.graph t) j _<=10000;omega
     ·exact hqb t' (by omega) j hj
    ·rw [r1]
     simp only [ba.qI,ba.nL,fj];exact .inr ⟨_,_,rfl,rfl,.inr ⟨rfl,r2⟩⟩
   ·have:t=18:=by omega
    subst this;rw [bu aJ];exact .inr ⟨_,_,rfl,rfl,.inl ⟨rfl,hqb⟩⟩
   ) (x:=⟨false,((s.graph.kids.n:Nat):Int),⟨s.graph.kids.n,fun _=>0⟩,(0:Int),s⟩) ⟨_,rfl,rfl,fun _ _=>rfl,fun t' ht j hj=>by
   have:t' = 0:=by omega
   subst this;show (0:Int)<=10000;omega⟩
 ·rw [h2]
  rcases h3 with ⟨rfl,h3⟩ | ⟨rfl,h3⟩
  ·exact ⟨false,rfl,fun _=>⟨by omega,h3⟩⟩
  ·exact ⟨x'.t2,rfl,fun h=>by rw [h3] at h; simp at h⟩
theorem XF (g:b.gq):∃ r,b.oA g=some r/\(r=false->g.b5.ct.n<=200/\g.kids.n<=200):=by
 unfold b.oA b.wS;by_cases h1:((g.b5.ct.n:Nat):Int) > 200
 ·rw [aq h1]; exact ⟨true,rfl,fun h=>by simp at h⟩
 rw [bu h1];by_cases h2:((g.kids.n:Nat):Int) > 200
 ·rw [aq h2]; exact ⟨true,rfl,fun h=>by simp at h⟩
 rw [bu h2];simp only [ay];obtain ⟨e,x',q1,q2⟩:=ku (step:=b.ki)
  (fun t x=>∃ m:Int,x=⟨false,m,(t:Int),g⟩)
  (fun e x'=>e = .exit 0\/e = .ret)
  g.kids.n (by unfold gI; omega) (by
   rintro t _ ht ⟨m,rfl⟩;have et:Int.toNat (t:Int)=t:=rfl;have d1:decide ((0:Int)<=(t:Int))=true:=aq (by omega);unfold b.ki
   dsimp only
   rw [et,d1];by_cases aJ:(t:Int) < ((g.kids.n:Nat):Int)
   ·rw [aq aJ]
    simp only [cY,ah];have e1:bB ((t:Int)+1)=((t+1:Nat):Int):=by rw [eE (by omega) (by omega)]; omega
    rw [e1];by_cases hb:bB (m+(((g.kids.get t).n:Nat):Int)) > 400
    ·rw [aq hb]
     exact .inr ⟨_,_,rfl,rfl,.inr rfl⟩
    ·rw [bu hb]
     exact .inl ⟨_,rfl,by omega,_,rfl⟩
   ·rw [bu aJ]
    exact .inr ⟨_,_,rfl,rfl,.inl rfl⟩) (x:=⟨false,(0:Int),(0:Int),g⟩) ⟨0,rfl⟩
 rw [q1];rcases q2 with rfl | rfl
 ·exact ⟨false,rfl,fun _=>⟨by omega,by omega⟩⟩
 ·exact ⟨x'.t2,rfl,fun _=>⟨by omega,by omega⟩⟩
theorem XG (l:Sl b.kb):∃ r,b.oD l=some r:=by
 unfold b.oD b.wW;obtain ⟨e,x',q1,q2⟩:=ku (step:=b.lA)
  (fun t x=>∃ m:Int,x=⟨l,false,m,(t:Int)⟩)
  (fun e x'=>e = .exit 0)
  100 (by unfold gI; omega) (by
   rintro t _ ht ⟨m,rfl⟩;have et:Int.toNat (t:Int)=t:=rfl;have d1:decide ((0:Int)<=(t:Int))=true:=aq (by omega);unfold b.lA
   dsimp only
   rw [et,d1];by_cases aJ:(t:Int) < ((l.n:Nat):Int)
   ·rw [aq aJ]
    simp only [cY,ah];by_cases hb:(t:Int) < 100
    ·rw [aq hb]
     have e1:bB ((t:Int)+1)=((t+1:Nat):Int):=by rw [eE (by omega) (by omega)]; omega
     rw [e1];exact .inl ⟨_,rfl,by omega,_,rfl⟩
    ·rw [bu hb]
     exact .inr ⟨_,_,rfl,rfl,rfl⟩
   ·rw [bu aJ]
    exact .inr ⟨_,_,rfl,rfl,rfl⟩) (x:=⟨l,false,(0:Int),(0:Int)⟩) ⟨0,rfl⟩
 rw [q1];subst q2;rw [ba.nL];simp only [ba.qI];by_cases h:(((x'.l.n:Nat):Int) > 40)
 ·rw [aq h]; exact ⟨true,rfl⟩
 ·rw [bu h]; exact ⟨_,rfl⟩
def ac8 (m:b.kE):Prop:=m.nU.n<=1000/\m.uV.n<=1000/\m.fc.n<=100/\∀ i,i < m.fc.n->(m.fc.get i).index.n<=1000
theorem L7 (m:b.kE):∃ r,b.qx m=some r/\(r=false->ac8 m):=by
 unfold b.qx b.wX;by_cases h1:((m.nU.n:Nat):Int) > 1000
 ·rw [aq h1]; exact ⟨true,rfl,fun h=>by simp at h⟩
 rw [bu h1];by_cases h2:((m.uV.n:Nat):Int) > 1000
 ·rw [aq h2]; exact ⟨true,rfl,fun h=>by simp at h⟩
 rw [bu h2];by_cases h3:((m.fc.n:Nat):Int) > 100
 ·rw [aq h3]; exact ⟨true,rfl,fun h=>by simp at h⟩
 rw [bu h3];simp only [ay];have key:=lD (step:=b.gu) m.fc.n (by unfold gI; omega) (fun j=>⟨false,(j:Int),m⟩) (fun k=>(m.fc.get k).index.n<=1000) (e0:=.exit 0) (er:=.ret) rfl rfl (fun x'=>x'.t2=true) (xe:=⟨false,((m.fc.n:Nat):Int),m⟩) (fun j hj=>by
  have e1:bB ((j:Int)+1)=((j+1:Nat):Int):=by rw [eE (by omega) (by omega)]; omega
  have d1:decide ((j:Int) < ((m.fc.n:Nat):Int))=true:=aq (by omega);have d2:decide ((0:Int)<=(j:Int))=true:=aq (by omega);have ej:Int.toNat (j:Int)=j:=rfl;unfold b.gu
  dsimp only
  rw [d1,d2,ej,e1];simp only [cY,ah];by_cases h:(((m.fc.get j).index.n:Nat):Int) > 1000
  ·rw [aq h]
   exact ⟨fun k=>by omega,fun _=>⟨_,rfl,rfl⟩⟩
  ·rw [bu h]
   exact ⟨fun _=>rfl,fun k=>by omega⟩) (by
  unfold b.gu
  dsimp only
  rw [bu (Int.lt_irrefl _)];rfl)
 have e0:goN b.gu (⟨false,(0:Int),m⟩:b.kG)=goN b.gu ⟨false,((0:Nat):Int),m⟩:=rfl;rw [e0];rcases key with ⟨k1,k2⟩ | ⟨x',k1,k2,_⟩
 ·rw [k1]; exact ⟨false,rfl,fun _=>⟨by omega,by omega,by omega,k2⟩⟩
 ·rw [k1]; exact ⟨x'.t2,rfl,fun h=>by rw [k2] at h; simp at h⟩
structure Few (s:b.aE):Prop where
 g6:b.oA s.graph=some false
 g9:b.oD s.iR=some false
 ways:ac7 s.graph
 ct:s.graph.b5.ct.n<=200
 kids:s.graph.kids.n<=200
 nodes:s.nodes.n<=200
 fE:s.fE.n<=60
 iR:s.iR.n<=60
 xw:∀ i,i < s.nodes.n->(s.nodes.get i).xw.n<=200
 fR:∀ i,i < s.fE.n->ac8 (s.fE.get i)
theorem stepT {p:Prop} {c:Bool} {x:Option Bool} {Q:Prop} (hc:c=true↔p) (h2 : ¬ p->∃ r,x=some r/\(r=false->Q)):∃ r,cond c (some true) x=some r/\(r=false->Q):=by
 cases c with
 | true=>exact ⟨true,rfl,fun k=>by simp at k⟩
 | false=>exact h2 fun k=>by have:=hc.2 k; simp at this
theorem ac9 (s:b.aE):∃ r,b.s5 s=some r/\(r=false->Few s):=by
 unfold b.s5 b.Cf b.Cg b.Ch b.w7 b.pF;obtain ⟨r1,q1,p1⟩:=aeO s;obtain ⟨r2,q2,p2⟩:=XF s.graph;obtain ⟨r3,q3⟩:=XG s.iR;rw [q1,q2,q3];simp only [nj,iB,ah];refine stepT Iff.rfl fun k1=>?_;refine stepT Iff.rfl fun k2=>?_;refine stepT Qe fun k3=>?_;refine stepT Qe fun k4=>?_;refine stepT Qe fun k5=>?_;refine stepT Iff.rfl fun k6=>?_;have f6:b.oA s.graph=some false:=by rw [q2]; exact congrArg some (by simpa using k2)
 have f9:b.oD s.iR=some false:=by rw [q3]; exact congrArg some (by simpa using k6)
 have p1:=p1 (by simpa using k1);have p2:=p2 (by simpa using k2);have key:=lD (step:=b.fF) s.nodes.n (by unfold gI; omega) (fun j=>⟨false,(j:Int),s⟩) (fun k=>(s.nodes.get k).xw.n<=200) (e0:=.exit 0) (er:=.ret) rfl rfl (fun x'=>x'.t2=true) (xe:=⟨false,((s.nodes.n:Nat):Int),s⟩) (fun j hj=>by
  have e1:bB ((j:Int)+1)=((j+1:Nat):Int):=by rw [eE (by omega) (by omega)]; omega
  have d1:decide ((j:Int) < ((s.nodes.n:Nat):Int))=true:=aq (by omega);have d2:decide ((0:Int)<=(j:Int))=true:=aq (by omega);have ej:Int.toNat (j:Int)=j:=rfl;unfold b.fF
  dsimp only
  rw [d1,d2,ej,e1];simp only [cY,ah];by_cases h:(((s.nodes.get j).xw.n:Nat):Int) > 200
  ·rw [aq h]
   exact ⟨fun k=>by omega,fun _=>⟨_,rfl,rfl⟩⟩
  ·rw [bu h]
   exact ⟨fun _=>rfl,fun k=>by omega⟩) (by
  unfold b.fF
  dsimp only
  rw [bu (Int.lt_irrefl _)];rfl)
 have e0:goN b.fF (⟨false,(0:Int),s⟩:b.jL)=goN b.fF ⟨false,((0:Nat):Int),s⟩:=rfl;rw [e0];rcases key with ⟨g1,g2⟩ | ⟨x',g1,g2,_⟩
 ·rw [g1]
  simp only [ba.nL];have key:=lD (step:=b.fG) s.fE.n (by unfold gI; omega) (fun j=>⟨false,(j:Int),s⟩) (fun k=>b.qx (s.fE.get k)=some false) (e0:=.exit 2) (er:=.ret) rfl rfl (fun x'=>x'.t2=true) (xe:=⟨false,((s.fE.n:Nat):Int),s⟩) (fun j hj=>by
   have e1:bB ((j:Int)+1)=((j+1:Nat):Int):=by rw [eE (by omega) (by omega)]; omega
   have d1:decide ((j:Int) < ((s.fE.n:Nat):Int))=true:=aq (by omega);have d2:decide ((0:Int)<=(j:Int))=true:=aq (by omega);have ej:Int.toNat (j:Int)=j:=rfl;obtain ⟨r,m1,_⟩:=L7 (s.fE.get j);unfold b.fG b.va
   dsimp only
   rw [d1,d2,ej,e1,m1];cases r with
   | true=>exact ⟨fun k=>by simp at k,fun _=>⟨_,rfl,rfl⟩⟩
   | false=>exact ⟨fun _=>rfl,fun k=>absurd rfl k⟩) (by
   unfold b.fG
   dsimp only
   rw [bu (Int.lt_irrefl _)];rfl)
  have e0:goN b.fG (⟨false,(0:Int),s⟩:b.iU)=goN b.fG ⟨false,((0:Nat):Int),s⟩:=rfl;rw [e0];rcases key with ⟨f1,f2⟩ | ⟨x',f1,f2,_⟩
  ·rw [f1]
   refine ⟨false,rfl,fun _=>⟨f6,f9,p1,p2.1,p2.2,by omega,by omega,by omega,g2,fun i hi=>?_⟩⟩;obtain ⟨r,m1,m2⟩:=L7 (s.fE.get i);rw [f2 i hi] at m1;exact m2 (yz m1).symm
  ·rw [f1]; exact ⟨x'.t2,rfl,fun h=>by rw [f2] at h; simp at h⟩
 ·rw [g1]; exact ⟨x'.t2,rfl,fun h=>by rw [g2] at h; simp at h⟩
theorem CB (a c:b.Handle):((a.slot==c.slot)&&((a.gen==c.gen)&&true))=true↔a=c:=by
 obtain ⟨a0,a1⟩:=a;obtain ⟨c0,c1⟩:=c;simp
theorem heq_spec (a c:Sl b.Handle) (hn:a.n < 1000000):∃ r,b.Ct a c=some r/\(r=true↔JN a c):=by
 unfold b.Ct b.oI;by_cases hq:a.n=c.n
 ·have bx:(((a.n:Nat):Int) != ((c.n:Nat):Int))=false:=by simp [hq]
  rw [bx,ay];have key:=lD (step:=b.gT) a.n (by unfold gI; omega) (fun j=>⟨a,c,false,((a.n:Nat):Int),(j:Int)⟩) (fun j=>a.get j=c.get j) (e0:=.exit 0) (er:=.ret) rfl rfl (fun x'=>x'.t4=false) (xe:=⟨a,c,false,((a.n:Nat):Int),((a.n:Nat):Int)⟩) (fun j hj=>by
   have e1:bB ((j:Int)+1)=((j+1:Nat):Int):=by rw [eE (by omega) (by omega)]; omega
   have d1:decide ((j:Int) < ((a.n:Nat):Int))=true:=aq (by omega);have d2:decide ((0:Int)<=(j:Int))=true:=aq (by omega);have d3:decide ((j:Int) < ((c.n:Nat):Int))=true:=aq (by omega);have ej:Int.toNat (j:Int)=j:=rfl;unfold b.gT
   dsimp only
   rw [d1,d2,d3,ej,e1];simp only [cY,ah];by_cases h1:a.get j=c.get j
   ·rw [(CB (a.get j) (c.get j)).2 h1]
    exact ⟨fun _=>rfl,fun h=>absurd h1 h⟩
   ·have:(((a.get j).slot==(c.get j).slot)&&(((a.get j).gen==(c.get j).gen)&&true))=false:=by rw [<- Bool.not_eq_true,CB]; exact h1
    rw [this];exact ⟨fun h=>absurd h h1,fun _=>⟨_,rfl,rfl⟩⟩) (by
   unfold b.gT
   dsimp only
   rw [bu (Int.lt_irrefl _)];rfl)
  have e0:goN b.gT (⟨a,c,false,((a.n:Nat):Int),(0:Int)⟩:b.nK)=goN b.gT ⟨a,c,false,((a.n:Nat):Int),((0:Nat):Int)⟩:=rfl;rw [e0];rcases key with ⟨h1,h2⟩ | ⟨x',h1,h2,j,h3,h4⟩
  ·rw [h1]
   exact ⟨true,rfl,⟨fun _=>⟨hq,h2⟩,fun _=>rfl⟩⟩
  ·rw [h1]
   exact ⟨x'.t4,rfl,⟨fun h=>by rw [h2] at h; simp at h,fun h=>absurd (h.2 j h3) h4⟩⟩
 ·have bx:(((a.n:Nat):Int) != ((c.n:Nat):Int))=true:=by simp; omega
  rw [bx,ah];exact ⟨false,rfl,⟨fun h=>by simp at h,fun h=>absurd h.1 hq⟩⟩
theorem aeP (a c:Sl b.Handle) (hn:a.n < 1000000):∃ r,b.lC a c=some r/\(r=true↔JN a c):=by
 unfold b.lC b.oO;by_cases hq:a.n=c.n
 ·have bx:(((a.n:Nat):Int) != ((c.n:Nat):Int))=false:=by simp [hq]
  rw [bx,ay];have key:=lD (step:=b.dQ) a.n (by unfold gI; omega) (fun j=>⟨a,c,false,(j:Int)⟩) (fun j=>a.get j=c.get j) (e0:=.exit 0) (er:=.ret) rfl rfl (fun x'=>x'.t4=false) (xe:=⟨a,c,false,((a.n:Nat):Int)⟩) (fun j hj=>by
   have e1:bB ((j:Int)+1)=((j+1:Nat):Int):=by rw [eE (by omega) (by omega)]; omega
   have d1:decide ((j:Int) < ((a.n:Nat):Int))=true:=aq (by omega);have d2:decide ((0:Int)<=(j:Int))=true:=aq (by omega);have d3:decide ((j:Int) < ((c.n:Nat):Int))=true:=aq (by omega);have ej:Int.toNat (j:Int)=j:=rfl;unfold b.dQ
   dsimp only
   rw [d1,d2,d3,ej,e1];simp only [cY,ah];by_cases h1:a.get j=c.get j
   ·rw [(CB (a.get j) (c.get j)).2 h1]
    exact ⟨fun _=>rfl,fun h=>absurd h1 h⟩
   ·have:(((a.get j).slot==(c.get j).slot)&&(((a.get j).gen==(c.get j).gen)&&true))=false:=by rw [<- Bool.not_eq_true,CB]; exact h1
    rw [this];exact ⟨fun h=>absurd h h1,fun _=>⟨_,rfl,rfl⟩⟩) (by
   unfold b.dQ
   dsimp only
   rw [bu (Int.lt_irrefl _)];rfl)
  have e0:goN b.dQ (⟨a,c,false,(0:Int)⟩:b.fy)=goN b.dQ ⟨a,c,false,((0:Nat):Int)⟩:=rfl;rw [e0];rcases key with ⟨h1,h2⟩ | ⟨x',h1,h2,j,h3,h4⟩
  ·rw [h1]
   exact ⟨true,rfl,⟨fun _=>⟨hq,h2⟩,fun _=>rfl⟩⟩
  ·rw [h1]
   exact ⟨x'.t4,rfl,⟨fun h=>by rw [h2] at h; simp at h,fun h=>absurd (h.2 j h3) h4⟩⟩
 ·have bx:(((a.n:Nat):Int) != ((c.n:Nat):Int))=true:=by simp; omega
  rw [bx,ah];exact ⟨false,rfl,⟨fun h=>by simp at h,fun h=>absurd h.1 hq⟩⟩
def RL (s:b.aE) (kids:Sl Int):Nat->b.Handle
 | 0=>s.root
 | j+1=>(s.graph.kids.get (RL s kids j).slot.toNat).get (kids.get j).toNat
def Qh (s:b.aE) (kids:Sl Int) (j:Nat):Prop:=0<=kids.get j/\kids.get j < ((s.graph.kids.get (RL s kids j).slot.toNat).n:Int)
def RM (s:b.aE) (kids:Sl Int):Prop:=∀ j,j < kids.n->Qh s kids j
def KH (s:b.aE) (kids:Sl Int) (l:Sl b.Handle):Prop:=l.n=kids.n+1/\∀ i,i<=kids.n->l.get i=RL s kids i
theorem RN {s:b.aE} (hs:kh s) {h:b.Handle} (hh:iW s.graph.b5 h) {k:Nat} (hk:k < (s.graph.kids.get h.slot.toNat).n):iW s.graph.b5 ((s.graph.kids.get h.slot.toNat).get k):=by
 have hg:=(Fv s.graph).1 hs.1;refine (hg.2.2.1 h.slot.toNat ?_).2.2 k hk;have:=hh.1;have:=hh.2.1;have:=hg.2.1;omega
theorem WM {s:b.aE} (hs:kh s) (hr:s.root≠vu) (kids:Sl Int):∀ j,(∀ i,i < j->Qh s kids i)->iW s.graph.b5 (RL s kids j)
 | 0,_=>by
  rcases hs.2.2.2.2 with h | h
  ·exact absurd h hr
  ·exact h
 | j+1,h=>by
  have h1:=WM hs hr kids j fun i hi=>h i (by omega);have h2:=h j (by omega);exact RN hs h1 (by have:=h2.1; have:=h2.2; omega)
theorem CC {s:b.aE} (hs:kh s) {h:b.Handle} (hh:iW s.graph.b5 h):0<=h.slot/\h.slot < (s.graph.kids.n:Int)/\h.slot < (s.nodes.n:Int):=by
 have hg:=(Fv s.graph).1 hs.1;have:=hh.1;have:=hh.2.1;have:=hg.2.1;have:=hs.2.1;omega
theorem aaE {s:b.aE} (hs:kh s) (hr:s.root≠vu) (kids:Sl Int) (hn:kids.n<=400) :
  ∃ p ok,b.n4 s kids=some (p,ok)/\(ok=true/\RM s kids/\KH s kids p.nodes/\p.kids=kids\/ok=false/\¬ RM s kids):=by
 unfold b.n4 b.qB b.ke b.rQ;have hc:b.qA kids=some kids:=by
  unfold b.qA zv;rw [vt (by omega) (by omega) (by omega)];rfl
 rw [hc];simp only [nj,iB,ah];by_cases h0:(0:Int) < ((kids.n:Nat):Int)
 ·rw [aq h0]
  simp only [ah];have hh:=WM hs hr kids 0 fun i hi=>absurd hi (nF i);have amV:iW s.graph.b5 s.root:=hh;obtain ⟨r1,r2,_⟩:=CC hs amV;rw [aq r1,aq r2];simp only [cY,ah];by_cases k1:kids.get 0 < 0
  ·rw [aq k1]
   exact ⟨_,_,rfl,.inr ⟨rfl,fun h=>by have:=(h 0 (by omega)).1; omega⟩⟩
  rw [bu k1];simp only [ay];by_cases k2:kids.get 0 >= (((s.graph.kids.get (Int.toNat s.root.slot)).n:Nat):Int)
  ·rw [aq k2]
   exact ⟨_,_,rfl,.inr ⟨rfl,fun h=>absurd (h 0 (by omega)).2 (by show ¬ (kids.get 0 < (((s.graph.kids.get s.root.slot.toNat).n:Nat):Int)); omega)⟩⟩
  have k3:(0:Int)<=kids.get 0:=by omega
  have k4:kids.get 0 < (((s.graph.kids.get (Int.toNat s.root.slot)).n:Nat):Int):=by omega
  rw [bu k2,aq k3,aq k4];simp only [cY,ah,ay];obtain ⟨e,x',q1,q2⟩:=ku (step:=b.iV)
   (fun r x=>∃ l:Sl b.Handle,x=⟨false,kids,((kids.n:Nat):Int),((r+1:Nat):Int),s,⟨⟨0,fun _=>⟨0,0⟩⟩,⟨0,fun _=>0⟩⟩,⟨l,kids⟩,RL s kids (r+1)⟩/\r+1<=kids.n/\(∀ i,i < r+1->Qh s kids i)/\l.n=r+2/\∀ i,i < r+2->l.get i=RL s kids i)
   (fun e x'=>(e = .exit 0/\RM s kids/\KH s kids x'.p.nodes/\x'.p.kids=kids)\/(e = .ret/\x'.t5=false/\¬ RM s kids))
   (kids.n - 1) (by unfold gI; omega) (by
    rintro r _ hj ⟨l,rfl,hrn,eU,hl,hlg⟩;have ej:Int.toNat ((r+1:Nat):Int)=r+1:=rfl;have d1:decide ((0:Int)<=((r+1:Nat):Int))=true:=aq (by omega);obtain ⟨s1,s2,_⟩:=CC hs (WM hs hr kids (r+1) eU);unfold b.iV b.kU
    dsimp only
    rw [ej,d1,aq s1,aq s2];simp only [fj,ah,cY,uh];by_cases aJ:(((r+1:Nat):Int)) < ((kids.n:Nat):Int)
    ·rw [aq aJ]
     simp only [ah];by_cases m1:kids.get (r+1) < 0
     ·rw [aq m1]
      exact .inr ⟨_,_,rfl,rfl,.inr ⟨rfl,rfl,fun h=>by have:=(h (r+1) (by omega)).1; omega⟩⟩
     rw [bu m1];by_cases m2:kids.get (r+1) >= (((s.graph.kids.get (Int.toNat (RL s kids (r+1)).slot)).n:Nat):Int)
     ·rw [aq m2]
      exact .inr ⟨_,_,rfl,rfl,.inr ⟨rfl,rfl,fun h=>by have:=(h (r+1) (by omega)).2; omega⟩⟩
     have m3:(0:Int)<=kids.get (r+1):=by omega
     have m4:kids.get (r+1) < (((s.graph.kids.get (Int.toNat (RL s kids (r+1)).slot)).n:Nat):Int):=by omega
     rw [bu m2,aq m3,aq m4,vt (by omega) (by omega) (by omega)];have e1:bB (((r+1:Nat):Int)+1)=((r+1+1:Nat):Int):=by rw [eE (by omega) (by omega)]; omega
     rw [e1];refine .inl ⟨_,rfl,by omega,_,rfl,by omega,fun i hi=>?_,by show l.n+1=r+1+2; omega,fun i hi=>?_⟩
     ·by_cases hir:i=r+1
      ·subst hir; exact ⟨m3,m4⟩
      ·exact eU i (by omega)
     ·by_cases hir:i=r+2
      ·subst hir
       rw [<- hl,Sl.Fu];rw [hl];rfl
      ·rw [Sl.KD (by omega)]
       exact hlg i (by omega)
    ·rw [bu aJ]
     have:r+1=kids.n:=by omega
     refine .inr ⟨_,_,rfl,rfl,.inl ⟨rfl,fun j hj=>eU j (by omega),⟨by show l.n=kids.n+1; omega,fun i hi=>hlg i (by omega)⟩,rfl⟩⟩
    ) (x:=⟨false,kids,((kids.n:Nat):Int),(1:Int),s,⟨⟨0,fun _=>⟨0,0⟩⟩,⟨0,fun _=>0⟩⟩,⟨(Sl.lit [s.root]).push ((s.graph.kids.get (Int.toNat s.root.slot)).get (Int.toNat (kids.get 0))),kids⟩,(s.graph.kids.get (Int.toNat s.root.slot)).get (Int.toNat (kids.get 0))⟩) ⟨_,rfl,by omega,fun i hi=>by
    have:i=0:=by omega
    subst this;exact ⟨k3,k4⟩,rfl,fun i hi=>by
    rcases (by omega:i=0\/i=1) with rfl | rfl
    ·rfl
    ·rfl⟩
  ·rw [q1]
   rcases q2 with ⟨rfl,g1,g2,g3⟩ | ⟨rfl,g1,g2⟩
   ·exact ⟨x'.p,true,rfl,.inl ⟨rfl,g1,g2,g3⟩⟩
   ·exact ⟨x'.t4,x'.t5,rfl,.inr ⟨g1,g2⟩⟩
 ·rw [bu h0]
  refine ⟨_,true,rfl,.inl ⟨rfl,fun j hj=>absurd hj (by omega),⟨by show 1=kids.n+1; omega,fun i hi=>?_⟩,rfl⟩⟩;have:i=0:=by omega
  subst this;rfl
end Go.Proofs.YtckbdndhmcoihaaGreat.sc
end
section
namespace Go.Proofs.YtckbdndhmcoihaaGreat.sc
open Go Go.K Go.vr Go.Proofs.YtckbdndhmcoihaaGreat.nodes
def Dz (s:b.aE) (i:Nat):Bool:=(s.nodes.get i).kind==5
def hH (s:b.aE) (i:Nat):Nat:=CE (dg s.graph) (ch s.graph) s.graph.kids.n i
def mH (s:b.aE) (i:Nat):Nat:=G1 (dg s.graph) (ch s.graph) (Dz s) s.graph.kids.n i
structure Down (s:b.aE):Prop where
 n:s.nodes.n=s.graph.kids.n
 small:s.graph.kids.n<=128
 inr:∀ i,i < s.graph.kids.n->∀ k,k < dg s.graph i->0<=((s.graph.kids.get i).get k).slot/\((s.graph.kids.get i).get k).slot < (s.graph.kids.n:Int)
 few:∀ i,i < s.graph.kids.n->dg s.graph i<=16
 free:vr.Ap s.graph.kids.n (dg s.graph) (ch s.graph)
theorem Down.chl {s:b.aE} (h:Down s):∀ i,i < s.graph.kids.n->∀ k,k < dg s.graph i->ch s.graph i k < s.graph.kids.n:=fun i hi k hk=>by
 have:=h.inr i hi k hk;unfold nodes.ch;omega
theorem Down.slot {s:b.aE} (h:Down s) {i k:Nat} (hi:i < s.graph.kids.n) (hk:k < dg s.graph i):((s.graph.kids.get i).get k).slot=((ch s.graph i k:Nat):Int):=by
 have:=h.inr i hi k hk;unfold nodes.ch;omega
theorem ada {s:b.aE} (hs:kh s):Down s:=by
 have hg:=(Fv s.graph).1 hs.1;have ha:=hg.1.few;have hf:=ale hg.1 hg.2.1 hg.2.2.1;exact ⟨hs.2.1,by omega,hf.inr,fun i hi=>(hg.2.2.1 i hi).1,(ahT hg.2.2.1 hg.2.1).1 hg.2.2.2⟩
theorem adb {s:b.aE} (h:Down s) {i:Nat} (hi:i < s.graph.kids.n):hH s i=Qc (fun k=>hH s (ch s.graph i k)) (dg s.graph i)+1:=ahI h.chl h.free hi
theorem ade {s:b.aE} (h:Down s) {i:Nat} (hi:i < s.graph.kids.n):mH s i=cond (Dz s i) 1 (JJ (fun k=>mH s (ch s.graph i k)) (dg s.graph i)):=ahJ _ h.chl h.free hi
theorem amW {s:b.aE} (h:Down s) {i:Nat} (hi:i < s.graph.kids.n):mH s i<=257:=by
 rw [ade h hi];cases Dz s i with
 | true=>show 1<=257; omega
 | false=>exact agx _ _
structure Kn (s:b.aE) (x:Sl Int×Sl Int):Prop where
 n1:x.1.n=s.graph.kids.n
 n2:x.2.n=s.graph.kids.n
 is:∀ j,j < s.graph.kids.n->x.1.get j=0\/x.1.get j=(hH s j:Int)/\x.2.get j=(mH s j:Int)
theorem WN {s:b.aE} (h:Down s) {i:Nat} (hi:i < s.graph.kids.n) {down:Int->Sl Int×Sl Int->Option (Sl Int×Sl Int)}
  (hd:∀ k,k < dg s.graph i->∀ x,Kn s x->∃ x',down ((ch s.graph i k:Nat):Int) x=some x'/\Kn s x'/\x'.1.get (ch s.graph i k)=(hH s (ch s.graph i k):Int)/\x'.2.get (ch s.graph i k)=(mH s (ch s.graph i k):Int)) {x:Sl Int×Sl Int} (hx:Kn s x) :
  ∀ k,k<=dg s.graph i->∃ y,b.Ad down (s.graph.kids.get i) k (0,0,x)=some y/\y.1=(Qc (fun k=>hH s (ch s.graph i k)) k:Int)/\y.2.1=(JJ (fun k=>mH s (ch s.graph i k)) k:Int)/\Kn s y.2.2
 | 0,_=>⟨_,rfl,rfl,rfl,hx⟩
 | k+1,hk=>by
  obtain ⟨y,h1,h2,h3,h4⟩:=WN h hi hd hx k (by omega);obtain ⟨z,q1,q2,q3,q4⟩:=hd k (by omega) y.2.2 h4;have es:=h.slot hi (k:=k) (by omega);have hb:=agx (fun k=>mH s (ch s.graph i k)) k;have hm:=amW h (h.chl i hi k (by omega));refine ⟨_,by unfold b.Ad; rw [h1]; show ((down _ y.2.2).bind _)=_; rw [es,q1]; rfl,?_,?_,q2⟩
  ·show max y.1 (z.1.get ((ch s.graph i k:Nat):Int).toNat)=_
   rw [rh,q3,h2,Qc];omega
  ·show min (bB (y.2.1+z.2.get ((ch s.graph i k:Nat):Int).toNat)) 257=_
   rw [rh,q4,h3,eE (by omega) (by omega),JJ];omega
theorem YH {s:b.aE} (h:Down s):∀ (f i:Nat) (x:Sl Int×Sl Int),xo (dg s.graph) (ch s.graph) f i->i < s.graph.kids.n->Kn s x->
  ∃ x',b.qC s f (i:Int) x=some x'/\Kn s x'/\x'.1.get i=(hH s i:Int)/\x'.2.get i=(mH s i:Int)
 | 0,_,_,hl,_,_=>hl.elim
 | f+1,i,x,hl,hi,hx=>by
  unfold b.qC;have d1:decide ((0:Int)<=(i:Int))=true:=aq (by omega);have d2:decide ((i:Int) < (x.1.n:Int))=true:=aq (by have:=hx.n1; omega);have d3:decide ((i:Int) < (s.graph.kids.n:Int))=true:=aq (by omega);have d4:decide ((i:Int) < (s.nodes.n:Int))=true:=aq (by have:=h.n; omega);rw [d1,d2,d3,d4];simp only [cY,ah,rh];have Aj:0 < hH s i:=by rw [adb h hi]; omega
  have hhb:hH s i<=128:=dA (NL _ _) h.small;by_cases hz:x.1.get i > 0
  ·rw [aq hz,ah]
   rcases hx.is i hi with e | e
   ·omega
   ·exact ⟨x,rfl,hx,e⟩
  ·rw [bu hz,ay]
   obtain ⟨y,h1,h2,h3,h4⟩:=WN h hi (down:=b.qC s f) (fun k hk x hx=>YH h f _ x (hl k hk) (h.chl i hi k hk) hx) hx _ (ao _);have e1:b.Ad (b.qC s f) (s.graph.kids.get i) (s.graph.kids.get i).n (0,0,x)=some y:=h1;rw [e1];have e2:bB (y.1+1)=(hH s i:Int):=by
    have:=adb h hi;rw [h2,eE (by omega) (by omega)];omega
   have e3:cond ((s.nodes.get i).kind==5) 1 y.2.1=(mH s i:Int):=by
    rw [ade h hi,h3];unfold Dz;cases (s.nodes.get i).kind==5 <;> rfl
   refine ⟨_,rfl,⟨h4.n1,h4.n2,fun j hj=>?_⟩,?_,?_⟩
   ·show (y.2.2.1.set i _).get j=0\/(y.2.2.1.set i _).get j=_/\(y.2.2.2.set i _).get j=_
    by_cases e:j=i
    ·subst e
     rw [dk,dk,e2,e3];exact .inr ⟨rfl,rfl⟩
    ·rw [cX _ _ e,cX _ _ e]
     exact h4.is j hj
   ·show (y.2.2.1.set i _).get i=_
    rw [dk,e2]
   ·show (y.2.2.2.set i _).get i=_
    rw [dk,e3]
theorem aaF {s:b.aE} (h:Down s) {r:Nat} (hr:s.root.slot=(r:Int)) (hi:r < s.graph.kids.n):∃ x,b.dE s=some x/\Kn s x/\x.1.get r=(hH s r:Int)/\x.2.get r=(mH s r:Int):=by
 unfold b.dE;rw [ax ⟨by have:=h.n; have:=h.small; omega,fun i hi=>by have:=h.few i hi; unfold dg at this; omega⟩,hr];exact YH h 250 r _ ((Qb h.chl h.free r hi).le (by have:=h.small; omega)) hi ⟨h.n,h.n,fun j _=>.inl rfl⟩
end Go.Proofs.YtckbdndhmcoihaaGreat.sc
end
section
namespace Go.vr
variable {H:Type} (dg:H->Nat) (dw:H->Nat->H) (fR:H->Bool)
def mW:Nat->H->List (List Nat)
 | 0,_=>[]
 | t+1,h=>((List.range (dg h)).flatMap fun k=>(mW t (dw h k)).map (k::·))++cond (fR h) [[]] []
abbrev St (H:Type):=List (H×Nat)×List (List (H×Nat))
def nx:St H->St H
 | ([],out)=>([],out)
 | ((h,n)::st,out)=>cond (decide (n < dg h)) ((dw h n,0)::(h,n+1)::st,out) (st,cond (fR h) (out++[(h,n)::st]) out)
def it:Nat->St H->St H
 | 0,x=>x
 | r+1,x=>it r (nx dg dw fR x)
def k8:List (H×Nat)->H->List Nat->List (H×Nat)
 | st,h,[]=>(h,dg h)::st
 | st,h,k::ks=>k8 ((h,k+1)::st) (dw h k) ks
variable {dg dw fR}
theorem G5:∀ (a c:Nat) (x:St H),it dg dw fR (a+c) x=it dg dw fR c (it dg dw fR a x)
 | 0,c,x=>by rw [bG]; rfl
 | a+1,c,x=>by
  rw [show a+1+c=(a+c)+1 by omega];exact G5 a c _
theorem aaG:∀ (r:Nat) (out:List (List (H×Nat))),it dg dw fR r ([],out)=([],out)
 | 0,_=>rfl
 | r+1,out=>aaG r out
theorem visit {C:H->Prop} (hC:∀ h,C h->∀ k,k < dg h->C (dw h k)) (hf:∀ h:H,C h->dg h<=16):∀ (t:Nat) (h:H),C h->xo dg dw t h->∀ (st:List (H×Nat)) (out:List (List (H×Nat))),
  ∃ r,r+2<=3 * 17 ^ t/\1<=r/\it dg dw fR r ((h,0)::st,out)=(st,out++(mW dg dw fR t h).map (k8 dg dw st h))
 | 0,_,_,hl,_,_=>hl.elim
 | t+1,h,hc,hl,st,out=>by
  have key:∀ k,k<=dg h->∃ r,r<=k * (3 * 17 ^ t - 1)/\it dg dw fR r ((h,0)::st,out)=((h,k)::st,out++((List.range k).flatMap fun k=>(mW dg dw fR t (dw h k)).map (k::·)).map (k8 dg dw st h)):=by
   intro k
   induction k with
   | zero=>exact fun _=>⟨0,mc _,by simp [it]⟩
   | succ k ih=>
    intro hk;obtain ⟨r,h1,h2⟩:=ih (by omega);obtain ⟨r',q1,q2,q3⟩:=visit hC hf t (dw h k) (hC h hc k (by omega)) (hl k (by omega)) ((h,k+1)::st) (out++((List.range k).flatMap fun k=>(mW dg dw fR t (dw h k)).map (k::·)).map (k8 dg dw st h));refine ⟨r+(1+r'),?_,?_⟩
    ·rw [Nat.succ_mul]; omega
    ·rw [G5,h2,G5]
     have e1:it dg dw fR 1 ((h,k)::st,out++((List.range k).flatMap fun k=>(mW dg dw fR t (dw h k)).map (k::·)).map (k8 dg dw st h))=((dw h k,0)::(h,k+1)::st,out++((List.range k).flatMap fun k=>(mW dg dw fR t (dw h k)).map (k::·)).map (k8 dg dw st h)):=by
      simp only [it,nx];rw [aq (by omega:k < dg h)];rfl
     rw [e1,q3,List.range_succ,List.flatMap_append,yA,JT];congr 2;simp only [List.flatMap_cons,List.flatMap_nil,og,List.map_map];rfl
  obtain ⟨r,h1,h2⟩:=key (dg h) (ao _);have hd:=hf h hc;refine ⟨r+1,?_,by omega,?_⟩
  ·have:dg h * (3 * 17 ^ t - 1)<=16 * (3 * 17 ^ t - 1):=Nat.mul_le_mul_right _ hd
   have hp:1<=17 ^ t:=Nat.one_le_pow _ _ (by omega);rw [Nat.pow_succ];omega
  ·rw [G5,h2]
   simp only [it,nx];rw [bu (Nat.lt_irrefl _),ay];rw [mW,yA];cases fR h with
   | true=>simp [k8]
   | false=>simp
theorem YI {α β:Type} (f:α->List β):∀ (l:List α),(l.flatMap f).length=(l.map fun x=>(f x).length).sum
 | []=>rfl
 | x::l=>by rw [List.flatMap_cons,gd,YI f l]; rfl
theorem agC (f:Nat->Nat):∀ k,JJ f k=min ((List.range k).map f).sum 257
 | 0=>rfl
 | k+1=>by
  rw [JJ,agC f k,List.range_succ,yA,List.sum_append];show min (min _ 257+f k) 257=min (_+(f k+0)) 257;omega
theorem WO {C:H->Prop} (hC:∀ h,C h->∀ k,k < dg h->C (dw h k)) (hm:∀ h:H,C h->fR h=true->dg h=0):∀ (t:Nat) (h:H),C h->G1 dg dw fR t h=min (mW dg dw fR t h).length 257
 | 0,h,_=>rfl
 | t+1,h,hc=>by
  rw [G1,mW,gd,YI];cases e:fR h with
  | true=>rw [hm h hc e]; rfl
  | false=>
   have ih:JJ (fun k=>G1 dg dw fR t (dw h k)) (dg h)=JJ (fun k=>min (mW dg dw fR t (dw h k)).length 257) (dg h):=G0 _ fun k hk=>WO hC hm t (dw h k) (hC h hc k hk);rw [ay,ih,agC];simp only [List.length_map,ay,Fz,p7];have:∀ (g:Nat->Nat) (l:List Nat),min (l.map fun k=>min (g k) 257).sum 257=min (l.map g).sum 257:=by
    intro g l
    induction l with
    | nil=>rfl
    | cons x l ih=>simp only [List.map_cons,List.sum_cons]; omega
   exact this _ _
theorem Qi:∀ (t:Nat) (h:H) (ks:List Nat),ks∈mW dg dw fR t h->ks.length+1<=CE dg dw t h
 | 0,_,_,hk=>by simp [mW] at hk
 | t+1,h,ks,hk=>by
  rw [mW,eX] at hk;rw [CE];rcases hk with hk | hk
  ·obtain ⟨k,h1,h2⟩:=JV.1 hk
   obtain ⟨l,h3,rfl⟩:=vR.1 h2;have:=Qi t _ l h3;have:=aav (fun k=>CE dg dw t (dw h k)) _ k (yC.1 h1);simp only [lG];omega
  ·cases e:fR h with
   | true=>rw [e] at hk; simp at hk; subst hk; simp
   | false=>rw [e] at hk; simp at hk
def XH (dw:H->Nat->H):H->List Nat->H
 | h,[]=>h
 | h,k::ks=>XH dw (dw h k) ks
def aaH (dg:H->Nat) (dw:H->Nat->H):H->List Nat->Prop
 | _,[]=>True
 | h,k::ks=>k < dg h/\aaH dg dw (dw h k) ks
theorem WQ:∀ (t:Nat) (h:H) (ks:List Nat),ks∈mW dg dw fR t h->aaH dg dw h ks/\fR (XH dw h ks)=true
 | 0,_,_,hk=>by simp [mW] at hk
 | t+1,h,ks,hk=>by
  rw [mW,eX] at hk;rcases hk with hk | hk
  ·obtain ⟨k,h1,h2⟩:=JV.1 hk
   obtain ⟨l,h3,rfl⟩:=vR.1 h2;obtain ⟨h4,h5⟩:=WQ t _ l h3;exact ⟨⟨yC.1 h1,h4⟩,h5⟩
  ·cases e:fR h with
   | true=>rw [e] at hk; simp at hk; subst hk; exact ⟨trivial,e⟩
   | false=>rw [e] at hk; simp at hk
def RO:List Nat->List Nat->Prop
 | a::l,c::m=>a < c\/a=c/\RO l m
 | _,_=>False
theorem SY {C:H->Prop} (hC:∀ h,C h->∀ k,k < dg h->C (dw h k)) (hm:∀ h:H,C h->fR h=true->dg h=0):∀ (t:Nat) (h:H),C h->(mW dg dw fR t h).Pairwise RO
 | 0,_,_=>by rw [mW]; exact List.Pairwise.nil
 | t+1,h,hc=>by
  rw [mW];cases e:fR h with
  | true=>rw [hm h hc e]; exact List.pairwise_singleton _ _
  | false=>
   rw [ay,og];have key:∀ n,n<=dg h->((List.range n).flatMap fun k=>(mW dg dw fR t (dw h k)).map (k::·)).Pairwise RO:=by
    intro n
    induction n with
    | zero=>exact fun _=>List.Pairwise.nil
    | succ n ih=>
     intro hn;rw [List.range_succ,List.flatMap_append,List.pairwise_append];refine ⟨ih (by omega),?_,?_⟩
     ·simp only [List.flatMap_cons,List.flatMap_nil,og]
      rw [List.pairwise_map];exact (SY hC hm t _ (hC h hc n (by omega))).imp fun h=>.inr ⟨rfl,h⟩
     ·intro a ha c hc
      simp only [List.flatMap_cons,List.flatMap_nil,og] at hc;obtain ⟨k,h1,h2⟩:=JV.1 ha;obtain ⟨l,_,rfl⟩:=vR.1 h2;obtain ⟨m,_,rfl⟩:=vR.1 hc;exact .inl (yC.1 h1)
   exact key _ (ao _)
theorem agD:∀ (r:Nat) (x:St H),x.2.length<=(it dg dw fR r x).2.length
 | 0,_=>ao _
 | r+1,x=>by
  refine dA ?_ (agD r _);obtain ⟨st,out⟩:=x;cases st with
  | nil=>exact ao _
  | cons w st=>
   obtain ⟨h,n⟩:=w;simp only [nx];cases decide (n < dg h) with
   | true=>exact ao _
   | false=>
    cases fR h with
    | true=>simp
    | false=>exact ao _
end Go.vr
end
section
namespace Go.Proofs.YtckbdndhmcoihaaGreat.sc
open Go Go.K Go.az Go.vr Go.Proofs.YtckbdndhmcoihaaGreat.nodes
def jO (s:b.aE) (h:b.Handle):Nat:=(s.graph.kids.get h.slot.toNat).n
def eJ (s:b.aE) (h:b.Handle) (k:Nat):b.Handle:=(s.graph.kids.get h.slot.toNat).get k
def gz (s:b.aE) (h:b.Handle):Bool:=(s.nodes.get h.slot.toNat).kind==5
def nD (s:b.aE) (g:Nat->b.eo):List (b.Handle×Nat)->Prop
 | []=>True
 | (h,n)::r=>g r.length=⟨h,(n:Int)⟩/\n<=jO s h/\iW s.graph.b5 h/\xo (jO s) (eJ s) (16 - r.length) h/\nD s g r
theorem nD.congr {s:b.aE} {g g' : Nat->b.eo} : ∀ {st:List (b.Handle×Nat)},(∀ i,i < st.length->g' i=g i)->nD s g st->nD s g' st
 | [],_,_=>trivial
 | (h,n)::r,hq,hi=>⟨(hq r.length (by simp)).trans hi.1,hi.2.1,hi.2.2.1,hi.2.2.2.1,hi.2.2.2.2.congr fun i hl=>hq i (by simp only [lG]; omega)⟩
theorem nD.at {s:b.aE} {g:Nat->b.eo} : ∀ {st:List (b.Handle×Nat)},nD s g st->∀ i,i < st.length->∃ (h:b.Handle) (n:Nat),g i=⟨h,(n:Int)⟩/\n<=jO s h/\iW s.graph.b5 h
 | [],_,i,hl=>absurd hl (nF _)
 | (h,n)::r,hi,i,hl=>by
  by_cases e:i=r.length
  ·subst e
   exact ⟨h,n,hi.1,hi.2.1,hi.2.2.1⟩
  ·exact hi.2.2.2.2.at i (by simp only [lG] at hl; omega)
theorem nD.len {s:b.aE} {g:Nat->b.eo} : ∀ {st:List (b.Handle×Nat)},nD s g st->st.length<=16
 | [],_=>mc _
 | (h,n)::r,hi=>by
  have hl:=hi.2.2.2.1;by_cases e:r.length < 16
  ·simp only [lG]; omega
  ·rw [show 16 - r.length=0 by omega] at hl
   exact hl.elim
theorem WR {s:b.aE} (hs:kh s) {h:b.Handle} (hh:iW s.graph.b5 h):jO s h<=16:=by
 have:=(CC hs hh)
 exact (ada hs).few h.slot.toNat (by omega)
def KI (p:b.Path) (g:Nat->b.eo) (n:Nat):Prop:=p.nodes.n=n/\p.kids.n=n - 1/\(∀ i,i < n->p.nodes.get i=(g i).h)/\∀ i,i+1 < n->p.kids.get i=(g i).ew - 1
theorem aeQ (stack:Sl b.eo) (hn:stack.n<=16) (hb:∀ i,i < stack.n->0<=(stack.get i).ew/\(stack.get i).ew<=1000) :
  ∃ x',goN b.cB ⟨stack,(stack.n:Int),0,⟨⟨0,(fun i=>⟨0,0⟩)⟩,⟨0,(fun i=>0)⟩⟩,⟨⟨0,(fun i=>⟨0,0⟩)⟩,⟨0,(fun i=>0)⟩⟩⟩ = .out (.exit 0) x'/\x'.l=stack/\KI x'.p stack.get stack.n:=by
 obtain ⟨e,x',h1,h2,h3,h4⟩:=ku (step:=b.cB) (fun j x=>x.l=stack/\x.t7=(stack.n:Int)/\x.t8=(j:Int)/\KI x.p stack.get j) (fun e x=>e = .exit 0/\x.l=stack/\KI x.p stack.get stack.n) stack.n (by unfold gI; omega) (fun j x hj hI=>by
  obtain ⟨l,t7,t8,t2,p⟩:=x;obtain ⟨h1,h2,h3,h4⟩:=hI
  dsimp only at h1 h2 h3 h4
  subst h1 h2 h3;obtain ⟨q1,q2,q3,q4⟩:=h4;unfold b.cB
  dsimp only
  by_cases aJ:j < l.n
  ·refine .inl ?_
   have d1:decide ((j:Int) < (l.n:Int))=true:=aq (by omega);have d2:decide ((0:Int)<=(j:Int))=true:=aq (by omega);have e1:bB ((j:Int)+1)=((j+1:Nat):Int):=by rw [eE (by omega) (by omega)]; omega
   have a1:mv 16 p.nodes.n 1=true:=vt;have a2:mv 8 p.kids.n 1=true:=vt;rw [d1,d2,a1,a2];simp only [fj,p8,cY,ah,rh,bG,e1];by_cases h0:0 < j
   ·have d3:decide ((j:Int) > 0)=true:=aq (by omega)
    have e2:bB ((j:Int) - 1)=((j - 1:Nat):Int):=by rw [eE (by omega) (by omega)]; omega
    have d4:decide ((0:Int)<=((j - 1:Nat):Int))=true:=aq (by omega);have d5:decide (((j - 1:Nat):Int) < (l.n:Int))=true:=aq (by omega);rw [d3,e2,d4,d5];simp only [cY,ah,rh];refine ⟨_,rfl,aJ,rfl,rfl,rfl,?_⟩;have hbj:=hb (j - 1) (by omega);refine ⟨by show p.nodes.n+1=_; omega,by show p.kids.n+1=_; omega,fun i hi=>?_,fun i hi=>?_⟩
    ·by_cases e:i=j
     ·subst e
      show (p.nodes.push _).get i=_;rw [<- q1];exact Sl.Fu
     ·show (p.nodes.push _).get i=_
      rw [Sl.KD (by omega)];exact q3 i (by omega)
    ·by_cases e:i+1=j
     ·show (p.kids.push _).get i=_
      have e3:i=p.kids.n:=by omega
      rw [e3,Sl.Fu,<- e3,show j - 1=i by omega];have:=hb i (by omega);exact eE (by omega) (by omega)
     ·show (p.kids.push _).get i=_
      rw [Sl.KD (by omega)];exact q4 i (by omega)
   ·have d3:decide ((j:Int) > 0)=false:=bu (by omega)
    rw [d3];simp only [ay];refine ⟨_,rfl,aJ,rfl,rfl,rfl,?_⟩;refine ⟨by show p.nodes.n+1=_; omega,by show p.kids.n=_; omega,fun i hi=>?_,fun i hi=>by omega⟩;show (p.nodes.push _).get i=_;have e:i=p.nodes.n:=by omega
    rw [e,Sl.Fu,<- e,show j=i by omega]
  ·have Vv:j=l.n:=by omega
   subst Vv;have d1:decide ((l.n:Int) < (l.n:Int))=false:=bu (by omega);rw [d1];simp only [fj,p8,cY,ah,ay];exact .inr ⟨_,_,rfl,rfl,rfl,rfl,q1,q2,q3,q4⟩) (x:=⟨stack,(stack.n:Int),0,⟨⟨0,(fun i=>⟨0,0⟩)⟩,⟨0,(fun i=>0)⟩⟩,⟨⟨0,(fun i=>⟨0,0⟩)⟩,⟨0,(fun i=>0)⟩⟩⟩) ⟨rfl,rfl,rfl,rfl,rfl,fun i hi=>absurd hi (nF _),fun i hi=>by omega⟩
 subst h2;exact ⟨x',h1,h3,h4⟩
def Ed (s:b.aE) (o:Sl b.Path) (l:List (List (b.Handle×Nat))):Prop:=o.n=l.length/\∀ j w,l[j]? = some w->∃ g,nD s g w/\KI (o.get j) g w.length
theorem Ed.push {s:b.aE} {o:Sl b.Path} {l:List (List (b.Handle×Nat))} (h:Ed s o l) {w:List (b.Handle×Nat)} {g:Nat->b.eo} {p:b.Path} (hg:nD s g w) (hp:KI p g w.length):Ed s (o.push p) (l++[w]):=by
 refine ⟨by show o.n+1=_; rw [gd,h.1]; rfl,fun j v hj=>?_⟩;by_cases hl:j < l.length
 ·rw [nE hl] at hj
  rw [Sl.KD (by rw [h.1]; exact hl)];exact h.2 j v hj
 ·rw [o3 (by omega)] at hj
  have e:j=l.length:=by
   obtain ⟨h3,_⟩:=cw.1 hj;simp only [List.length_singleton] at h3;omega
  subst e;rw [Nat.sub_self] at hj;have e2:w=v:=by simpa using hj
  subst e2;rw [<- h.1,Sl.Fu];exact ⟨g,hg,hp⟩
structure Rel (s:b.aE) (x:b.cg) (y:St b.Handle):Prop where
 sc:x.s=s
 n:x.stack.n=y.1.length
 st:nD s x.stack.get y.1
 out:Ed s x.out y.2
theorem round {s:b.aE} (hs:kh s) {x:b.cg} {h:b.Handle} {n:Nat} {r:List (b.Handle×Nat)} {out:List (List (b.Handle×Nat))} (hx:Rel s x ((h,n)::r,out)) (hb:out.length<=1000) :
  ((nx (jO s) (eJ s) (gz s) ((h,n)::r,out)).1≠[]/\∃ x',b.bF x = .next x'/\Rel s x' (nx (jO s) (eJ s) (gz s) ((h,n)::r,out)))\/
  ((nx (jO s) (eJ s) (gz s) ((h,n)::r,out)).1 = []/\∃ x',b.bF x = .out .ret x'/\x'.t3=0/\Ed s x'.t2 (nx (jO s) (eJ s) (gz s) ((h,n)::r,out)).2):=by
 obtain ⟨t2,t3,o,stack,s'⟩:=x;obtain ⟨h1,h2,h3,h4⟩:=hx
 dsimp only at h1 h2 h3 h4
 subst h1;have hlen:=h3.len;have aoq:∀ i,i < stack.n->0<=(stack.get i).ew/\(stack.get i).ew<=1000:=fun i hi=>by
  obtain ⟨h',n',e,q1,q2⟩:=h3.at i (by omega);have:=WR hs q2;rw [e]
  dsimp only
  omega
 have ZP:=h3;obtain ⟨g1,g2,g3,g4,g5⟩:=h3;obtain ⟨s1,s2,s3⟩:=CC hs g3;have hdg:=WR hs g3;simp only [lG] at h2 hlen;have e1:bB ((stack.n:Int) - 1)=(r.length:Int):=by rw [eE (by omega) (by omega)]; omega
 have d1:decide ((0:Int)<=(r.length:Int))=true:=aq (by omega);have d2:decide ((r.length:Int) < (stack.n:Int))=true:=aq (by omega);have d2' : decide ((r.length:Int)<=(stack.n:Int))=true:=aq (by omega);have d3:=aq s1;have d4:=aq s2;have d5:=aq s3;have e5:bB ((n:Int)+1)=((n+1:Nat):Int):=by rw [eE (by omega) (by omega)]; omega
 have e6:bB (((n+1:Nat):Int) - 1)=(n:Int):=by rw [eE (by omega) (by omega)]; omega
 have d6:decide ((0:Int)<=(n:Int))=true:=aq (by omega);have b1:(Nat.ble ((stack.n+1) * 24) 140737488355328&&Nat.ble (stack.n+1) 17592186044416)=true:=by
  rw [aj];exact ⟨Nat.ble_eq_true_of_le (by omega),Nat.ble_eq_true_of_le (by omega)⟩
 have b2:mv 48 o.n 1=true:=by
  have:=h4.1;exact vt
 unfold b.bF b.hJ
 dsimp only
 simp only [e1,rh,bG,g1,dk,e5,e6,d1,d2,d2',d3,d4,d5,d6,b1,b2,fj,p8,cY,uh,ah];by_cases aJ:n < jO s' h
 ·have d7:decide ((n:Int) < (((s'.graph.kids.get h.slot.toNat).n:Nat):Int))=true:=aq (by unfold jO at aJ; omega)
  rw [d7];simp only [ah];have en:nx (jO s') (eJ s') (gz s') ((h,n)::r,out)=((eJ s' h n,0)::(h,n+1)::r,out):=by
   simp only [nx];rw [aq aJ,ah]
  rw [en];refine .inl ⟨by simp,_,rfl,⟨rfl,?_,?_,h4⟩⟩
  ·show stack.n+1=_
   simp only [lG];omega
  ·have hk:iW s'.graph.b5 (eJ s' h n):=RN hs g3 aJ
   have ht:∃ t,16 - r.length=t+1:=⟨16 - r.length - 1,by omega⟩
   obtain ⟨t,ht⟩:=ht;have G8:xo (jO s') (eJ s') (16 - (r.length+1)) (eJ s' h n):=by
    rw [ht] at g4;rw [show 16 - (r.length+1)=t by omega];exact g4 n aJ
   have Bw:(stack.set r.length ⟨h,((n+1:Nat):Int)⟩).n=r.length+1:=h2;refine ⟨?_,mc _,hk,G8,?_,aJ,g3,g4,?_⟩
   ·show (Sl.join _ _).get (r.length+1)=_
    rw [Sl.acW (by rw [Bw]; exact ao _),Bw,Nat.sub_self];rfl
   ·show (Sl.join _ _).get r.length=_
    rw [Sl.WD (by rw [Bw]; exact AB _),dk]
   ·refine g5.congr fun i hi=>?_
    show (Sl.join _ _).get i=_;rw [Sl.WD (by rw [Bw]; omega),cX _ _ (by omega)]
 ·have d7:decide ((n:Int) < (((s'.graph.kids.get h.slot.toNat).n:Nat):Int))=false:=bu (by unfold jO at aJ; omega)
  rw [d7];simp only [ay];have en:nx (jO s') (eJ s') (gz s') ((h,n)::r,out)=(r,cond (gz s' h) (out++[(h,n)::r]) out):=by
   simp only [nx];rw [bu aJ,ay]
  rw [en];have key:∀ (o' : Sl b.Path) (agE:List (List (b.Handle×Nat))) (g:Nat->b.eo),(∀ i,i < r.length->g i=stack.get i)->Ed s' o' agE->
    (r≠[]/\∃ x',cond (decide ((r.length:Int) > 0)) (ba.next (⟨t2,t3,o',⟨r.length,g⟩,s'⟩:b.cg)) (.out .ret ⟨o',0,o',⟨r.length,g⟩,s'⟩) = .next x'/\Rel s' x' (r,agE))\/
    (r = []/\∃ x',cond (decide ((r.length:Int) > 0)) (ba.next (⟨t2,t3,o',⟨r.length,g⟩,s'⟩:b.cg)) (.out .ret ⟨o',0,o',⟨r.length,g⟩,s'⟩) = .out .ret x'/\x'.t3=0/\Ed s' x'.t2 agE):=by
   intro o' agE g hg ho;cases r with
   | nil=>exact .inr ⟨rfl,_,rfl,rfl,ho⟩
   | cons w r=>
    refine .inl ⟨by simp,?_⟩;rw [aq (by simp only [lG]; omega),ah];exact ⟨_,rfl,rfl,rfl,g5.congr hg,ho⟩
  by_cases hm:gz s' h=true
  ·have Ey:((s'.nodes.get h.slot.toNat).kind==5)=true:=hm
   rw [Ey,hm];simp only [ah];obtain ⟨x',q1,q2,q3⟩:=aeQ stack (by omega) aoq;rw [q1];have es:vG (aa.exit 0) (aa.exit 0)=true:=rfl;simp only [ba.qI,ba.nL,es,ah,q2];exact key _ _ _ (fun i hi=>rfl) (h4.push ZP (by simp only [lG]; rw [<- h2]; exact q3))
  ·rw [Bool.not_eq_true] at hm
   have Ey:((s'.nodes.get h.slot.toNat).kind==5)=false:=hm;rw [Ey,hm];simp only [ay];exact key _ _ _ (fun i hi=>rfl) h4
theorem aka (s:b.aE) (j:Nat) (y:St b.Handle):it (jO s) (eJ s) (gz s) (j+1) y=nx (jO s) (eJ s) (gz s) (it (jO s) (eJ s) (gz s) j y):=G5 j 1 y
theorem ahV {s:b.aE} (hs:kh s) {y:St b.Handle} {r:Nat} (hr:r < gI) {adf:List (List (b.Handle×Nat))} (hF:it (jO s) (eJ s) (gz s) r y=([],adf)) (hl:adf.length<=1000) {x:b.cg} (hx:Rel s x y) (hy:y.1≠[]) :
  ∃ x',goN b.bF x = .out .ret x'/\x'.t3=0/\Ed s x'.t2 adf:=by
 obtain ⟨e,x',h1,h2,h3,h4⟩:=ku (step:=b.bF) (fun j x=>Rel s x (it (jO s) (eJ s) (gz s) j y)/\(it (jO s) (eJ s) (gz s) j y).1≠[]) (fun e x=>e = .ret/\x.t3=0/\Ed s x.t2 adf) r hr (fun j x hj hI=>by
  obtain ⟨q1,q2⟩:=hI;have aJ:j < r:=by
   by_cases e:j=r
   ·subst e; rw [hF] at q2; exact absurd rfl q2
   ·omega
  have hn:=aka s j y;have hle:(it (jO s) (eJ s) (gz s) j y).2.length<=1000:=by
   have:=agD (dg:=jO s) (dw:=eJ s) (fR:=gz s) (r - j) (it (jO s) (eJ s) (gz s) j y);rw [<- G5,show j+(r - j)=r by omega,hF] at this;exact dA this hl
  revert q1 q2 hn hle
  generalize hz:it (jO s) (eJ s) (gz s) j y=z;obtain ⟨st,out⟩:=z;intro q1 q2 hn hle;cases st with
  | nil=>exact absurd rfl q2
  | cons w st=>
   obtain ⟨h,n⟩:=w;rcases round hs q1 hle with ⟨g1,x',g2,g3⟩ | ⟨g1,x',g2,g3,g4⟩
   ·exact .inl ⟨x',g2,aJ,by rw [hn]; exact g3,by rw [hn]; exact g1⟩
   ·refine .inr ⟨_,x',g2,rfl,rfl,g3,?_⟩
    have e2:(nx (jO s) (eJ s) (gz s) ((h,n)::st,out))=([],(nx (jO s) (eJ s) (gz s) ((h,n)::st,out)).2):=by
     rw [<- g1]
    have e3:=G5 (dg:=jO s) (dw:=eJ s) (fR:=gz s) (j+1) (r - (j+1)) y;rw [hn,e2,aaG,show j+1+(r - (j+1))=r by omega,hF] at e3;have e4:adf=(nx (jO s) (eJ s) (gz s) ((h,n)::st,out)).2:=congrArg (·.2) e3;rw [e4];exact g4) (x:=x) ⟨hx,hy⟩
 subst h2;exact ⟨x',h1,h3,h4⟩
theorem akb {s:b.aE} (h:Down s):∀ (t:Nat) (x:b.Handle) (i:Nat),x.slot=(i:Int)->i < s.graph.kids.n->xo (dg s.graph) (ch s.graph) t i->xo (jO s) (eJ s) t x
 | 0,_,_,_,_,hl=>hl.elim
 | t+1,x,i,hx,hi,hl=>fun k hk=>by
  unfold jO at hk;unfold eJ;rw [hx,rh] at hk ⊢;exact akb h t _ _ (h.slot hi hk) (h.chl i hi k hk) (hl k hk)
theorem akc {s:b.aE} (h:Down s):∀ (t:Nat) (x:b.Handle) (i:Nat),x.slot=(i:Int)->i < s.graph.kids.n->G1 (jO s) (eJ s) (gz s) t x=G1 (dg s.graph) (ch s.graph) (Dz s) t i
 | 0,_,_,_,_=>rfl
 | t+1,x,i,hx,hi=>by
  have e1:gz s x=Dz s i:=by unfold gz Dz; rw [hx,rh]
  have e2:jO s x=dg s.graph i:=by unfold jO dg; rw [hx,rh]
  rw [G1,G1,e1,e2];congr 1;refine G0 _ fun k hk=>?_;refine akc h t _ _ ?_ (h.chl i hi k hk);unfold eJ;rw [hx,rh];exact h.slot hi hk
def ways (s:b.aE):List (List Nat):=mW (jO s) (eJ s) (gz s) 16 s.root
structure aeR (s:b.aE) (p:b.Path) (ks:List Nat):Prop where
 n:p.kids.n=ks.length
 is:∀ (i k:Nat),ks[i]? = some k->p.kids.get i=(k:Int)
 leads:RM s p.kids
 at_:KH s p.kids p.nodes
theorem YJ {s:b.aE} : ∀ (ks:List Nat) (h:b.Handle) (st:List (b.Handle×Nat)) (g:Nat->b.eo),nD s g (k8 (jO s) (eJ s) st h ks)->
  (k8 (jO s) (eJ s) st h ks).length=st.length+ks.length+1/\(g st.length).h=h/\(∀ i k:Nat,ks[i]? = some k->(g (st.length+i)).ew=(k:Int)+1/\k < jO s (g (st.length+i)).h/\(g (st.length+(i+1))).h=eJ s (g (st.length+i)).h k)
 | [],h,st,g,hi=>⟨rfl,by rw [hi.1],fun i k hk=>by simp at hk⟩
 | k::ks,h,st,g,hi=>by
  obtain ⟨h1,h2,h3⟩:=YJ ks (eJ s h k) ((h,k+1)::st) g hi;have below:∀ (ks:List Nat) (h:b.Handle) (w:List (b.Handle×Nat)),nD s g (k8 (jO s) (eJ s) w h ks)->nD s g w:=by
   intro ks
   induction ks with
   | nil=>exact fun h w q=>q.2.2.2.2
   | cons k ks ih=>exact fun h w q=>(ih _ _ q).2.2.2.2
  have hb:=below ks _ _ hi;simp only [lG] at h1 h2 h3;refine ⟨by rw [show k8 (jO s) (eJ s) st h (k::ks)=k8 (jO s) (eJ s) ((h,k+1)::st) (eJ s h k) ks from rfl,h1]; simp only [lG]; omega,by rw [hb.1],fun i k' hk=>?_⟩;cases i with
  | zero=>
   simp only [List.getElem?_cons_zero,aR] at hk;subst hk;rw [p7,bG,h2,hb.1];refine ⟨by push_cast; rfl,hb.2.1,rfl⟩
  | succ i=>
   simp only [Fy] at hk;have:=h3 i k' hk;rw [show st.length+1+i=st.length+(i+1) by omega,show st.length+1+(i+1)=st.length+(i+1+1) by omega] at this;exact this
theorem alf {s:b.aE} {p:b.Path} {g:Nat->b.eo} {ks:List Nat} (hg:nD s g (k8 (jO s) (eJ s) [] s.root ks)) (hp:KI p g (k8 (jO s) (eJ s) [] s.root ks).length):aeR s p ks:=by
 obtain ⟨h1,h2,h3⟩:=YJ ks s.root [] g hg;simp only [Fz,bG] at h1 h2 h3;rw [h1] at hp;obtain ⟨q1,q2,q3,q4⟩:=hp;have his:∀ (i k:Nat),ks[i]? = some k->p.kids.get i=(k:Int):=fun i k hk=>by
  obtain ⟨hl,_⟩:=cw.1 hk;rw [q4 i (by omega),(h3 i k hk).1];omega
 have pP:∀ i,i<=ks.length->RL s p.kids i=(g i).h/\∀ j,j < i->Qh s p.kids j:=by
  intro i
  induction i with
  | zero=>exact fun _=>⟨h2.symm,fun j hj=>absurd hj (nF _)⟩
  | succ i ih=>
   intro hi;obtain ⟨e,eU⟩:=ih (by omega);have hk:ks[i]? = some ks[i]:=cl (by omega);have hh:=h3 i _ hk;have hki:=his i _ hk;refine ⟨?_,fun j hj=>?_⟩
   ·show (s.graph.kids.get (RL s p.kids i).slot.toNat).get (p.kids.get i).toNat=_
    rw [e,hki,rh,hh.2.2];rfl
   ·by_cases ej:j=i
    ·subst ej
     have:=hh.2.1;unfold jO at this;unfold Qh;rw [hki,e];omega
    ·exact eU j (by omega)
 refine ⟨by omega,his,fun j hj=>(pP (j+1) (by omega)).2 j (AB _),by omega,fun i hi=>?_⟩;rw [(pP i (by omega)).1];exact q3 i (by omega)
theorem TQ {s:b.aE} (hs:kh s):∀ h,iW s.graph.b5 h->∀ k,k < jO s h->iW s.graph.b5 (eJ s h k):=fun h hh k hk=>RN hs hh hk
theorem agF {s:b.aE} (hs:kh s):∀ h,iW s.graph.b5 h->gz s h=true->jO s h=0:=fun h hh hm=>by
 have:=CC hs hh;refine (hs.2.2.2.1 h.slot.toNat (by omega)).2.2 ?_;unfold gz at hm;exact eq_of_beq hm
theorem adg {s:b.aE} (mr:Fw s) (hs:kh s):∃ l e,b.lZ s=some (l,e)/\
  ((s.root=vu/\l.n=0/\e=0)\/(s.root≠vu/\l.n=0/\e=120)\/
   (s.root≠vu/\iW s.graph.b5 s.root/\xo (jO s) (eJ s) 16 s.root/\e=0/\l.n<=256/\l.n=(ways s).length/\∀ (j:Nat) ks,(ways s)[j]? = some ks->aeR s (l.get j) ks)):=by
 obtain ⟨e,h1,h2⟩:=NQ s mr;have he:e=0:=by
  rcases h2 with h | h
  ·exact h.1
  ·exact absurd hs h.2
 subst he;unfold b.lZ;rw [h1];simp only [nj,iB,ah];have hz:((0:Int) != 0)=false:=rfl;rw [hz,ay];by_cases hr:s.root=vu
 ·have:((s.root.slot==0)&&((s.root.gen==0)&&true))=true:=(CB s.root vu).2 hr
  rw [this,ah];exact ⟨_,_,rfl,.inl ⟨hr,rfl,rfl⟩⟩
 ·have:((s.root.slot==0)&&((s.root.gen==0)&&true))=false:=by
   rw [<- Bool.not_eq_true];exact fun h=>hr ((CB s.root vu).1 h)
  rw [this,ay];have hh:iW s.graph.b5 s.root:=by
   rcases hs.2.2.2.2 with h | h
   ·exact absurd h hr
   ·exact h
  obtain ⟨s1,s2,s3⟩:=CC hs hh;obtain ⟨r,er⟩:∃ r:Nat,s.root.slot=(r:Int):=⟨s.root.slot.toNat,by omega⟩
  have hd:=ada hs;have hi:r < s.graph.kids.n:=by omega
  obtain ⟨c,c1,c2,c3,c4⟩:=aaF hd er hi;have c1a:(b.dE s).isSome=true:=by rw [c1]; rfl
  have c1b:(b.dE s).getD default=c:=by rw [c1]; rfl
  rw [c1a,c1b,ah];have d1:decide ((0:Int)<=s.root.slot)=true:=aq s1;have d2:decide (s.root.slot < (c.1.n:Int))=true:=aq (by have:=c2.n1; omega);have d3:decide (s.root.slot < (c.2.n:Int))=true:=aq (by have:=c2.n2; omega);have en:s.root.slot.toNat=r:=by omega
  rw [d1,d2,d3,en];simp only [cY,ah];by_cases Rg:c.1.get r > 16
  ·rw [aq Rg,ah]
   exact ⟨_,_,rfl,.inr (.inl ⟨hr,rfl,rfl⟩)⟩
  rw [bu Rg,ay];by_cases RK:c.2.get r > 256
  ·rw [aq RK,ah]
   exact ⟨_,_,rfl,.inr (.inl ⟨hr,rfl,rfl⟩)⟩
  rw [bu RK,ay];have Ez:xo (dg s.graph) (ch s.graph) s.graph.kids.n r:=Qb hd.chl hd.free r hi;have AG:xo (dg s.graph) (ch s.graph) 16 r:=(acV _ _ Ez).le (by rw [c3] at Rg; unfold hH at Rg; omega);have hl:xo (jO s) (eJ s) 16 s.root:=akb hd 16 s.root r er hi AG;have aor:G1 (dg s.graph) (ch s.graph) (Dz s) 16 r=mH s r:=by
   unfold mH;by_cases hq:s.graph.kids.n<=16
   ·exact agy Ez hq
   ·exact (agy AG (by omega)).symm
  have hlen:(ways s).length<=256:=by
   have:=WO (TQ hs) (agF hs) 16 s.root hh;rw [akc hd 16 s.root r er hi,aor] at this;unfold ways;omega
  obtain ⟨rr,r1,r2,r3⟩:=visit (fR:=gz s) (TQ hs) (fun h hh=>WR hs hh) 16 s.root hh hl [] [];have hrel:Rel s (b.mD s) ([(s.root,0)],[]):=⟨rfl,rfl,⟨rfl,mc _,hh,hl,trivial⟩,⟨rfl,fun j w hj=>by simp at hj⟩⟩
  have Ak:∀ l,Ed s l ([]++(mW (jO s) (eJ s) (gz s) 16 s.root).map (k8 (jO s) (eJ s) [] s.root))->(s.root≠vu/\iW s.graph.b5 s.root/\xo (jO s) (eJ s) 16 s.root/\(0:Int)=0/\l.n<=256/\l.n=(ways s).length/\∀ (j:Nat) ks,(ways s)[j]? = some ks->aeR s (l.get j) ks):=by
   intro l hq;obtain ⟨q1,q2⟩:=hq;rw [List.nil_append,List.length_map] at q1;refine ⟨hr,hh,hl,rfl,by unfold ways at hlen; omega,q1,fun j ks hj=>?_⟩;obtain ⟨g,g1,g2⟩:=q2 j (k8 (jO s) (eJ s) [] s.root ks) (by
    rw [List.nil_append,mf];unfold ways at hj;rw [hj];rfl)
   exact alf g1 g2
  have alg:([]++(mW (jO s) (eJ s) (gz s) 16 s.root).map (k8 (jO s) (eJ s) [] s.root)).length<=1000:=by
   rw [List.nil_append,List.length_map];unfold ways at hlen;omega
  obtain ⟨m,rfl⟩:∃ m,rr=m+1:=⟨rr - 1,by omega⟩
  have KM:it (jO s) (eJ s) (gz s) m (nx (jO s) (eJ s) (gz s) ([(s.root,0)],[]))=([],[]++(mW (jO s) (eJ s) (gz s) 16 s.root).map (k8 (jO s) (eJ s) [] s.root)):=r3;rcases round hs hrel (mc _) with ⟨g1,x',g2,g3⟩ | ⟨g1,x',g2,g3,g4⟩
  ·rw [g2,b.YB]
   obtain ⟨y,y1,y2,y3⟩:=ahV hs (r:=m) (by unfold gI; omega) KM alg g3 g1;rw [y1];have e1:(ba.out aa.ret y).by (aa.exit 999983)=false:=rfl
   have e2:(ba.out aa.ret y).by aa.ret=true:=rfl
   rw [e1,e2,ay,ah];refine ⟨_,_,rfl,.inr (.inr ?_)⟩;rw [ba.nL,y2];exact Ak _ y3
  ·rw [g2]
   refine ⟨_,_,rfl,.inr (.inr ?_)⟩;rw [g3];refine Ak _ ?_;have e2:(nx (jO s) (eJ s) (gz s) ([(s.root,0)],[]))=([],(nx (jO s) (eJ s) (gz s) ([(s.root,0)],[])).2):=Prod.ext g1 rfl;rw [e2,aaG] at KM;have e4:=congrArg (·.2) KM
   dsimp only at e4
   rw [<- e4];exact g4
theorem aeS {s:b.aE} (mr:Fw s) (hs : ¬ kh s):∃ l,b.lZ s=some (l,8)/\l.n=0:=by
 obtain ⟨e,h1,h2⟩:=NQ s mr;have he:e=8:=by
  rcases h2 with h | h
  ·exact absurd h.2 hs
  ·exact h.1
 subst he;unfold b.lZ;rw [h1];exact ⟨_,rfl,rfl⟩
end Go.Proofs.YtckbdndhmcoihaaGreat.sc
end
section
namespace Go.Proofs.YtckbdndhmcoihaaGreat.sc
open Go Go.K Go.Proofs.YtckbdndhmcoihaaGreat.nodes
def U16 (n:Int):Prop:=0<=n/\n<=65535
end Go.Proofs.YtckbdndhmcoihaaGreat.sc
end
section
namespace Go.Proofs.YtckbdndhmcoihaaGreat.b
open Go.K
noncomputable section
end
end Go.Proofs.YtckbdndhmcoihaaGreat.b
end
section
namespace Go.Proofs.YtckbdndhmcoihaaGreat.sc
open Go Go.K Go.Proofs.YtckbdndhmcoihaaGreat.nodes
structure Fx (s:b.aE):Prop where
 dn:∀ i,i < s.nodes.n->TP (s.nodes.get i).cP
 on:∀ i,i < s.nodes.n->U16 (s.nodes.get i).Tl
 kind:∀ i,i < s.fE.n->JL (s.fE.get i)
theorem Fx.inn {s:b.aE} (h:Fx s) (hf:Few s):Fw s:=
 ⟨fun i hi=>⟨h.dn i hi,by have:=hf.xw i hi; omega⟩,h.kind,by have:=hf.ct; omega,by have:=hf.nodes; omega,by have:=hf.fE; omega,by have:=hf.iR; omega⟩
end Go.Proofs.YtckbdndhmcoihaaGreat.sc
end
section
namespace Go.Proofs.YtckbdndhmcoihaaGreat.sc
open Go Go.K Go.az Go.vr Go.Proofs.YtckbdndhmcoihaaGreat.nodes
theorem aeT {s:b.aE} {kids:Sl Int} (mr:Fw s) (hs:kh s) (hr:s.root≠vu) (hl:RM s kids) (hn:kids.n<=400):∃ p,b.od s kids=some (p,0)/\KH s kids p.nodes/\p.kids=kids:=by
 unfold b.od b.rR b.rS;obtain ⟨e,q1,q2⟩:=NQ s mr;have he:e=0:=by
  rcases q2 with h | h
  ·exact h.1
  ·exact absurd hs h.2
 subst he;rw [q1];simp only [nj,iB,ah];have hz:((0:Int) != 0)=false:=rfl;have h0:((s.root.slot==0)&&((s.root.gen==0)&&true))=false:=by
  rw [<- Bool.not_eq_true];exact fun h=>hr ((CB s.root vu).1 h)
 rw [hz,h0];obtain ⟨x,ok,p1,p2⟩:=aaE hs hr kids hn;rw [p1];rcases p2 with ⟨rfl,g1,g2,g3⟩ | ⟨rfl,g1⟩
 ·exact ⟨x,rfl,g2,g3⟩
 ·exact absurd hl g1
theorem aeU (a c:b.Path) (h1:a.nodes.n < 1000000) (h2:a.kids.n < 1000000):∃ r,b.oe a c=some r/\(r=true↔JN a.nodes c.nodes/\JN a.kids c.kids):=by
 unfold b.oe b.xl b.xm;obtain ⟨r1,p1,p2⟩:=aeP a.nodes c.nodes h1;obtain ⟨r2,q1,q2⟩:=ahP a.kids c.kids h2;rw [p1,q1];simp only [nj,iB,ah];cases r1 with
 | true=>exact ⟨r2,rfl,fun h=>⟨p2.1 rfl,q2.1 h⟩,fun h=>q2.2 h.2⟩
 | false=>exact ⟨false,rfl,fun h=>by simp at h,fun h=>by have:=p2.2 h.1; simp at this⟩
theorem YK {H:Type} (dw:H->Nat->H):∀ (l:List Nat) (h:H) (k:Nat),XH dw h (l++[k])=dw (XH dw h l) k
 | [],_,_=>rfl
 | a::l,h,k=>YK dw l (dw h a) k
theorem adh {s:b.aE} (hs:kh s):∀ (l:List Nat) (h:b.Handle),iW s.graph.b5 h->aaH (jO s) (eJ s) h l->iW s.graph.b5 (XH (eJ s) h l)
 | [],_,hh,_=>hh
 | a::l,h,hh,hw=>adh hs l _ (TQ hs h hh a hw.1) hw.2
structure xr (kids:Sl Int) (ks:List Nat):Prop where
 n:kids.n=ks.length
 is:∀ (i k:Nat),ks[i]? = some k->kids.get i=(k:Int)
theorem xr.at {kids:Sl Int} {ks:List Nat} (h:xr kids ks) {i:Nat} (hi:i < ks.length):kids.get i=((ks[i] : Nat):Int):=h.is i _ (cl hi)
theorem TS {s:b.aE} {kids:Sl Int} {ks:List Nat} (h:xr kids ks):∀ i,i<=ks.length->RL s kids i=XH (eJ s) s.root (ks.take i)
 | 0,_=>by rw [List.take_zero]; rfl
 | i+1,hi=>by
  rw [List.take_succ_eq_append_getElem (by omega),YK,<- TS h i (by omega)];show (s.graph.kids.get (RL s kids i).slot.toNat).get (kids.get i).toNat=_;rw [h.at (by omega),rh];rfl
theorem akd {s:b.aE} {kids:Sl Int} {ks:List Nat} (h:xr kids ks):RL s kids ks.length=XH (eJ s) s.root ks:=by
 rw [TS h _ (ao _),List.take_length]
theorem ake {s:b.aE} {k k' : Sl Int} {ks:List Nat} {l l' : Sl b.Handle} (hk:xr k ks) (pd:xr k' ks) (h:KH s k l) (h' : KH s k' l'):JN l l':=by
 have e1:=hk.n;have e2:=pd.n;refine ⟨by have:=h.1; have:=h'.1; omega,fun i hi=>?_⟩;have KK:i<=ks.length:=by have:=h.1; omega
 rw [h.2 i (by omega),h'.2 i (by omega),TS hk i KK,TS pd i KK]
theorem aeV (a c:b.Path) {ka kc:List Nat} (ha:xr a.kids ka) (hc:xr c.kids kc) (hn:ka.length<=1000) (hl:RO ka kc):b.vL a c=some true:=by
 unfold b.vL b.yT;obtain ⟨e,x',h1,h2,h3⟩:=ku (step:=b.mo) (fun j x=>x=⟨false,(j:Int),a,c⟩/\RO (ka.drop j) (kc.drop j)) (fun e x=>e = .ret/\x.t4=true) ka.length (by unfold gI; omega) (fun j x hj ⟨hx,hw⟩=>by
  subst hx;have i1:j < ka.length:=by
   by_cases h:j < ka.length
   ·exact h
   ·rw [List.drop_eq_nil_of_le (by omega)] at hw
    exact hw.elim
  have i2:j < kc.length:=by
   by_cases h:j < kc.length
   ·exact h
   ·rw [show kc.drop j = [] from List.drop_eq_nil_of_le (by omega)] at hw
    cases hq:ka.drop j with
    | nil=>rw [hq] at hw; exact hw.elim
    | cons _ _=>rw [hq] at hw; exact hw.elim
  rw [List.drop_eq_getElem_cons i1,List.drop_eq_getElem_cons i2] at hw;have n1:=ha.n;have n2:=hc.n;have d1:decide ((j:Int) < (a.kids.n:Int))=true:=aq (by omega);have d2:decide ((j:Int) < (c.kids.n:Int))=true:=aq (by omega);have d3:decide ((0:Int)<=(j:Int))=true:=aq (by omega);have e1:bB ((j:Int)+1)=((j+1:Nat):Int):=by rw [eE (by omega) (by omega)]; omega
  unfold b.mo
  dsimp only
  rw [d1,d2,d3];simp only [cY,ah,rh,ha.at i1,hc.at i2,e1];by_cases hq:ka[j] = kc[j]
  ·have:(((ka[j] : Nat):Int) != ((kc[j] : Nat):Int))=false:=by rw [hq]; simp
   rw [this,ay];refine .inl ⟨_,rfl,i1,rfl,?_⟩;rcases hw with h | h
   ·omega
   ·exact h.2
  ·have:(((ka[j] : Nat):Int) != ((kc[j] : Nat):Int))=true:=by simp; omega
   rw [this,ah];refine .inr ⟨_,_,rfl,rfl,rfl,?_⟩;rcases hw with h | h
   ·exact aq (by omega)
   ·exact absurd h.1 hq) (x:=⟨false,0,a,c⟩) ⟨rfl,hl⟩
 subst h2;rw [h1];show cond false _ (cond true (some _) none)=_;rw [ay,ah,ba.nL,h3]
theorem adi {s:b.aE} (hs:kh s) (hh:iW s.graph.b5 s.root) {j:Nat} {ks:List Nat} (h:(ways s)[j]? = some ks):ks.length+1<=16/\aaH (jO s) (eJ s) s.root ks/\gz s (XH (eJ s) s.root ks)=true:=by
 have hm:=eS h;have h1:=Qi 16 s.root ks hm;have h2:=NL (kv:=jO s) (c:=eJ s) 16 s.root;exact ⟨by omega,WQ 16 s.root ks hm⟩
theorem aeW {s:b.aE} (hs:kh s) (hh:iW s.graph.b5 s.root) {i j:Nat} {k l:List Nat} (h1:(ways s)[i]? = some k) (h2:(ways s)[j]? = some l) (hij:i < j):RO k l:=by
 have hp:=SY (fR:=gz s) (TQ hs) (agF hs) 16 s.root hh;rw [List.pairwise_iff_getElem] at hp;obtain ⟨i1,i2⟩:=cw.1 h1;obtain ⟨j1,j2⟩:=cw.1 h2;rw [<- i2,<- j2];exact hp i j i1 j1 hij
theorem Qj (s:b.aE) (hr:Fx s):b.rT s=some true:=by
 obtain ⟨g,q1,q2⟩:=ac9 s;unfold b.rT b.tN;rw [q1];simp only [nj,iB,ah];cases g with
 | true=>rfl
 | false=>
  have mr:=hr.inn (q2 rfl);rw [ay];by_cases hs:kh s
  ·obtain ⟨l,e,h1,h2⟩:=adg mr hs
   have e1:b.kq s=some (l,e):=h1;have e2:b.kr s=goN b.cC ⟨false,l,0,s⟩:=by
    unfold b.kr;rw [e1];rfl
   rw [e1,e2];simp only [nj,iB,ah];rcases h2 with ⟨hz,hn,rfl⟩ | ⟨hz,hn,rfl⟩ | ⟨hz,hh,G8,rfl,h256,hlen,hw⟩
   ·have key:goN b.cC ⟨false,l,0,s⟩ = .out (.exit 0) ⟨false,l,0,s⟩:=by
     obtain ⟨e,x',h3,h4,h5⟩:=ku (step:=b.cC) (fun j x=>x=⟨false,l,0,s⟩) (fun e x=>e = .exit 0/\x=⟨false,l,0,s⟩) 0 (by unfold gI; omega) (fun j x hj hx=>by
      subst hx;unfold b.cC
      dsimp only
      rw [bu (by rw [hn]; omega),ay];exact .inr ⟨_,_,rfl,rfl,rfl,rfl⟩) (x:=⟨false,l,0,s⟩) rfl
     rw [h3,h4,h5]
    rw [key];show cond false _ (cond true (some (decide ((l.n:Int)<=256))) _)=_;rw [ay,ah,aq (by rw [hn]; omega)]
   ·show cond true (some ((l.n:Int)==0)) _=_
    rw [ah,hn];rfl
   ·have key:∃ x',goN b.cC ⟨false,l,0,s⟩ = .out (.exit 0) x'/\x'.l=l:=by
     obtain ⟨e,x',h3,h4,h5⟩:=ku (step:=b.cC) (fun j x=>x=⟨false,l,(j:Int),s⟩) (fun e x=>e = .exit 0/\x.l=l) l.n (by unfold gI; omega) (fun j x hj hx=>by
      subst hx;by_cases aJ:j < l.n
      ·refine .inl ⟨_,?_,aJ,rfl⟩
       have ej:bB ((j:Int)+1)=((j+1:Nat):Int):=by rw [eE (by omega) (by omega)]; omega
       have d1:decide ((j:Int) < (l.n:Int))=true:=aq (by omega);have d2:decide ((0:Int)<=(j:Int))=true:=aq (by omega);obtain ⟨ks,nu⟩:∃ ks,(ways s)[j]? = some ks:=⟨_,cl (by omega)⟩
       have W:=hw j ks nu;obtain ⟨w1,w2,w3⟩:=adi hs hh nu;have K:xr (l.get j).kids ks:=⟨W.n,W.is⟩
       obtain ⟨p,p1,p2,p3⟩:=aeT mr hs hz W.leads (by have:=W.n; omega);have hnn:(l.get j).nodes.n=ks.length+1:=by have:=W.at_.1; have:=W.n; omega
       obtain ⟨r,r1,r2⟩:=aeU p (l.get j) (by have:=p2.1; have:=W.n; omega) (by rw [p3]; have:=W.n; omega);have hr:r=true:=r2.2 ⟨ake K K p2 W.at_,by rw [p3]; exact ⟨rfl,fun _ _=>rfl⟩⟩;subst hr;have xy:(l.get j).nodes.get ks.length=XH (eJ s) s.root ks:=by
        rw [W.at_.2 _ (by have:=W.n; omega),akd K]
       have amX:=adh hs ks s.root hh w2;obtain ⟨s1,s2,s3⟩:=CC hs amX;have hm:((s.nodes.get (XH (eJ s) s.root ks).slot.toNat).kind != 5)=false:=by
        unfold gz at w3;simp [eq_of_beq w3]
       have en:bB (((l.get j).nodes.n:Int) - 1)=(ks.length:Int):=by rw [eE (by omega) (by omega)]; omega
       have Ak:b.il ⟨false,l,(j:Int),s⟩ = .next ⟨false,l,((j+1:Nat):Int),s⟩:=by
        unfold b.il b.jN b.pO b.jN
        dsimp only
        have f1:decide (((l.get j).nodes.n:Int) < 1)=false:=bu (by omega);have f2:decide (((l.get j).nodes.n:Int) > 16)=false:=bu (by omega);have f3:decide ((0:Int)<=(ks.length:Int))=true:=aq (by omega);have f4:decide ((ks.length:Int) < ((l.get j).nodes.n:Int))=true:=aq (by omega);have IU:((0:Int) != 0)=false:=rfl;simp only [d1,d2,rh,cY,ah,p1,nj,iB,IU,ay,r1,Bool.not_true,f1,f2,en,f3,f4,xy,aq s1,aq s3,hm,ej];by_cases h0:0 < j
        ·have f5:decide ((j:Int) > 0)=true:=aq (by omega)
         have e5:bB ((j:Int) - 1)=((j - 1:Nat):Int):=by rw [eE (by omega) (by omega)]; omega
         have f6:decide ((0:Int)<=((j - 1:Nat):Int))=true:=aq (by omega);have f7:decide (((j - 1:Nat):Int) < (l.n:Int))=true:=aq (by omega);obtain ⟨ks',akf⟩:∃ ks,(ways s)[j - 1]? = some ks:=⟨_,cl (by omega)⟩
         have W':=hw (j - 1) ks' akf;have aos:b.mq ⟨false,l,(j:Int),s⟩=some true:=by
          unfold b.mq
          dsimp only
          rw [e5,rh,rh];exact aeV _ _ ⟨W'.n,W'.is⟩ K (by have:=adi hs hh akf; omega) (aeW hs hh akf nu (by omega))
         rw [aos];simp only [f5,e5,f6,f7,cY,ah,nj,iB,Bool.not_true,ay]
        ·have f5:decide ((j:Int) > 0)=false:=bu (by omega)
         rw [f5,ay]
       unfold b.cC;rw [Ak]
       dsimp only
       rw [d1,ej];cases decide ((j:Int) > 24) <;> cases decide ((j:Int) < bB ((l.n:Int) - 3)) <;> rfl
      ·have:j=l.n:=by omega
       subst this;unfold b.cC
       dsimp only
       rw [bu (by omega),ay];exact .inr ⟨_,_,rfl,rfl,rfl,rfl⟩) (x:=⟨false,l,0,s⟩) rfl
     subst h4;exact ⟨x',h3,h5⟩
    obtain ⟨x',k1,k2⟩:=key;rw [k1];show cond false _ (cond true (some (decide ((x'.l.n:Int)<=256))) _)=_;rw [ay,ah,k2,aq (by omega)]
  ·obtain ⟨l,h1,h2⟩:=aeS mr hs
   have e1:b.kq s=some (l,8):=h1;rw [e1];show cond true (cond true (some ((l.n:Int)==0)) _) none=_;rw [h2];rfl
end Go.Proofs.YtckbdndhmcoihaaGreat.sc
end
section
namespace Go.Proofs.YtckbdndhmcoihaaGreat.sc
open Go Go.K Go.Proofs.YtckbdndhmcoihaaGreat.nodes
theorem JP {P:Program} : ∀ {l:List KV},uB P l->∀ v∈l,zR P v
 | [],_,v,hv=>by simp at hv
 | x::l,h,v,hv=>by
  simp only [uB] at h;rcases bd.1 hv with rfl | hv
  ·exact h.1
  ·exact JP h.2 v hv
theorem JQ {P:Program} {ks:List CK} {v:KV} (h:ca ⟨true,ks⟩ v=true) (hw:KS P v) (hd:zR P v) {j:Nat} {c:CK} (hj:ks[j]? = some c):K.kindOk c (v.cells.getD j .bz)=true/\KS P (v.cells.getD j .bz)/\zR P (v.cells.getD j .bz):=by
 obtain ⟨cs,rfl,hk⟩:=ahs h;obtain ⟨u,h1,h2⟩:=wz hk hj;have e:(KV.agg cs).cells.getD j .bz=u:=by
  show cs.getD j .bz=u;rw [eN,h1];rfl
 have hm:=eS h1;rw [e];have CH:uB P cs:=by simpa [zR] using hd
 have hw' : xD P cs:=by simpa [KS] using hw
 exact ⟨h2,Rf hw' u hm,JP CH u hm⟩
theorem aeX {P:Program} {v:KV} {T:TypeId} (h:K.kindOk (.slice T) v=true) (hw:KS P v) (hd:zR P v) {i:Nat} (hi:i < lenOf v):ca (aH P T) (tD v i)=true/\KS P (tD v i)/\zR P (tD v i):=by
 cases v with
 | ts t m n es acc=>
  have ht:T=t:=by
   cases m <;> simp [K.kindOk] at h;exact h
  subst ht;simp only [zR] at hd;simp only [KS] at hw;obtain ⟨aeY,aot⟩:=hd;have hi:i < n:=hi;have hl:i < es.length:=by rw [<- aeY.len]; exact hi
  have e:acc i=es.getD i .bz:=aeY.acc i hi;have e2:es.getD i .bz=es[i]:=by rw [eN,cl hl]; rfl
  show ca (aH P T) (acc i)=true/\KS P (acc i)/\zR P (acc i);rw [e,e2];exact ⟨fD aeY.typed (cl hl),Rf hw.2.1 _ (JU hl),JP aot _ (JU hl)⟩
 | _=>simp [K.kindOk] at h
theorem RP {P:Program} {v:KV} (h:K.kindOk (.int .u8) v=true) (hw:KS P v):0<=aw v/\aw v<=255:=by
 cases v with
 | int k n=>
  have hk:k = .u8:=by
   have:decide (IntKind.u8=k)=true:=h;exact (JS this).symm
  subst hk;have h:(Lit.int .u8 n).wf=true:=hw;simp only [Lit.wf,aj,jP] at h;show 0<=n/\n<=255;exact h
 | _=>simp [K.kindOk] at h
theorem alh {P:Program} {v:KV} (h:K.kindOk (.int .u16) v=true) (hw:KS P v):0<=aw v/\aw v<=65535:=by
 cases v with
 | int k n=>
  have hk:k = .u16:=by
   have:decide (IntKind.u16=k)=true:=h;exact (JS this).symm
  subst hk;have h:(Lit.int .u16 n).wf=true:=hw;simp only [Lit.wf,aj,jP] at h;show 0<=n/\n<=65535;exact h
 | _=>simp [K.kindOk] at h
noncomputable abbrev xt (a:KV):b.aE:=b.mR (gW Tryz.prog (bU Tryz.prog df) 34 a)
theorem amY:aH Tryz.prog 34=⟨true,[.slice 111,.slice 35,.slice 77,.slice 88,.slice 91,.int .i64,.int .i64]⟩:=by kernel_rfl
theorem amZ:∃ ks,aH Tryz.prog 77=⟨true,ks⟩/\ks[13]? = some (.int .u16)/\ks[19]? = some (.int .u8)/\ks[20]? = some (.int .u8)/\ks[21]? = some (.int .u8)/\ks[22]? = some (.int .u8)/\ks[23]? = some (.int .u8):=⟨(aH Tryz.prog 77).ks,by kernel_rfl,by kernel_rfl,by kernel_rfl,by kernel_rfl,by kernel_rfl,by kernel_rfl,by kernel_rfl⟩
theorem am0:∃ ks,aH Tryz.prog 88=⟨true,ks⟩/\ks[2]? = some (.slice 172):=⟨(aH Tryz.prog 88).ks,by kernel_rfl,by kernel_rfl⟩
theorem akg:∃ ks,aH Tryz.prog 172=⟨true,ks⟩/\ks[0]? = some (.int .u8):=⟨(aH Tryz.prog 172).ks,by kernel_rfl,by kernel_rfl⟩
theorem ahW (a:KV):(xt a).nodes.n=lenOf (a.cells.getD 2 .bz):=by kernel_rfl
theorem aeZ (a:KV):(xt a).fE.n=lenOf (a.cells.getD 3 .bz):=by kernel_rfl
theorem am1 (a:KV) (i:Nat):((xt a).nodes.get i).Tl=aw ((tD (a.cells.getD 2 .bz) i).cells.getD 13 .bz):=by kernel_rfl
theorem ali (a:KV) (i:Nat):((xt a).nodes.get i).cP.dn=⟨aw ((tD (a.cells.getD 2 .bz) i).cells.getD 19 .bz),aw ((tD (a.cells.getD 2 .bz) i).cells.getD 20 .bz),aw ((tD (a.cells.getD 2 .bz) i).cells.getD 21 .bz),aw ((tD (a.cells.getD 2 .bz) i).cells.getD 22 .bz),aw ((tD (a.cells.getD 2 .bz) i).cells.getD 23 .bz)⟩:=by kernel_rfl
theorem ahX (a:KV) (i:Nat):((xt a).fE.get i).fc.n=lenOf ((tD (a.cells.getD 3 .bz) i).cells.getD 2 .bz):=by kernel_rfl
theorem akh (a:KV) (i k:Nat):(((xt a).fE.get i).fc.get k).kind=aw ((tD ((tD (a.cells.getD 3 .bz) i).cells.getD 2 .bz) k).cells.getD 0 .bz):=by kernel_rfl
theorem ae0 {a:KV} (h:ca (aH Tryz.prog 34) a=true) (hw:KS Tryz.prog a) (hd:zR Tryz.prog a):Fx (xt a):=by
 rw [amY] at h;obtain ⟨i1,i2,i3⟩:=JQ h hw hd (j:=2) rfl;obtain ⟨t1,t2,t3⟩:=JQ h hw hd (j:=3) rfl;obtain ⟨ks,l0,l13,l19,l20,l21,l22,l23⟩:=amZ;obtain ⟨kt,m0,m2⟩:=am0;obtain ⟨kp,n0,n1⟩:=akg;have node:∀ i,i < (xt a).nodes.n->∀ j c,ks[j]? = some c->K.kindOk c ((tD (a.cells.getD 2 .bz) i).cells.getD j .bz)=true/\KS Tryz.prog ((tD (a.cells.getD 2 .bz) i).cells.getD j .bz):=fun i hi j c hj=>by
  rw [ahW] at hi;obtain ⟨q1,q2,q3⟩:=aeX i1 i2 i3 hi;rw [l0] at q1;obtain ⟨r1,r2,_⟩:=JQ q1 q2 q3 hj;exact ⟨r1,r2⟩
 refine ⟨fun i hi=>?_,fun i hi=>?_,fun i hi k hk=>?_⟩
 ·unfold TP
  rw [ali];exact ⟨RP (node i hi 19 _ l19).1 (node i hi 19 _ l19).2,RP (node i hi 20 _ l20).1 (node i hi 20 _ l20).2,RP (node i hi 21 _ l21).1 (node i hi 21 _ l21).2,RP (node i hi 22 _ l22).1 (node i hi 22 _ l22).2,RP (node i hi 23 _ l23).1 (node i hi 23 _ l23).2⟩
 ·rw [am1]
  exact alh (node i hi 13 _ l13).1 (node i hi 13 _ l13).2
 ·rw [aeZ] at hi
  obtain ⟨q1,q2,q3⟩:=aeX t1 t2 t3 hi;rw [m0] at q1;obtain ⟨r1,r2,r3⟩:=JQ q1 q2 q3 m2;rw [ahX] at hk;obtain ⟨c1,c2,c3⟩:=aeX r1 r2 r3 hk;rw [n0] at c1;rw [akh];obtain ⟨x0,y0,_⟩:=JQ c1 c2 c3 n1;exact (RP x0 y0).1
theorem WS {P:Program} : ∀ {ts:List TypeId} {xs:List KV} {i:Nat} {t:TypeId},jQ P ts xs=true->xD P xs->uB P xs->ts[i]? = some t->ca (aH P t) (xs.getD i .bz)=true/\KS P (xs.getD i .bz)/\zR P (xs.getD i .bz)
 | [],_,_,_,_,_,_,h=>by simp at h
 | _::_,[],_,_,h,_,_,_=>by simp [jQ] at h
 | t::ts,v::vs,i,u,h,hw,hd,ht=>by
  simp only [jQ,aj] at h;cases i with
  | zero=>
   rw [List.getElem?_cons_zero] at ht;rw [<- yz ht];exact ⟨h.1,hw.1,hd.1⟩
  | succ i=>
   rw [Fy] at ht;have:=WS (ts:=ts) (xs:=vs) (i:=i) h.2 hw.2 hd.2 ht;rw [List.getD_cons_succ];exact this
theorem ae1 {ts:List TypeId} {xs:List KV} (i:Nat) (ht:ts[i]? = some 34) (h:jQ Tryz.prog ts xs=true) (hw:xD Tryz.prog xs) (hd:uB Tryz.prog xs):Fx (xt (xs.getD i .bz)):=by
 obtain ⟨h1,h2,h3⟩:=WS h hw hd ht;exact ae0 h1 h2 h3
end Go.Proofs.YtckbdndhmcoihaaGreat.sc
end
section
namespace Go.az
open Go.RowKit Go.WideShapes Go.ChangeShapes
theorem adj {H:Type} {enc:TypeId×Value->H} {P:Program} {f:Func} {s:ChangeSpec} {apart fresh handsOn again:Bool} {W W' : World} {args:Array Value} {v:Value} {ds gs:List (DataW H)} {before pa pv:List MemPlace}
  (whole:DataW.Whole enc P f.params.toList s.vars apart W args.toList ds gs before) (below:Below W.heap.size W W') (TT:before=pa++pv)
  (res:∀ (b:Nat) (sp:Nat->Bool) (hd:Bool),DataW.TrodAll enc P W' b sp hd f.resultTypes.toList (v.resultList f.resultTypes.size) (s.fn H (ds++gs)).results [])
  (arg:∀ sp:Nat->Bool,(∀ p∈before,sp p.block=true)->DataW.TrodAll enc P W' 0 sp true f.params.toList args.toList (s.fn H (ds++gs)).args pa)
  (var:∀ sp:Nat->Bool,(∀ p∈before,sp p.block=true)->DataW.TrodVars enc P W' sp s.vars (s.fn H (ds++gs)).vars pv)
  (wide:∀ (j:Nat) (t:TypeId) (r:Value),f.resultTypes[j]? = some t->(v.resultList f.resultTypes.size)[j]? = some r->Value.okWide P W' .any 0 t r) :
  s.post enc P f apart fresh handsOn again W args v W':=by
 have lt:∀ p∈before,p.block < W.heap.size:=fun p hp=>whole.lt p hp;have eB:∀ p∈before,(fun b=>decide (b < W.heap.size)) p.block=true:=fun p hp=>by simpa using lt p hp
 refine ⟨ds,gs,before,[],pa,pv,whole,res _ _ _,arg _ eB,var _ eB,World.keptBut_mono (fun p hp=>⟨hp,?_⟩) (below.frame (·∈before)),fun _=>?_⟩
 ·rw [TT,eX] at hp; exact Or.inr hp
 ·obtain ⟨_,_,_,_,_,fz,nd⟩:=whole
  refine ⟨wide,_,_,([]++pa)++pv,⟨[]++pa,pv,trodAll_append (arg _ (fun _ _=>rfl)) (res _ _ _),var _ (fun _ _=>rfl),rfl,fun b off hp=>?_,fun ha=>?_⟩,fun p hp _=>?_⟩
  ·have here:MemPlace.cell b off∈before:=by rw [TT]; simpa using hp
   rw [below.frozen (lt _ here)];exact fz b off here
  ·have:=nd ha
   rw [TT] at this;simpa using this
  ·rw [TT]; simpa using hp
end Go.az
end
section
namespace Go.K
open Go Go.az Go.RowKit Go.WideShapes Go.ChangeShapes
section
variable {H:Type} {enc:TypeId×Value->H} {P:Program} {W W' : World}
theorem Qk {base:Nat} {sp:Nat->Bool} {held:Bool} : ∀ {ts:List TypeId} {vs:List Value} {ds:List (DataW H)} {ps:List MemPlace},DataW.TrodAll enc P W base sp held ts vs ds ps->ds.length=ts.length
 | [],_,_,_,h=>by
  obtain ⟨rfl,rfl,rfl⟩:=trodAll_nil h;rfl
 | t::ts,vs,ds,ps,h=>by
  obtain ⟨v,Z8,d,ds1,a,b,rfl,rfl,rfl,_,h2⟩:=trodAll_cons h;simp [Qk h2]
theorem ahZ {α:Type} {n:Nat} {l:List α} (h:l.length=n+1):∃ x xs,l=x::xs:=by
 cases l with
 | nil=>simp at h
 | cons x xs=>exact ⟨x,xs,rfl⟩
theorem JR (hl:laidOutB P=true) (hb:Below W.heap.size W W') {sp:Nat->Bool} : ∀ {ts:List TypeId} {vs:List Value} {ds:List (DataW H)} {ps:List MemPlace},ts.all (fun t=>P.readableRec t&&Nat.blt t P.types.size)=true->
  DataW.TrodAll enc P W 0 (fun _=>true) true ts vs ds ps->(∀ x∈ps,x.block < W.heap.size)->(∀ x∈ps,sp x.block=true)->DataW.TrodAll enc P W' 0 sp true ts vs ds ps
 | [],_,_,_,_,h,_,_=>by
  obtain ⟨rfl,rfl,rfl⟩:=trodAll_nil h;exact trodAll_mk0
 | t::ts,vs,ds,ps,ht,h,aJ,tV=>by
  obtain ⟨v,Z8,d,ds1,a,b,rfl,rfl,rfl,h1,h2⟩:=trodAll_cons h;simp only [List.all_cons,aj] at ht;obtain ⟨⟨hr,dC⟩,ht⟩:=ht;rw [b7] at dC;refine ⟨a,b,WideElems.Trod_stays hl hr dC h1 (fun x hx=>hb.same (aJ x (by simp [hx]))) (fun x hx=>tV x (by simp [hx])),?_,rfl⟩;exact JR hl hb ht h2 (fun x hx=>aJ x (by simp [hx])) (fun x hx=>tV x (by simp [hx]))
theorem ah0 {s:ChangeSpec} {f:Func} {apart fresh handsOn again:Bool} {args:Array Value} {ds gs:List (DataW H)} {before:List MemPlace} (hl:laidOutB P=true) (hts:f.params.toList.all (fun t=>P.readableRec t&&Nat.blt t P.types.size)=true)
  (aki:s.vars = []) (adQ:(s.fn H ds).args=ds) (C0:(s.fn H ds).results = [.lit (.bool true)]) (hv:(s.fn H ds).vars = []) {t:TypeId} (hrt:f.resultTypes = #[t]) (hb:P.underlying t=some .bool)
  (hW:DataW.Whole enc P f.params.toList s.vars apart W args.toList ds gs before) (hg:Below W.heap.size W W'):s.post enc P f apart fresh handsOn again W args (.bool true) W':=by
 have hW':=hW;obtain ⟨p,q,hA,hV,amd,_,_⟩:=hW;rw [aki] at hV;obtain ⟨rfl,rfl⟩:=trodVars_none hV;rw [og] at amd;subst amd;have aJ:∀ x∈before,x.block < W.heap.size:=fun x hx=>hW'.lt x (by simpa using hx);refine az.adj (pa:=before) (pv:=[]) hW' hg (by simp) (fun b sp hd=>?_) (fun sp tV=>?_) (fun sp tV=>?_) (ok_one hrt rfl (okWide_bool_mk hb _))
 ·rw [og,C0,hrt]
  exact trodAll_cons_mk (shut_bool hb _) trodAll_mk0
 ·rw [og,adQ]
  exact JR hl hg hts hA aJ (fun x hx=>tV x (by simpa using hx))
 ·rw [og,hv,aki]
  rfl
end
end Go.K
end
