/- Part of the proof of WorldMat: the machine, shown to be the model's, and plain models. No conditions. -/
import Derived.Test.YtckbdndhmcoihaaGreatJp
import Derived.Test.YtckbdndhmcoihaaGreatGp
import Derived.Below
import Derived.ChangeSame
import Derived.ProofKit
import Derived.WideKeyArgs
set_option linter.unusedSimpArgs false
set_option linter.unusedVariables false
section
namespace Go.Proofs.YtckbdndhmcoihaaGreat.nodes
open Go Go.K Go.Xj
theorem asF {g:b.dG} {i:Nat} {x:Int×Int} (h:Reach (qOf g) ((i:Int),(g.ca.bJ.get i).gen) x):Xj.Below (dg g) (ch g) i x.1.toNat:=by
 induction h with
 | here=>exact .here
 | pP h k hk _ ih=>exact .pP h.1.toNat k hk ih
theorem asG {g:b.dG} (hr:∀ i,i < g.kids.n->Nq g i) (hlen:g.kids.n=g.ca.bJ.n) {i j:Nat} (h:Xj.Below (dg g) (ch g) i j):∀ x:b.Handle,x.slot.toNat=j->ph g.ca x->Reach (qOf g) ((i:Int),(g.ca.bJ.get i).gen) (hp x):=by
 induction h with
 | here=>
  rintro ⟨s,gn⟩ e ⟨h1,h2,h3,_⟩;have h1:0<=s:=h1;have e:s.toNat=i:=e;have h3:(g.ca.bJ.get s.toNat).gen=gn:=h3;have:hp ⟨s,gn⟩=((i:Int),(g.ca.bJ.get i).gen):=by
   show (s,gn)=_;rw [<- h3,e];congr 1;omega
  rw [this];exact .here
 | pP j k hk _ ih=>
  rintro x e ⟨h1,h2,_,_⟩;subst e;have hj:x.slot.toNat < g.kids.n:=by omega
  exact .pP (q:=qOf g) (hp x) k hk (ih ((g.kids.get x.slot.toNat).get k) rfl ((hr _ hj).2.2 k hk))
theorem asH {g:b.dG} (hr:∀ i,i < g.kids.n->Nq g i) (hlen:g.kids.n=g.ca.bJ.n):(∀ i,i < g.kids.n->nodes.Je g i)↔Xj.Je g.kids.n (dg g) (ch g):=
 ⟨fun h i hi k hk hb=>h i hi k hk (asG hr hlen hb _ rfl ((hr i hi).2.2 k hk)),fun h i hi k hk hb=>h i hi k hk (asF hb)⟩
theorem auP {g:b.dG} (ha:yV g.ca) (hlen:g.kids.n=g.ca.bJ.n) (hr:∀ i,i < g.kids.n->Nq g i):Fit g:=by
 have:=ha.few;exact ⟨by omega,fun i hi=>by have:=(hr i hi).1; unfold dg; omega,fun i hi k hk=>by have:=(hr i hi).2.2 k hk; exact ⟨this.1,by rw [hlen]; exact this.2.1⟩⟩
theorem aqo (g:b.dG) (Zi:g.ca.bJ.n < 1000000):∃ r,b.EE g=some r/\(r=true↔pn g):=by
 unfold b.EE b.Oz;obtain ⟨r,hr,ha⟩:=aqm g.ca Zi;rw [hr];simp only [fQ,ak,ee];cases r with
 | false=>exact ⟨false,rfl,⟨fun h=>by simp at h,fun h=>absurd (ha.2 ((xC g).1 h).1) (by simp)⟩⟩
 | true=>
  have ha:=ha.1 rfl;by_cases hlen:g.kids.n=g.ca.bJ.n
  ·have e1:(((g.kids.n:Nat):Int) != ((g.ca.bJ.n:Nat):Int))=false:=by rw [hlen]; exact bne_self_eq_false _
   rw [e1];simp only [Hf,ba];obtain ⟨e,x',h1,h2⟩:=aoT g hlen (by omega);unfold b.OA;rw [h1];simp only [aW.lC,aW.lq];rcases h2 with ⟨rfl,hg,hQ⟩ | ⟨rfl,ht,i,hi,hQ⟩
   ·have es:sG (aB.ae.exit 0) (aB.ae.exit 0)=true:=rfl
    rw [es,hg];obtain ⟨r,hl,hf⟩:=aoV (auP ha hlen hQ);rw [hl];refine ⟨r,rfl,hf.trans ((asH hQ hlen).symm.trans ?_)⟩;rw [xC];exact ⟨fun h=>⟨ha,hlen,hQ,h⟩,fun h=>h.2.2.2⟩
   ·have es:sG aB.ae.ret (aB.ae.exit 0)=false:=rfl
    have pQ:sG aB.ae.ret aB.ae.ret=true:=rfl;rw [es,pQ,ht];exact ⟨false,rfl,⟨fun h=>by simp at h,fun h=>absurd (((xC g).1 h).2.2.1 i hi) hQ⟩⟩
  ·have e1:(((g.kids.n:Nat):Int) != ((g.ca.bJ.n:Nat):Int))=true:=by
    rw [bne_iff_ne];omega
   rw [e1];exact ⟨false,rfl,⟨fun h=>by simp at h,fun h=>absurd ((xC g).1 h).2.1 hlen⟩⟩
open Classical in
theorem aoW (g:b.dG):Ga g=some (if pn g then 0 else 8):=by
 obtain ⟨n,hn,_⟩:=Ss g.ca;unfold Ga;rw [hn];rfl
end Go.Proofs.YtckbdndhmcoihaaGreat.nodes
end
section
namespace Go.Proofs.YtckbdndhmcoihaaGreat.sc
open Go Go.K Go.Proofs.YtckbdndhmcoihaaGreat.nodes
theorem Vj (m:b.iU):Gl m=0↔DX m:=by
 unfold Gl;by_cases h:abY m
 ·rw [aY h]
  by_cases k:DX m
  ·rw [aY k]; exact ⟨fun _=>k,fun _=>rfl⟩
  ·rw [av k]; exact ⟨fun q=>by simp at q,fun q=>absurd q k⟩
 ·rw [av h]; exact ⟨fun q=>by simp at q,fun q=>absurd q.1 h⟩
def Xk:b.Node:=⟨0,xf,0,PX,aoO,0,⟨⟨0,0,0,0,0⟩,⟨⟨0,0,0,0⟩,0,0,0,false,0⟩⟩⟩
def Pe:b.Handle:=⟨0,0⟩
def HV (s:b.aP) (i:Nat):Prop:=((s.graph.ca.bJ.get i).live=true->afd s (s.nodes.get i))/\((s.graph.ca.bJ.get i).live=false->Nn (s.nodes.get i) Xk)/\((s.nodes.get i).kind=5->(s.graph.kids.get i).n=0)
def ab1 (s:b.aP):Prop:=s.bX.n<=32/\s.dD.n<=16/\(∀ i,i < s.bX.n->DX (s.bX.get i))/\∀ i,i < s.dD.n->GZ (s.dD.get i)
def yW (s:b.aP):Prop:=pn s.graph/\s.nodes.n=s.graph.kids.n/\ab1 s/\(∀ i,i < s.nodes.n->HV s i)/\(s.root=Pe\/ph s.graph.ca s.root)
def xg (s:b.aP):Prop:=(∀ i,i < s.nodes.n->Pc (s.nodes.get i).b7/\(s.nodes.get i).nc.n < 1000000)/\(∀ i,i < s.bX.n->Bk (s.bX.get i))/\s.graph.ca.bJ.n < 1000000/\s.nodes.n < 1000000/\s.bX.n < 1000000/\s.dD.n < 1000000
theorem amI (s:Sl b.iU) (hs:s.n<=1000) (hk:∀ i,i < s.n->Bk (s.get i)):(∃ x',goN b.bU (⟨s,(0:Int),((s.n:Nat):Int),(0:Int)⟩:b.bn) = .out (.exit 0) x'/\∀ i,i < s.n->DX (s.get i))\/
  ∃ x',goN b.bU (⟨s,(0:Int),((s.n:Nat):Int),(0:Int)⟩:b.bn) = .out .ret x'/\x'.t4 >= 0/\∃ i,i < s.n/\¬ DX (s.get i):=by
 have key:=jG (step:=b.bU) s.n (by unfold iI; omega) (fun j=>⟨s,(0:Int),((s.n:Nat):Int),(j:Int)⟩) (fun k=>DX (s.get k)) (e0:=.exit 0) (er:=.ret) rfl rfl (fun x'=>x'.t4 >= 0) (xe:=⟨s,(0:Int),((s.n:Nat):Int),((s.n:Nat):Int)⟩) (fun j hj=>by
  have e1:aR ((j:Int)+1)=((j+1:Nat):Int):=by rw [cd (by omega) (by omega)]; omega
  have d1:decide ((j:Int) < ((s.n:Nat):Int))=true:=aq (by omega);have d2:decide ((0:Int)<=(j:Int))=true:=aq (by omega);have ej:Int.toNat (j:Int)=j:=rfl;unfold b.bU b.ky
  dsimp only
  have D2:(j:Int) >= 0:=by omega
  rw [d1,d2,ej,e1,aqb _ (hk j hj)];simp only [dk,ak,fQ,ee];rw [<- Vj];by_cases h:Gl (s.get j)=0
  ·rw [bne_eq_false_iff_eq.2 h]
   exact ⟨fun _=>rfl,fun k=>absurd h k⟩
  ·rw [bne_iff_ne.2 h]
   exact ⟨fun k=>absurd k h,fun _=>⟨_,rfl,D2⟩⟩) (by
  unfold b.bU
  dsimp only
  rw [bj (Int.lt_irrefl _)];rfl)
 rcases key with ⟨h1,h2⟩ | ⟨x',h1,h2,h3⟩
 ·exact .inl ⟨_,h1,h2⟩
 ·exact .inr ⟨x',h1,h2,h3⟩
theorem aqp (s:Sl b.jf) (hs:s.n<=1000):(∃ x',goN b.bV (⟨s,(0:Int),((s.n:Nat):Int),(0:Int)⟩:b.bo) = .out (.exit 0) x'/\∀ i,i < s.n->GZ (s.get i))\/
  ∃ x',goN b.bV (⟨s,(0:Int),((s.n:Nat):Int),(0:Int)⟩:b.bo) = .out .ret x'/\x'.t4 >= 0/\∃ i,i < s.n/\¬ GZ (s.get i):=by
 have key:=jG (step:=b.bV) s.n (by unfold iI; omega) (fun j=>⟨s,(0:Int),((s.n:Nat):Int),(j:Int)⟩) (fun k=>GZ (s.get k)) (e0:=.exit 0) (er:=.ret) rfl rfl (fun x'=>x'.t4 >= 0) (xe:=⟨s,(0:Int),((s.n:Nat):Int),((s.n:Nat):Int)⟩) (fun j hj=>by
  have e1:aR ((j:Int)+1)=((j+1:Nat):Int):=by rw [cd (by omega) (by omega)]; omega
  have d1:decide ((j:Int) < ((s.n:Nat):Int))=true:=aq (by omega);have d2:decide ((0:Int)<=(j:Int))=true:=aq (by omega);have ej:Int.toNat (j:Int)=j:=rfl;unfold b.bV b.kz
  dsimp only
  have D2:(j:Int) >= 0:=by omega
  obtain ⟨e,q1,q2⟩:=asy (s.get j);rw [d1,d2,ej,e1,q1];simp only [dk,ak,fQ,ee];rcases q2 with ⟨h,k⟩ | ⟨h,k⟩
  ·rw [h]
   exact ⟨fun _=>rfl,fun g=>absurd k g⟩
  ·rw [h]
   exact ⟨fun g=>absurd g k,fun _=>⟨_,rfl,D2⟩⟩) (by
  unfold b.bV
  dsimp only
  rw [bj (Int.lt_irrefl _)];rfl)
 rcases key with ⟨h1,h2⟩ | ⟨x',h1,h2,h3⟩
 ·exact .inl ⟨_,h1,h2⟩
 ·exact .inr ⟨x',h1,h2,h3⟩
theorem aka (s:b.aP) (hs:s.bX.n < 1000000) (hk:∀ i,i < s.bX.n->Bk (s.bX.get i)):(goN b.jc (⟨false,(0:Int),s⟩:b.gH) = .out (.exit 0) ⟨false,((s.bX.n:Nat):Int),s⟩/\∀ i,i < s.bX.n->DX (s.bX.get i))\/
  ∃ x',goN b.jc (⟨false,(0:Int),s⟩:b.gH) = .out .ret x'/\x'.t2=false/\∃ i,i < s.bX.n/\¬ DX (s.bX.get i):=by
 exact jG (step:=b.jc) s.bX.n (by unfold iI; omega) (fun j=>⟨false,(j:Int),s⟩) (fun k=>DX (s.bX.get k)) (e0:=.exit 0) (er:=.ret) rfl rfl (fun x'=>x'.t2=false) (xe:=⟨false,((s.bX.n:Nat):Int),s⟩) (fun j hj=>by
  have e1:aR ((j:Int)+1)=((j+1:Nat):Int):=by rw [cd (by omega) (by omega)]; omega
  have d1:decide ((j:Int) < ((s.bX.n:Nat):Int))=true:=aq (by omega);have d2:decide ((0:Int)<=(j:Int))=true:=aq (by omega);have ej:Int.toNat (j:Int)=j:=rfl;unfold b.jc b.B8
  dsimp only
  rw [d1,d2,ej,e1,aoH _ (hk j hj)];simp only [dk,ak,fQ,ee];rw [<- Vj];by_cases h:Gl (s.bX.get j)=0
  ·rw [bne_eq_false_iff_eq.2 h]
   exact ⟨fun _=>rfl,fun k=>absurd h k⟩
  ·rw [bne_iff_ne.2 h]
   exact ⟨fun k=>absurd k h,fun _=>⟨_,rfl,rfl⟩⟩) (by
  unfold b.jc
  dsimp only
  rw [bj (Int.lt_irrefl _)];rfl)
theorem aoX (s:b.aP) (hs:s.dD.n < 1000000):(goN b.jd (⟨false,(0:Int),s⟩:b.gI) = .out (.exit 2) ⟨false,((s.dD.n:Nat):Int),s⟩/\∀ i,i < s.dD.n->GZ (s.dD.get i))\/
  ∃ x',goN b.jd (⟨false,(0:Int),s⟩:b.gI) = .out .ret x'/\x'.t2=false/\∃ i,i < s.dD.n/\¬ GZ (s.dD.get i):=by
 exact jG (step:=b.jd) s.dD.n (by unfold iI; omega) (fun j=>⟨false,(j:Int),s⟩) (fun k=>GZ (s.dD.get k)) (e0:=.exit 2) (er:=.ret) rfl rfl (fun x'=>x'.t2=false) (xe:=⟨false,((s.dD.n:Nat):Int),s⟩) (fun j hj=>by
  have e1:aR ((j:Int)+1)=((j+1:Nat):Int):=by rw [cd (by omega) (by omega)]; omega
  have d1:decide ((j:Int) < ((s.dD.n:Nat):Int))=true:=aq (by omega);have d2:decide ((0:Int)<=(j:Int))=true:=aq (by omega);have ej:Int.toNat (j:Int)=j:=rfl;unfold b.jd b.B9
  dsimp only
  obtain ⟨r,q1,q2⟩:=ap5 (s.dD.get j);rw [d1,d2,ej,e1,q1];simp only [dk,ak,fQ,ee];rw [<- q2];cases r with
  | true=>exact ⟨fun _=>rfl,fun k=>absurd rfl k⟩
  | false=>exact ⟨fun k=>by simp at k,fun _=>⟨_,rfl,rfl⟩⟩) (by
  unfold b.jd
  dsimp only
  rw [bj (Int.lt_irrefl _)];rfl)
theorem akb (s:b.aP) (hs:s.bX.n < 1000000) (ht:s.dD.n < 1000000) (hk:∀ i,i < s.bX.n->Bk (s.bX.get i)):∃ r,b.xw s=some r/\(r=true↔ab1 s):=by
 unfold b.xw;rcases aka s hs hk with ⟨h1,h2⟩ | ⟨x',h1,h2,i,h3,h4⟩
 ·have e0:b.qN s = .out (.exit 0) ⟨false,((s.bX.n:Nat):Int),s⟩:=h1
  rcases aoX s ht with ⟨g1,g2⟩ | ⟨x',g1,g2,i,g3,g4⟩
  ·have e1:b.mT s = .out (.exit 2) ⟨false,((s.dD.n:Nat):Int),s⟩:=by
    unfold b.mT;rw [e0];exact g1
   rw [e0,e1];show ∃ r,cond (decide (((s.bX.n:Nat):Int)<=32)) (some (decide (((s.dD.n:Nat):Int)<=16))) (some false)=some r/\(r=true↔ab1 s);by_cases hm:((s.bX.n:Nat):Int)<=32
   ·rw [aq hm]
    exact ⟨_,rfl,Ec.trans ⟨fun h=>⟨by omega,by omega,h2,g2⟩,fun h=>by have:=h.2.1; omega⟩⟩
   ·rw [bj hm]
    exact ⟨false,rfl,⟨fun h=>by simp at h,fun h=>absurd h.1 (by omega)⟩⟩
  ·have e1:b.mT s = .out .ret x':=by
    unfold b.mT;rw [e0];exact g1
   rw [e0,e1];exact ⟨x'.t2,rfl,⟨fun h=>by rw [g2] at h; simp at h,fun h=>absurd (h.2.2.2 i g3) g4⟩⟩
 ·have e0:b.qN s = .out .ret x':=h1
  rw [e0];exact ⟨x'.t2,rfl,⟨fun h=>by rw [h2] at h; simp at h,fun h=>absurd (h.2.2.1 i h3) h4⟩⟩
theorem aqq (n:b.Node) (hn:n.nc.n < 1000000):∃ r,b.Cw n=some r/\(r=true↔Nn n Xk):=by
 unfold b.Cw b.LG;obtain ⟨r,q1,q2⟩:=aoM n Xk hn;have:b.qO n Xk=some r:=q1;unfold Xk xf PX aoO at this;rw [this];exact ⟨r,rfl,q2⟩
theorem aoY (s:b.aP) (su:xg s) (hlen:s.nodes.n=s.graph.kids.n) (hg:s.graph.kids.n=s.graph.ca.bJ.n):(goN b.hY (⟨0,s.nodes,((s.nodes.n:Nat):Int),(0:Int),s⟩:b.ct) = .out (.exit 0) ⟨0,s.nodes,((s.nodes.n:Nat):Int),((s.nodes.n:Nat):Int),s⟩/\∀ i,i < s.nodes.n->HV s i)\/
  ∃ x',goN b.hY (⟨0,s.nodes,((s.nodes.n:Nat):Int),(0:Int),s⟩:b.ct) = .out .ret x'/\x'.t2=8/\∃ i,i < s.nodes.n/\¬ HV s i:=by
 have hn:=su.2.2.2.1;exact jG (step:=b.hY) s.nodes.n (by unfold iI; omega) (fun j=>⟨0,s.nodes,((s.nodes.n:Nat):Int),(j:Int),s⟩) (fun k=>HV s k) (e0:=.exit 0) (er:=.ret) rfl rfl (fun x'=>x'.t2=8) (xe:=⟨0,s.nodes,((s.nodes.n:Nat):Int),((s.nodes.n:Nat):Int),s⟩) (fun j hj=>by
  have e1:aR ((j:Int)+1)=((j+1:Nat):Int):=by rw [cd (by omega) (by omega)]; omega
  have d1:decide ((j:Int) < ((s.nodes.n:Nat):Int))=true:=aq (by omega);have d2:decide ((0:Int)<=(j:Int))=true:=aq (by omega);have d3:decide ((j:Int) < ((s.graph.ca.bJ.n:Nat):Int))=true:=aq (by omega);have d4:decide ((j:Int) < ((s.graph.kids.n:Nat):Int))=true:=aq (by omega);have ej:Int.toNat (j:Int)=j:=rfl;obtain ⟨aoQ,L8⟩:=su.1 j hj;unfold b.hY b.AJ b.ra
  dsimp only
  rw [ej];obtain ⟨r,q1,q2⟩:=aiH (s.nodes.get j) Xk L8;obtain ⟨e,g1,g2⟩:=aqk s (s.nodes.get j) aoQ L8;unfold Xk xf PX aoO at q1;rw [d1,d2,d3,d4,e1,q1,g1];unfold HV;cases hl:(s.graph.ca.bJ.get j).live with
  | false=>
   simp only [dk,ak,ba,fQ,ee,Fa,Hf];cases r with
   | true=>
    have hz:=q2.1 rfl;have h0:(s.nodes.get j).kind=0:=hz.1;exact ⟨fun _=>rfl,fun k=>absurd ⟨fun h=>by simp at h,fun _=>hz,fun h=>by omega⟩ k⟩
   | false=>exact ⟨fun k=>by have:=q2.2 (k.2.1 trivial); simp at this,fun _=>⟨_,rfl,rfl⟩⟩
  | true=>
   simp only [dk,ak,ba,fQ,ee,Fa,Hf];rcases g2 with ⟨g3,g4⟩ | ⟨g3,g4⟩
   ·rw [g3]
    have:((0:Int) != 0)=false:=rfl;rw [this,ba];by_cases h5:(s.nodes.get j).kind=5
    ·rw [kq.2 h5,ak]
     by_cases hk:(((s.graph.kids.get j).n:Nat):Int) > 0
     ·rw [aq hk]
      exact ⟨fun k=>absurd (k.2.2 h5) (by omega),fun _=>⟨_,rfl,rfl⟩⟩
     ·rw [bj hk]
      exact ⟨fun _=>rfl,fun k=>absurd ⟨fun _=>g4,fun h=>by simp at h,fun _=>by omega⟩ k⟩
    ·have:((s.nodes.get j).kind==(5:Int))=false:=by rw [<- Bool.not_eq_true,L4]; exact h5
     rw [this,ba];exact ⟨fun _=>rfl,fun k=>absurd ⟨fun _=>g4,fun h=>by simp at h,fun h=>absurd h h5⟩ k⟩
   ·rw [g3]
    exact ⟨fun k=>absurd (k.1 trivial) g4,fun _=>⟨_,rfl,rfl⟩⟩) (by
  unfold b.hY
  dsimp only
  rw [bj (Int.lt_irrefl _)];rfl)
theorem amJ (s:b.aP) (su:xg s) (hlen:s.nodes.n=s.graph.kids.n) (hg:s.graph.kids.n=s.graph.ca.bJ.n):(goN b.kU (⟨false,(0:Int),s⟩:b.cT) = .out (.exit 0) ⟨false,((s.nodes.n:Nat):Int),s⟩/\∀ i,i < s.nodes.n->HV s i)\/
  ∃ x',goN b.kU (⟨false,(0:Int),s⟩:b.cT) = .out .ret x'/\x'.t2=false/\∃ i,i < s.nodes.n/\¬ HV s i:=by
 have hn:=su.2.2.2.1;exact jG (step:=b.kU) s.nodes.n (by unfold iI; omega) (fun j=>⟨false,(j:Int),s⟩) (fun k=>HV s k) (e0:=.exit 0) (er:=.ret) rfl rfl (fun x'=>x'.t2=false) (xe:=⟨false,((s.nodes.n:Nat):Int),s⟩) (fun j hj=>by
  have e1:aR ((j:Int)+1)=((j+1:Nat):Int):=by rw [cd (by omega) (by omega)]; omega
  have d1:decide ((j:Int) < ((s.nodes.n:Nat):Int))=true:=aq (by omega);have d2:decide ((0:Int)<=(j:Int))=true:=aq (by omega);have d3:decide ((j:Int) < ((s.graph.ca.bJ.n:Nat):Int))=true:=aq (by omega);have d4:decide ((j:Int) < ((s.graph.kids.n:Nat):Int))=true:=aq (by omega);have ej:Int.toNat (j:Int)=j:=rfl;obtain ⟨aoQ,L8⟩:=su.1 j hj;unfold b.kU b.GL b.w6
  dsimp only
  rw [ej];obtain ⟨r,q1,q2⟩:=aqq (s.nodes.get j) L8;obtain ⟨e,g1,g2⟩:=aoP s (s.nodes.get j) aoQ L8;rw [d1,d2,d3,d4,e1,q1,g1];unfold HV;cases hl:(s.graph.ca.bJ.get j).live with
  | false=>
   simp only [dk,ak,ba,fQ,ee,Fa,Hf];cases r with
   | true=>
    have hz:=q2.1 rfl;have h0:(s.nodes.get j).kind=0:=hz.1;rw [h0];exact ⟨fun _=>rfl,fun k=>absurd ⟨fun h=>by simp at h,fun _=>hz,fun h=>by simp at h⟩ k⟩
   | false=>exact ⟨fun k=>by have:=q2.2 (k.2.1 trivial); simp at this,fun _=>⟨_,rfl,rfl⟩⟩
  | true=>
   simp only [dk,ak,ba,fQ,ee,Fa,Hf];cases e with
   | true=>
    have g4:=g2.1 rfl;simp only [Hf,ba];by_cases h5:(s.nodes.get j).kind=5
    ·rw [kq.2 h5,ak]
     by_cases hk:(((s.graph.kids.get j).n:Nat):Int) > 0
     ·rw [aq hk]
      exact ⟨fun k=>absurd (k.2.2 h5) (by omega),fun _=>⟨_,rfl,rfl⟩⟩
     ·rw [bj hk]
      exact ⟨fun _=>rfl,fun k=>absurd ⟨fun _=>g4,fun h=>by simp at h,fun _=>by omega⟩ k⟩
    ·have:((s.nodes.get j).kind==(5:Int))=false:=by rw [<- Bool.not_eq_true,L4]; exact h5
     rw [this,ba];exact ⟨fun _=>rfl,fun k=>absurd ⟨fun _=>g4,fun h=>by simp at h,fun h=>absurd h h5⟩ k⟩
   | false=>exact ⟨fun k=>by have:=g2.2 (k.1 trivial); simp at this,fun _=>⟨_,rfl,rfl⟩⟩) (by
  unfold b.kU
  dsimp only
  rw [bj (Int.lt_irrefl _)];rfl)
theorem ab2 (h:b.Handle):((h.slot==(0:Int))&&((h.gen==(0:Int))&&true))=true↔h=Pe:=by
 obtain ⟨x,y⟩:=h;unfold Pe;simp
theorem aqr {s:b.aP} (hg:pn s.graph) (h:b.Handle):b.eG s.graph.ca h=some (decide (b.eG s.graph.ca h=some true))/\(b.eG s.graph.ca h=some true↔ph s.graph.ca h):=by
 obtain ⟨r,q1,q2⟩:=ady s.graph.ca h;have ha:=((xC s.graph).1 hg).1;rw [q1];cases r with
 | true=>exact ⟨rfl,fun _=>(q2.1 rfl).2,fun _=>rfl⟩
 | false=>exact ⟨rfl,fun k=>by simp at k,fun k=>by have:=q2.2 ⟨ha,k⟩; simp at this⟩
open Classical in
theorem aqs (s:b.aP) (su:xg s):∃ e,b.xz s=some e/\(e=0/\yW s\/e=8/\¬ yW s):=by
 unfold b.xz b.GV b.mW;have hq:b.Jf s.graph=some (if pn s.graph then 0 else 8):=aoW s.graph;rw [hq];simp only [fQ,ee,ak];by_cases hg:pn s.graph
 ·rw [aY hg]
  have hlen:=((xC s.graph).1 hg).2.1;refine DZ neI (fun h=>absurd rfl h) fun _=>?_;refine DZ neI (fun h k=>h (by rw [k.2.1])) fun k1=>?_;refine DZ Ec (fun h k=>by have:=k.2.2.1.1; omega) fun k2=>?_;unfold b.BD;rcases amI s.bX (by omega) su.2.1 with ⟨x',q1,q2⟩ | ⟨x',q1,q2,i,q3,q4⟩
  ·rw [q1]
   simp only [aW.lC,aW.lq];have ex:sG (.exit 0) (.exit 0)=true:=rfl;rw [ex,ak];refine DZ Ec (fun h k=>by have:=k.2.2.1.2.1; omega) fun k3=>?_;unfold b.qS;rcases aqp s.dD (by omega) with ⟨y',r1,r2⟩ | ⟨y',r1,r2,i,r3,r4⟩
   ·rw [r1]
    simp only [aW.lC,aW.lq];rw [ex,ak];unfold b.cZ;rcases aoY s su (by omega) hlen with ⟨s1,s2⟩ | ⟨z',s1,s2,i,s3,s4⟩
    ·rw [s1]
     simp only [aW.lC,aW.lq];rw [ex,ak];obtain ⟨t1,t2⟩:=aqr hg s.root;by_cases hr:s.root=Pe
     ·rw [(Np (ab2 s.root) |> fun h=>by rw [<- Bool.not_eq_true,h]; exact fun k=>k hr:(!((s.root.slot==(0:Int))&&((s.root.gen==(0:Int))&&true)))=false)]
      exact ⟨0,rfl,.inl ⟨rfl,hg,by omega,⟨by omega,by omega,q2,r2⟩,s2,.inl hr⟩⟩
     ·rw [(Np (ab2 s.root)).2 hr]
      rw [t1];simp only [fQ,ee,ak];refine DZ (Np Ec) (fun h k=>by
       rcases k.2.2.2.2 with g | g
       ·exact hr g
       ·exact h (t2.2 g)) fun k5=>?_
      exact ⟨0,rfl,.inl ⟨rfl,hg,by omega,⟨by omega,by omega,q2,r2⟩,s2,.inr (t2.1 (Classical.byContradiction k5))⟩⟩
    ·rw [s1]
     exact ⟨z'.t2,rfl,.inr ⟨s2,fun k=>s4 (k.2.2.2.1 i s3)⟩⟩
   ·rw [r1]
    simp only [aW.lC,aW.lq,r2,decide_true];exact ⟨8,rfl,.inr ⟨rfl,fun k=>r4 (k.2.2.1.2.2.2 i r3)⟩⟩
  ·rw [q1]
   simp only [aW.lC,aW.lq,q2,decide_true];exact ⟨8,rfl,.inr ⟨rfl,fun k=>q4 (k.2.2.1.2.2.1 i q3)⟩⟩
 ·rw [av hg]
  exact ⟨8,rfl,.inr ⟨rfl,fun k=>hg k.1⟩⟩
theorem amK (s:b.aP) (su:xg s):∃ r,b.ER s=some r/\(r=true↔yW s):=by
 unfold b.ER b.OO b.OP b.OQ;obtain ⟨r,q1,q2⟩:=aqo s.graph su.2.2.1;obtain ⟨r',p1,p2⟩:=akb s su.2.2.2.2.1 su.2.2.2.2.2 su.2.1;rw [q1,p1];simp only [fQ,ee,ak];refine AL (Np q2) (fun h k=>h k.1) fun k1=>?_;have hg:pn s.graph:=Classical.byContradiction k1;have hlen:=((xC s.graph).1 hg).2.1;refine AL neI (fun h k=>h (by rw [k.2.1])) fun k2=>?_;refine AL (Np p2) (fun h k=>h k.2.2.1) fun k3=>?_;have gR:=Classical.byContradiction k3;unfold b.tU;rcases amJ s su (by omega) hlen with ⟨s1,s2⟩ | ⟨z',s1,s2,i,s3,s4⟩
 ·rw [s1]
  simp only [aW.lC,aW.lq];have ex:sG (.exit 0) (.exit 0)=true:=rfl;rw [ex,ak];by_cases hr:s.root=Pe
  ·rw [(ab2 s.root).2 hr]
   exact ⟨true,rfl,⟨fun _=>⟨hg,by omega,gR,s2,.inl hr⟩,fun _=>rfl⟩⟩
  ·have:((s.root.slot==(0:Int))&&((s.root.gen==(0:Int))&&true))=false:=by rw [<- Bool.not_eq_true,ab2]; exact hr
   rw [this];unfold b.F9 b.LH;obtain ⟨t,t1,t2⟩:=adz s.graph.ca s.root;rw [t1];refine ⟨t,rfl,t2.trans ⟨fun h=>⟨hg,by omega,gR,s2,.inr h⟩,fun h=>?_⟩⟩;rcases h.2.2.2.2 with g | g
   ·exact absurd g hr
   ·exact g
 ·rw [s1]
  exact ⟨z'.t2,rfl,⟨fun k=>by rw [s2] at k; simp at k,fun k=>absurd (k.2.2.2.1 i s3) s4⟩⟩
theorem aoZ (s:b.aP) (su:xg s):∃ e,b.zU s=some e/\(e=0/\yW s\/e=8/\¬ yW s):=by
 unfold b.zU b.Jd;obtain ⟨r,q1,q2⟩:=amK s su;rw [q1];cases r with
 | true=>exact ⟨0,rfl,.inl ⟨rfl,q2.1 rfl⟩⟩
 | false=>exact ⟨8,rfl,.inr ⟨rfl,fun k=>by have:=q2.2 k; simp at this⟩⟩
theorem pw {α:Type} (s:Sl α) (i:Nat) (v:α):(s.set i v).get i=v:=by
 unfold Sl.set;show cond (Nat.beq i i) v (s.get i)=v;rw [yZ];rfl
theorem lX {α:Type} (s:Sl α) {i j:Nat} (v:α) (h:j≠i):(s.set i v).get j=s.get j:=by
 unfold Sl.set;show cond (Nat.beq j i) v (s.get j)=s.get j;have:Nat.beq j i=false:=by
  cases q:Nat.beq j i with
  | false=>rfl
  | true=>exact absurd (bu q) h
 rw [this];rfl
def Ed (g:b.dG) (M:Nat->Int) (i:Nat):Nat->Int
 | 0=>1
 | k+1=>if 0<=((g.kids.get i).get k).slot/\((g.kids.get i).get k).slot < (g.kids.n:Int) then min (Ed g M i k+M ((g.kids.get i).get k).slot.toNat) 100000 else Ed g M i k
theorem Xl (g:b.dG) (M:Nat->Int) (i k:Nat):Ed g M i (k+1)=if 0<=((g.kids.get i).get k).slot/\((g.kids.get i).get k).slot < (g.kids.n:Int) then min (Ed g M i k+M ((g.kids.get i).get k).slot.toNat) 100000 else Ed g M i k:=rfl
def aag (g:b.dG):Nat->Nat->Int
 | 0,_=>0
 | t+1,i=>Ed g (aag g t) i (min (g.kids.get i).n 1000)
theorem aiJ {g:b.dG} {M:Nat->Int} (hM:∀ j,0<=M j) (i:Nat):∀ k,1<=Ed g M i k/\Ed g M i k<=100000
 | 0=>⟨Int.le_refl _,by show (1:Int)<=100000; omega⟩
 | k+1=>by
  have:=aiJ hM (g:=g) i k;have hm:=hM ((g.kids.get i).get k).slot.toNat;unfold Ed;split
  ·exact ⟨by omega,by omega⟩
  ·exact this
theorem ao0 (g:b.dG):∀ t i,0<=aag g t i/\aag g t i<=100000
 | 0,i=>⟨Int.le_refl _,by show (0:Int)<=100000; omega⟩
 | t+1,i=>by
  have:=aiJ (g:=g) (fun j=>(ao0 g t j).1) i (min (g.kids.get i).n 1000);show 0<=Ed _ _ _ _/\Ed _ _ _ _<=100000;omega
theorem aqt (s:b.aP) (M:Nat->Int) (hM:∀ j,0<=M j/\M j<=100000) (t2:Bool) (many nx:Sl Int) (step:Int) (i:Nat) (hi:i < s.graph.kids.n) (hm:many.n=s.graph.kids.n) (hx:nx.n=s.graph.kids.n) (h1:nx.get i=1) (aqu:∀ j,j < s.graph.kids.n->many.get j=M j) :
  ∃ D0 kk,goN b.iV (⟨t2,((s.graph.kids.n:Nat):Int),many,step,nx,(i:Int),(0:Int),s⟩:b.eI) = .out (.exit 4) ⟨t2,((s.graph.kids.n:Nat):Int),many,step,D0,(i:Int),kk,s⟩/\D0.n=s.graph.kids.n/\D0.get i=Ed s.graph M i (min (s.graph.kids.get i).n 1000)/\∀ j,j≠i->D0.get j=nx.get j:=by
 obtain ⟨e,x',h2,he,D0,kk,h3,h4⟩:=jq (step:=b.iV)
  (fun k x=>∃ q:Sl Int,x=⟨t2,((s.graph.kids.n:Nat):Int),many,step,q,(i:Int),(k:Int),s⟩/\q.n=s.graph.kids.n/\q.get i=Ed s.graph M i k/\∀ j,j≠i->q.get j=nx.get j)
  (fun e x'=>e = .exit 4/\∃ D0 kk,x' = ⟨t2,((s.graph.kids.n:Nat):Int),many,step,D0,(i:Int),kk,s⟩/\D0.n=s.graph.kids.n/\D0.get i=Ed s.graph M i (min (s.graph.kids.get i).n 1000)/\∀ j,j≠i->D0.get j=nx.get j)
  (min (s.graph.kids.get i).n 1000) (by unfold iI; omega) (by
   rintro k _ hk ⟨q,rfl,hq,hqi,hqo⟩;have ei:Int.toNat (i:Int)=i:=rfl;have ek:Int.toNat (k:Int)=k:=rfl;have d1:decide ((0:Int)<=(i:Int))=true:=aq (by omega);have d2:decide ((i:Int) < ((s.graph.kids.n:Nat):Int))=true:=aq (by omega);have d3:decide ((i:Int) < ((q.n:Nat):Int))=true:=aq (by omega);have d4:decide ((0:Int)<=(k:Int))=true:=aq (by omega);unfold b.iV
   dsimp only
   rw [ei,ek,d1,d2,d3,d4];simp only [dk,pT,Bl,ak,cv,bM];by_cases CF:(k:Int) < (((s.graph.kids.get i).n:Nat):Int)
   ·rw [aq CF]
    by_cases hk2:(k:Int) < 1000
    ·rw [aq hk2]
     simp only [ak];have e1:aR ((k:Int)+1)=((k+1:Nat):Int):=by rw [cd (by omega) (by omega)]; omega
     rw [e1];refine .inl ?_;by_cases g1:0<=((s.graph.kids.get i).get k).slot
     ·by_cases g2:((s.graph.kids.get i).get k).slot < ((s.graph.kids.n:Nat):Int)
      ·have g3:((s.graph.kids.get i).get k).slot < ((many.n:Nat):Int):=by rw [hm]; exact g2
       have ed:decide (((s.graph.kids.get i).get k).slot >= 0)=true:=aq g1;rw [ed,aq g2,aq g3];simp only [dk,ak];refine ⟨_,rfl,by omega,_,rfl,hq,?_,fun j hj=>?_⟩
       ·rw [pw,hqi,aqu _ (by omega)]
        have b1:=aiJ (g:=s.graph) (fun j=>(hM j).1) i k;have b2:=hM ((s.graph.kids.get i).get k).slot.toNat;rw [cd (by omega) (by omega),Xl,aY ⟨g1,g2⟩]
       ·rw [lX _ _ hj]; exact hqo j hj
      ·have ed:decide (((s.graph.kids.get i).get k).slot >= 0)=true:=aq g1
       rw [ed,bj g2];simp only [ak,ba];refine ⟨_,rfl,by omega,_,rfl,hq,?_,hqo⟩;rw [hqi,Xl,av fun h=>g2 h.2]
     ·have ed:decide (((s.graph.kids.get i).get k).slot >= 0)=false:=bj g1
      rw [ed];simp only [ba];refine ⟨_,rfl,by omega,_,rfl,hq,?_,hqo⟩;rw [hqi,Xl,av fun h=>g1 h.1]
    ·rw [bj hk2]
     have:k=min (s.graph.kids.get i).n 1000:=by omega
     exact .inr ⟨_,_,rfl,rfl,rfl,q,_,rfl,hq,by rw [<- this]; exact hqi,hqo⟩
   ·rw [bj CF]
    have:k=min (s.graph.kids.get i).n 1000:=by omega
    exact .inr ⟨_,_,rfl,rfl,rfl,q,_,rfl,hq,by rw [<- this]; exact hqi,hqo⟩
   ) (x:=⟨t2,((s.graph.kids.n:Nat):Int),many,step,nx,(i:Int),(0:Int),s⟩) ⟨nx,rfl,hx,h1,fun _ _=>rfl⟩
 ·subst he h3; exact ⟨D0,kk,h2,h4⟩
theorem aud (s:b.aP) (M:Nat->Int) (hM:∀ j,0<=M j/\M j<=100000) (hn:s.graph.kids.n<=300) (t2:Bool) (many nx:Sl Int) (step:Int) (hm:many.n=s.graph.kids.n) (hx:nx.n=s.graph.kids.n) (aqu:∀ j,j < s.graph.kids.n->many.get j=M j) :
  (∃ D0,goN b.jy (⟨t2,((s.graph.kids.n:Nat):Int),many,step,nx,(0:Int),s⟩:b.fI) = .out (.exit 2) ⟨t2,((s.graph.kids.n:Nat):Int),many,step,D0,((s.graph.kids.n:Nat):Int),s⟩/\D0.n=s.graph.kids.n/\∀ j,j < s.graph.kids.n->D0.get j=Ed s.graph M j (min (s.graph.kids.get j).n 1000)/\D0.get j<=10000)\/
  ∃ x',goN b.jy (⟨t2,((s.graph.kids.n:Nat):Int),many,step,nx,(0:Int),s⟩:b.fI) = .out .ret x'/\x'.t2=true/\x'.many=many:=by
 obtain ⟨e,x',h2,h3⟩:=jq (step:=b.jy)
  (fun k x=>∃ q:Sl Int,x=⟨t2,((s.graph.kids.n:Nat):Int),many,step,q,(k:Int),s⟩/\q.n=s.graph.kids.n/\∀ j,j < k->q.get j=Ed s.graph M j (min (s.graph.kids.get j).n 1000)/\q.get j<=10000)
  (fun e x'=>(e = .exit 2/\∃ D0,x' = ⟨t2,((s.graph.kids.n:Nat):Int),many,step,D0,((s.graph.kids.n:Nat):Int),s⟩/\D0.n=s.graph.kids.n/\∀ j,j < s.graph.kids.n->D0.get j=Ed s.graph M j (min (s.graph.kids.get j).n 1000)/\D0.get j<=10000)\/(e = .ret/\x'.t2=true/\x'.many=many))
  s.graph.kids.n (by unfold iI; omega) (by
   rintro k _ hk ⟨q,rfl,hq,hqo⟩;have ek:Int.toNat (k:Int)=k:=rfl;have d1:decide ((0:Int)<=(k:Int))=true:=aq (by omega);unfold b.jy b.bF
   dsimp only
   rw [ek,d1];simp only [dk,pT,Bl,ak,cv,bM];by_cases bG:(k:Int) < ((s.graph.kids.n:Nat):Int)
   ·have d2:decide ((k:Int) < ((q.n:Nat):Int))=true:=aq (by omega)
    rw [aq bG,d2];simp only [ak];obtain ⟨D0,kk,r1,r2,r3,r4⟩:=aqt s M hM t2 many (q.set k 1) step k (by omega) hm hq (pw q k 1) aqu;rw [r1];rw [aW.lq];simp only [aW.lC,cv,ak];have ex:sG (.exit 4) (.exit 4)=true:=rfl;have d3:decide ((k:Int) < ((D0.n:Nat):Int))=true:=aq (by omega);rw [ex,d1,d3,ek];simp only [dk,ak];by_cases hb:D0.get k > 10000
    ·rw [aq hb]
     exact .inr ⟨_,_,rfl,rfl,.inr ⟨rfl,rfl,rfl⟩⟩
    ·rw [bj hb]
     have e1:aR ((k:Int)+1)=((k+1:Nat):Int):=by rw [cd (by omega) (by omega)]; omega
     rw [e1];refine .inl ⟨_,rfl,by omega,D0,rfl,r2,fun j hj=>?_⟩;by_cases hjk:j=k
     ·subst hjk; exact ⟨r3,by omega⟩
     ·rw [r4 j hjk,lX _ _ hjk]; exact hqo j (by omega)
   ·have:k=s.graph.kids.n:=by omega
    subst this;rw [bj bG];exact .inr ⟨_,_,rfl,rfl,.inl ⟨rfl,q,rfl,hq,hqo⟩⟩
   ) (x:=⟨t2,((s.graph.kids.n:Nat):Int),many,step,nx,(0:Int),s⟩) ⟨nx,rfl,hx,fun j hj=>absurd hj (o8 j)⟩
 ·rcases h3 with ⟨rfl,D0,rfl,h4⟩ | ⟨rfl,h4⟩
  ·exact .inl ⟨D0,h2,h4⟩
  ·exact .inr ⟨x',h2,h4⟩
def ao1 (g:b.dG):Prop:=g.kids.n<=300/\∀ t,t<=18->∀ i,i < g.kids.n->aag g t i<=10000
theorem aqv (s:b.aP):∃ r,b.Ct s=some r/\(r=false->ao1 s.graph):=by
 unfold b.Ct b.Fw;by_cases hn:((s.graph.kids.n:Nat):Int) > 300
 ·rw [aq hn]; exact ⟨true,rfl,fun h=>by simp at h⟩
 rw [bj hn];have en:Int.toNat ((s.graph.kids.n:Nat):Int)=s.graph.kids.n:=rfl;have d1:decide (((s.graph.kids.n:Nat):Int)<=((s.graph.kids.n:Nat):Int))=true:=aq (Int.le_refl _);have d2:Nat.ble (8 * s.graph.kids.n) 281474976710656=true:=by rw [Nat.ble_eq]; omega
 rw [en,d1,d2];simp only [dk,ak,ba,cv];obtain ⟨e,x',h2,h3⟩:=jq (step:=b.ng)
  (fun t x=>∃ q:Sl Int,x=⟨false,((s.graph.kids.n:Nat):Int),q,(t:Int),s⟩/\q.n=s.graph.kids.n/\(∀ j,j < s.graph.kids.n->q.get j=aag s.graph t j)/\∀ t',t'<=t->∀ j,j < s.graph.kids.n->aag s.graph t' j<=10000)
  (fun e x'=>(e = .exit 0/\∀ t',t'<=18->∀ j,j < s.graph.kids.n->aag s.graph t' j<=10000)\/(e = .ret/\x'.t2=true))
  18 (by unfold iI; omega) (by
   rintro t _ ht ⟨q,rfl,hq,hqo,hqb⟩;unfold b.ng b.dN
   dsimp only
   have d0:decide ((0:Int)<=((s.graph.kids.n:Nat):Int))=true:=aq (by omega);rw [en,d0,d1,d2];simp only [dk,ak,cv];by_cases bG:(t:Int) < 18
   ·rw [aq bG,ak]
    rcases aud s (aag s.graph t) (ao0 s.graph t) (by omega) false q ⟨s.graph.kids.n,fun _=>0⟩ (t:Int) hq rfl hqo with ⟨D0,r1,r2,r3⟩ | ⟨x',r1,r2,r3⟩
    ·rw [r1]
     simp only [aW.lC,aW.lq,cv];have e1:aR ((t:Int)+1)=((t+1:Nat):Int):=by rw [cd (by omega) (by omega)]; omega
     rw [e1];refine .inl ⟨_,rfl,by omega,D0,rfl,r2,fun j hj=>(r3 j hj).1,fun t' ht' j hj=>?_⟩;by_cases htt:t' = t+1
     ·subst htt
      have:=r3 j hj;show Ed s.graph (aag s.graph t) j _<=10000;omega
     ·exact hqb t' (by omega) j hj
    ·rw [r1]
     simp only [aW.lC,aW.lq,cv];exact .inr ⟨_,_,rfl,rfl,.inr ⟨rfl,r2⟩⟩
   ·have:t=18:=by omega
    subst this;rw [bj bG];exact .inr ⟨_,_,rfl,rfl,.inl ⟨rfl,hqb⟩⟩
   ) (x:=⟨false,((s.graph.kids.n:Nat):Int),⟨s.graph.kids.n,fun _=>0⟩,(0:Int),s⟩) ⟨_,rfl,rfl,fun _ _=>rfl,fun t' ht j hj=>by
   have:t' = 0:=by omega
   subst this;show (0:Int)<=10000;omega⟩
 ·rw [h2]
  rcases h3 with ⟨rfl,h3⟩ | ⟨rfl,h3⟩
  ·exact ⟨false,rfl,fun _=>⟨by omega,h3⟩⟩
  ·exact ⟨x'.t2,rfl,fun h=>by rw [h3] at h; simp at h⟩
theorem akc (g:b.dG):∃ r,b.zi g=some r/\(r=false->g.ca.bJ.n<=200/\g.kids.n<=200):=by
 unfold b.zi b.De;by_cases h1:((g.ca.bJ.n:Nat):Int) > 200
 ·rw [aq h1]; exact ⟨true,rfl,fun h=>by simp at h⟩
 rw [bj h1];by_cases h2:((g.kids.n:Nat):Int) > 200
 ·rw [aq h2]; exact ⟨true,rfl,fun h=>by simp at h⟩
 rw [bj h2];simp only [ba];obtain ⟨e,x',q1,q2⟩:=jq (step:=b.lZ)
  (fun t x=>∃ m:Int,x=⟨false,m,(t:Int),g⟩)
  (fun e x'=>e = .exit 0\/e = .ret)
  g.kids.n (by unfold iI; omega) (by
   rintro t _ ht ⟨m,rfl⟩;have et:Int.toNat (t:Int)=t:=rfl;have d1:decide ((0:Int)<=(t:Int))=true:=aq (by omega);unfold b.lZ
   dsimp only
   rw [et,d1];by_cases bG:(t:Int) < ((g.kids.n:Nat):Int)
   ·rw [aq bG]
    simp only [dk,ak];have e1:aR ((t:Int)+1)=((t+1:Nat):Int):=by rw [cd (by omega) (by omega)]; omega
    rw [e1];by_cases hb:aR (m+(((g.kids.get t).n:Nat):Int)) > 400
    ·rw [aq hb]
     exact .inr ⟨_,_,rfl,rfl,.inr rfl⟩
    ·rw [bj hb]
     exact .inl ⟨_,rfl,by omega,_,rfl⟩
   ·rw [bj bG]
    exact .inr ⟨_,_,rfl,rfl,.inl rfl⟩) (x:=⟨false,(0:Int),(0:Int),g⟩) ⟨0,rfl⟩
 rw [q1];rcases q2 with rfl | rfl
 ·exact ⟨false,rfl,fun _=>⟨by omega,by omega⟩⟩
 ·exact ⟨x'.t2,rfl,fun _=>⟨by omega,by omega⟩⟩
theorem akd (l:Sl b.jf):∃ r,b.zu l=some r:=by
 unfold b.zu b.Dm;obtain ⟨e,x',q1,q2⟩:=jq (step:=b.nh)
  (fun t x=>∃ m:Int,x=⟨l,false,m,(t:Int)⟩)
  (fun e x'=>e = .exit 0)
  100 (by unfold iI; omega) (by
   rintro t _ ht ⟨m,rfl⟩;have et:Int.toNat (t:Int)=t:=rfl;have d1:decide ((0:Int)<=(t:Int))=true:=aq (by omega);unfold b.nh
   dsimp only
   rw [et,d1];by_cases bG:(t:Int) < ((l.n:Nat):Int)
   ·rw [aq bG]
    simp only [dk,ak];by_cases hb:(t:Int) < 100
    ·rw [aq hb]
     have e1:aR ((t:Int)+1)=((t+1:Nat):Int):=by rw [cd (by omega) (by omega)]; omega
     rw [e1];exact .inl ⟨_,rfl,by omega,_,rfl⟩
    ·rw [bj hb]
     exact .inr ⟨_,_,rfl,rfl,rfl⟩
   ·rw [bj bG]
    exact .inr ⟨_,_,rfl,rfl,rfl⟩) (x:=⟨l,false,(0:Int),(0:Int)⟩) ⟨0,rfl⟩
 rw [q1];subst q2;rw [aW.lq];simp only [aW.lC];by_cases h:(((x'.l.n:Nat):Int) > 40)
 ·rw [aq h]; exact ⟨true,rfl⟩
 ·rw [bj h]; exact ⟨_,rfl⟩
def ao2 (m:b.iU):Prop:=m.gh.n<=1000/\m.uV.n<=1000/\m.cG.n<=100/\∀ i,i < m.cG.n->(m.cG.get i).index.n<=1000
theorem Vk (m:b.iU):∃ r,b.wm m=some r/\(r=false->ao2 m):=by
 unfold b.wm b.Dn;by_cases h1:((m.gh.n:Nat):Int) > 1000
 ·rw [aq h1]; exact ⟨true,rfl,fun h=>by simp at h⟩
 rw [bj h1];by_cases h2:((m.uV.n:Nat):Int) > 1000
 ·rw [aq h2]; exact ⟨true,rfl,fun h=>by simp at h⟩
 rw [bj h2];by_cases h3:((m.cG.n:Nat):Int) > 100
 ·rw [aq h3]; exact ⟨true,rfl,fun h=>by simp at h⟩
 rw [bj h3];simp only [ba];have key:=jG (step:=b.jB) m.cG.n (by unfold iI; omega) (fun j=>⟨false,(j:Int),m⟩) (fun k=>(m.cG.get k).index.n<=1000) (e0:=.exit 0) (er:=.ret) rfl rfl (fun x'=>x'.t2=true) (xe:=⟨false,((m.cG.n:Nat):Int),m⟩) (fun j hj=>by
  have e1:aR ((j:Int)+1)=((j+1:Nat):Int):=by rw [cd (by omega) (by omega)]; omega
  have d1:decide ((j:Int) < ((m.cG.n:Nat):Int))=true:=aq (by omega);have d2:decide ((0:Int)<=(j:Int))=true:=aq (by omega);have ej:Int.toNat (j:Int)=j:=rfl;unfold b.jB
  dsimp only
  rw [d1,d2,ej,e1];simp only [dk,ak];by_cases h:(((m.cG.get j).index.n:Nat):Int) > 1000
  ·rw [aq h]
   exact ⟨fun k=>by omega,fun _=>⟨_,rfl,rfl⟩⟩
  ·rw [bj h]
   exact ⟨fun _=>rfl,fun k=>by omega⟩) (by
  unfold b.jB
  dsimp only
  rw [bj (Int.lt_irrefl _)];rfl)
 have e0:goN b.jB (⟨false,(0:Int),m⟩:b.jT)=goN b.jB ⟨false,((0:Nat):Int),m⟩:=rfl;rw [e0];rcases key with ⟨k1,k2⟩ | ⟨x',k1,k2,_⟩
 ·rw [k1]; exact ⟨false,rfl,fun _=>⟨by omega,by omega,by omega,k2⟩⟩
 ·rw [k1]; exact ⟨x'.t2,rfl,fun h=>by rw [k2] at h; simp at h⟩
structure Few (s:b.aP):Prop where
 ways:ao1 s.graph
 bJ:s.graph.ca.bJ.n<=200
 kids:s.graph.kids.n<=200
 nodes:s.nodes.n<=200
 bX:s.bX.n<=60
 dD:s.dD.n<=60
 nc:∀ i,i < s.nodes.n->(s.nodes.get i).nc.n<=200
 cJ:∀ i,i < s.bX.n->ao2 (s.bX.get i)
theorem stepT {p:Prop} {c:Bool} {x:Option Bool} {Q:Prop} (hc:c=true↔p) (h2 : ¬ p->∃ r,x=some r/\(r=false->Q)):∃ r,cond c (some true) x=some r/\(r=false->Q):=by
 cases c with
 | true=>exact ⟨true,rfl,fun k=>by simp at k⟩
 | false=>exact h2 fun k=>by have:=hc.2 k; simp at this
theorem ao3 (s:b.aP):∃ r,b.zy s=some r/\(r=false->Few s):=by
 unfold b.zy b.I4 b.I5 b.I6 b.Dp b.vh;obtain ⟨r1,q1,p1⟩:=aqv s;obtain ⟨r2,q2,p2⟩:=akc s.graph;obtain ⟨r3,q3⟩:=akd s.dD;rw [q1,q2,q3];simp only [fQ,ee,ak];refine stepT Iff.rfl fun k1=>?_;refine stepT Iff.rfl fun k2=>?_;refine stepT Ec fun k3=>?_;refine stepT Ec fun k4=>?_;refine stepT Ec fun k5=>?_;refine stepT Iff.rfl fun k6=>?_;have p1:=p1 (by simpa using k1);have p2:=p2 (by simpa using k2);have key:=jG (step:=b.iY) s.nodes.n (by unfold iI; omega) (fun j=>⟨false,(j:Int),s⟩) (fun k=>(s.nodes.get k).nc.n<=200) (e0:=.exit 0) (er:=.ret) rfl rfl (fun x'=>x'.t2=true) (xe:=⟨false,((s.nodes.n:Nat):Int),s⟩) (fun j hj=>by
  have e1:aR ((j:Int)+1)=((j+1:Nat):Int):=by rw [cd (by omega) (by omega)]; omega
  have d1:decide ((j:Int) < ((s.nodes.n:Nat):Int))=true:=aq (by omega);have d2:decide ((0:Int)<=(j:Int))=true:=aq (by omega);have ej:Int.toNat (j:Int)=j:=rfl;unfold b.iY
  dsimp only
  rw [d1,d2,ej,e1];simp only [dk,ak];by_cases h:(((s.nodes.get j).nc.n:Nat):Int) > 200
  ·rw [aq h]
   exact ⟨fun k=>by omega,fun _=>⟨_,rfl,rfl⟩⟩
  ·rw [bj h]
   exact ⟨fun _=>rfl,fun k=>by omega⟩) (by
  unfold b.iY
  dsimp only
  rw [bj (Int.lt_irrefl _)];rfl)
 have e0:goN b.iY (⟨false,(0:Int),s⟩:b.jn)=goN b.iY ⟨false,((0:Nat):Int),s⟩:=rfl;rw [e0];rcases key with ⟨g1,g2⟩ | ⟨x',g1,g2,_⟩
 ·rw [g1]
  simp only [aW.lq];have key:=jG (step:=b.iZ) s.bX.n (by unfold iI; omega) (fun j=>⟨false,(j:Int),s⟩) (fun k=>b.wm (s.bX.get k)=some false) (e0:=.exit 2) (er:=.ret) rfl rfl (fun x'=>x'.t2=true) (xe:=⟨false,((s.bX.n:Nat):Int),s⟩) (fun j hj=>by
   have e1:aR ((j:Int)+1)=((j+1:Nat):Int):=by rw [cd (by omega) (by omega)]; omega
   have d1:decide ((j:Int) < ((s.bX.n:Nat):Int))=true:=aq (by omega);have d2:decide ((0:Int)<=(j:Int))=true:=aq (by omega);have ej:Int.toNat (j:Int)=j:=rfl;obtain ⟨r,m1,_⟩:=Vk (s.bX.get j);unfold b.iZ b.B6
   dsimp only
   rw [d1,d2,ej,e1,m1];cases r with
   | true=>exact ⟨fun k=>by simp at k,fun _=>⟨_,rfl,rfl⟩⟩
   | false=>exact ⟨fun _=>rfl,fun k=>absurd rfl k⟩) (by
   unfold b.iZ
   dsimp only
   rw [bj (Int.lt_irrefl _)];rfl)
  have e0:goN b.iZ (⟨false,(0:Int),s⟩:b.ig)=goN b.iZ ⟨false,((0:Nat):Int),s⟩:=rfl;rw [e0];rcases key with ⟨f1,f2⟩ | ⟨x',f1,f2,_⟩
  ·rw [f1]
   refine ⟨false,rfl,fun _=>⟨p1,p2.1,p2.2,by omega,by omega,by omega,g2,fun i hi=>?_⟩⟩;obtain ⟨r,m1,m2⟩:=Vk (s.bX.get i);rw [f2 i hi] at m1;exact m2 (Option.some.inj m1).symm
  ·rw [f1]; exact ⟨x'.t2,rfl,fun h=>by rw [f2] at h; simp at h⟩
 ·rw [g1]; exact ⟨x'.t2,rfl,fun h=>by rw [g2] at h; simp at h⟩
theorem aah (a c:b.Handle):((a.slot==c.slot)&&((a.gen==c.gen)&&true))=true↔a=c:=by
 obtain ⟨a0,a1⟩:=a;obtain ⟨c0,c1⟩:=c;simp
theorem asI (a c:Sl b.Handle) (hn:a.n < 1000000):∃ r,b.pD a c=some r/\(r=true↔Sr a c):=by
 unfold b.pD b.ub;by_cases hq:a.n=c.n
 ·have de:(((a.n:Nat):Int) != ((c.n:Nat):Int))=false:=by simp [hq]
  rw [de,ba];have key:=jG (step:=b.eT) a.n (by unfold iI; omega) (fun j=>⟨a,c,false,((a.n:Nat):Int),(j:Int)⟩) (fun j=>a.get j=c.get j) (e0:=.exit 0) (er:=.ret) rfl rfl (fun x'=>x'.t4=false) (xe:=⟨a,c,false,((a.n:Nat):Int),((a.n:Nat):Int)⟩) (fun j hj=>by
   have e1:aR ((j:Int)+1)=((j+1:Nat):Int):=by rw [cd (by omega) (by omega)]; omega
   have d1:decide ((j:Int) < ((a.n:Nat):Int))=true:=aq (by omega);have d2:decide ((0:Int)<=(j:Int))=true:=aq (by omega);have d3:decide ((j:Int) < ((c.n:Nat):Int))=true:=aq (by omega);have ej:Int.toNat (j:Int)=j:=rfl;unfold b.eT
   dsimp only
   rw [d1,d2,d3,ej,e1];simp only [dk,ak];by_cases h1:a.get j=c.get j
   ·rw [(aah (a.get j) (c.get j)).2 h1]
    exact ⟨fun _=>rfl,fun h=>absurd h1 h⟩
   ·have:(((a.get j).slot==(c.get j).slot)&&(((a.get j).gen==(c.get j).gen)&&true))=false:=by rw [<- Bool.not_eq_true,aah]; exact h1
    rw [this];exact ⟨fun h=>absurd h h1,fun _=>⟨_,rfl,rfl⟩⟩) (by
   unfold b.eT
   dsimp only
   rw [bj (Int.lt_irrefl _)];rfl)
  have e0:goN b.eT (⟨a,c,false,((a.n:Nat):Int),(0:Int)⟩:b.eK)=goN b.eT ⟨a,c,false,((a.n:Nat):Int),((0:Nat):Int)⟩:=rfl;rw [e0];rcases key with ⟨h1,h2⟩ | ⟨x',h1,h2,j,h3,h4⟩
  ·rw [h1]
   exact ⟨true,rfl,⟨fun _=>⟨hq,h2⟩,fun _=>rfl⟩⟩
  ·rw [h1]
   exact ⟨x'.t4,rfl,⟨fun h=>by rw [h2] at h; simp at h,fun h=>absurd (h.2 j h3) h4⟩⟩
 ·have de:(((a.n:Nat):Int) != ((c.n:Nat):Int))=true:=by simp; omega
  rw [de,ak];exact ⟨false,rfl,⟨fun h=>by simp at h,fun h=>absurd h.1 hq⟩⟩
theorem aqw (a c:Sl b.Handle) (hn:a.n < 1000000):∃ r,b.pE a c=some r/\(r=true↔Sr a c):=by
 unfold b.pE b.ud;by_cases hq:a.n=c.n
 ·have de:(((a.n:Nat):Int) != ((c.n:Nat):Int))=false:=by simp [hq]
  rw [de,ba];have key:=jG (step:=b.eU) a.n (by unfold iI; omega) (fun j=>⟨a,c,false,(j:Int)⟩) (fun j=>a.get j=c.get j) (e0:=.exit 0) (er:=.ret) rfl rfl (fun x'=>x'.t4=false) (xe:=⟨a,c,false,((a.n:Nat):Int)⟩) (fun j hj=>by
   have e1:aR ((j:Int)+1)=((j+1:Nat):Int):=by rw [cd (by omega) (by omega)]; omega
   have d1:decide ((j:Int) < ((a.n:Nat):Int))=true:=aq (by omega);have d2:decide ((0:Int)<=(j:Int))=true:=aq (by omega);have d3:decide ((j:Int) < ((c.n:Nat):Int))=true:=aq (by omega);have ej:Int.toNat (j:Int)=j:=rfl;unfold b.eU
   dsimp only
   rw [d1,d2,d3,ej,e1];simp only [dk,ak];by_cases h1:a.get j=c.get j
   ·rw [(aah (a.get j) (c.get j)).2 h1]
    exact ⟨fun _=>rfl,fun h=>absurd h1 h⟩
   ·have:(((a.get j).slot==(c.get j).slot)&&(((a.get j).gen==(c.get j).gen)&&true))=false:=by rw [<- Bool.not_eq_true,aah]; exact h1
    rw [this];exact ⟨fun h=>absurd h h1,fun _=>⟨_,rfl,rfl⟩⟩) (by
   unfold b.eU
   dsimp only
   rw [bj (Int.lt_irrefl _)];rfl)
  have e0:goN b.eU (⟨a,c,false,(0:Int)⟩:b.eL)=goN b.eU ⟨a,c,false,((0:Nat):Int)⟩:=rfl;rw [e0];rcases key with ⟨h1,h2⟩ | ⟨x',h1,h2,j,h3,h4⟩
  ·rw [h1]
   exact ⟨true,rfl,⟨fun _=>⟨hq,h2⟩,fun _=>rfl⟩⟩
  ·rw [h1]
   exact ⟨x'.t4,rfl,⟨fun h=>by rw [h2] at h; simp at h,fun h=>absurd (h.2 j h3) h4⟩⟩
 ·have de:(((a.n:Nat):Int) != ((c.n:Nat):Int))=true:=by simp; omega
  rw [de,ak];exact ⟨false,rfl,⟨fun h=>by simp at h,fun h=>absurd h.1 hq⟩⟩
def hAt (s:b.aP) (kids:Sl Int):Nat->b.Handle
 | 0=>s.root
 | j+1=>(s.graph.kids.get (hAt s kids j).slot.toNat).get (kids.get j).toNat
def aff (s:b.aP) (kids:Sl Int) (j:Nat):Prop:=0<=kids.get j/\kids.get j < ((s.graph.kids.get (hAt s kids j).slot.toNat).n:Int)
def Pf (s:b.aP) (kids:Sl Int):Prop:=∀ j,j < kids.n->aff s kids j
def Pg (s:b.aP) (kids:Sl Int) (l:Sl b.Handle):Prop:=l.n=kids.n+1/\∀ i,i<=kids.n->l.get i=hAt s kids i
theorem asJ {s:b.aP} (hs:yW s) {h:b.Handle} (hh:ph s.graph.ca h) {k:Nat} (hk:k < (s.graph.kids.get h.slot.toNat).n):ph s.graph.ca ((s.graph.kids.get h.slot.toNat).get k):=by
 have hg:=(xC s.graph).1 hs.1;refine (hg.2.2.1 h.slot.toNat ?_).2.2 k hk;have:=hh.1;have:=hh.2.1;have:=hg.2.1;omega
theorem JC {s:b.aP} (hs:yW s) (hr:s.root≠Pe) (kids:Sl Int):∀ j,(∀ i,i < j->aff s kids i)->ph s.graph.ca (hAt s kids j)
 | 0,_=>by
  rcases hs.2.2.2.2 with h | h
  ·exact absurd h hr
  ·exact h
 | j+1,h=>by
  have h1:=JC hs hr kids j fun i hi=>h i (by omega);have h2:=h j (by omega);exact asJ hs h1 (by have:=h2.1; have:=h2.2; omega)
theorem Ns {s:b.aP} (hs:yW s) {h:b.Handle} (hh:ph s.graph.ca h):0<=h.slot/\h.slot < (s.graph.kids.n:Int)/\h.slot < (s.nodes.n:Int):=by
 have hg:=(xC s.graph).1 hs.1;have:=hh.1;have:=hh.2.1;have:=hg.2.1;have:=hs.2.1;omega
theorem amL {s:b.aP} (hs:yW s) (hr:s.root≠Pe) (kids:Sl Int) (hn:kids.n<=400) :
  ∃ p ok,b.tv s kids=some (p,ok)/\(ok=true/\Pf s kids/\Pg s kids p.nodes/\p.kids=kids\/ok=false/\¬ Pf s kids):=by
 unfold b.tv b.n9 b.yk;have hc:b.wC kids=some kids:=by
  unfold b.wC Gf;rw [uv (by omega) (by omega) (by omega)];rfl
 rw [hc];simp only [fQ,ee,ak];by_cases h0:(0:Int) < ((kids.n:Nat):Int)
 ·rw [aq h0]
  simp only [ak];have hh:=JC hs hr kids 0 fun i hi=>absurd hi (o8 i);have aqx:ph s.graph.ca s.root:=hh;obtain ⟨r1,r2,_⟩:=Ns hs aqx;rw [aq r1,aq r2];simp only [dk,ak];by_cases k1:kids.get 0 < 0
  ·rw [aq k1]
   exact ⟨_,_,rfl,.inr ⟨rfl,fun h=>by have:=(h 0 (by omega)).1; omega⟩⟩
  rw [bj k1];simp only [ba];by_cases k2:kids.get 0 >= (((s.graph.kids.get (Int.toNat s.root.slot)).n:Nat):Int)
  ·rw [aq k2]
   exact ⟨_,_,rfl,.inr ⟨rfl,fun h=>absurd (h 0 (by omega)).2 (by show ¬ (kids.get 0 < (((s.graph.kids.get s.root.slot.toNat).n:Nat):Int)); omega)⟩⟩
  have k3:(0:Int)<=kids.get 0:=by omega
  have k4:kids.get 0 < (((s.graph.kids.get (Int.toNat s.root.slot)).n:Nat):Int):=by omega
  rw [bj k2,aq k3,aq k4];simp only [dk,ak,ba];obtain ⟨e,x',q1,q2⟩:=jq (step:=b.kA)
   (fun r x=>∃ l:Sl b.Handle,x=⟨false,kids,((kids.n:Nat):Int),((r+1:Nat):Int),s,⟨⟨0,fun _=>⟨0,0⟩⟩,⟨0,fun _=>0⟩⟩,⟨l,kids⟩,hAt s kids (r+1)⟩/\r+1<=kids.n/\(∀ i,i < r+1->aff s kids i)/\l.n=r+2/\∀ i,i < r+2->l.get i=hAt s kids i)
   (fun e x'=>(e = .exit 0/\Pf s kids/\Pg s kids x'.p.nodes/\x'.p.kids=kids)\/(e = .ret/\x'.t5=false/\¬ Pf s kids))
   (kids.n - 1) (by unfold iI; omega) (by
    rintro r _ hj ⟨l,rfl,hrn,gR,hl,hlg⟩;have ej:Int.toNat ((r+1:Nat):Int)=r+1:=rfl;have d1:decide ((0:Int)<=((r+1:Nat):Int))=true:=aq (by omega);obtain ⟨s1,s2,_⟩:=Ns hs (JC hs hr kids (r+1) gR);unfold b.kA
    dsimp only
    rw [ej,d1,aq s1,aq s2];simp only [cv,ak,dk,Bl];by_cases bG:(((r+1:Nat):Int)) < ((kids.n:Nat):Int)
    ·rw [aq bG]
     simp only [ak];by_cases m1:kids.get (r+1) < 0
     ·rw [aq m1]
      exact .inr ⟨_,_,rfl,rfl,.inr ⟨rfl,rfl,fun h=>by have:=(h (r+1) (by omega)).1; omega⟩⟩
     rw [bj m1];by_cases m2:kids.get (r+1) >= (((s.graph.kids.get (Int.toNat (hAt s kids (r+1)).slot)).n:Nat):Int)
     ·rw [aq m2]
      exact .inr ⟨_,_,rfl,rfl,.inr ⟨rfl,rfl,fun h=>by have:=(h (r+1) (by omega)).2; omega⟩⟩
     have m3:(0:Int)<=kids.get (r+1):=by omega
     have m4:kids.get (r+1) < (((s.graph.kids.get (Int.toNat (hAt s kids (r+1)).slot)).n:Nat):Int):=by omega
     rw [bj m2,aq m3,aq m4,uv (by omega) (by omega) (by omega)];have e1:aR (((r+1:Nat):Int)+1)=((r+1+1:Nat):Int):=by rw [cd (by omega) (by omega)]; omega
     rw [e1];refine .inl ⟨_,rfl,by omega,_,rfl,by omega,fun i hi=>?_,by show l.n+1=r+1+2; omega,fun i hi=>?_⟩
     ·by_cases hir:i=r+1
      ·subst hir; exact ⟨m3,m4⟩
      ·exact gR i (by omega)
     ·by_cases hir:i=r+2
      ·subst hir
       rw [<- hl,Sl.abX];rw [hl];rfl
      ·rw [Sl.abW (by omega)]
       exact hlg i (by omega)
    ·rw [bj bG]
     have:r+1=kids.n:=by omega
     refine .inr ⟨_,_,rfl,rfl,.inl ⟨rfl,fun j hj=>gR j (by omega),⟨by show l.n=kids.n+1; omega,fun i hi=>hlg i (by omega)⟩,rfl⟩⟩
    ) (x:=⟨false,kids,((kids.n:Nat):Int),(1:Int),s,⟨⟨0,fun _=>⟨0,0⟩⟩,⟨0,fun _=>0⟩⟩,⟨(Sl.lit [s.root]).push ((s.graph.kids.get (Int.toNat s.root.slot)).get (Int.toNat (kids.get 0))),kids⟩,(s.graph.kids.get (Int.toNat s.root.slot)).get (Int.toNat (kids.get 0))⟩) ⟨_,rfl,by omega,fun i hi=>by
    have:i=0:=by omega
    subst this;exact ⟨k3,k4⟩,rfl,fun i hi=>by
    rcases (by omega:i=0\/i=1) with rfl | rfl
    ·rfl
    ·rfl⟩
  ·rw [q1]
   rcases q2 with ⟨rfl,g1,g2,g3⟩ | ⟨rfl,g1,g2⟩
   ·exact ⟨x'.p,true,rfl,.inl ⟨rfl,g1,g2,g3⟩⟩
   ·exact ⟨x'.t4,x'.t5,rfl,.inr ⟨g1,g2⟩⟩
 ·rw [bj h0]
  refine ⟨_,true,rfl,.inl ⟨rfl,fun j hj=>absurd hj (by omega),⟨by show 1=kids.n+1; omega,fun i hi=>?_⟩,rfl⟩⟩;have:i=0:=by omega
  subst this;rfl
theorem asK {s:b.aP} (hs:yW s) (hr:s.root≠Pe) (kids:Sl Int) (hn:kids.n<=400) :
  ∃ p ok,b.EY s kids=some (p,ok)/\(ok=true/\Pf s kids/\Pg s kids p.nodes/\Sr p.kids kids\/ok=false/\¬ Pf s kids):=by
 unfold b.EY b.wF;by_cases h0:(0:Int) < ((kids.n:Nat):Int)
 ·rw [aq h0]
  simp only [ak];have hh:=JC hs hr kids 0 fun i hi=>absurd hi (o8 i);have aqx:ph s.graph.ca s.root:=hh;obtain ⟨r1,r2,_⟩:=Ns hs aqx;rw [aq r1,aq r2];simp only [dk,ak];by_cases k1:kids.get 0 < 0
  ·rw [aq k1]
   exact ⟨_,_,rfl,.inr ⟨rfl,fun h=>by have:=(h 0 (by omega)).1; omega⟩⟩
  rw [bj k1];simp only [ba];by_cases k2:kids.get 0 >= (((s.graph.kids.get (Int.toNat s.root.slot)).n:Nat):Int)
  ·rw [aq k2]
   exact ⟨_,_,rfl,.inr ⟨rfl,fun h=>absurd (h 0 (by omega)).2 (by show ¬ (kids.get 0 < (((s.graph.kids.get s.root.slot.toNat).n:Nat):Int)); omega)⟩⟩
  have k3:(0:Int)<=kids.get 0:=by omega
  have k4:kids.get 0 < (((s.graph.kids.get (Int.toNat s.root.slot)).n:Nat):Int):=by omega
  rw [bj k2,aq k3,aq k4];simp only [dk,ak,ba];obtain ⟨e,x',q1,q2⟩:=jq (step:=b.ob)
   (fun r x=>∃ (l:Sl b.Handle) (c:Sl Int),x=⟨kids,false,((r+1:Nat):Int),s,⟨⟨0,fun _=>⟨0,0⟩⟩,⟨0,fun _=>0⟩⟩,⟨l,c⟩,hAt s kids (r+1)⟩/\r+1<=kids.n/\(∀ i,i < r+1->aff s kids i)/\l.n=r+2/\(∀ i,i < r+2->l.get i=hAt s kids i)/\c.n=r+1/\∀ i,i < r+1->c.get i=kids.get i)
   (fun e x'=>(e = .exit 0/\Pf s kids/\Pg s kids x'.p.nodes/\Sr x'.p.kids kids)\/(e = .ret/\x'.t5=false/\¬ Pf s kids))
   (kids.n - 1) (by unfold iI; omega) (by
    rintro r _ hj ⟨l,c,rfl,hrn,gR,hl,hlg,hc,hcg⟩;have ej:Int.toNat ((r+1:Nat):Int)=r+1:=rfl;have d1:decide ((0:Int)<=((r+1:Nat):Int))=true:=aq (by omega);obtain ⟨s1,s2,_⟩:=Ns hs (JC hs hr kids (r+1) gR);unfold b.ob
    dsimp only
    rw [ej,d1,aq s1,aq s2];simp only [cv,ak,dk,Bl];by_cases bG:(((r+1:Nat):Int)) < ((kids.n:Nat):Int)
    ·rw [aq bG]
     simp only [ak];by_cases m1:kids.get (r+1) < 0
     ·rw [aq m1]
      exact .inr ⟨_,_,rfl,rfl,.inr ⟨rfl,rfl,fun h=>by have:=(h (r+1) (by omega)).1; omega⟩⟩
     rw [bj m1];by_cases m2:kids.get (r+1) >= (((s.graph.kids.get (Int.toNat (hAt s kids (r+1)).slot)).n:Nat):Int)
     ·rw [aq m2]
      exact .inr ⟨_,_,rfl,rfl,.inr ⟨rfl,rfl,fun h=>by have:=(h (r+1) (by omega)).2; omega⟩⟩
     have m3:(0:Int)<=kids.get (r+1):=by omega
     have m4:kids.get (r+1) < (((s.graph.kids.get (Int.toNat (hAt s kids (r+1)).slot)).n:Nat):Int):=by omega
     rw [bj m2,aq m3,aq m4,uv (b:=16) (by omega) (by omega) (by omega),uv (b:=8) (by omega) (by omega) (by omega)];have e1:aR (((r+1:Nat):Int)+1)=((r+1+1:Nat):Int):=by rw [cd (by omega) (by omega)]; omega
     rw [e1];refine .inl ⟨_,rfl,by omega,_,_,rfl,by omega,fun i hi=>?_,by show l.n+1=r+1+2; omega,fun i hi=>?_,by show c.n+1=r+1+1; omega,fun i hi=>?_⟩
     ·by_cases hir:i=r+1
      ·subst hir; exact ⟨m3,m4⟩
      ·exact gR i (by omega)
     ·by_cases hir:i=r+2
      ·subst hir
       rw [<- hl,Sl.abX];rw [hl];rfl
      ·rw [Sl.abW (by omega)]
       exact hlg i (by omega)
     ·by_cases hir:i=r+1
      ·subst hir
       rw [<- hc,Sl.abX]
      ·rw [Sl.abW (by omega)]
       exact hcg i (by omega)
    ·rw [bj bG]
     have:r+1=kids.n:=by omega
     exact .inr ⟨_,_,rfl,rfl,.inl ⟨rfl,fun j hj=>gR j (by omega),⟨by show l.n=kids.n+1; omega,fun i hi=>hlg i (by omega)⟩,by show c.n=kids.n; omega,fun i hi=>hcg i (by have:i < c.n:=hi; omega)⟩⟩
    ) (x:=⟨kids,false,(1:Int),s,⟨⟨0,fun _=>⟨0,0⟩⟩,⟨0,fun _=>0⟩⟩,⟨(Sl.lit [s.root]).push ((s.graph.kids.get (Int.toNat s.root.slot)).get (Int.toNat (kids.get 0))),(⟨0,fun _=>0⟩:Sl Int).push (kids.get 0)⟩,(s.graph.kids.get (Int.toNat s.root.slot)).get (Int.toNat (kids.get 0))⟩) ⟨_,_,rfl,by omega,fun i hi=>by
    have:i=0:=by omega
    subst this;exact ⟨k3,k4⟩,rfl,fun i hi=>by
    rcases (by omega:i=0\/i=1) with rfl | rfl
    ·rfl
    ·rfl,rfl,fun i hi=>by
    have:i=0:=by omega
    subst this;rfl⟩
  ·rw [q1]
   rcases q2 with ⟨rfl,g1,g2,g3⟩ | ⟨rfl,g1,g2⟩
   ·exact ⟨x'.p,true,rfl,.inl ⟨rfl,g1,g2,g3⟩⟩
   ·exact ⟨x'.t4,x'.t5,rfl,.inr ⟨g1,g2⟩⟩
 ·rw [bj h0]
  refine ⟨_,true,rfl,.inl ⟨rfl,fun j hj=>absurd hj (by omega),⟨by show 1=kids.n+1; omega,fun i hi=>?_⟩,by show 0=kids.n; omega,fun i hi=>absurd hi (o8 i)⟩⟩;have:i=0:=by omega
  subst this;rfl
theorem aiK {s:b.aP} {kids:Sl Int} {l m:Sl b.Handle} (h:Pg s kids l):Sr l m↔Pg s kids m:=by
 constructor
 ·exact fun k=>⟨by rw [<- k.1,h.1],fun i hi=>by rw [<- k.2 i (by rw [h.1]; omega),h.2 i hi]⟩
 ·exact fun k=>⟨by rw [h.1,k.1],fun i hi=>by rw [h.2 i (by have:=h.1; omega),k.2 i (by have:=h.1; omega)]⟩
def xJ (s:b.aP) (p:b.Path):Prop:=yW s/\s.root≠Pe/\Pf s p.kids/\Pg s p.kids p.nodes
theorem ao4 (s:b.aP) (p:b.Path) (su:xg s) (hk:p.kids.n<=400):∃ e,b.vA s p=some e/\(e=0/\xJ s p\/e=8/\¬ xJ s p):=by
 unfold b.vA b.Ac b.EW b.Ad;obtain ⟨e,q1,q2⟩:=aqs s su;rw [q1];simp only [fQ,ee,ak];rcases q2 with ⟨rfl,hs⟩ | ⟨rfl,hs⟩
 ·have:((0:Int) != 0)=false:=rfl
  rw [this,ba];refine DZ (ab2 s.root) (fun h k=>k.2.1 h) fun hr=>?_;obtain ⟨x,ok,p1,p2⟩:=amL hs hr p.kids hk;rw [p1];simp only [fQ,ee,ak];rcases p2 with ⟨rfl,g1,g2,g3⟩ | ⟨rfl,g1⟩
  ·have hx:x.nodes.n < 1000000:=by rw [g2.1]; omega
   obtain ⟨r,m1,m2⟩:=asI x.nodes p.nodes hx;rw [m1];simp only [fQ,ee,ak,Hf,ba];refine DZ (Np (m2.trans (aiK g2))) (fun h k=>h k.2.2.2) fun h=>?_;exact ⟨0,rfl,.inl ⟨rfl,hs,hr,g1,Classical.byContradiction h⟩⟩
  ·exact ⟨8,rfl,.inr ⟨rfl,fun k=>g1 k.2.2.1⟩⟩
 ·exact ⟨8,rfl,.inr ⟨rfl,fun k=>hs k.1⟩⟩
theorem amM (s:b.aP) (p:b.Path) (su:xg s) (hk:p.kids.n<=400):∃ e,b.Ah s p=some e/\(e=0/\xJ s p\/e=8/\¬ xJ s p):=by
 unfold b.Ah b.DR b.Jx b.Jy b.DS b.Gj;obtain ⟨e,q1,q2⟩:=aoZ s su;rw [q1];simp only [fQ,ee,ak];rcases q2 with ⟨rfl,hs⟩ | ⟨rfl,hs⟩
 ·have:((0:Int) != 0)=false:=rfl
  rw [this,ba];refine DZ (ab2 s.root) (fun h k=>k.2.1 h) fun hr=>?_;obtain ⟨x,ok,p1,p2⟩:=asK hs hr p.kids hk;rw [p1];simp only [fQ,ee,ak];rcases p2 with ⟨rfl,g1,g2,g3⟩ | ⟨rfl,g1⟩
  ·have hx:x.nodes.n < 1000000:=by rw [g2.1]; omega
   obtain ⟨r,m1,m2⟩:=aqw x.nodes p.nodes hx;rw [m1];simp only [fQ,ee,ak,Hf,ba];refine DZ (Np (m2.trans (aiK g2))) (fun h k=>h k.2.2.2) fun h=>?_;exact ⟨0,rfl,.inl ⟨rfl,hs,hr,g1,Classical.byContradiction h⟩⟩
  ·exact ⟨8,rfl,.inr ⟨rfl,fun k=>g1 k.2.2.1⟩⟩
 ·exact ⟨8,rfl,.inr ⟨rfl,fun k=>hs k.1⟩⟩
def U16 (n:Int):Prop:=0<=n/\n<=65535
theorem arM {n:Int} (h:U16 n):w16 n=n:=by
 obtain ⟨h1,h2⟩:=h;show IntKind.wrap .u16 n=n;unfold IntKind.wrap;have hb:(2 ^ IntKind.u16.bits:Int)=65536:=rfl;have hs:IntKind.u16.signed=false:=rfl;simp only [hb,hs,Bool.false_and];rw [av (by simp)];omega
theorem aw5 {n:Int} (h:U16 n):((akm IntKind.u16 n (1:Int):Nat):Int)=n % 2:=by
 obtain ⟨h1,h2⟩:=h;obtain ⟨m,rfl⟩:=Int.eq_ofNat_of_zero_le h1;unfold akm;show (((BitVec.ofInt 16 (m:Int) &&& BitVec.ofInt 16 1).toNat:Nat):Int)=(m:Int) % 2;rw [BitVec.toNat_and,BitVec.toNat_ofInt];have e1:(BitVec.ofInt 16 1).toNat=1:=rfl;rw [e1,Nat.and_one_is_mod];omega
def aiL (on k:Int):Prop:=on / 2 ^ k.toNat % 2=1
theorem aai {on:Int} (h:U16 on) (k:Nat):U16 (on / 2 ^ k):=by
 obtain ⟨h1,h2⟩:=h;have hp:(0:Int) < 2 ^ k:=Int.pow_pos (by omega);refine ⟨Int.ediv_nonneg h1 (Int.le_of_lt hp),?_⟩;exact Int.le_trans (Int.ediv_le_self _ h1) h2
theorem ao5 {on:Int} (h:U16 on) {k:Nat} (hk:16<=k):on / 2 ^ k=0:=by
 obtain ⟨h1,h2⟩:=h;apply Int.ediv_eq_zero_of_lt h1;have:(2:Int) ^ 16<=2 ^ k:=by
  have:=Nat.pow_le_pow_right (show 0 < 2 by omega) hk
  exact_mod_cast this
 have e:(2:Int) ^ 16=65536:=by decide
 omega
theorem ao6 {on k:Int} (h:U16 on):(w16 ((akm IntKind.u16 (Int.fdiv on ((2:Int) ^ (min (Int.toNat k) 16))) (1:Int):Nat):Int)==(0:Int))=true↔¬ aiL on k:=by
 have e:Int.fdiv on ((2:Int) ^ (min (Int.toNat k) 16))=on / 2 ^ (min (Int.toNat k) 16):=Int.fdiv_eq_ediv_of_nonneg _ (Int.le_of_lt (Int.pow_pos (by omega)));have hu:=aai h (min (Int.toNat k) 16);rw [e,aw5 hu,arM ⟨by omega,by omega⟩,kq];unfold aiL;by_cases hk:k.toNat<=16
 ·rw [Nat.min_eq_left hk]; omega
 ·rw [Nat.min_eq_right (by omega),ao5 h (by omega),ao5 h (by omega)]; omega
theorem asL {on k:Int} (h:U16 on) (hk:k<=1000000):∃ r,b.EZ on k=some r/\(r=true↔aiL on k):=by
 unfold b.EZ b.O6;obtain ⟨e,x',q1,q2⟩:=jq (step:=b.pF)
  (fun t x=>x=⟨on / 2 ^ t,k,false,(t:Int)⟩)
  (fun e x'=>e = .exit 0/\x'.uB=on / 2 ^ k.toNat)
  k.toNat (by unfold iI; omega) (by
   rintro t _ ht rfl;unfold b.pF
   dsimp only
   have hu:=aai h t;by_cases bG:(t:Int) < k
   ·rw [aq bG]
    have e1:aR ((t:Int)+1)=((t+1:Nat):Int):=by rw [cd (by omega) (by omega)]; omega
    have e2:Int.tdiv (on / 2 ^ t) 2=on / 2 ^ (t+1):=by
     rw [Int.tdiv_eq_ediv_of_nonneg hu.1,Int.ediv_ediv_of_nonneg (Int.le_of_lt (Int.pow_pos (by omega))),Int.pow_succ]
    rw [e1,e2,arM (aai h (t+1))];exact .inl ⟨_,rfl,by omega,rfl⟩
   ·rw [bj bG]
    have:t=k.toNat:=by omega
    subst this;exact .inr ⟨_,_,rfl,rfl,rfl,rfl⟩) (x:=⟨on,k,false,(0:Int)⟩) (by
   show _=_;rw [Int.pow_zero,Int.ediv_one];rfl)
 rw [q1];obtain ⟨rfl,q3⟩:=q2;simp only [aW.lC,aW.lq,q3];have hu:=aai h k.toNat;refine ⟨_,rfl,?_⟩;rw [kq,Int.tmod_eq_emod_of_nonneg hu.1];exact Iff.rfl
def nodeAt (s:b.aP) (p:b.Path) (j:Nat):b.Node:=s.nodes.get (p.nodes.get j).slot.toNat
def aiM (s:b.aP) (p:b.Path) (j:Nat):Prop:=(nodeAt s p j).kind=3->aiL (nodeAt s p j).uB (p.kids.get j)
def aiN (s:b.aP) (p:b.Path):Prop:=∀ j,j < p.kids.n->aiM s p j
def ao7 (s:b.aP):Prop:=∀ i,i < s.nodes.n->U16 (s.nodes.get i).uB
theorem ao8 {s:b.aP} {p:b.Path} (h:xJ s p) {j:Nat} (hj:j<=p.kids.n):ph s.graph.ca (p.nodes.get j):=by
 rw [h.2.2.2.2 j hj];exact JC h.1 h.2.1 p.kids j fun i hi=>h.2.2.1 i (by omega)
theorem KU {s:b.aP} {p:b.Path} (h:xJ s p) {j:Nat} (hj:j<=p.kids.n):0<=(p.nodes.get j).slot/\(p.nodes.get j).slot < (s.nodes.n:Int):=by
 have:=Ns h.1 (ao8 h hj);exact ⟨this.1,this.2.2⟩
theorem aiO {s:b.aP} {p:b.Path} (h:xJ s p) {j:Nat} (hj:j < p.kids.n):0<=p.kids.get j/\p.kids.get j < 16:=by
 have hg:=(xC s.graph).1 h.1.1;have hh:=JC h.1 h.2.1 p.kids j fun i hi=>h.2.2.1 i (by omega);have hs:=Ns h.1 hh;have hr:=(hg.2.2.1 (hAt s p.kids j).slot.toNat (by omega)).1;have:=h.2.2.1 j hj;exact ⟨this.1,by have:=this.2; omega⟩
theorem aue (s:b.aP) (p:b.Path) (su:xg s) (hon:ao7 s) (hk:p.kids.n<=400):∃ t e,b.CB s p=some (t,e)/\(e=0/\xJ s p/\(t=true↔aiN s p)\/e=8/\¬ xJ s p/\t=false):=by
 unfold b.CB b.FE;obtain ⟨e,q1,q2⟩:=ao4 s p su hk;rw [q1];simp only [fQ,ee,ak];rcases q2 with ⟨rfl,ha⟩ | ⟨rfl,ha⟩
 ·have:((0:Int) != 0)=false:=rfl
  rw [this,ba];unfold b.Bj;have key:=jG (step:=b.j6) p.kids.n (by unfold iI; omega) (fun j=>⟨false,(0:Int),p.kids,((p.kids.n:Nat):Int),(j:Int),s,p⟩) (fun j=>aiM s p j) (e0:=.exit 0) (er:=.ret) rfl rfl (fun x'=>x'.t4=false/\x'.t5=0) (xe:=⟨false,(0:Int),p.kids,((p.kids.n:Nat):Int),((p.kids.n:Nat):Int),s,p⟩) (fun j hj=>by
   have e1:aR ((j:Int)+1)=((j+1:Nat):Int):=by rw [cd (by omega) (by omega)]; omega
   have d1:decide ((j:Int) < ((p.kids.n:Nat):Int))=true:=aq (by omega);have d2:decide ((0:Int)<=(j:Int))=true:=aq (by omega);have d3:decide ((j:Int) < ((p.nodes.n:Nat):Int))=true:=aq (by have:=ha.2.2.2.1; omega);have ej:Int.toNat (j:Int)=j:=rfl;obtain ⟨s1,s2⟩:=KU ha (show j<=p.kids.n by omega);obtain ⟨k1,k2⟩:=aiO ha hj;unfold b.j6
   dsimp only
   rw [d1,d2,ej,d3,e1,aq s1,aq s2,bj (show ¬ p.kids.get j < 0 by omega)];simp only [dk,ak,Fa];unfold aiM nodeAt;by_cases h3:(s.nodes.get (p.nodes.get j).slot.toNat).kind=3
   ·rw [kq.2 h3,ak]
    have hsh:=ao6 (k:=p.kids.get j) (hon (p.nodes.get j).slot.toNat (by omega));by_cases hb:aiL (s.nodes.get (p.nodes.get j).slot.toNat).uB (p.kids.get j)
    ·have:(w16 ((akm IntKind.u16 (Int.fdiv (s.nodes.get (p.nodes.get j).slot.toNat).uB ((2:Int) ^ (min (Int.toNat (p.kids.get j)) 16))) (1:Int):Nat):Int)==(0:Int))=false:=by
      rw [<- Bool.not_eq_true,hsh]; exact fun h=>h hb
     rw [this];exact ⟨fun _=>rfl,fun h=>absurd (fun _=>hb) h⟩
    ·rw [hsh.2 hb]
     exact ⟨fun h=>absurd (h h3) hb,fun _=>⟨_,rfl,rfl,rfl⟩⟩
   ·have:((s.nodes.get (p.nodes.get j).slot.toNat).kind==(3:Int))=false:=by rw [<- Bool.not_eq_true,L4]; exact h3
    rw [this,ba];exact ⟨fun _=>rfl,fun h=>absurd (fun k=>absurd k h3) h⟩) (by
   unfold b.j6
   dsimp only
   rw [bj (Int.lt_irrefl _)];rfl)
  have e0:goN b.j6 (⟨false,(0:Int),p.kids,((p.kids.n:Nat):Int),(0:Int),s,p⟩:b.j2)=goN b.j6 ⟨false,(0:Int),p.kids,((p.kids.n:Nat):Int),((0:Nat):Int),s,p⟩:=rfl;rw [e0];rcases key with ⟨h1,h2⟩ | ⟨x',h1,h2,j,h3,h4⟩
  ·rw [h1]
   exact ⟨true,0,rfl,.inl ⟨rfl,ha,fun _=>h2,fun _=>rfl⟩⟩
  ·rw [h1]
   refine ⟨x'.t4,x'.t5,rfl,.inl ⟨h2.2,ha,fun h=>by rw [h2.1] at h; simp at h,fun h=>absurd (h j h3) h4⟩⟩
 ·exact ⟨false,8,rfl,.inr ⟨rfl,ha,rfl⟩⟩
theorem ake (s:b.aP) (p:b.Path) (hon:ao7 s) (ha:xJ s p) (hk:p.kids.n < 1000000):∃ t,b.vB s p=some t/\(t=true↔aiN s p):=by
 unfold b.vB b.Ai;have key:=jG (step:=b.hZ) p.kids.n (by unfold iI; omega) (fun j=>⟨false,(j:Int),s,p⟩) (fun j=>aiM s p j) (e0:=.exit 0) (er:=.ret) rfl rfl (fun x'=>x'.t4=false) (xe:=⟨false,((p.kids.n:Nat):Int),s,p⟩) (fun j hj=>by
  have e1:aR ((j:Int)+1)=((j+1:Nat):Int):=by rw [cd (by omega) (by omega)]; omega
  have d1:decide ((j:Int) < ((p.kids.n:Nat):Int))=true:=aq (by omega);have d2:decide ((0:Int)<=(j:Int))=true:=aq (by omega);have d3:decide ((j:Int) < ((p.nodes.n:Nat):Int))=true:=aq (by have:=ha.2.2.2.1; omega);have ej:Int.toNat (j:Int)=j:=rfl;obtain ⟨s1,s2⟩:=KU ha (show j<=p.kids.n by omega);obtain ⟨k1,k2⟩:=aiO ha hj;obtain ⟨r,b1,b2⟩:=asL (k:=p.kids.get j) (hon (p.nodes.get j).slot.toNat (by omega)) (by omega);unfold b.hZ b.AK
  dsimp only
  rw [ej,d1,d2,d3,e1,aq s1,aq s2,b1];simp only [dk,ak,fQ,ee];unfold aiM nodeAt;by_cases h3:(s.nodes.get (p.nodes.get j).slot.toNat).kind=3
  ·rw [kq.2 h3,ak,<- b2]
   cases r with
   | true=>exact ⟨fun _=>rfl,fun h=>absurd (fun _=>rfl) h⟩
   | false=>exact ⟨fun h=>by have:=h h3; simp at this,fun _=>⟨_,rfl,rfl⟩⟩
  ·have:((s.nodes.get (p.nodes.get j).slot.toNat).kind==(3:Int))=false:=by rw [<- Bool.not_eq_true,L4]; exact h3
   rw [this,ba];exact ⟨fun _=>rfl,fun h=>absurd (fun k=>absurd k h3) h⟩) (by
  unfold b.hZ
  dsimp only
  rw [bj (Int.lt_irrefl _)];rfl)
 have e0:goN b.hZ (⟨false,(0:Int),s,p⟩:b.fK)=goN b.hZ ⟨false,((0:Nat):Int),s,p⟩:=rfl;rw [e0];rcases key with ⟨h1,h2⟩ | ⟨x',h1,h2,j,h3,h4⟩
 ·rw [h1]
  exact ⟨true,rfl,fun _=>h2,fun _=>rfl⟩
 ·rw [h1]
  exact ⟨x'.t4,rfl,fun h=>by rw [h2] at h; simp at h,fun h=>absurd (h j h3) h4⟩
theorem asM (s:b.aP) (p:b.Path) (su:xg s) (hon:ao7 s) (hk:p.kids.n<=400):∃ t e,b.H8 s p=some (t,e)/\(e=0/\xJ s p/\(t=true↔aiN s p)\/e=8/\¬ xJ s p/\t=false):=by
 unfold b.H8 b.KO;obtain ⟨e,q1,q2⟩:=amM s p su hk;rw [q1];simp only [fQ,ee,ak];rcases q2 with ⟨rfl,ha⟩ | ⟨rfl,ha⟩
 ·have:((0:Int) != 0)=false:=rfl
  rw [this,ba];unfold b.Sh;obtain ⟨t,t1,t2⟩:=ake s p hon ha (by omega);rw [t1];exact ⟨t,0,rfl,.inl ⟨rfl,ha,t2⟩⟩
 ·exact ⟨false,8,rfl,.inr ⟨rfl,ha,rfl⟩⟩
def unit:b.dm:=⟨⟨⟨256,0,0⟩,⟨0,256,0⟩,⟨0,0,256⟩⟩,⟨0,0,0⟩⟩
noncomputable def kQ (s:b.aP) (p:b.Path):Nat->b.dm×Int
 | 0=>(unit,0)
 | j+1=>if (nodeAt s p j).kind=2/\(kQ s p j).2=0 then yo (kQ s p j).1 (nodeAt s p j).gd else kQ s p j
theorem adA (s:b.aP) (p:b.Path) {j:Nat} (h:(kQ s p j).2≠0):∀ k,j<=k->kQ s p k=kQ s p j
 | 0,hk=>by rw [show j=0 by omega]
 | k+1,hk=>by
  by_cases e:j=k+1
  ·rw [e]
  ·have hi:=adA s p h k (by omega)
   show (if (nodeAt s p k).kind=2/\(kQ s p k).2=0 then yo (kQ s p k).1 (nodeAt s p k).gd else kQ s p k)=_;rw [av fun q=>by rw [hi] at q; exact h q.2,hi]
noncomputable def aiP (s:b.aP) (p:b.Path) (n:Nat):b.dm×Int:=if (kQ s p n).2=0 then ((kQ s p n).1,0) else (xf,(kQ s p n).2)
theorem aqy (s:b.aP) (p:b.Path) (ha:xJ s p) (hn:p.nodes.n < 1000000) :
  goN b.kZ (⟨(0:Int),p.nodes,((p.nodes.n:Nat):Int),(0:Int),s,xf,⟨unit,0⟩⟩:b.gJ) = .out (.exit 0) ⟨(0:Int),p.nodes,((p.nodes.n:Nat):Int),((p.nodes.n:Nat):Int),s,xf,⟨(kQ s p p.nodes.n).1,(kQ s p p.nodes.n).2⟩⟩:=by
 obtain ⟨e,x',q1,rfl,q2⟩:=jq (step:=b.kZ)
  (fun j x=>x=⟨(0:Int),p.nodes,((p.nodes.n:Nat):Int),(j:Int),s,xf,⟨(kQ s p j).1,(kQ s p j).2⟩⟩)
  (fun e x'=>e = .exit 0/\x' = ⟨(0:Int),p.nodes,((p.nodes.n:Nat):Int),((p.nodes.n:Nat):Int),s,xf,⟨(kQ s p p.nodes.n).1,(kQ s p p.nodes.n).2⟩⟩)
  p.nodes.n (by unfold iI; omega) (by
   rintro j _ hj rfl;unfold b.kZ b.wD
   dsimp only
   have ej:Int.toNat (j:Int)=j:=rfl;by_cases bG:(j:Int) < ((p.nodes.n:Nat):Int)
   ·have d2:decide ((0:Int)<=(j:Int))=true:=aq (by omega)
    obtain ⟨s1,s2⟩:=KU ha (show j<=p.kids.n by have:=ha.2.2.2.1; omega);have e1:aR ((j:Int)+1)=((j+1:Nat):Int):=by rw [cd (by omega) (by omega)]; omega
    rw [aq bG,d2,ej,aq s1,aq s2,e1];simp only [dk,ak,aqh,fQ,ee];refine .inl ?_;have nC:kQ s p (j+1)=if (nodeAt s p j).kind=2/\(kQ s p j).2=0 then yo (kQ s p j).1 (nodeAt s p j).gd else kQ s p j:=rfl;unfold nodeAt at nC;by_cases h2:(s.nodes.get (p.nodes.get j).slot.toNat).kind=2
    ·by_cases h0:(kQ s p j).2=0
     ·rw [kq.2 h2,kq.2 h0]
      rw [aY ⟨h2,h0⟩] at nC;rw [nC];exact ⟨_,rfl,by omega,rfl⟩
     ·rw [kq.2 h2,show ((kQ s p j).2==(0:Int))=false by rw [<- Bool.not_eq_true,L4]; exact h0]
      rw [av fun q=>h0 q.2] at nC;rw [nC];exact ⟨_,rfl,by omega,rfl⟩
    ·rw [show ((s.nodes.get (p.nodes.get j).slot.toNat).kind==(2:Int))=false by rw [<- Bool.not_eq_true,L4]; exact h2]
     rw [av fun q=>h2 q.1] at nC;rw [nC];exact ⟨_,rfl,by omega,rfl⟩
   ·have:j=p.nodes.n:=by omega
    subst this;rw [bj bG];exact .inr ⟨_,_,rfl,rfl,rfl,rfl⟩) (x:=⟨(0:Int),p.nodes,((p.nodes.n:Nat):Int),(0:Int),s,xf,⟨unit,0⟩⟩) rfl
 rw [q1,q2]
theorem asN (s:b.aP) (p:b.Path) (su:xg s) (hon:ao7 s) (hk:p.kids.n<=400):∃ m e,b.Ag s p=some (m,e)/\(xJ s p/\(m,e)=aiP s p p.nodes.n\/¬ xJ s p/\m=xf/\e=8):=by
 unfold b.Ag b.DN;obtain ⟨t,e,q1,q2⟩:=aue s p su hon hk;rw [q1];simp only [fQ,ee,ak];rcases q2 with ⟨rfl,ha,_⟩ | ⟨rfl,ha,_⟩
 ·have:((0:Int) != 0)=false:=rfl
  rw [this,ba];unfold b.yT b.Jv;have hu:b.Gh=some unit:=rfl;have hw:=aqy s p ha (by have:=ha.2.2.2.1; omega);unfold xf at hw;rw [hu];simp only [fQ,ee,ak];rw [hw];simp only [aW.lC,aW.lq];unfold aiP;by_cases h0:(kQ s p p.nodes.n).2=0
  ·rw [show ((kQ s p p.nodes.n).2 != (0:Int))=false by rw [bne_eq_false_iff_eq]; exact h0,aY h0]
   exact ⟨_,_,rfl,.inl ⟨ha,rfl⟩⟩
  ·rw [neI.2 h0,av h0]
   exact ⟨_,_,rfl,.inl ⟨ha,rfl⟩⟩
 ·exact ⟨xf,8,rfl,.inr ⟨ha,rfl,rfl⟩⟩
theorem ao9 (s:b.aP) (p:b.Path) (ha:xJ s p) (n:Nat) (hn:n < p.nodes.n) (hb:n < 1000000):b.Al s p (n:Int)=some (aiP s p (n+1)):=by
 unfold b.Al b.vC b.JA;have hu:b.Gk=some unit:=rfl;rw [hu];simp only [fQ,ee,ak];obtain ⟨e,x',q1,q2⟩:=jq (step:=b.lF)
  (fun j x=>x=⟨(n:Int),(0:Int),(j:Int),s,p,xf,(kQ s p j).1⟩/\(kQ s p j).2=0)
  (fun e x'=>(e = .exit 0/\x'.m=(kQ s p (n+1)).1/\(kQ s p (n+1)).2=0)\/(e = .ret/\x'.t6=xf/\x'.t7=(kQ s p (n+1)).2/\(kQ s p (n+1)).2≠0))
  (n+1) (by unfold iI; omega) (by
   rintro j _ hj ⟨rfl,h0⟩;unfold b.lF b.ue
   dsimp only
   have ej:Int.toNat (j:Int)=j:=rfl;by_cases bG:(j:Int)<=(n:Int)
   ·have d2:decide ((0:Int)<=(j:Int))=true:=aq (by omega)
    have d3:decide ((j:Int) < ((p.nodes.n:Nat):Int))=true:=aq (by omega);obtain ⟨s1,s2⟩:=KU ha (show j<=p.kids.n by have:=ha.2.2.2.1; omega);have e1:aR ((j:Int)+1)=((j+1:Nat):Int):=by rw [cd (by omega) (by omega)]; omega
    rw [aq bG,d2,d3,ej,aq s1,aq s2,e1];simp only [dk,ak,aqi,fQ,ee];have nC:kQ s p (j+1)=if (nodeAt s p j).kind=2/\(kQ s p j).2=0 then yo (kQ s p j).1 (nodeAt s p j).gd else kQ s p j:=rfl;unfold nodeAt at nC;by_cases h2:(s.nodes.get (p.nodes.get j).slot.toNat).kind=2
    ·rw [kq.2 h2,ak]
     rw [aY ⟨h2,h0⟩] at nC;rw [<- nC];by_cases h3:(kQ s p (j+1)).2=0
     ·rw [show ((kQ s p (j+1)).2 != (0:Int))=false by rw [bne_eq_false_iff_eq]; exact h3]
      exact .inl ⟨_,rfl,by omega,rfl,h3⟩
     ·rw [neI.2 h3]
      have gR:=adA s p h3 (n+1) (by omega);exact .inr ⟨_,_,rfl,rfl,.inr ⟨rfl,rfl,by rw [gR],by rw [gR]; exact h3⟩⟩
    ·rw [show ((s.nodes.get (p.nodes.get j).slot.toNat).kind==(2:Int))=false by rw [<- Bool.not_eq_true,L4]; exact h2]
     rw [av fun q=>h2 q.1] at nC;refine .inl ⟨_,rfl,by omega,?_,by rw [nC]; exact h0⟩;rw [nC]
   ·have:j=n+1:=by omega
    subst this;rw [bj bG];exact .inr ⟨_,_,rfl,rfl,.inl ⟨rfl,rfl,h0⟩⟩) (x:=⟨(n:Int),(0:Int),(0:Int),s,p,xf,unit⟩) ⟨rfl,rfl⟩
 have q1' : goN b.lF (⟨(n:Int),(0:Int),(0:Int),s,p,⟨⟨⟨0,0,0⟩,⟨0,0,0⟩,⟨0,0,0⟩⟩,⟨0,0,0⟩⟩,unit⟩:b.iE) = .out e x':=q1;rw [q1'];unfold aiP;rcases q2 with ⟨rfl,g1,g2⟩ | ⟨rfl,g1,g2,g3⟩
 ·rw [aY g2,<- g1]; rfl
 ·rw [av g3,<- g2,<- g1]; rfl
theorem aqz (s:b.aP) (p:b.Path) (su:xg s) (hon:ao7 s) (hk:p.kids.n<=400):∃ m e,b.E5 s p=some (m,e)/\(xJ s p/\(m,e)=aiP s p p.nodes.n\/¬ xJ s p/\m=xf/\e=8):=by
 unfold b.E5 b.HS b.HT;obtain ⟨t,e,q1,q2⟩:=asM s p su hon hk;rw [q1];simp only [fQ,ee,ak];rcases q2 with ⟨rfl,ha,_⟩ | ⟨rfl,ha,_⟩
 ·have:((0:Int) != 0)=false:=rfl
  rw [this,ba];have hn:=ha.2.2.2.1;have ew:aR (((p.nodes.n:Nat):Int) - 1)=((p.kids.n:Nat):Int):=by rw [cd (by omega) (by omega)]; omega
  rw [ew,ao9 s p ha p.kids.n (by omega) (by omega),<- hn];exact ⟨_,_,rfl,.inl ⟨ha,rfl⟩⟩
 ·exact ⟨xf,8,rfl,.inr ⟨ha,rfl,rfl⟩⟩
structure Nt (s:b.aP):Prop where
 bN:∀ i,i < s.nodes.n->Pc (s.nodes.get i).b7
 on:∀ i,i < s.nodes.n->U16 (s.nodes.get i).uB
 kind:∀ i,i < s.bX.n->Bk (s.bX.get i)
theorem Nt.inn {s:b.aP} (h:Nt s) (hf:Few s):xg s:=
 ⟨fun i hi=>⟨h.bN i hi,by have:=hf.nc i hi; omega⟩,h.kind,by have:=hf.bJ; omega,by have:=hf.nodes; omega,by have:=hf.bX; omega,by have:=hf.dD; omega⟩
theorem aeN (s:b.aP) (p:b.Path) (hr:Nt s):b.BM s p=some true:=by
 unfold b.BM b.DV b.fa b.fc;obtain ⟨g,q1,q2⟩:=ao3 s;rw [q1];simp only [fQ,ee,ak];cases g with
 | true=>rfl
 | false=>
  have hf:=q2 rfl;by_cases h1:((p.nodes.n:Nat):Int) > 400
  ·rw [aq h1]; rfl
  by_cases h2:((p.kids.n:Nat):Int) > 400
  ·rw [aq h2,bj h1]; rfl
  rw [bj h1,bj h2];simp only [ba];obtain ⟨m,e,a1,a2⟩:=asN s p (hr.inn hf) hr.on (by omega);obtain ⟨m',e',b1,b2⟩:=aqz s p (hr.inn hf) hr.on (by omega);have same:m=m'/\e=e':=by
   rcases a2 with ⟨x1,x2⟩ | ⟨x1,x2,x3⟩
   ·rcases b2 with ⟨y1,y2⟩ | ⟨y1,_⟩
    ·rw [<- y2] at x2
     exact ⟨congrArg Prod.fst x2,congrArg Prod.snd x2⟩
    ·exact absurd x1 y1
   ·rcases b2 with ⟨y1,_⟩ | ⟨y1,y2,y3⟩
    ·exact absurd y1 x1
    ·exact ⟨by rw [x2,y2],by rw [x3,y3]⟩
  obtain ⟨rfl,rfl⟩:=same;rw [a1,b1];simp only [fQ,ee,ak];rw [(afc m m).2 rfl,ak];exact congrArg some (L4.2 rfl)
theorem Su {P:Program} : ∀ {l:List KV},zg P l->∀ v∈l,Gz P v
 | [],_,v,hv=>by simp at hv
 | x::l,h,v,hv=>by
  simp only [zg] at h;rcases fA.1 hv with rfl | hv
  ·exact h.1
  ·exact Su h.2 v hv
theorem Sv {P:Program} {ks:List CK} {v:KV} (h:cP ⟨true,ks⟩ v=true) (hw:Tf v) (hd:Gz P v) {j:Nat} {c:CK} (hj:ks[j]? = some c):K.kindOk c (v.cells.getD j .ao)=true/\Tf (v.cells.getD j .ao)/\Gz P (v.cells.getD j .ao):=by
 obtain ⟨cs,rfl,hk⟩:=asl h;obtain ⟨u,h1,h2⟩:=C1 hk hj;have e:(KV.agg cs).cells.getD j .ao=u:=by
  show cs.getD j .ao=u;rw [iL,h1];rfl
 have hm:=jD h1;rw [e];have hd' : zg P cs:=by simpa [Gz] using hd
 have hw' : Da cs:=by simpa [Tf] using hw
 exact ⟨h2,aaY hw' u hm,Su hd' u hm⟩
theorem aqA {P:Program} {v:KV} {T:TypeId} (h:K.kindOk (.slice T) v=true) (hw:Tf v) (hd:Gz P v) {i:Nat} (hi:i < lenOf v):cP (bB P T) (Av v i)=true/\Tf (Av v i)/\Gz P (Av v i):=by
 cases v with
 | ts t m n es acc=>
  have ht:T=t:=by
   cases m <;> simp [K.kindOk] at h;exact h
  subst ht;simp only [Gz] at hd;simp only [Tf] at hw;obtain ⟨aqB,aw6⟩:=hd;have hi:i < n:=hi;have hl:i < es.length:=by rw [<- aqB.len]; exact hi
  have e:acc i=es.getD i .ao:=aqB.acc i hi;have e2:es.getD i .ao=es[i]:=by rw [iL,dr hl]; rfl
  show cP (bB P T) (acc i)=true/\Tf (acc i)/\Gz P (acc i);rw [e,e2];exact ⟨kv aqB.typed (dr hl),aaY hw.2 _ (List.getElem_mem hl),Su aw6 _ (List.getElem_mem hl)⟩
 | _=>simp [K.kindOk] at h
theorem ab3 {v:KV} (h:K.kindOk (.int .u8) v=true) (hw:Tf v):0<=ay v/\ay v<=255:=by
 cases v with
 | int k n=>
  have hk:k = .u8:=by
   have:decide (IntKind.u8=k)=true:=h;exact (Sy this).symm
  subst hk;have h:(Lit.int .u8 n).wf=true:=hw;simp only [Lit.wf,aA,o7] at h;show 0<=n/\n<=255;exact h
 | _=>simp [K.kindOk] at h
theorem auQ {v:KV} (h:K.kindOk (.int .u16) v=true) (hw:Tf v):0<=ay v/\ay v<=65535:=by
 cases v with
 | int k n=>
  have hk:k = .u16:=by
   have:decide (IntKind.u16=k)=true:=h;exact (Sy this).symm
  subst hk;have h:(Lit.int .u16 n).wf=true:=hw;simp only [Lit.wf,aA,o7] at h;show 0<=n/\n<=65535;exact h
 | _=>simp [K.kindOk] at h
noncomputable abbrev D1 (a:KV):b.aP:=b.b6 (ax Tryz.prog (ai Tryz.prog aj) 34 a)
theorem avZ:bB Tryz.prog 34=⟨true,[.slice 111,.slice 35,.slice 77,.slice 88,.slice 91,.int .i64,.int .i64]⟩:=by kernel_rfl
theorem av0:∃ ks,bB Tryz.prog 77=⟨true,ks⟩/\ks[13]? = some (.int .u16)/\ks[19]? = some (.int .u8)/\ks[20]? = some (.int .u8)/\ks[21]? = some (.int .u8)/\ks[22]? = some (.int .u8)/\ks[23]? = some (.int .u8):=⟨(bB Tryz.prog 77).ks,by kernel_rfl,by kernel_rfl,by kernel_rfl,by kernel_rfl,by kernel_rfl,by kernel_rfl,by kernel_rfl⟩
theorem av1:∃ ks,bB Tryz.prog 88=⟨true,ks⟩/\ks[2]? = some (.slice 172):=⟨(bB Tryz.prog 88).ks,by kernel_rfl,by kernel_rfl⟩
theorem auf:∃ ks,bB Tryz.prog 172=⟨true,ks⟩/\ks[0]? = some (.int .u8):=⟨(bB Tryz.prog 172).ks,by kernel_rfl,by kernel_rfl⟩
theorem asO (a:KV):(D1 a).nodes.n=lenOf (a.cells.getD 2 .ao):=by kernel_rfl
theorem aqC (a:KV):(D1 a).bX.n=lenOf (a.cells.getD 3 .ao):=by kernel_rfl
theorem av2 (a:KV) (i:Nat):((D1 a).nodes.get i).uB=ay ((Av (a.cells.getD 2 .ao) i).cells.getD 13 .ao):=by kernel_rfl
theorem auR (a:KV) (i:Nat):((D1 a).nodes.get i).b7.bN=⟨ay ((Av (a.cells.getD 2 .ao) i).cells.getD 19 .ao),ay ((Av (a.cells.getD 2 .ao) i).cells.getD 20 .ao),ay ((Av (a.cells.getD 2 .ao) i).cells.getD 21 .ao),ay ((Av (a.cells.getD 2 .ao) i).cells.getD 22 .ao),ay ((Av (a.cells.getD 2 .ao) i).cells.getD 23 .ao)⟩:=by kernel_rfl
theorem asP (a:KV) (i:Nat):((D1 a).bX.get i).cG.n=lenOf ((Av (a.cells.getD 3 .ao) i).cells.getD 2 .ao):=by kernel_rfl
theorem aug (a:KV) (i k:Nat):(((D1 a).bX.get i).cG.get k).kind=ay ((Av ((Av (a.cells.getD 3 .ao) i).cells.getD 2 .ao) k).cells.getD 0 .ao):=by kernel_rfl
theorem aqD {a:KV} (h:cP (bB Tryz.prog 34) a=true) (hw:Tf a) (hd:Gz Tryz.prog a):Nt (D1 a):=by
 rw [avZ] at h;obtain ⟨i1,i2,i3⟩:=Sv h hw hd (j:=2) rfl;obtain ⟨t1,t2,t3⟩:=Sv h hw hd (j:=3) rfl;obtain ⟨ks,l0,l13,l19,l20,l21,l22,l23⟩:=av0;obtain ⟨kt,m0,m2⟩:=av1;obtain ⟨kp,n0,n1⟩:=auf;have node:∀ i,i < (D1 a).nodes.n->∀ j c,ks[j]? = some c->K.kindOk c ((Av (a.cells.getD 2 .ao) i).cells.getD j .ao)=true/\Tf ((Av (a.cells.getD 2 .ao) i).cells.getD j .ao):=fun i hi j c hj=>by
  rw [asO] at hi;obtain ⟨q1,q2,q3⟩:=aqA i1 i2 i3 hi;rw [l0] at q1;obtain ⟨r1,r2,_⟩:=Sv q1 q2 q3 hj;exact ⟨r1,r2⟩
 refine ⟨fun i hi=>?_,fun i hi=>?_,fun i hi k hk=>?_⟩
 ·unfold Pc
  rw [auR];exact ⟨ab3 (node i hi 19 _ l19).1 (node i hi 19 _ l19).2,ab3 (node i hi 20 _ l20).1 (node i hi 20 _ l20).2,ab3 (node i hi 21 _ l21).1 (node i hi 21 _ l21).2,ab3 (node i hi 22 _ l22).1 (node i hi 22 _ l22).2,ab3 (node i hi 23 _ l23).1 (node i hi 23 _ l23).2⟩
 ·rw [av2]
  exact auQ (node i hi 13 _ l13).1 (node i hi 13 _ l13).2
 ·rw [aqC] at hi
  obtain ⟨q1,q2,q3⟩:=aqA t1 t2 t3 hi;rw [m0] at q1;obtain ⟨r1,r2,r3⟩:=Sv q1 q2 q3 m2;rw [asP] at hk;obtain ⟨c1,c2,c3⟩:=aqA r1 r2 r3 hk;rw [n0] at c1;rw [aug];obtain ⟨x0,y0,_⟩:=Sv c1 c2 c3 n1;exact (ab3 x0 y0).1
theorem aiQ {P:Program} : ∀ {ts:List TypeId} {xs:List KV} {i:Nat} {t:TypeId},ma P ts xs=true->Da xs->zg P xs->ts[i]? = some t->cP (bB P t) (xs.getD i .ao)=true/\Tf (xs.getD i .ao)/\Gz P (xs.getD i .ao)
 | [],_,_,_,_,_,_,h=>by simp at h
 | _::_,[],_,_,h,_,_,_=>by simp [ma] at h
 | t::ts,v::vs,i,u,h,hw,hd,ht=>by
  simp only [ma,aA] at h;cases i with
  | zero=>
   rw [List.getElem?_cons_zero] at ht;rw [<- Option.some.inj ht];exact ⟨h.1,hw.1,hd.1⟩
  | succ i=>
   rw [Sz] at ht;have:=aiQ (ts:=ts) (xs:=vs) (i:=i) h.2 hw.2 hd.2 ht;rw [List.getD_cons_succ];exact this
theorem aqE {ts:List TypeId} {xs:List KV} (i:Nat) (ht:ts[i]? = some 34) (h:ma Tryz.prog ts xs=true) (hw:Da xs) (hd:zg Tryz.prog xs):Nt (D1 (xs.getD i .ao)):=by
 obtain ⟨h1,h2,h3⟩:=aiQ h hw hd ht;exact aqD h1 h2 h3
end Go.Proofs.YtckbdndhmcoihaaGreat.sc
end
section
namespace Go.aB
open Go.RowKit Go.WideShapes Go.ChangeShapes
theorem apa {H:Type} {enc:TypeId×Value->H} {P:Program} {f:Func} {s:ChangeSpec} {apart fresh handsOn again:Bool} {W W' : World} {args:Array Value} {v:Value} {ds gs:List (DataW H)} {before pa pv:List MemPlace}
  (whole:DataW.Whole enc P f.params.toList s.vars apart W args.toList ds gs before) (below:Below W.heap.size W W') (afg:before=pa++pv)
  (res:∀ (b:Nat) (sp:Nat->Bool) (hd:Bool),DataW.TrodAll enc P W' b sp hd f.resultTypes.toList (v.resultList f.resultTypes.size) (s.fn H (ds++gs)).results [])
  (arg:∀ sp:Nat->Bool,(∀ p∈before,sp p.block=true)->DataW.TrodAll enc P W' 0 sp true f.params.toList args.toList (s.fn H (ds++gs)).args pa)
  (var:∀ sp:Nat->Bool,(∀ p∈before,sp p.block=true)->DataW.TrodVars enc P W' sp s.vars (s.fn H (ds++gs)).vars pv)
  (wide:∀ (j:Nat) (t:TypeId) (r:Value),f.resultTypes[j]? = some t->(v.resultList f.resultTypes.size)[j]? = some r->Value.okWide P W' .any 0 t r) :
  s.post enc P f apart fresh handsOn again W args v W':=by
 have lt:∀ p∈before,p.block < W.heap.size:=fun p hp=>whole.lt p hp;have iW:∀ p∈before,(fun b=>decide (b < W.heap.size)) p.block=true:=fun p hp=>by simpa using lt p hp
 refine ⟨ds,gs,before,[],pa,pv,whole,res _ _ _,arg _ iW,var _ iW,World.keptBut_mono (fun p hp=>⟨hp,?_⟩) (below.frame (·∈before)),fun _=>?_⟩
 ·rw [afg,nI] at hp; exact Or.inr hp
 ·obtain ⟨_,_,_,_,_,fz,nd⟩:=whole
  refine ⟨wide,_,_,([]++pa)++pv,⟨[]++pa,pv,trodAll_append (arg _ (fun _ _=>rfl)) (res _ _ _),var _ (fun _ _=>rfl),rfl,fun b off hp=>?_,fun ha=>?_⟩,fun p hp _=>?_⟩
  ·have here:MemPlace.cell b off∈before:=by rw [afg]; simpa using hp
   rw [below.frozen (lt _ here)];exact fz b off here
  ·have:=nd ha
   rw [afg] at this;simpa using this
  ·rw [afg]; simpa using hp
end Go.aB
end
section
namespace Go.K
open Go Go.aB Go.RowKit Go.WideShapes Go.ChangeShapes
section
variable {H:Type} {enc:TypeId×Value->H} {P:Program} {W W' : World}
theorem aaj {base:Nat} {sp:Nat->Bool} {held:Bool} : ∀ {ts:List TypeId} {vs:List Value} {ds:List (DataW H)} {ps:List MemPlace},DataW.TrodAll enc P W base sp held ts vs ds ps->ds.length=ts.length
 | [],_,_,_,h=>by
  obtain ⟨rfl,rfl,rfl⟩:=trodAll_nil h;rfl
 | t::ts,vs,ds,ps,h=>by
  obtain ⟨v,vs1,d,ds1,a,b,rfl,rfl,rfl,_,h2⟩:=trodAll_cons h;simp [aaj h2]
theorem ak7 {α:Type} {n:Nat} {l:List α} (h:l.length=n+1):∃ x xs,l=x::xs:=by
 cases l with
 | nil=>simp at h
 | cons x xs=>exact ⟨x,xs,rfl⟩
theorem Sx (hl:laidOutB P=true) (hb:Below W.heap.size W W') {sp:Nat->Bool} : ∀ {ts:List TypeId} {vs:List Value} {ds:List (DataW H)} {ps:List MemPlace},ts.all (fun t=>P.readableRec t&&Nat.blt t P.types.size)=true->
  DataW.TrodAll enc P W 0 (fun _=>true) true ts vs ds ps->(∀ x∈ps,x.block < W.heap.size)->(∀ x∈ps,sp x.block=true)->DataW.TrodAll enc P W' 0 sp true ts vs ds ps
 | [],_,_,_,_,h,_,_=>by
  obtain ⟨rfl,rfl,rfl⟩:=trodAll_nil h;exact trodAll_mk0
 | t::ts,vs,ds,ps,ht,h,bG,Gn=>by
  obtain ⟨v,vs1,d,ds1,a,b,rfl,rfl,rfl,h1,h2⟩:=trodAll_cons h;simp only [List.all_cons,aA] at ht;obtain ⟨⟨hr,hQ⟩,ht⟩:=ht;rw [cq] at hQ;refine ⟨a,b,WideElems.Trod_stays hl hr hQ h1 (fun x hx=>hb.same (bG x (by simp [hx]))) (fun x hx=>Gn x (by simp [hx])),?_,rfl⟩;exact Sx hl hb ht h2 (fun x hx=>bG x (by simp [hx])) (fun x hx=>Gn x (by simp [hx]))
theorem asR {s:ChangeSpec} {f:Func} {apart fresh handsOn again:Bool} {args:Array Value} {ds gs:List (DataW H)} {before:List MemPlace} (hl:laidOutB P=true) (hts:f.params.toList.all (fun t=>P.readableRec t&&Nat.blt t P.types.size)=true)
  (auh:s.vars = []) (av3:(s.fn H ds).args=ds) (anS:(s.fn H ds).results = [.lit (.bool true)]) (hv:(s.fn H ds).vars = []) {t:TypeId} (hrt:f.resultTypes = #[t]) (hb:P.underlying t=some .bool)
  (hW:DataW.Whole enc P f.params.toList s.vars apart W args.toList ds gs before) (hg:Below W.heap.size W W'):s.post enc P f apart fresh handsOn again W args (.bool true) W':=by
 have hW':=hW;obtain ⟨p,q,hA,hV,avn,_,_⟩:=hW;rw [auh] at hV;obtain ⟨rfl,rfl⟩:=trodVars_none hV;rw [yX] at avn;subst avn;have bG:∀ x∈before,x.block < W.heap.size:=fun x hx=>hW'.lt x (by simpa using hx);refine aB.apa (pa:=before) (pv:=[]) hW' hg (by simp) (fun b sp hd=>?_) (fun sp Gn=>?_) (fun sp Gn=>?_) (ok_one hrt rfl (okWide_bool_mk hb _))
 ·rw [yX,anS,hrt]
  exact trodAll_cons_mk (shut_bool hb _) trodAll_mk0
 ·rw [yX,av3]
  exact Sx hl hg hts hA bG (fun x hx=>Gn x (by simpa using hx))
 ·rw [yX,hv,auh]
  rfl
end
end Go.K
end
