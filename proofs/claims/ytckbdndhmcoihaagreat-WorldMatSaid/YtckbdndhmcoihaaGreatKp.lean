/- Part of the proof of WorldMat: the machine, shown to be the model's, and plain models. No conditions. -/
import Derived.Test.YtckbdndhmcoihaaGreatJp
import Derived.Test.YtckbdndhmcoihaaGreatGp
import Derived.Below
import Derived.ChangeSame
import Derived.ProofKit
import Derived.WideKeyArgs
set_option linter.unusedSimpArgs false
set_option linter.unusedVariables false
section
namespace Go.Proofs.YtckbdndhmcoihaaGreat.nodes
open Go Go.K Go.Xh
theorem asD {g:b.dG} {i:Nat} {x:Int×Int} (h:Reach (qOf g) ((i:Int),(g.ca.bJ.get i).gen) x):Xh.Below (dg g) (ch g) i x.1.toNat:=by
 induction h with
 | here=>exact .here
 | pN h k hk _ ih=>exact .pN h.1.toNat k hk ih
theorem asE {g:b.dG} (hr:∀ i,i < g.kids.n->Nn g i) (hlen:g.kids.n=g.ca.bJ.n) {i j:Nat} (h:Xh.Below (dg g) (ch g) i j):∀ x:b.Handle,x.slot.toNat=j->pf g.ca x->Reach (qOf g) ((i:Int),(g.ca.bJ.get i).gen) (hp x):=by
 induction h with
 | here=>
  rintro ⟨s,gn⟩ e ⟨h1,h2,h3,_⟩;have h1:0<=s:=h1;have e:s.toNat=i:=e;have h3:(g.ca.bJ.get s.toNat).gen=gn:=h3;have:hp ⟨s,gn⟩=((i:Int),(g.ca.bJ.get i).gen):=by
   show (s,gn)=_;rw [<- h3,e];congr 1;omega
  rw [this];exact .here
 | pN j k hk _ ih=>
  rintro x e ⟨h1,h2,_,_⟩;subst e;have hj:x.slot.toNat < g.kids.n:=by omega
  exact .pN (q:=qOf g) (hp x) k hk (ih ((g.kids.get x.slot.toNat).get k) rfl ((hr _ hj).2.2 k hk))
theorem asF {g:b.dG} (hr:∀ i,i < g.kids.n->Nn g i) (hlen:g.kids.n=g.ca.bJ.n):(∀ i,i < g.kids.n->nodes.Jc g i)↔Xh.Jc g.kids.n (dg g) (ch g):=
 ⟨fun h i hi k hk hb=>h i hi k hk (asE hr hlen hb _ rfl ((hr i hi).2.2 k hk)),fun h i hi k hk hb=>h i hi k hk (asD hb)⟩
theorem auN {g:b.dG} (ha:yT g.ca) (hlen:g.kids.n=g.ca.bJ.n) (hr:∀ i,i < g.kids.n->Nn g i):Fit g:=by
 have:=ha.few;exact ⟨by omega,fun i hi=>by have:=(hr i hi).1; unfold dg; omega,fun i hi k hk=>by have:=(hr i hi).2.2 k hk; exact ⟨this.1,by rw [hlen]; exact this.2.1⟩⟩
theorem aqm (g:b.dG) (Zg:g.ca.bJ.n < 1000000):∃ r,b.EB g=some r/\(r=true↔pj g):=by
 unfold b.EB b.Ox;obtain ⟨r,hr,ha⟩:=aqk g.ca Zg;rw [hr];simp only [fQ,ak,ee];cases r with
 | false=>exact ⟨false,rfl,⟨fun h=>by simp at h,fun h=>absurd (ha.2 ((xz g).1 h).1) (by simp)⟩⟩
 | true=>
  have ha:=ha.1 rfl;by_cases hlen:g.kids.n=g.ca.bJ.n
  ·have e1:(((g.kids.n:Nat):Int) != ((g.ca.bJ.n:Nat):Int))=false:=by rw [hlen]; exact bne_self_eq_false _
   rw [e1];simp only [Hc,ba];obtain ⟨e,x',h1,h2⟩:=aoR g hlen (by omega);unfold b.Oy;rw [h1];simp only [aW.lB,aW.ln];rcases h2 with ⟨rfl,hg,hO⟩ | ⟨rfl,ht,i,hi,hO⟩
   ·have es:sE (aB.ae.exit 0) (aB.ae.exit 0)=true:=rfl
    rw [es,hg];obtain ⟨r,hl,hf⟩:=aoT (auN ha hlen hO);rw [hl];refine ⟨r,rfl,hf.trans ((asF hO hlen).symm.trans ?_)⟩;rw [xz];exact ⟨fun h=>⟨ha,hlen,hO,h⟩,fun h=>h.2.2.2⟩
   ·have es:sE aB.ae.ret (aB.ae.exit 0)=false:=rfl
    have pO:sE aB.ae.ret aB.ae.ret=true:=rfl;rw [es,pO,ht];exact ⟨false,rfl,⟨fun h=>by simp at h,fun h=>absurd (((xz g).1 h).2.2.1 i hi) hO⟩⟩
  ·have e1:(((g.kids.n:Nat):Int) != ((g.ca.bJ.n:Nat):Int))=true:=by
    rw [bne_iff_ne];omega
   rw [e1];exact ⟨false,rfl,⟨fun h=>by simp at h,fun h=>absurd ((xz g).1 h).2.1 hlen⟩⟩
open Classical in
theorem aoU (g:b.dG):F8 g=some (if pj g then 0 else 8):=by
 obtain ⟨n,hn,_⟩:=Sq g.ca;unfold F8;rw [hn];rfl
end Go.Proofs.YtckbdndhmcoihaaGreat.nodes
end
section
namespace Go.Proofs.YtckbdndhmcoihaaGreat.sc
open Go Go.K Go.Proofs.YtckbdndhmcoihaaGreat.nodes
theorem Vh (m:b.iR):Gj m=0↔DV m:=by
 unfold Gj;by_cases h:abW m
 ·rw [aY h]
  by_cases k:DV m
  ·rw [aY k]; exact ⟨fun _=>k,fun _=>rfl⟩
  ·rw [av k]; exact ⟨fun q=>by simp at q,fun q=>absurd q k⟩
 ·rw [av h]; exact ⟨fun q=>by simp at q,fun q=>absurd q.1 h⟩
def Xi:b.Node:=⟨0,xb,0,PV,aoM,0,⟨⟨0,0,0,0,0⟩,⟨⟨0,0,0,0⟩,0,0,0,false,0⟩⟩⟩
def Pc:b.Handle:=⟨0,0⟩
def HT (s:b.aP) (i:Nat):Prop:=((s.graph.ca.bJ.get i).live=true->afb s (s.nodes.get i))/\((s.graph.ca.bJ.get i).live=false->Nk (s.nodes.get i) Xi)/\((s.nodes.get i).kind=5->(s.graph.kids.get i).n=0)
def abZ (s:b.aP):Prop:=s.bX.n<=32/\s.dD.n<=16/\(∀ i,i < s.bX.n->DV (s.bX.get i))/\∀ i,i < s.dD.n->GX (s.dD.get i)
def yU (s:b.aP):Prop:=pj s.graph/\s.nodes.n=s.graph.kids.n/\abZ s/\(∀ i,i < s.nodes.n->HT s i)/\(s.root=Pc\/pf s.graph.ca s.root)
def xc (s:b.aP):Prop:=(∀ i,i < s.nodes.n->Pa (s.nodes.get i).b7/\(s.nodes.get i).nb.n < 1000000)/\(∀ i,i < s.bX.n->Bi (s.bX.get i))/\s.graph.ca.bJ.n < 1000000/\s.nodes.n < 1000000/\s.bX.n < 1000000/\s.dD.n < 1000000
theorem amG (s:Sl b.iR) (hs:s.n<=1000) (hk:∀ i,i < s.n->Bi (s.get i)):(∃ x',goN b.bU (⟨s,(0:Int),((s.n:Nat):Int),(0:Int)⟩:b.bn) = .out (.exit 0) x'/\∀ i,i < s.n->DV (s.get i))\/
  ∃ x',goN b.bU (⟨s,(0:Int),((s.n:Nat):Int),(0:Int)⟩:b.bn) = .out .ret x'/\x'.t4 >= 0/\∃ i,i < s.n/\¬ DV (s.get i):=by
 have key:=jF (step:=b.bU) s.n (by unfold iH; omega) (fun j=>⟨s,(0:Int),((s.n:Nat):Int),(j:Int)⟩) (fun k=>DV (s.get k)) (e0:=.exit 0) (er:=.ret) rfl rfl (fun x'=>x'.t4 >= 0) (xe:=⟨s,(0:Int),((s.n:Nat):Int),((s.n:Nat):Int)⟩) (fun j hj=>by
  have e1:aR ((j:Int)+1)=((j+1:Nat):Int):=by rw [cd (by omega) (by omega)]; omega
  have d1:decide ((j:Int) < ((s.n:Nat):Int))=true:=aq (by omega);have d2:decide ((0:Int)<=(j:Int))=true:=aq (by omega);have ej:Int.toNat (j:Int)=j:=rfl;unfold b.bU b.kx
  dsimp only
  have D0:(j:Int) >= 0:=by omega
  rw [d1,d2,ej,e1,ap9 _ (hk j hj)];simp only [dk,ak,fQ,ee];rw [<- Vh];by_cases h:Gj (s.get j)=0
  ·rw [bne_eq_false_iff_eq.2 h]
   exact ⟨fun _=>rfl,fun k=>absurd h k⟩
  ·rw [bne_iff_ne.2 h]
   exact ⟨fun k=>absurd k h,fun _=>⟨_,rfl,D0⟩⟩) (by
  unfold b.bU
  dsimp only
  rw [bj (Int.lt_irrefl _)];rfl)
 rcases key with ⟨h1,h2⟩ | ⟨x',h1,h2,h3⟩
 ·exact .inl ⟨_,h1,h2⟩
 ·exact .inr ⟨x',h1,h2,h3⟩
theorem aqn (s:Sl b.je) (hs:s.n<=1000):(∃ x',goN b.bV (⟨s,(0:Int),((s.n:Nat):Int),(0:Int)⟩:b.bo) = .out (.exit 0) x'/\∀ i,i < s.n->GX (s.get i))\/
  ∃ x',goN b.bV (⟨s,(0:Int),((s.n:Nat):Int),(0:Int)⟩:b.bo) = .out .ret x'/\x'.t4 >= 0/\∃ i,i < s.n/\¬ GX (s.get i):=by
 have key:=jF (step:=b.bV) s.n (by unfold iH; omega) (fun j=>⟨s,(0:Int),((s.n:Nat):Int),(j:Int)⟩) (fun k=>GX (s.get k)) (e0:=.exit 0) (er:=.ret) rfl rfl (fun x'=>x'.t4 >= 0) (xe:=⟨s,(0:Int),((s.n:Nat):Int),((s.n:Nat):Int)⟩) (fun j hj=>by
  have e1:aR ((j:Int)+1)=((j+1:Nat):Int):=by rw [cd (by omega) (by omega)]; omega
  have d1:decide ((j:Int) < ((s.n:Nat):Int))=true:=aq (by omega);have d2:decide ((0:Int)<=(j:Int))=true:=aq (by omega);have ej:Int.toNat (j:Int)=j:=rfl;unfold b.bV b.ky
  dsimp only
  have D0:(j:Int) >= 0:=by omega
  obtain ⟨e,q1,q2⟩:=asw (s.get j);rw [d1,d2,ej,e1,q1];simp only [dk,ak,fQ,ee];rcases q2 with ⟨h,k⟩ | ⟨h,k⟩
  ·rw [h]
   exact ⟨fun _=>rfl,fun g=>absurd k g⟩
  ·rw [h]
   exact ⟨fun g=>absurd g k,fun _=>⟨_,rfl,D0⟩⟩) (by
  unfold b.bV
  dsimp only
  rw [bj (Int.lt_irrefl _)];rfl)
 rcases key with ⟨h1,h2⟩ | ⟨x',h1,h2,h3⟩
 ·exact .inl ⟨_,h1,h2⟩
 ·exact .inr ⟨x',h1,h2,h3⟩
theorem aj8 (s:b.aP) (hs:s.bX.n < 1000000) (hk:∀ i,i < s.bX.n->Bi (s.bX.get i)):(goN b.jb (⟨false,(0:Int),s⟩:b.gG) = .out (.exit 0) ⟨false,((s.bX.n:Nat):Int),s⟩/\∀ i,i < s.bX.n->DV (s.bX.get i))\/
  ∃ x',goN b.jb (⟨false,(0:Int),s⟩:b.gG) = .out .ret x'/\x'.t2=false/\∃ i,i < s.bX.n/\¬ DV (s.bX.get i):=by
 exact jF (step:=b.jb) s.bX.n (by unfold iH; omega) (fun j=>⟨false,(j:Int),s⟩) (fun k=>DV (s.bX.get k)) (e0:=.exit 0) (er:=.ret) rfl rfl (fun x'=>x'.t2=false) (xe:=⟨false,((s.bX.n:Nat):Int),s⟩) (fun j hj=>by
  have e1:aR ((j:Int)+1)=((j+1:Nat):Int):=by rw [cd (by omega) (by omega)]; omega
  have d1:decide ((j:Int) < ((s.bX.n:Nat):Int))=true:=aq (by omega);have d2:decide ((0:Int)<=(j:Int))=true:=aq (by omega);have ej:Int.toNat (j:Int)=j:=rfl;unfold b.jb b.B6
  dsimp only
  rw [d1,d2,ej,e1,aoF _ (hk j hj)];simp only [dk,ak,fQ,ee];rw [<- Vh];by_cases h:Gj (s.bX.get j)=0
  ·rw [bne_eq_false_iff_eq.2 h]
   exact ⟨fun _=>rfl,fun k=>absurd h k⟩
  ·rw [bne_iff_ne.2 h]
   exact ⟨fun k=>absurd k h,fun _=>⟨_,rfl,rfl⟩⟩) (by
  unfold b.jb
  dsimp only
  rw [bj (Int.lt_irrefl _)];rfl)
theorem aoV (s:b.aP) (hs:s.dD.n < 1000000):(goN b.jc (⟨false,(0:Int),s⟩:b.gH) = .out (.exit 2) ⟨false,((s.dD.n:Nat):Int),s⟩/\∀ i,i < s.dD.n->GX (s.dD.get i))\/
  ∃ x',goN b.jc (⟨false,(0:Int),s⟩:b.gH) = .out .ret x'/\x'.t2=false/\∃ i,i < s.dD.n/\¬ GX (s.dD.get i):=by
 exact jF (step:=b.jc) s.dD.n (by unfold iH; omega) (fun j=>⟨false,(j:Int),s⟩) (fun k=>GX (s.dD.get k)) (e0:=.exit 2) (er:=.ret) rfl rfl (fun x'=>x'.t2=false) (xe:=⟨false,((s.dD.n:Nat):Int),s⟩) (fun j hj=>by
  have e1:aR ((j:Int)+1)=((j+1:Nat):Int):=by rw [cd (by omega) (by omega)]; omega
  have d1:decide ((j:Int) < ((s.dD.n:Nat):Int))=true:=aq (by omega);have d2:decide ((0:Int)<=(j:Int))=true:=aq (by omega);have ej:Int.toNat (j:Int)=j:=rfl;unfold b.jc b.B7
  dsimp only
  obtain ⟨r,q1,q2⟩:=ap3 (s.dD.get j);rw [d1,d2,ej,e1,q1];simp only [dk,ak,fQ,ee];rw [<- q2];cases r with
  | true=>exact ⟨fun _=>rfl,fun k=>absurd rfl k⟩
  | false=>exact ⟨fun k=>by simp at k,fun _=>⟨_,rfl,rfl⟩⟩) (by
  unfold b.jc
  dsimp only
  rw [bj (Int.lt_irrefl _)];rfl)
theorem aj9 (s:b.aP) (hs:s.bX.n < 1000000) (ht:s.dD.n < 1000000) (hk:∀ i,i < s.bX.n->Bi (s.bX.get i)):∃ r,b.xt s=some r/\(r=true↔abZ s):=by
 unfold b.xt;rcases aj8 s hs hk with ⟨h1,h2⟩ | ⟨x',h1,h2,i,h3,h4⟩
 ·have e0:b.qL s = .out (.exit 0) ⟨false,((s.bX.n:Nat):Int),s⟩:=h1
  rcases aoV s ht with ⟨g1,g2⟩ | ⟨x',g1,g2,i,g3,g4⟩
  ·have e1:b.mS s = .out (.exit 2) ⟨false,((s.dD.n:Nat):Int),s⟩:=by
    unfold b.mS;rw [e0];exact g1
   rw [e0,e1];show ∃ r,cond (decide (((s.bX.n:Nat):Int)<=32)) (some (decide (((s.dD.n:Nat):Int)<=16))) (some false)=some r/\(r=true↔abZ s);by_cases hm:((s.bX.n:Nat):Int)<=32
   ·rw [aq hm]
    exact ⟨_,rfl,Ea.trans ⟨fun h=>⟨by omega,by omega,h2,g2⟩,fun h=>by have:=h.2.1; omega⟩⟩
   ·rw [bj hm]
    exact ⟨false,rfl,⟨fun h=>by simp at h,fun h=>absurd h.1 (by omega)⟩⟩
  ·have e1:b.mS s = .out .ret x':=by
    unfold b.mS;rw [e0];exact g1
   rw [e0,e1];exact ⟨x'.t2,rfl,⟨fun h=>by rw [g2] at h; simp at h,fun h=>absurd (h.2.2.2 i g3) g4⟩⟩
 ·have e0:b.qL s = .out .ret x':=h1
  rw [e0];exact ⟨x'.t2,rfl,⟨fun h=>by rw [h2] at h; simp at h,fun h=>absurd (h.2.2.1 i h3) h4⟩⟩
theorem aqo (n:b.Node) (hn:n.nb.n < 1000000):∃ r,b.Cu n=some r/\(r=true↔Nk n Xi):=by
 unfold b.Cu b.LD;obtain ⟨r,q1,q2⟩:=aoK n Xi hn;have:b.qM n Xi=some r:=q1;unfold Xi xb PV aoM at this;rw [this];exact ⟨r,rfl,q2⟩
theorem aoW (s:b.aP) (sq:xc s) (hlen:s.nodes.n=s.graph.kids.n) (hg:s.graph.kids.n=s.graph.ca.bJ.n):(goN b.hX (⟨0,s.nodes,((s.nodes.n:Nat):Int),(0:Int),s⟩:b.ct) = .out (.exit 0) ⟨0,s.nodes,((s.nodes.n:Nat):Int),((s.nodes.n:Nat):Int),s⟩/\∀ i,i < s.nodes.n->HT s i)\/
  ∃ x',goN b.hX (⟨0,s.nodes,((s.nodes.n:Nat):Int),(0:Int),s⟩:b.ct) = .out .ret x'/\x'.t2=8/\∃ i,i < s.nodes.n/\¬ HT s i:=by
 have hn:=sq.2.2.2.1;exact jF (step:=b.hX) s.nodes.n (by unfold iH; omega) (fun j=>⟨0,s.nodes,((s.nodes.n:Nat):Int),(j:Int),s⟩) (fun k=>HT s k) (e0:=.exit 0) (er:=.ret) rfl rfl (fun x'=>x'.t2=8) (xe:=⟨0,s.nodes,((s.nodes.n:Nat):Int),((s.nodes.n:Nat):Int),s⟩) (fun j hj=>by
  have e1:aR ((j:Int)+1)=((j+1:Nat):Int):=by rw [cd (by omega) (by omega)]; omega
  have d1:decide ((j:Int) < ((s.nodes.n:Nat):Int))=true:=aq (by omega);have d2:decide ((0:Int)<=(j:Int))=true:=aq (by omega);have d3:decide ((j:Int) < ((s.graph.ca.bJ.n:Nat):Int))=true:=aq (by omega);have d4:decide ((j:Int) < ((s.graph.kids.n:Nat):Int))=true:=aq (by omega);have ej:Int.toNat (j:Int)=j:=rfl;obtain ⟨aoO,L6⟩:=sq.1 j hj;unfold b.hX b.AH b.qY
  dsimp only
  rw [ej];obtain ⟨r,q1,q2⟩:=aiF (s.nodes.get j) Xi L6;obtain ⟨e,g1,g2⟩:=aqi s (s.nodes.get j) aoO L6;unfold Xi xb PV aoM at q1;rw [d1,d2,d3,d4,e1,q1,g1];unfold HT;cases hl:(s.graph.ca.bJ.get j).live with
  | false=>
   simp only [dk,ak,ba,fQ,ee,E8,Hc];cases r with
   | true=>
    have hz:=q2.1 rfl;have h0:(s.nodes.get j).kind=0:=hz.1;exact ⟨fun _=>rfl,fun k=>absurd ⟨fun h=>by simp at h,fun _=>hz,fun h=>by omega⟩ k⟩
   | false=>exact ⟨fun k=>by have:=q2.2 (k.2.1 trivial); simp at this,fun _=>⟨_,rfl,rfl⟩⟩
  | true=>
   simp only [dk,ak,ba,fQ,ee,E8,Hc];rcases g2 with ⟨g3,g4⟩ | ⟨g3,g4⟩
   ·rw [g3]
    have:((0:Int) != 0)=false:=rfl;rw [this,ba];by_cases h5:(s.nodes.get j).kind=5
    ·rw [ko.2 h5,ak]
     by_cases hk:(((s.graph.kids.get j).n:Nat):Int) > 0
     ·rw [aq hk]
      exact ⟨fun k=>absurd (k.2.2 h5) (by omega),fun _=>⟨_,rfl,rfl⟩⟩
     ·rw [bj hk]
      exact ⟨fun _=>rfl,fun k=>absurd ⟨fun _=>g4,fun h=>by simp at h,fun _=>by omega⟩ k⟩
    ·have:((s.nodes.get j).kind==(5:Int))=false:=by rw [<- Bool.not_eq_true,LZ]; exact h5
     rw [this,ba];exact ⟨fun _=>rfl,fun k=>absurd ⟨fun _=>g4,fun h=>by simp at h,fun h=>absurd h h5⟩ k⟩
   ·rw [g3]
    exact ⟨fun k=>absurd (k.1 trivial) g4,fun _=>⟨_,rfl,rfl⟩⟩) (by
  unfold b.hX
  dsimp only
  rw [bj (Int.lt_irrefl _)];rfl)
theorem amH (s:b.aP) (sq:xc s) (hlen:s.nodes.n=s.graph.kids.n) (hg:s.graph.kids.n=s.graph.ca.bJ.n):(goN b.kT (⟨false,(0:Int),s⟩:b.cT) = .out (.exit 0) ⟨false,((s.nodes.n:Nat):Int),s⟩/\∀ i,i < s.nodes.n->HT s i)\/
  ∃ x',goN b.kT (⟨false,(0:Int),s⟩:b.cT) = .out .ret x'/\x'.t2=false/\∃ i,i < s.nodes.n/\¬ HT s i:=by
 have hn:=sq.2.2.2.1;exact jF (step:=b.kT) s.nodes.n (by unfold iH; omega) (fun j=>⟨false,(j:Int),s⟩) (fun k=>HT s k) (e0:=.exit 0) (er:=.ret) rfl rfl (fun x'=>x'.t2=false) (xe:=⟨false,((s.nodes.n:Nat):Int),s⟩) (fun j hj=>by
  have e1:aR ((j:Int)+1)=((j+1:Nat):Int):=by rw [cd (by omega) (by omega)]; omega
  have d1:decide ((j:Int) < ((s.nodes.n:Nat):Int))=true:=aq (by omega);have d2:decide ((0:Int)<=(j:Int))=true:=aq (by omega);have d3:decide ((j:Int) < ((s.graph.ca.bJ.n:Nat):Int))=true:=aq (by omega);have d4:decide ((j:Int) < ((s.graph.kids.n:Nat):Int))=true:=aq (by omega);have ej:Int.toNat (j:Int)=j:=rfl;obtain ⟨aoO,L6⟩:=sq.1 j hj;unfold b.kT b.GJ b.wZ
  dsimp only
  rw [ej];obtain ⟨r,q1,q2⟩:=aqo (s.nodes.get j) L6;obtain ⟨e,g1,g2⟩:=aoN s (s.nodes.get j) aoO L6;rw [d1,d2,d3,d4,e1,q1,g1];unfold HT;cases hl:(s.graph.ca.bJ.get j).live with
  | false=>
   simp only [dk,ak,ba,fQ,ee,E8,Hc];cases r with
   | true=>
    have hz:=q2.1 rfl;have h0:(s.nodes.get j).kind=0:=hz.1;rw [h0];exact ⟨fun _=>rfl,fun k=>absurd ⟨fun h=>by simp at h,fun _=>hz,fun h=>by simp at h⟩ k⟩
   | false=>exact ⟨fun k=>by have:=q2.2 (k.2.1 trivial); simp at this,fun _=>⟨_,rfl,rfl⟩⟩
  | true=>
   simp only [dk,ak,ba,fQ,ee,E8,Hc];cases e with
   | true=>
    have g4:=g2.1 rfl;simp only [Hc,ba];by_cases h5:(s.nodes.get j).kind=5
    ·rw [ko.2 h5,ak]
     by_cases hk:(((s.graph.kids.get j).n:Nat):Int) > 0
     ·rw [aq hk]
      exact ⟨fun k=>absurd (k.2.2 h5) (by omega),fun _=>⟨_,rfl,rfl⟩⟩
     ·rw [bj hk]
      exact ⟨fun _=>rfl,fun k=>absurd ⟨fun _=>g4,fun h=>by simp at h,fun _=>by omega⟩ k⟩
    ·have:((s.nodes.get j).kind==(5:Int))=false:=by rw [<- Bool.not_eq_true,LZ]; exact h5
     rw [this,ba];exact ⟨fun _=>rfl,fun k=>absurd ⟨fun _=>g4,fun h=>by simp at h,fun h=>absurd h h5⟩ k⟩
   | false=>exact ⟨fun k=>by have:=g2.2 (k.1 trivial); simp at this,fun _=>⟨_,rfl,rfl⟩⟩) (by
  unfold b.kT
  dsimp only
  rw [bj (Int.lt_irrefl _)];rfl)
theorem ab0 (h:b.Handle):((h.slot==(0:Int))&&((h.gen==(0:Int))&&true))=true↔h=Pc:=by
 obtain ⟨x,y⟩:=h;unfold Pc;simp
theorem aqp {s:b.aP} (hg:pj s.graph) (h:b.Handle):b.eG s.graph.ca h=some (decide (b.eG s.graph.ca h=some true))/\(b.eG s.graph.ca h=some true↔pf s.graph.ca h):=by
 obtain ⟨r,q1,q2⟩:=adw s.graph.ca h;have ha:=((xz s.graph).1 hg).1;rw [q1];cases r with
 | true=>exact ⟨rfl,fun _=>(q2.1 rfl).2,fun _=>rfl⟩
 | false=>exact ⟨rfl,fun k=>by simp at k,fun k=>by have:=q2.2 ⟨ha,k⟩; simp at this⟩
open Classical in
theorem aqq (s:b.aP) (sq:xc s):∃ e,b.xw s=some e/\(e=0/\yU s\/e=8/\¬ yU s):=by
 unfold b.xw b.GS b.mV;have hq:b.Jd s.graph=some (if pj s.graph then 0 else 8):=aoU s.graph;rw [hq];simp only [fQ,ee,ak];by_cases hg:pj s.graph
 ·rw [aY hg]
  have hlen:=((xz s.graph).1 hg).2.1;refine DX neI (fun h=>absurd rfl h) fun _=>?_;refine DX neI (fun h k=>h (by rw [k.2.1])) fun k1=>?_;refine DX Ea (fun h k=>by have:=k.2.2.1.1; omega) fun k2=>?_;unfold b.BB;rcases amG s.bX (by omega) sq.2.1 with ⟨x',q1,q2⟩ | ⟨x',q1,q2,i,q3,q4⟩
  ·rw [q1]
   simp only [aW.lB,aW.ln];have ex:sE (.exit 0) (.exit 0)=true:=rfl;rw [ex,ak];refine DX Ea (fun h k=>by have:=k.2.2.1.2.1; omega) fun k3=>?_;unfold b.qQ;rcases aqn s.dD (by omega) with ⟨y',r1,r2⟩ | ⟨y',r1,r2,i,r3,r4⟩
   ·rw [r1]
    simp only [aW.lB,aW.ln];rw [ex,ak];unfold b.cZ;rcases aoW s sq (by omega) hlen with ⟨s1,s2⟩ | ⟨z',s1,s2,i,s3,s4⟩
    ·rw [s1]
     simp only [aW.lB,aW.ln];rw [ex,ak];obtain ⟨t1,t2⟩:=aqp hg s.root;by_cases hr:s.root=Pc
     ·rw [(Nl (ab0 s.root) |> fun h=>by rw [<- Bool.not_eq_true,h]; exact fun k=>k hr:(!((s.root.slot==(0:Int))&&((s.root.gen==(0:Int))&&true)))=false)]
      exact ⟨0,rfl,.inl ⟨rfl,hg,by omega,⟨by omega,by omega,q2,r2⟩,s2,.inl hr⟩⟩
     ·rw [(Nl (ab0 s.root)).2 hr]
      rw [t1];simp only [fQ,ee,ak];refine DX (Nl Ea) (fun h k=>by
       rcases k.2.2.2.2 with g | g
       ·exact hr g
       ·exact h (t2.2 g)) fun k5=>?_
      exact ⟨0,rfl,.inl ⟨rfl,hg,by omega,⟨by omega,by omega,q2,r2⟩,s2,.inr (t2.1 (Classical.byContradiction k5))⟩⟩
    ·rw [s1]
     exact ⟨z'.t2,rfl,.inr ⟨s2,fun k=>s4 (k.2.2.2.1 i s3)⟩⟩
   ·rw [r1]
    simp only [aW.lB,aW.ln,r2,decide_true];exact ⟨8,rfl,.inr ⟨rfl,fun k=>r4 (k.2.2.1.2.2.2 i r3)⟩⟩
  ·rw [q1]
   simp only [aW.lB,aW.ln,q2,decide_true];exact ⟨8,rfl,.inr ⟨rfl,fun k=>q4 (k.2.2.1.2.2.1 i q3)⟩⟩
 ·rw [av hg]
  exact ⟨8,rfl,.inr ⟨rfl,fun k=>hg k.1⟩⟩
theorem amI (s:b.aP) (sq:xc s):∃ r,b.EO s=some r/\(r=true↔yU s):=by
 unfold b.EO b.OL b.OM b.OO;obtain ⟨r,q1,q2⟩:=aqm s.graph sq.2.2.1;obtain ⟨r',p1,p2⟩:=aj9 s sq.2.2.2.2.1 sq.2.2.2.2.2 sq.2.1;rw [q1,p1];simp only [fQ,ee,ak];refine AJ (Nl q2) (fun h k=>h k.1) fun k1=>?_;have hg:pj s.graph:=Classical.byContradiction k1;have hlen:=((xz s.graph).1 hg).2.1;refine AJ neI (fun h k=>h (by rw [k.2.1])) fun k2=>?_;refine AJ (Nl p2) (fun h k=>h k.2.2.1) fun k3=>?_;have gQ:=Classical.byContradiction k3;unfold b.tS;rcases amH s sq (by omega) hlen with ⟨s1,s2⟩ | ⟨z',s1,s2,i,s3,s4⟩
 ·rw [s1]
  simp only [aW.lB,aW.ln];have ex:sE (.exit 0) (.exit 0)=true:=rfl;rw [ex,ak];by_cases hr:s.root=Pc
  ·rw [(ab0 s.root).2 hr]
   exact ⟨true,rfl,⟨fun _=>⟨hg,by omega,gQ,s2,.inl hr⟩,fun _=>rfl⟩⟩
  ·have:((s.root.slot==(0:Int))&&((s.root.gen==(0:Int))&&true))=false:=by rw [<- Bool.not_eq_true,ab0]; exact hr
   rw [this];unfold b.F7 b.LF;obtain ⟨t,t1,t2⟩:=adx s.graph.ca s.root;rw [t1];refine ⟨t,rfl,t2.trans ⟨fun h=>⟨hg,by omega,gQ,s2,.inr h⟩,fun h=>?_⟩⟩;rcases h.2.2.2.2 with g | g
   ·exact absurd g hr
   ·exact g
 ·rw [s1]
  exact ⟨z'.t2,rfl,⟨fun k=>by rw [s2] at k; simp at k,fun k=>absurd (k.2.2.2.1 i s3) s4⟩⟩
theorem aoX (s:b.aP) (sq:xc s):∃ e,b.zS s=some e/\(e=0/\yU s\/e=8/\¬ yU s):=by
 unfold b.zS b.Jb;obtain ⟨r,q1,q2⟩:=amI s sq;rw [q1];cases r with
 | true=>exact ⟨0,rfl,.inl ⟨rfl,q2.1 rfl⟩⟩
 | false=>exact ⟨8,rfl,.inr ⟨rfl,fun k=>by have:=q2.2 k; simp at this⟩⟩
theorem pr {α:Type} (s:Sl α) (i:Nat) (v:α):(s.set i v).get i=v:=by
 unfold Sl.set;show cond (Nat.beq i i) v (s.get i)=v;rw [yX];rfl
theorem lW {α:Type} (s:Sl α) {i j:Nat} (v:α) (h:j≠i):(s.set i v).get j=s.get j:=by
 unfold Sl.set;show cond (Nat.beq j i) v (s.get j)=s.get j;have:Nat.beq j i=false:=by
  cases q:Nat.beq j i with
  | false=>rfl
  | true=>exact absurd (bu q) h
 rw [this];rfl
def Eb (g:b.dG) (M:Nat->Int) (i:Nat):Nat->Int
 | 0=>1
 | k+1=>if 0<=((g.kids.get i).get k).slot/\((g.kids.get i).get k).slot < (g.kids.n:Int) then min (Eb g M i k+M ((g.kids.get i).get k).slot.toNat) 100000 else Eb g M i k
theorem Xj (g:b.dG) (M:Nat->Int) (i k:Nat):Eb g M i (k+1)=if 0<=((g.kids.get i).get k).slot/\((g.kids.get i).get k).slot < (g.kids.n:Int) then min (Eb g M i k+M ((g.kids.get i).get k).slot.toNat) 100000 else Eb g M i k:=rfl
def aae (g:b.dG):Nat->Nat->Int
 | 0,_=>0
 | t+1,i=>Eb g (aae g t) i (min (g.kids.get i).n 1000)
theorem aiH {g:b.dG} {M:Nat->Int} (hM:∀ j,0<=M j) (i:Nat):∀ k,1<=Eb g M i k/\Eb g M i k<=100000
 | 0=>⟨Int.le_refl _,by show (1:Int)<=100000; omega⟩
 | k+1=>by
  have:=aiH hM (g:=g) i k;have hm:=hM ((g.kids.get i).get k).slot.toNat;unfold Eb;split
  ·exact ⟨by omega,by omega⟩
  ·exact this
theorem aoY (g:b.dG):∀ t i,0<=aae g t i/\aae g t i<=100000
 | 0,i=>⟨Int.le_refl _,by show (0:Int)<=100000; omega⟩
 | t+1,i=>by
  have:=aiH (g:=g) (fun j=>(aoY g t j).1) i (min (g.kids.get i).n 1000);show 0<=Eb _ _ _ _/\Eb _ _ _ _<=100000;omega
theorem aqr (s:b.aP) (M:Nat->Int) (hM:∀ j,0<=M j/\M j<=100000) (t2:Bool) (many nx:Sl Int) (step:Int) (i:Nat) (hi:i < s.graph.kids.n) (hm:many.n=s.graph.kids.n) (hx:nx.n=s.graph.kids.n) (h1:nx.get i=1) (aqs:∀ j,j < s.graph.kids.n->many.get j=M j) :
  ∃ DY kk,goN b.iU (⟨t2,((s.graph.kids.n:Nat):Int),many,step,nx,(i:Int),(0:Int),s⟩:b.eI) = .out (.exit 4) ⟨t2,((s.graph.kids.n:Nat):Int),many,step,DY,(i:Int),kk,s⟩/\DY.n=s.graph.kids.n/\DY.get i=Eb s.graph M i (min (s.graph.kids.get i).n 1000)/\∀ j,j≠i->DY.get j=nx.get j:=by
 obtain ⟨e,x',h2,he,DY,kk,h3,h4⟩:=jo (step:=b.iU)
  (fun k x=>∃ q:Sl Int,x=⟨t2,((s.graph.kids.n:Nat):Int),many,step,q,(i:Int),(k:Int),s⟩/\q.n=s.graph.kids.n/\q.get i=Eb s.graph M i k/\∀ j,j≠i->q.get j=nx.get j)
  (fun e x'=>e = .exit 4/\∃ DY kk,x' = ⟨t2,((s.graph.kids.n:Nat):Int),many,step,DY,(i:Int),kk,s⟩/\DY.n=s.graph.kids.n/\DY.get i=Eb s.graph M i (min (s.graph.kids.get i).n 1000)/\∀ j,j≠i->DY.get j=nx.get j)
  (min (s.graph.kids.get i).n 1000) (by unfold iH; omega) (by
   rintro k _ hk ⟨q,rfl,hq,hqi,hqo⟩;have ei:Int.toNat (i:Int)=i:=rfl;have ek:Int.toNat (k:Int)=k:=rfl;have d1:decide ((0:Int)<=(i:Int))=true:=aq (by omega);have d2:decide ((i:Int) < ((s.graph.kids.n:Nat):Int))=true:=aq (by omega);have d3:decide ((i:Int) < ((q.n:Nat):Int))=true:=aq (by omega);have d4:decide ((0:Int)<=(k:Int))=true:=aq (by omega);unfold b.iU
   dsimp only
   rw [ei,ek,d1,d2,d3,d4];simp only [dk,pR,Bj,ak,cv,bM];by_cases CC:(k:Int) < (((s.graph.kids.get i).n:Nat):Int)
   ·rw [aq CC]
    by_cases hk2:(k:Int) < 1000
    ·rw [aq hk2]
     simp only [ak];have e1:aR ((k:Int)+1)=((k+1:Nat):Int):=by rw [cd (by omega) (by omega)]; omega
     rw [e1];refine .inl ?_;by_cases g1:0<=((s.graph.kids.get i).get k).slot
     ·by_cases g2:((s.graph.kids.get i).get k).slot < ((s.graph.kids.n:Nat):Int)
      ·have g3:((s.graph.kids.get i).get k).slot < ((many.n:Nat):Int):=by rw [hm]; exact g2
       have ed:decide (((s.graph.kids.get i).get k).slot >= 0)=true:=aq g1;rw [ed,aq g2,aq g3];simp only [dk,ak];refine ⟨_,rfl,by omega,_,rfl,hq,?_,fun j hj=>?_⟩
       ·rw [pr,hqi,aqs _ (by omega)]
        have b1:=aiH (g:=s.graph) (fun j=>(hM j).1) i k;have b2:=hM ((s.graph.kids.get i).get k).slot.toNat;rw [cd (by omega) (by omega),Xj,aY ⟨g1,g2⟩]
       ·rw [lW _ _ hj]; exact hqo j hj
      ·have ed:decide (((s.graph.kids.get i).get k).slot >= 0)=true:=aq g1
       rw [ed,bj g2];simp only [ak,ba];refine ⟨_,rfl,by omega,_,rfl,hq,?_,hqo⟩;rw [hqi,Xj,av fun h=>g2 h.2]
     ·have ed:decide (((s.graph.kids.get i).get k).slot >= 0)=false:=bj g1
      rw [ed];simp only [ba];refine ⟨_,rfl,by omega,_,rfl,hq,?_,hqo⟩;rw [hqi,Xj,av fun h=>g1 h.1]
    ·rw [bj hk2]
     have:k=min (s.graph.kids.get i).n 1000:=by omega
     exact .inr ⟨_,_,rfl,rfl,rfl,q,_,rfl,hq,by rw [<- this]; exact hqi,hqo⟩
   ·rw [bj CC]
    have:k=min (s.graph.kids.get i).n 1000:=by omega
    exact .inr ⟨_,_,rfl,rfl,rfl,q,_,rfl,hq,by rw [<- this]; exact hqi,hqo⟩
   ) (x:=⟨t2,((s.graph.kids.n:Nat):Int),many,step,nx,(i:Int),(0:Int),s⟩) ⟨nx,rfl,hx,h1,fun _ _=>rfl⟩
 ·subst he h3; exact ⟨DY,kk,h2,h4⟩
theorem aub (s:b.aP) (M:Nat->Int) (hM:∀ j,0<=M j/\M j<=100000) (hn:s.graph.kids.n<=300) (t2:Bool) (many nx:Sl Int) (step:Int) (hm:many.n=s.graph.kids.n) (hx:nx.n=s.graph.kids.n) (aqs:∀ j,j < s.graph.kids.n->many.get j=M j) :
  (∃ DY,goN b.jx (⟨t2,((s.graph.kids.n:Nat):Int),many,step,nx,(0:Int),s⟩:b.fI) = .out (.exit 2) ⟨t2,((s.graph.kids.n:Nat):Int),many,step,DY,((s.graph.kids.n:Nat):Int),s⟩/\DY.n=s.graph.kids.n/\∀ j,j < s.graph.kids.n->DY.get j=Eb s.graph M j (min (s.graph.kids.get j).n 1000)/\DY.get j<=10000)\/
  ∃ x',goN b.jx (⟨t2,((s.graph.kids.n:Nat):Int),many,step,nx,(0:Int),s⟩:b.fI) = .out .ret x'/\x'.t2=true/\x'.many=many:=by
 obtain ⟨e,x',h2,h3⟩:=jo (step:=b.jx)
  (fun k x=>∃ q:Sl Int,x=⟨t2,((s.graph.kids.n:Nat):Int),many,step,q,(k:Int),s⟩/\q.n=s.graph.kids.n/\∀ j,j < k->q.get j=Eb s.graph M j (min (s.graph.kids.get j).n 1000)/\q.get j<=10000)
  (fun e x'=>(e = .exit 2/\∃ DY,x' = ⟨t2,((s.graph.kids.n:Nat):Int),many,step,DY,((s.graph.kids.n:Nat):Int),s⟩/\DY.n=s.graph.kids.n/\∀ j,j < s.graph.kids.n->DY.get j=Eb s.graph M j (min (s.graph.kids.get j).n 1000)/\DY.get j<=10000)\/(e = .ret/\x'.t2=true/\x'.many=many))
  s.graph.kids.n (by unfold iH; omega) (by
   rintro k _ hk ⟨q,rfl,hq,hqo⟩;have ek:Int.toNat (k:Int)=k:=rfl;have d1:decide ((0:Int)<=(k:Int))=true:=aq (by omega);unfold b.jx b.bF
   dsimp only
   rw [ek,d1];simp only [dk,pR,Bj,ak,cv,bM];by_cases bG:(k:Int) < ((s.graph.kids.n:Nat):Int)
   ·have d2:decide ((k:Int) < ((q.n:Nat):Int))=true:=aq (by omega)
    rw [aq bG,d2];simp only [ak];obtain ⟨DY,kk,r1,r2,r3,r4⟩:=aqr s M hM t2 many (q.set k 1) step k (by omega) hm hq (pr q k 1) aqs;rw [r1];rw [aW.ln];simp only [aW.lB,cv,ak];have ex:sE (.exit 4) (.exit 4)=true:=rfl;have d3:decide ((k:Int) < ((DY.n:Nat):Int))=true:=aq (by omega);rw [ex,d1,d3,ek];simp only [dk,ak];by_cases hb:DY.get k > 10000
    ·rw [aq hb]
     exact .inr ⟨_,_,rfl,rfl,.inr ⟨rfl,rfl,rfl⟩⟩
    ·rw [bj hb]
     have e1:aR ((k:Int)+1)=((k+1:Nat):Int):=by rw [cd (by omega) (by omega)]; omega
     rw [e1];refine .inl ⟨_,rfl,by omega,DY,rfl,r2,fun j hj=>?_⟩;by_cases hjk:j=k
     ·subst hjk; exact ⟨r3,by omega⟩
     ·rw [r4 j hjk,lW _ _ hjk]; exact hqo j (by omega)
   ·have:k=s.graph.kids.n:=by omega
    subst this;rw [bj bG];exact .inr ⟨_,_,rfl,rfl,.inl ⟨rfl,q,rfl,hq,hqo⟩⟩
   ) (x:=⟨t2,((s.graph.kids.n:Nat):Int),many,step,nx,(0:Int),s⟩) ⟨nx,rfl,hx,fun j hj=>absurd hj (o6 j)⟩
 ·rcases h3 with ⟨rfl,DY,rfl,h4⟩ | ⟨rfl,h4⟩
  ·exact .inl ⟨DY,h2,h4⟩
  ·exact .inr ⟨x',h2,h4⟩
def aoZ (g:b.dG):Prop:=g.kids.n<=300/\∀ t,t<=18->∀ i,i < g.kids.n->aae g t i<=10000
theorem aqt (s:b.aP):∃ r,b.Cr s=some r/\(r=false->aoZ s.graph):=by
 unfold b.Cr b.Fu;by_cases hn:((s.graph.kids.n:Nat):Int) > 300
 ·rw [aq hn]; exact ⟨true,rfl,fun h=>by simp at h⟩
 rw [bj hn];have en:Int.toNat ((s.graph.kids.n:Nat):Int)=s.graph.kids.n:=rfl;have d1:decide (((s.graph.kids.n:Nat):Int)<=((s.graph.kids.n:Nat):Int))=true:=aq (Int.le_refl _);have d2:Nat.ble (8 * s.graph.kids.n) 281474976710656=true:=by rw [Nat.ble_eq]; omega
 rw [en,d1,d2];simp only [dk,ak,ba,cv];obtain ⟨e,x',h2,h3⟩:=jo (step:=b.nf)
  (fun t x=>∃ q:Sl Int,x=⟨false,((s.graph.kids.n:Nat):Int),q,(t:Int),s⟩/\q.n=s.graph.kids.n/\(∀ j,j < s.graph.kids.n->q.get j=aae s.graph t j)/\∀ t',t'<=t->∀ j,j < s.graph.kids.n->aae s.graph t' j<=10000)
  (fun e x'=>(e = .exit 0/\∀ t',t'<=18->∀ j,j < s.graph.kids.n->aae s.graph t' j<=10000)\/(e = .ret/\x'.t2=true))
  18 (by unfold iH; omega) (by
   rintro t _ ht ⟨q,rfl,hq,hqo,hqb⟩;unfold b.nf b.dN
   dsimp only
   have d0:decide ((0:Int)<=((s.graph.kids.n:Nat):Int))=true:=aq (by omega);rw [en,d0,d1,d2];simp only [dk,ak,cv];by_cases bG:(t:Int) < 18
   ·rw [aq bG,ak]
    rcases aub s (aae s.graph t) (aoY s.graph t) (by omega) false q ⟨s.graph.kids.n,fun _=>0⟩ (t:Int) hq rfl hqo with ⟨DY,r1,r2,r3⟩ | ⟨x',r1,r2,r3⟩
    ·rw [r1]
     simp only [aW.lB,aW.ln,cv];have e1:aR ((t:Int)+1)=((t+1:Nat):Int):=by rw [cd (by omega) (by omega)]; omega
     rw [e1];refine .inl ⟨_,rfl,by omega,DY,rfl,r2,fun j hj=>(r3 j hj).1,fun t' ht' j hj=>?_⟩;by_cases htt:t' = t+1
     ·subst htt
      have:=r3 j hj;show Eb s.graph (aae s.graph t) j _<=10000;omega
     ·exact hqb t' (by omega) j hj
    ·rw [r1]
     simp only [aW.lB,aW.ln,cv];exact .inr ⟨_,_,rfl,rfl,.inr ⟨rfl,r2⟩⟩
   ·have:t=18:=by omega
    subst this;rw [bj bG];exact .inr ⟨_,_,rfl,rfl,.inl ⟨rfl,hqb⟩⟩
   ) (x:=⟨false,((s.graph.kids.n:Nat):Int),⟨s.graph.kids.n,fun _=>0⟩,(0:Int),s⟩) ⟨_,rfl,rfl,fun _ _=>rfl,fun t' ht j hj=>by
   have:t' = 0:=by omega
   subst this;show (0:Int)<=10000;omega⟩
 ·rw [h2]
  rcases h3 with ⟨rfl,h3⟩ | ⟨rfl,h3⟩
  ·exact ⟨false,rfl,fun _=>⟨by omega,h3⟩⟩
  ·exact ⟨x'.t2,rfl,fun h=>by rw [h3] at h; simp at h⟩
theorem aka (g:b.dG):∃ r,b.zg g=some r/\(r=false->g.ca.bJ.n<=200/\g.kids.n<=200):=by
 unfold b.zg b.Dc;by_cases h1:((g.ca.bJ.n:Nat):Int) > 200
 ·rw [aq h1]; exact ⟨true,rfl,fun h=>by simp at h⟩
 rw [bj h1];by_cases h2:((g.kids.n:Nat):Int) > 200
 ·rw [aq h2]; exact ⟨true,rfl,fun h=>by simp at h⟩
 rw [bj h2];simp only [ba];obtain ⟨e,x',q1,q2⟩:=jo (step:=b.lY)
  (fun t x=>∃ m:Int,x=⟨false,m,(t:Int),g⟩)
  (fun e x'=>e = .exit 0\/e = .ret)
  g.kids.n (by unfold iH; omega) (by
   rintro t _ ht ⟨m,rfl⟩;have et:Int.toNat (t:Int)=t:=rfl;have d1:decide ((0:Int)<=(t:Int))=true:=aq (by omega);unfold b.lY
   dsimp only
   rw [et,d1];by_cases bG:(t:Int) < ((g.kids.n:Nat):Int)
   ·rw [aq bG]
    simp only [dk,ak];have e1:aR ((t:Int)+1)=((t+1:Nat):Int):=by rw [cd (by omega) (by omega)]; omega
    rw [e1];by_cases hb:aR (m+(((g.kids.get t).n:Nat):Int)) > 400
    ·rw [aq hb]
     exact .inr ⟨_,_,rfl,rfl,.inr rfl⟩
    ·rw [bj hb]
     exact .inl ⟨_,rfl,by omega,_,rfl⟩
   ·rw [bj bG]
    exact .inr ⟨_,_,rfl,rfl,.inl rfl⟩) (x:=⟨false,(0:Int),(0:Int),g⟩) ⟨0,rfl⟩
 rw [q1];rcases q2 with rfl | rfl
 ·exact ⟨false,rfl,fun _=>⟨by omega,by omega⟩⟩
 ·exact ⟨x'.t2,rfl,fun _=>⟨by omega,by omega⟩⟩
theorem akb (l:Sl b.je):∃ r,b.zr l=some r:=by
 unfold b.zr b.Dk;obtain ⟨e,x',q1,q2⟩:=jo (step:=b.ng)
  (fun t x=>∃ m:Int,x=⟨l,false,m,(t:Int)⟩)
  (fun e x'=>e = .exit 0)
  100 (by unfold iH; omega) (by
   rintro t _ ht ⟨m,rfl⟩;have et:Int.toNat (t:Int)=t:=rfl;have d1:decide ((0:Int)<=(t:Int))=true:=aq (by omega);unfold b.ng
   dsimp only
   rw [et,d1];by_cases bG:(t:Int) < ((l.n:Nat):Int)
   ·rw [aq bG]
    simp only [dk,ak];by_cases hb:(t:Int) < 100
    ·rw [aq hb]
     have e1:aR ((t:Int)+1)=((t+1:Nat):Int):=by rw [cd (by omega) (by omega)]; omega
     rw [e1];exact .inl ⟨_,rfl,by omega,_,rfl⟩
    ·rw [bj hb]
     exact .inr ⟨_,_,rfl,rfl,rfl⟩
   ·rw [bj bG]
    exact .inr ⟨_,_,rfl,rfl,rfl⟩) (x:=⟨l,false,(0:Int),(0:Int)⟩) ⟨0,rfl⟩
 rw [q1];subst q2;rw [aW.ln];simp only [aW.lB];by_cases h:(((x'.l.n:Nat):Int) > 40)
 ·rw [aq h]; exact ⟨true,rfl⟩
 ·rw [bj h]; exact ⟨_,rfl⟩
def ao0 (m:b.iR):Prop:=m.gh.n<=1000/\m.uV.n<=1000/\m.cG.n<=100/\∀ i,i < m.cG.n->(m.cG.get i).index.n<=1000
theorem Vi (m:b.iR):∃ r,b.wi m=some r/\(r=false->ao0 m):=by
 unfold b.wi b.Dl;by_cases h1:((m.gh.n:Nat):Int) > 1000
 ·rw [aq h1]; exact ⟨true,rfl,fun h=>by simp at h⟩
 rw [bj h1];by_cases h2:((m.uV.n:Nat):Int) > 1000
 ·rw [aq h2]; exact ⟨true,rfl,fun h=>by simp at h⟩
 rw [bj h2];by_cases h3:((m.cG.n:Nat):Int) > 100
 ·rw [aq h3]; exact ⟨true,rfl,fun h=>by simp at h⟩
 rw [bj h3];simp only [ba];have key:=jF (step:=b.jz) m.cG.n (by unfold iH; omega) (fun j=>⟨false,(j:Int),m⟩) (fun k=>(m.cG.get k).index.n<=1000) (e0:=.exit 0) (er:=.ret) rfl rfl (fun x'=>x'.t2=true) (xe:=⟨false,((m.cG.n:Nat):Int),m⟩) (fun j hj=>by
  have e1:aR ((j:Int)+1)=((j+1:Nat):Int):=by rw [cd (by omega) (by omega)]; omega
  have d1:decide ((j:Int) < ((m.cG.n:Nat):Int))=true:=aq (by omega);have d2:decide ((0:Int)<=(j:Int))=true:=aq (by omega);have ej:Int.toNat (j:Int)=j:=rfl;unfold b.jz
  dsimp only
  rw [d1,d2,ej,e1];simp only [dk,ak];by_cases h:(((m.cG.get j).index.n:Nat):Int) > 1000
  ·rw [aq h]
   exact ⟨fun k=>by omega,fun _=>⟨_,rfl,rfl⟩⟩
  ·rw [bj h]
   exact ⟨fun _=>rfl,fun k=>by omega⟩) (by
  unfold b.jz
  dsimp only
  rw [bj (Int.lt_irrefl _)];rfl)
 have e0:goN b.jz (⟨false,(0:Int),m⟩:b.jS)=goN b.jz ⟨false,((0:Nat):Int),m⟩:=rfl;rw [e0];rcases key with ⟨k1,k2⟩ | ⟨x',k1,k2,_⟩
 ·rw [k1]; exact ⟨false,rfl,fun _=>⟨by omega,by omega,by omega,k2⟩⟩
 ·rw [k1]; exact ⟨x'.t2,rfl,fun h=>by rw [k2] at h; simp at h⟩
structure Few (s:b.aP):Prop where
 ways:aoZ s.graph
 bJ:s.graph.ca.bJ.n<=200
 kids:s.graph.kids.n<=200
 nodes:s.nodes.n<=200
 bX:s.bX.n<=60
 dD:s.dD.n<=60
 nb:∀ i,i < s.nodes.n->(s.nodes.get i).nb.n<=200
 cJ:∀ i,i < s.bX.n->ao0 (s.bX.get i)
theorem stepT {p:Prop} {c:Bool} {x:Option Bool} {Q:Prop} (hc:c=true↔p) (h2 : ¬ p->∃ r,x=some r/\(r=false->Q)):∃ r,cond c (some true) x=some r/\(r=false->Q):=by
 cases c with
 | true=>exact ⟨true,rfl,fun k=>by simp at k⟩
 | false=>exact h2 fun k=>by have:=hc.2 k; simp at this
theorem ao1 (s:b.aP):∃ r,b.zw s=some r/\(r=false->Few s):=by
 unfold b.zw b.I2 b.I3 b.I4 b.Dm b.vf;obtain ⟨r1,q1,p1⟩:=aqt s;obtain ⟨r2,q2,p2⟩:=aka s.graph;obtain ⟨r3,q3⟩:=akb s.dD;rw [q1,q2,q3];simp only [fQ,ee,ak];refine stepT Iff.rfl fun k1=>?_;refine stepT Iff.rfl fun k2=>?_;refine stepT Ea fun k3=>?_;refine stepT Ea fun k4=>?_;refine stepT Ea fun k5=>?_;refine stepT Iff.rfl fun k6=>?_;have p1:=p1 (by simpa using k1);have p2:=p2 (by simpa using k2);have key:=jF (step:=b.iX) s.nodes.n (by unfold iH; omega) (fun j=>⟨false,(j:Int),s⟩) (fun k=>(s.nodes.get k).nb.n<=200) (e0:=.exit 0) (er:=.ret) rfl rfl (fun x'=>x'.t2=true) (xe:=⟨false,((s.nodes.n:Nat):Int),s⟩) (fun j hj=>by
  have e1:aR ((j:Int)+1)=((j+1:Nat):Int):=by rw [cd (by omega) (by omega)]; omega
  have d1:decide ((j:Int) < ((s.nodes.n:Nat):Int))=true:=aq (by omega);have d2:decide ((0:Int)<=(j:Int))=true:=aq (by omega);have ej:Int.toNat (j:Int)=j:=rfl;unfold b.iX
  dsimp only
  rw [d1,d2,ej,e1];simp only [dk,ak];by_cases h:(((s.nodes.get j).nb.n:Nat):Int) > 200
  ·rw [aq h]
   exact ⟨fun k=>by omega,fun _=>⟨_,rfl,rfl⟩⟩
  ·rw [bj h]
   exact ⟨fun _=>rfl,fun k=>by omega⟩) (by
  unfold b.iX
  dsimp only
  rw [bj (Int.lt_irrefl _)];rfl)
 have e0:goN b.iX (⟨false,(0:Int),s⟩:b.jm)=goN b.iX ⟨false,((0:Nat):Int),s⟩:=rfl;rw [e0];rcases key with ⟨g1,g2⟩ | ⟨x',g1,g2,_⟩
 ·rw [g1]
  simp only [aW.ln];have key:=jF (step:=b.iY) s.bX.n (by unfold iH; omega) (fun j=>⟨false,(j:Int),s⟩) (fun k=>b.wi (s.bX.get k)=some false) (e0:=.exit 2) (er:=.ret) rfl rfl (fun x'=>x'.t2=true) (xe:=⟨false,((s.bX.n:Nat):Int),s⟩) (fun j hj=>by
   have e1:aR ((j:Int)+1)=((j+1:Nat):Int):=by rw [cd (by omega) (by omega)]; omega
   have d1:decide ((j:Int) < ((s.bX.n:Nat):Int))=true:=aq (by omega);have d2:decide ((0:Int)<=(j:Int))=true:=aq (by omega);have ej:Int.toNat (j:Int)=j:=rfl;obtain ⟨r,m1,_⟩:=Vi (s.bX.get j);unfold b.iY b.B4
   dsimp only
   rw [d1,d2,ej,e1,m1];cases r with
   | true=>exact ⟨fun k=>by simp at k,fun _=>⟨_,rfl,rfl⟩⟩
   | false=>exact ⟨fun _=>rfl,fun k=>absurd rfl k⟩) (by
   unfold b.iY
   dsimp only
   rw [bj (Int.lt_irrefl _)];rfl)
  have e0:goN b.iY (⟨false,(0:Int),s⟩:b.ie)=goN b.iY ⟨false,((0:Nat):Int),s⟩:=rfl;rw [e0];rcases key with ⟨f1,f2⟩ | ⟨x',f1,f2,_⟩
  ·rw [f1]
   refine ⟨false,rfl,fun _=>⟨p1,p2.1,p2.2,by omega,by omega,by omega,g2,fun i hi=>?_⟩⟩;obtain ⟨r,m1,m2⟩:=Vi (s.bX.get i);rw [f2 i hi] at m1;exact m2 (Option.some.inj m1).symm
  ·rw [f1]; exact ⟨x'.t2,rfl,fun h=>by rw [f2] at h; simp at h⟩
 ·rw [g1]; exact ⟨x'.t2,rfl,fun h=>by rw [g2] at h; simp at h⟩
theorem aaf (a c:b.Handle):((a.slot==c.slot)&&((a.gen==c.gen)&&true))=true↔a=c:=by
 obtain ⟨a0,a1⟩:=a;obtain ⟨c0,c1⟩:=c;simp
theorem asG (a c:Sl b.Handle) (hn:a.n < 1000000):∃ r,b.pB a c=some r/\(r=true↔Sp a c):=by
 unfold b.pB b.tZ;by_cases hq:a.n=c.n
 ·have de:(((a.n:Nat):Int) != ((c.n:Nat):Int))=false:=by simp [hq]
  rw [de,ba];have key:=jF (step:=b.eT) a.n (by unfold iH; omega) (fun j=>⟨a,c,false,((a.n:Nat):Int),(j:Int)⟩) (fun j=>a.get j=c.get j) (e0:=.exit 0) (er:=.ret) rfl rfl (fun x'=>x'.t4=false) (xe:=⟨a,c,false,((a.n:Nat):Int),((a.n:Nat):Int)⟩) (fun j hj=>by
   have e1:aR ((j:Int)+1)=((j+1:Nat):Int):=by rw [cd (by omega) (by omega)]; omega
   have d1:decide ((j:Int) < ((a.n:Nat):Int))=true:=aq (by omega);have d2:decide ((0:Int)<=(j:Int))=true:=aq (by omega);have d3:decide ((j:Int) < ((c.n:Nat):Int))=true:=aq (by omega);have ej:Int.toNat (j:Int)=j:=rfl;unfold b.eT
   dsimp only
   rw [d1,d2,d3,ej,e1];simp only [dk,ak];by_cases h1:a.get j=c.get j
   ·rw [(aaf (a.get j) (c.get j)).2 h1]
    exact ⟨fun _=>rfl,fun h=>absurd h1 h⟩
   ·have:(((a.get j).slot==(c.get j).slot)&&(((a.get j).gen==(c.get j).gen)&&true))=false:=by rw [<- Bool.not_eq_true,aaf]; exact h1
    rw [this];exact ⟨fun h=>absurd h h1,fun _=>⟨_,rfl,rfl⟩⟩) (by
   unfold b.eT
   dsimp only
   rw [bj (Int.lt_irrefl _)];rfl)
  have e0:goN b.eT (⟨a,c,false,((a.n:Nat):Int),(0:Int)⟩:b.eK)=goN b.eT ⟨a,c,false,((a.n:Nat):Int),((0:Nat):Int)⟩:=rfl;rw [e0];rcases key with ⟨h1,h2⟩ | ⟨x',h1,h2,j,h3,h4⟩
  ·rw [h1]
   exact ⟨true,rfl,⟨fun _=>⟨hq,h2⟩,fun _=>rfl⟩⟩
  ·rw [h1]
   exact ⟨x'.t4,rfl,⟨fun h=>by rw [h2] at h; simp at h,fun h=>absurd (h.2 j h3) h4⟩⟩
 ·have de:(((a.n:Nat):Int) != ((c.n:Nat):Int))=true:=by simp; omega
  rw [de,ak];exact ⟨false,rfl,⟨fun h=>by simp at h,fun h=>absurd h.1 hq⟩⟩
theorem aqu (a c:Sl b.Handle) (hn:a.n < 1000000):∃ r,b.pC a c=some r/\(r=true↔Sp a c):=by
 unfold b.pC b.ub;by_cases hq:a.n=c.n
 ·have de:(((a.n:Nat):Int) != ((c.n:Nat):Int))=false:=by simp [hq]
  rw [de,ba];have key:=jF (step:=b.eU) a.n (by unfold iH; omega) (fun j=>⟨a,c,false,(j:Int)⟩) (fun j=>a.get j=c.get j) (e0:=.exit 0) (er:=.ret) rfl rfl (fun x'=>x'.t4=false) (xe:=⟨a,c,false,((a.n:Nat):Int)⟩) (fun j hj=>by
   have e1:aR ((j:Int)+1)=((j+1:Nat):Int):=by rw [cd (by omega) (by omega)]; omega
   have d1:decide ((j:Int) < ((a.n:Nat):Int))=true:=aq (by omega);have d2:decide ((0:Int)<=(j:Int))=true:=aq (by omega);have d3:decide ((j:Int) < ((c.n:Nat):Int))=true:=aq (by omega);have ej:Int.toNat (j:Int)=j:=rfl;unfold b.eU
   dsimp only
   rw [d1,d2,d3,ej,e1];simp only [dk,ak];by_cases h1:a.get j=c.get j
   ·rw [(aaf (a.get j) (c.get j)).2 h1]
    exact ⟨fun _=>rfl,fun h=>absurd h1 h⟩
   ·have:(((a.get j).slot==(c.get j).slot)&&(((a.get j).gen==(c.get j).gen)&&true))=false:=by rw [<- Bool.not_eq_true,aaf]; exact h1
    rw [this];exact ⟨fun h=>absurd h h1,fun _=>⟨_,rfl,rfl⟩⟩) (by
   unfold b.eU
   dsimp only
   rw [bj (Int.lt_irrefl _)];rfl)
  have e0:goN b.eU (⟨a,c,false,(0:Int)⟩:b.eL)=goN b.eU ⟨a,c,false,((0:Nat):Int)⟩:=rfl;rw [e0];rcases key with ⟨h1,h2⟩ | ⟨x',h1,h2,j,h3,h4⟩
  ·rw [h1]
   exact ⟨true,rfl,⟨fun _=>⟨hq,h2⟩,fun _=>rfl⟩⟩
  ·rw [h1]
   exact ⟨x'.t4,rfl,⟨fun h=>by rw [h2] at h; simp at h,fun h=>absurd (h.2 j h3) h4⟩⟩
 ·have de:(((a.n:Nat):Int) != ((c.n:Nat):Int))=true:=by simp; omega
  rw [de,ak];exact ⟨false,rfl,⟨fun h=>by simp at h,fun h=>absurd h.1 hq⟩⟩
def hAt (s:b.aP) (kids:Sl Int):Nat->b.Handle
 | 0=>s.root
 | j+1=>(s.graph.kids.get (hAt s kids j).slot.toNat).get (kids.get j).toNat
def afd (s:b.aP) (kids:Sl Int) (j:Nat):Prop:=0<=kids.get j/\kids.get j < ((s.graph.kids.get (hAt s kids j).slot.toNat).n:Int)
def Pd (s:b.aP) (kids:Sl Int):Prop:=∀ j,j < kids.n->afd s kids j
def Pe (s:b.aP) (kids:Sl Int) (l:Sl b.Handle):Prop:=l.n=kids.n+1/\∀ i,i<=kids.n->l.get i=hAt s kids i
theorem asH {s:b.aP} (hs:yU s) {h:b.Handle} (hh:pf s.graph.ca h) {k:Nat} (hk:k < (s.graph.kids.get h.slot.toNat).n):pf s.graph.ca ((s.graph.kids.get h.slot.toNat).get k):=by
 have hg:=(xz s.graph).1 hs.1;refine (hg.2.2.1 h.slot.toNat ?_).2.2 k hk;have:=hh.1;have:=hh.2.1;have:=hg.2.1;omega
theorem JA {s:b.aP} (hs:yU s) (hr:s.root≠Pc) (kids:Sl Int):∀ j,(∀ i,i < j->afd s kids i)->pf s.graph.ca (hAt s kids j)
 | 0,_=>by
  rcases hs.2.2.2.2 with h | h
  ·exact absurd h hr
  ·exact h
 | j+1,h=>by
  have h1:=JA hs hr kids j fun i hi=>h i (by omega);have h2:=h j (by omega);exact asH hs h1 (by have:=h2.1; have:=h2.2; omega)
theorem Nq {s:b.aP} (hs:yU s) {h:b.Handle} (hh:pf s.graph.ca h):0<=h.slot/\h.slot < (s.graph.kids.n:Int)/\h.slot < (s.nodes.n:Int):=by
 have hg:=(xz s.graph).1 hs.1;have:=hh.1;have:=hh.2.1;have:=hg.2.1;have:=hs.2.1;omega
theorem amJ {s:b.aP} (hs:yU s) (hr:s.root≠Pc) (kids:Sl Int) (hn:kids.n<=400) :
  ∃ p ok,b.tt s kids=some (p,ok)/\(ok=true/\Pd s kids/\Pe s kids p.nodes/\p.kids=kids\/ok=false/\¬ Pd s kids):=by
 unfold b.tt b.nZ b.yi;have hc:b.wz kids=some kids:=by
  unfold b.wz Gd;rw [ur (by omega) (by omega) (by omega)];rfl
 rw [hc];simp only [fQ,ee,ak];by_cases h0:(0:Int) < ((kids.n:Nat):Int)
 ·rw [aq h0]
  simp only [ak];have hh:=JA hs hr kids 0 fun i hi=>absurd hi (o6 i);have aqv:pf s.graph.ca s.root:=hh;obtain ⟨r1,r2,_⟩:=Nq hs aqv;rw [aq r1,aq r2];simp only [dk,ak];by_cases k1:kids.get 0 < 0
  ·rw [aq k1]
   exact ⟨_,_,rfl,.inr ⟨rfl,fun h=>by have:=(h 0 (by omega)).1; omega⟩⟩
  rw [bj k1];simp only [ba];by_cases k2:kids.get 0 >= (((s.graph.kids.get (Int.toNat s.root.slot)).n:Nat):Int)
  ·rw [aq k2]
   exact ⟨_,_,rfl,.inr ⟨rfl,fun h=>absurd (h 0 (by omega)).2 (by show ¬ (kids.get 0 < (((s.graph.kids.get s.root.slot.toNat).n:Nat):Int)); omega)⟩⟩
  have k3:(0:Int)<=kids.get 0:=by omega
  have k4:kids.get 0 < (((s.graph.kids.get (Int.toNat s.root.slot)).n:Nat):Int):=by omega
  rw [bj k2,aq k3,aq k4];simp only [dk,ak,ba];obtain ⟨e,x',q1,q2⟩:=jo (step:=b.kz)
   (fun r x=>∃ l:Sl b.Handle,x=⟨false,kids,((kids.n:Nat):Int),((r+1:Nat):Int),s,⟨⟨0,fun _=>⟨0,0⟩⟩,⟨0,fun _=>0⟩⟩,⟨l,kids⟩,hAt s kids (r+1)⟩/\r+1<=kids.n/\(∀ i,i < r+1->afd s kids i)/\l.n=r+2/\∀ i,i < r+2->l.get i=hAt s kids i)
   (fun e x'=>(e = .exit 0/\Pd s kids/\Pe s kids x'.p.nodes/\x'.p.kids=kids)\/(e = .ret/\x'.t5=false/\¬ Pd s kids))
   (kids.n - 1) (by unfold iH; omega) (by
    rintro r _ hj ⟨l,rfl,hrn,gQ,hl,hlg⟩;have ej:Int.toNat ((r+1:Nat):Int)=r+1:=rfl;have d1:decide ((0:Int)<=((r+1:Nat):Int))=true:=aq (by omega);obtain ⟨s1,s2,_⟩:=Nq hs (JA hs hr kids (r+1) gQ);unfold b.kz
    dsimp only
    rw [ej,d1,aq s1,aq s2];simp only [cv,ak,dk,Bj];by_cases bG:(((r+1:Nat):Int)) < ((kids.n:Nat):Int)
    ·rw [aq bG]
     simp only [ak];by_cases m1:kids.get (r+1) < 0
     ·rw [aq m1]
      exact .inr ⟨_,_,rfl,rfl,.inr ⟨rfl,rfl,fun h=>by have:=(h (r+1) (by omega)).1; omega⟩⟩
     rw [bj m1];by_cases m2:kids.get (r+1) >= (((s.graph.kids.get (Int.toNat (hAt s kids (r+1)).slot)).n:Nat):Int)
     ·rw [aq m2]
      exact .inr ⟨_,_,rfl,rfl,.inr ⟨rfl,rfl,fun h=>by have:=(h (r+1) (by omega)).2; omega⟩⟩
     have m3:(0:Int)<=kids.get (r+1):=by omega
     have m4:kids.get (r+1) < (((s.graph.kids.get (Int.toNat (hAt s kids (r+1)).slot)).n:Nat):Int):=by omega
     rw [bj m2,aq m3,aq m4,ur (by omega) (by omega) (by omega)];have e1:aR (((r+1:Nat):Int)+1)=((r+1+1:Nat):Int):=by rw [cd (by omega) (by omega)]; omega
     rw [e1];refine .inl ⟨_,rfl,by omega,_,rfl,by omega,fun i hi=>?_,by show l.n+1=r+1+2; omega,fun i hi=>?_⟩
     ·by_cases hir:i=r+1
      ·subst hir; exact ⟨m3,m4⟩
      ·exact gQ i (by omega)
     ·by_cases hir:i=r+2
      ·subst hir
       rw [<- hl,Sl.abV];rw [hl];rfl
      ·rw [Sl.abU (by omega)]
       exact hlg i (by omega)
    ·rw [bj bG]
     have:r+1=kids.n:=by omega
     refine .inr ⟨_,_,rfl,rfl,.inl ⟨rfl,fun j hj=>gQ j (by omega),⟨by show l.n=kids.n+1; omega,fun i hi=>hlg i (by omega)⟩,rfl⟩⟩
    ) (x:=⟨false,kids,((kids.n:Nat):Int),(1:Int),s,⟨⟨0,fun _=>⟨0,0⟩⟩,⟨0,fun _=>0⟩⟩,⟨(Sl.lit [s.root]).push ((s.graph.kids.get (Int.toNat s.root.slot)).get (Int.toNat (kids.get 0))),kids⟩,(s.graph.kids.get (Int.toNat s.root.slot)).get (Int.toNat (kids.get 0))⟩) ⟨_,rfl,by omega,fun i hi=>by
    have:i=0:=by omega
    subst this;exact ⟨k3,k4⟩,rfl,fun i hi=>by
    rcases (by omega:i=0\/i=1) with rfl | rfl
    ·rfl
    ·rfl⟩
  ·rw [q1]
   rcases q2 with ⟨rfl,g1,g2,g3⟩ | ⟨rfl,g1,g2⟩
   ·exact ⟨x'.p,true,rfl,.inl ⟨rfl,g1,g2,g3⟩⟩
   ·exact ⟨x'.t4,x'.t5,rfl,.inr ⟨g1,g2⟩⟩
 ·rw [bj h0]
  refine ⟨_,true,rfl,.inl ⟨rfl,fun j hj=>absurd hj (by omega),⟨by show 1=kids.n+1; omega,fun i hi=>?_⟩,rfl⟩⟩;have:i=0:=by omega
  subst this;rfl
theorem asI {s:b.aP} (hs:yU s) (hr:s.root≠Pc) (kids:Sl Int) (hn:kids.n<=400) :
  ∃ p ok,b.EW s kids=some (p,ok)/\(ok=true/\Pd s kids/\Pe s kids p.nodes/\Sp p.kids kids\/ok=false/\¬ Pd s kids):=by
 unfold b.EW b.wB;by_cases h0:(0:Int) < ((kids.n:Nat):Int)
 ·rw [aq h0]
  simp only [ak];have hh:=JA hs hr kids 0 fun i hi=>absurd hi (o6 i);have aqv:pf s.graph.ca s.root:=hh;obtain ⟨r1,r2,_⟩:=Nq hs aqv;rw [aq r1,aq r2];simp only [dk,ak];by_cases k1:kids.get 0 < 0
  ·rw [aq k1]
   exact ⟨_,_,rfl,.inr ⟨rfl,fun h=>by have:=(h 0 (by omega)).1; omega⟩⟩
  rw [bj k1];simp only [ba];by_cases k2:kids.get 0 >= (((s.graph.kids.get (Int.toNat s.root.slot)).n:Nat):Int)
  ·rw [aq k2]
   exact ⟨_,_,rfl,.inr ⟨rfl,fun h=>absurd (h 0 (by omega)).2 (by show ¬ (kids.get 0 < (((s.graph.kids.get s.root.slot.toNat).n:Nat):Int)); omega)⟩⟩
  have k3:(0:Int)<=kids.get 0:=by omega
  have k4:kids.get 0 < (((s.graph.kids.get (Int.toNat s.root.slot)).n:Nat):Int):=by omega
  rw [bj k2,aq k3,aq k4];simp only [dk,ak,ba];obtain ⟨e,x',q1,q2⟩:=jo (step:=b.n9)
   (fun r x=>∃ (l:Sl b.Handle) (c:Sl Int),x=⟨kids,false,((r+1:Nat):Int),s,⟨⟨0,fun _=>⟨0,0⟩⟩,⟨0,fun _=>0⟩⟩,⟨l,c⟩,hAt s kids (r+1)⟩/\r+1<=kids.n/\(∀ i,i < r+1->afd s kids i)/\l.n=r+2/\(∀ i,i < r+2->l.get i=hAt s kids i)/\c.n=r+1/\∀ i,i < r+1->c.get i=kids.get i)
   (fun e x'=>(e = .exit 0/\Pd s kids/\Pe s kids x'.p.nodes/\Sp x'.p.kids kids)\/(e = .ret/\x'.t5=false/\¬ Pd s kids))
   (kids.n - 1) (by unfold iH; omega) (by
    rintro r _ hj ⟨l,c,rfl,hrn,gQ,hl,hlg,hc,hcg⟩;have ej:Int.toNat ((r+1:Nat):Int)=r+1:=rfl;have d1:decide ((0:Int)<=((r+1:Nat):Int))=true:=aq (by omega);obtain ⟨s1,s2,_⟩:=Nq hs (JA hs hr kids (r+1) gQ);unfold b.n9
    dsimp only
    rw [ej,d1,aq s1,aq s2];simp only [cv,ak,dk,Bj];by_cases bG:(((r+1:Nat):Int)) < ((kids.n:Nat):Int)
    ·rw [aq bG]
     simp only [ak];by_cases m1:kids.get (r+1) < 0
     ·rw [aq m1]
      exact .inr ⟨_,_,rfl,rfl,.inr ⟨rfl,rfl,fun h=>by have:=(h (r+1) (by omega)).1; omega⟩⟩
     rw [bj m1];by_cases m2:kids.get (r+1) >= (((s.graph.kids.get (Int.toNat (hAt s kids (r+1)).slot)).n:Nat):Int)
     ·rw [aq m2]
      exact .inr ⟨_,_,rfl,rfl,.inr ⟨rfl,rfl,fun h=>by have:=(h (r+1) (by omega)).2; omega⟩⟩
     have m3:(0:Int)<=kids.get (r+1):=by omega
     have m4:kids.get (r+1) < (((s.graph.kids.get (Int.toNat (hAt s kids (r+1)).slot)).n:Nat):Int):=by omega
     rw [bj m2,aq m3,aq m4,ur (b:=16) (by omega) (by omega) (by omega),ur (b:=8) (by omega) (by omega) (by omega)];have e1:aR (((r+1:Nat):Int)+1)=((r+1+1:Nat):Int):=by rw [cd (by omega) (by omega)]; omega
     rw [e1];refine .inl ⟨_,rfl,by omega,_,_,rfl,by omega,fun i hi=>?_,by show l.n+1=r+1+2; omega,fun i hi=>?_,by show c.n+1=r+1+1; omega,fun i hi=>?_⟩
     ·by_cases hir:i=r+1
      ·subst hir; exact ⟨m3,m4⟩
      ·exact gQ i (by omega)
     ·by_cases hir:i=r+2
      ·subst hir
       rw [<- hl,Sl.abV];rw [hl];rfl
      ·rw [Sl.abU (by omega)]
       exact hlg i (by omega)
     ·by_cases hir:i=r+1
      ·subst hir
       rw [<- hc,Sl.abV]
      ·rw [Sl.abU (by omega)]
       exact hcg i (by omega)
    ·rw [bj bG]
     have:r+1=kids.n:=by omega
     exact .inr ⟨_,_,rfl,rfl,.inl ⟨rfl,fun j hj=>gQ j (by omega),⟨by show l.n=kids.n+1; omega,fun i hi=>hlg i (by omega)⟩,by show c.n=kids.n; omega,fun i hi=>hcg i (by have:i < c.n:=hi; omega)⟩⟩
    ) (x:=⟨kids,false,(1:Int),s,⟨⟨0,fun _=>⟨0,0⟩⟩,⟨0,fun _=>0⟩⟩,⟨(Sl.lit [s.root]).push ((s.graph.kids.get (Int.toNat s.root.slot)).get (Int.toNat (kids.get 0))),(⟨0,fun _=>0⟩:Sl Int).push (kids.get 0)⟩,(s.graph.kids.get (Int.toNat s.root.slot)).get (Int.toNat (kids.get 0))⟩) ⟨_,_,rfl,by omega,fun i hi=>by
    have:i=0:=by omega
    subst this;exact ⟨k3,k4⟩,rfl,fun i hi=>by
    rcases (by omega:i=0\/i=1) with rfl | rfl
    ·rfl
    ·rfl,rfl,fun i hi=>by
    have:i=0:=by omega
    subst this;rfl⟩
  ·rw [q1]
   rcases q2 with ⟨rfl,g1,g2,g3⟩ | ⟨rfl,g1,g2⟩
   ·exact ⟨x'.p,true,rfl,.inl ⟨rfl,g1,g2,g3⟩⟩
   ·exact ⟨x'.t4,x'.t5,rfl,.inr ⟨g1,g2⟩⟩
 ·rw [bj h0]
  refine ⟨_,true,rfl,.inl ⟨rfl,fun j hj=>absurd hj (by omega),⟨by show 1=kids.n+1; omega,fun i hi=>?_⟩,by show 0=kids.n; omega,fun i hi=>absurd hi (o6 i)⟩⟩;have:i=0:=by omega
  subst this;rfl
theorem aiI {s:b.aP} {kids:Sl Int} {l m:Sl b.Handle} (h:Pe s kids l):Sp l m↔Pe s kids m:=by
 constructor
 ·exact fun k=>⟨by rw [<- k.1,h.1],fun i hi=>by rw [<- k.2 i (by rw [h.1]; omega),h.2 i hi]⟩
 ·exact fun k=>⟨by rw [h.1,k.1],fun i hi=>by rw [h.2 i (by have:=h.1; omega),k.2 i (by have:=h.1; omega)]⟩
def xG (s:b.aP) (p:b.Path):Prop:=yU s/\s.root≠Pc/\Pd s p.kids/\Pe s p.kids p.nodes
theorem ao2 (s:b.aP) (p:b.Path) (sq:xc s) (hk:p.kids.n<=400):∃ e,b.vy s p=some e/\(e=0/\xG s p\/e=8/\¬ xG s p):=by
 unfold b.vy b.Aa b.EU b.Ab;obtain ⟨e,q1,q2⟩:=aqq s sq;rw [q1];simp only [fQ,ee,ak];rcases q2 with ⟨rfl,hs⟩ | ⟨rfl,hs⟩
 ·have:((0:Int) != 0)=false:=rfl
  rw [this,ba];refine DX (ab0 s.root) (fun h k=>k.2.1 h) fun hr=>?_;obtain ⟨x,ok,p1,p2⟩:=amJ hs hr p.kids hk;rw [p1];simp only [fQ,ee,ak];rcases p2 with ⟨rfl,g1,g2,g3⟩ | ⟨rfl,g1⟩
  ·have hx:x.nodes.n < 1000000:=by rw [g2.1]; omega
   obtain ⟨r,m1,m2⟩:=asG x.nodes p.nodes hx;rw [m1];simp only [fQ,ee,ak,Hc,ba];refine DX (Nl (m2.trans (aiI g2))) (fun h k=>h k.2.2.2) fun h=>?_;exact ⟨0,rfl,.inl ⟨rfl,hs,hr,g1,Classical.byContradiction h⟩⟩
  ·exact ⟨8,rfl,.inr ⟨rfl,fun k=>g1 k.2.2.1⟩⟩
 ·exact ⟨8,rfl,.inr ⟨rfl,fun k=>hs k.1⟩⟩
theorem amK (s:b.aP) (p:b.Path) (sq:xc s) (hk:p.kids.n<=400):∃ e,b.Af s p=some e/\(e=0/\xG s p\/e=8/\¬ xG s p):=by
 unfold b.Af b.DP b.Jv b.Jw b.DQ b.Gh;obtain ⟨e,q1,q2⟩:=aoX s sq;rw [q1];simp only [fQ,ee,ak];rcases q2 with ⟨rfl,hs⟩ | ⟨rfl,hs⟩
 ·have:((0:Int) != 0)=false:=rfl
  rw [this,ba];refine DX (ab0 s.root) (fun h k=>k.2.1 h) fun hr=>?_;obtain ⟨x,ok,p1,p2⟩:=asI hs hr p.kids hk;rw [p1];simp only [fQ,ee,ak];rcases p2 with ⟨rfl,g1,g2,g3⟩ | ⟨rfl,g1⟩
  ·have hx:x.nodes.n < 1000000:=by rw [g2.1]; omega
   obtain ⟨r,m1,m2⟩:=aqu x.nodes p.nodes hx;rw [m1];simp only [fQ,ee,ak,Hc,ba];refine DX (Nl (m2.trans (aiI g2))) (fun h k=>h k.2.2.2) fun h=>?_;exact ⟨0,rfl,.inl ⟨rfl,hs,hr,g1,Classical.byContradiction h⟩⟩
  ·exact ⟨8,rfl,.inr ⟨rfl,fun k=>g1 k.2.2.1⟩⟩
 ·exact ⟨8,rfl,.inr ⟨rfl,fun k=>hs k.1⟩⟩
def U16 (n:Int):Prop:=0<=n/\n<=65535
theorem arK {n:Int} (h:U16 n):w16 n=n:=by
 obtain ⟨h1,h2⟩:=h;show IntKind.wrap .u16 n=n;unfold IntKind.wrap;have hb:(2 ^ IntKind.u16.bits:Int)=65536:=rfl;have hs:IntKind.u16.signed=false:=rfl;simp only [hb,hs,Bool.false_and];rw [av (by simp)];omega
theorem aw3 {n:Int} (h:U16 n):((akk IntKind.u16 n (1:Int):Nat):Int)=n % 2:=by
 obtain ⟨h1,h2⟩:=h;obtain ⟨m,rfl⟩:=Int.eq_ofNat_of_zero_le h1;unfold akk;show (((BitVec.ofInt 16 (m:Int) &&& BitVec.ofInt 16 1).toNat:Nat):Int)=(m:Int) % 2;rw [BitVec.toNat_and,BitVec.toNat_ofInt];have e1:(BitVec.ofInt 16 1).toNat=1:=rfl;rw [e1,Nat.and_one_is_mod];omega
def aiJ (on k:Int):Prop:=on / 2 ^ k.toNat % 2=1
theorem aag {on:Int} (h:U16 on) (k:Nat):U16 (on / 2 ^ k):=by
 obtain ⟨h1,h2⟩:=h;have hp:(0:Int) < 2 ^ k:=Int.pow_pos (by omega);refine ⟨Int.ediv_nonneg h1 (Int.le_of_lt hp),?_⟩;exact Int.le_trans (Int.ediv_le_self _ h1) h2
theorem ao3 {on:Int} (h:U16 on) {k:Nat} (hk:16<=k):on / 2 ^ k=0:=by
 obtain ⟨h1,h2⟩:=h;apply Int.ediv_eq_zero_of_lt h1;have:(2:Int) ^ 16<=2 ^ k:=by
  have:=Nat.pow_le_pow_right (show 0 < 2 by omega) hk
  exact_mod_cast this
 have e:(2:Int) ^ 16=65536:=by decide
 omega
theorem ao4 {on k:Int} (h:U16 on):(w16 ((akk IntKind.u16 (Int.fdiv on ((2:Int) ^ (min (Int.toNat k) 16))) (1:Int):Nat):Int)==(0:Int))=true↔¬ aiJ on k:=by
 have e:Int.fdiv on ((2:Int) ^ (min (Int.toNat k) 16))=on / 2 ^ (min (Int.toNat k) 16):=Int.fdiv_eq_ediv_of_nonneg _ (Int.le_of_lt (Int.pow_pos (by omega)));have hu:=aag h (min (Int.toNat k) 16);rw [e,aw3 hu,arK ⟨by omega,by omega⟩,ko];unfold aiJ;by_cases hk:k.toNat<=16
 ·rw [Nat.min_eq_left hk]; omega
 ·rw [Nat.min_eq_right (by omega),ao3 h (by omega),ao3 h (by omega)]; omega
theorem asJ {on k:Int} (h:U16 on) (hk:k<=1000000):∃ r,b.EX on k=some r/\(r=true↔aiJ on k):=by
 unfold b.EX b.O4;obtain ⟨e,x',q1,q2⟩:=jo (step:=b.pD)
  (fun t x=>x=⟨on / 2 ^ t,k,false,(t:Int)⟩)
  (fun e x'=>e = .exit 0/\x'.uz=on / 2 ^ k.toNat)
  k.toNat (by unfold iH; omega) (by
   rintro t _ ht rfl;unfold b.pD
   dsimp only
   have hu:=aag h t;by_cases bG:(t:Int) < k
   ·rw [aq bG]
    have e1:aR ((t:Int)+1)=((t+1:Nat):Int):=by rw [cd (by omega) (by omega)]; omega
    have e2:Int.tdiv (on / 2 ^ t) 2=on / 2 ^ (t+1):=by
     rw [Int.tdiv_eq_ediv_of_nonneg hu.1,Int.ediv_ediv_of_nonneg (Int.le_of_lt (Int.pow_pos (by omega))),Int.pow_succ]
    rw [e1,e2,arK (aag h (t+1))];exact .inl ⟨_,rfl,by omega,rfl⟩
   ·rw [bj bG]
    have:t=k.toNat:=by omega
    subst this;exact .inr ⟨_,_,rfl,rfl,rfl,rfl⟩) (x:=⟨on,k,false,(0:Int)⟩) (by
   show _=_;rw [Int.pow_zero,Int.ediv_one];rfl)
 rw [q1];obtain ⟨rfl,q3⟩:=q2;simp only [aW.lB,aW.ln,q3];have hu:=aag h k.toNat;refine ⟨_,rfl,?_⟩;rw [ko,Int.tmod_eq_emod_of_nonneg hu.1];exact Iff.rfl
def nodeAt (s:b.aP) (p:b.Path) (j:Nat):b.Node:=s.nodes.get (p.nodes.get j).slot.toNat
def aiK (s:b.aP) (p:b.Path) (j:Nat):Prop:=(nodeAt s p j).kind=3->aiJ (nodeAt s p j).uz (p.kids.get j)
def aiL (s:b.aP) (p:b.Path):Prop:=∀ j,j < p.kids.n->aiK s p j
def ao5 (s:b.aP):Prop:=∀ i,i < s.nodes.n->U16 (s.nodes.get i).uz
theorem ao6 {s:b.aP} {p:b.Path} (h:xG s p) {j:Nat} (hj:j<=p.kids.n):pf s.graph.ca (p.nodes.get j):=by
 rw [h.2.2.2.2 j hj];exact JA h.1 h.2.1 p.kids j fun i hi=>h.2.2.1 i (by omega)
theorem KS {s:b.aP} {p:b.Path} (h:xG s p) {j:Nat} (hj:j<=p.kids.n):0<=(p.nodes.get j).slot/\(p.nodes.get j).slot < (s.nodes.n:Int):=by
 have:=Nq h.1 (ao6 h hj);exact ⟨this.1,this.2.2⟩
theorem aiM {s:b.aP} {p:b.Path} (h:xG s p) {j:Nat} (hj:j < p.kids.n):0<=p.kids.get j/\p.kids.get j < 16:=by
 have hg:=(xz s.graph).1 h.1.1;have hh:=JA h.1 h.2.1 p.kids j fun i hi=>h.2.2.1 i (by omega);have hs:=Nq h.1 hh;have hr:=(hg.2.2.1 (hAt s p.kids j).slot.toNat (by omega)).1;have:=h.2.2.1 j hj;exact ⟨this.1,by have:=this.2; omega⟩
theorem auc (s:b.aP) (p:b.Path) (sq:xc s) (hon:ao5 s) (hk:p.kids.n<=400):∃ t e,b.Cz s p=some (t,e)/\(e=0/\xG s p/\(t=true↔aiL s p)\/e=8/\¬ xG s p/\t=false):=by
 unfold b.Cz b.FC;obtain ⟨e,q1,q2⟩:=ao2 s p sq hk;rw [q1];simp only [fQ,ee,ak];rcases q2 with ⟨rfl,ha⟩ | ⟨rfl,ha⟩
 ·have:((0:Int) != 0)=false:=rfl
  rw [this,ba];unfold b.Bh;have key:=jF (step:=b.j5) p.kids.n (by unfold iH; omega) (fun j=>⟨false,(0:Int),p.kids,((p.kids.n:Nat):Int),(j:Int),s,p⟩) (fun j=>aiK s p j) (e0:=.exit 0) (er:=.ret) rfl rfl (fun x'=>x'.t4=false/\x'.t5=0) (xe:=⟨false,(0:Int),p.kids,((p.kids.n:Nat):Int),((p.kids.n:Nat):Int),s,p⟩) (fun j hj=>by
   have e1:aR ((j:Int)+1)=((j+1:Nat):Int):=by rw [cd (by omega) (by omega)]; omega
   have d1:decide ((j:Int) < ((p.kids.n:Nat):Int))=true:=aq (by omega);have d2:decide ((0:Int)<=(j:Int))=true:=aq (by omega);have d3:decide ((j:Int) < ((p.nodes.n:Nat):Int))=true:=aq (by have:=ha.2.2.2.1; omega);have ej:Int.toNat (j:Int)=j:=rfl;obtain ⟨s1,s2⟩:=KS ha (show j<=p.kids.n by omega);obtain ⟨k1,k2⟩:=aiM ha hj;unfold b.j5
   dsimp only
   rw [d1,d2,ej,d3,e1,aq s1,aq s2,bj (show ¬ p.kids.get j < 0 by omega)];simp only [dk,ak,E8];unfold aiK nodeAt;by_cases h3:(s.nodes.get (p.nodes.get j).slot.toNat).kind=3
   ·rw [ko.2 h3,ak]
    have hsh:=ao4 (k:=p.kids.get j) (hon (p.nodes.get j).slot.toNat (by omega));by_cases hb:aiJ (s.nodes.get (p.nodes.get j).slot.toNat).uz (p.kids.get j)
    ·have:(w16 ((akk IntKind.u16 (Int.fdiv (s.nodes.get (p.nodes.get j).slot.toNat).uz ((2:Int) ^ (min (Int.toNat (p.kids.get j)) 16))) (1:Int):Nat):Int)==(0:Int))=false:=by
      rw [<- Bool.not_eq_true,hsh]; exact fun h=>h hb
     rw [this];exact ⟨fun _=>rfl,fun h=>absurd (fun _=>hb) h⟩
    ·rw [hsh.2 hb]
     exact ⟨fun h=>absurd (h h3) hb,fun _=>⟨_,rfl,rfl,rfl⟩⟩
   ·have:((s.nodes.get (p.nodes.get j).slot.toNat).kind==(3:Int))=false:=by rw [<- Bool.not_eq_true,LZ]; exact h3
    rw [this,ba];exact ⟨fun _=>rfl,fun h=>absurd (fun k=>absurd k h3) h⟩) (by
   unfold b.j5
   dsimp only
   rw [bj (Int.lt_irrefl _)];rfl)
  have e0:goN b.j5 (⟨false,(0:Int),p.kids,((p.kids.n:Nat):Int),(0:Int),s,p⟩:b.jZ)=goN b.j5 ⟨false,(0:Int),p.kids,((p.kids.n:Nat):Int),((0:Nat):Int),s,p⟩:=rfl;rw [e0];rcases key with ⟨h1,h2⟩ | ⟨x',h1,h2,j,h3,h4⟩
  ·rw [h1]
   exact ⟨true,0,rfl,.inl ⟨rfl,ha,fun _=>h2,fun _=>rfl⟩⟩
  ·rw [h1]
   refine ⟨x'.t4,x'.t5,rfl,.inl ⟨h2.2,ha,fun h=>by rw [h2.1] at h; simp at h,fun h=>absurd (h j h3) h4⟩⟩
 ·exact ⟨false,8,rfl,.inr ⟨rfl,ha,rfl⟩⟩
theorem akc (s:b.aP) (p:b.Path) (hon:ao5 s) (ha:xG s p) (hk:p.kids.n < 1000000):∃ t,b.vz s p=some t/\(t=true↔aiL s p):=by
 unfold b.vz b.Ag;have key:=jF (step:=b.hY) p.kids.n (by unfold iH; omega) (fun j=>⟨false,(j:Int),s,p⟩) (fun j=>aiK s p j) (e0:=.exit 0) (er:=.ret) rfl rfl (fun x'=>x'.t4=false) (xe:=⟨false,((p.kids.n:Nat):Int),s,p⟩) (fun j hj=>by
  have e1:aR ((j:Int)+1)=((j+1:Nat):Int):=by rw [cd (by omega) (by omega)]; omega
  have d1:decide ((j:Int) < ((p.kids.n:Nat):Int))=true:=aq (by omega);have d2:decide ((0:Int)<=(j:Int))=true:=aq (by omega);have d3:decide ((j:Int) < ((p.nodes.n:Nat):Int))=true:=aq (by have:=ha.2.2.2.1; omega);have ej:Int.toNat (j:Int)=j:=rfl;obtain ⟨s1,s2⟩:=KS ha (show j<=p.kids.n by omega);obtain ⟨k1,k2⟩:=aiM ha hj;obtain ⟨r,b1,b2⟩:=asJ (k:=p.kids.get j) (hon (p.nodes.get j).slot.toNat (by omega)) (by omega);unfold b.hY b.AI
  dsimp only
  rw [ej,d1,d2,d3,e1,aq s1,aq s2,b1];simp only [dk,ak,fQ,ee];unfold aiK nodeAt;by_cases h3:(s.nodes.get (p.nodes.get j).slot.toNat).kind=3
  ·rw [ko.2 h3,ak,<- b2]
   cases r with
   | true=>exact ⟨fun _=>rfl,fun h=>absurd (fun _=>rfl) h⟩
   | false=>exact ⟨fun h=>by have:=h h3; simp at this,fun _=>⟨_,rfl,rfl⟩⟩
  ·have:((s.nodes.get (p.nodes.get j).slot.toNat).kind==(3:Int))=false:=by rw [<- Bool.not_eq_true,LZ]; exact h3
   rw [this,ba];exact ⟨fun _=>rfl,fun h=>absurd (fun k=>absurd k h3) h⟩) (by
  unfold b.hY
  dsimp only
  rw [bj (Int.lt_irrefl _)];rfl)
 have e0:goN b.hY (⟨false,(0:Int),s,p⟩:b.fK)=goN b.hY ⟨false,((0:Nat):Int),s,p⟩:=rfl;rw [e0];rcases key with ⟨h1,h2⟩ | ⟨x',h1,h2,j,h3,h4⟩
 ·rw [h1]
  exact ⟨true,rfl,fun _=>h2,fun _=>rfl⟩
 ·rw [h1]
  exact ⟨x'.t4,rfl,fun h=>by rw [h2] at h; simp at h,fun h=>absurd (h j h3) h4⟩
theorem asK (s:b.aP) (p:b.Path) (sq:xc s) (hon:ao5 s) (hk:p.kids.n<=400):∃ t e,b.H6 s p=some (t,e)/\(e=0/\xG s p/\(t=true↔aiL s p)\/e=8/\¬ xG s p/\t=false):=by
 unfold b.H6 b.KM;obtain ⟨e,q1,q2⟩:=amK s p sq hk;rw [q1];simp only [fQ,ee,ak];rcases q2 with ⟨rfl,ha⟩ | ⟨rfl,ha⟩
 ·have:((0:Int) != 0)=false:=rfl
  rw [this,ba];unfold b.Sf;obtain ⟨t,t1,t2⟩:=akc s p hon ha (by omega);rw [t1];exact ⟨t,0,rfl,.inl ⟨rfl,ha,t2⟩⟩
 ·exact ⟨false,8,rfl,.inr ⟨rfl,ha,rfl⟩⟩
def unit:b.dm:=⟨⟨⟨256,0,0⟩,⟨0,256,0⟩,⟨0,0,256⟩⟩,⟨0,0,0⟩⟩
noncomputable def kP (s:b.aP) (p:b.Path):Nat->b.dm×Int
 | 0=>(unit,0)
 | j+1=>if (nodeAt s p j).kind=2/\(kP s p j).2=0 then ym (kP s p j).1 (nodeAt s p j).gd else kP s p j
theorem ady (s:b.aP) (p:b.Path) {j:Nat} (h:(kP s p j).2≠0):∀ k,j<=k->kP s p k=kP s p j
 | 0,hk=>by rw [show j=0 by omega]
 | k+1,hk=>by
  by_cases e:j=k+1
  ·rw [e]
  ·have hi:=ady s p h k (by omega)
   show (if (nodeAt s p k).kind=2/\(kP s p k).2=0 then ym (kP s p k).1 (nodeAt s p k).gd else kP s p k)=_;rw [av fun q=>by rw [hi] at q; exact h q.2,hi]
noncomputable def aiN (s:b.aP) (p:b.Path) (n:Nat):b.dm×Int:=if (kP s p n).2=0 then ((kP s p n).1,0) else (xb,(kP s p n).2)
theorem aqw (s:b.aP) (p:b.Path) (ha:xG s p) (hn:p.nodes.n < 1000000) :
  goN b.kY (⟨(0:Int),p.nodes,((p.nodes.n:Nat):Int),(0:Int),s,xb,⟨unit,0⟩⟩:b.gI) = .out (.exit 0) ⟨(0:Int),p.nodes,((p.nodes.n:Nat):Int),((p.nodes.n:Nat):Int),s,xb,⟨(kP s p p.nodes.n).1,(kP s p p.nodes.n).2⟩⟩:=by
 obtain ⟨e,x',q1,rfl,q2⟩:=jo (step:=b.kY)
  (fun j x=>x=⟨(0:Int),p.nodes,((p.nodes.n:Nat):Int),(j:Int),s,xb,⟨(kP s p j).1,(kP s p j).2⟩⟩)
  (fun e x'=>e = .exit 0/\x' = ⟨(0:Int),p.nodes,((p.nodes.n:Nat):Int),((p.nodes.n:Nat):Int),s,xb,⟨(kP s p p.nodes.n).1,(kP s p p.nodes.n).2⟩⟩)
  p.nodes.n (by unfold iH; omega) (by
   rintro j _ hj rfl;unfold b.kY b.wA
   dsimp only
   have ej:Int.toNat (j:Int)=j:=rfl;by_cases bG:(j:Int) < ((p.nodes.n:Nat):Int)
   ·have d2:decide ((0:Int)<=(j:Int))=true:=aq (by omega)
    obtain ⟨s1,s2⟩:=KS ha (show j<=p.kids.n by have:=ha.2.2.2.1; omega);have e1:aR ((j:Int)+1)=((j+1:Nat):Int):=by rw [cd (by omega) (by omega)]; omega
    rw [aq bG,d2,ej,aq s1,aq s2,e1];simp only [dk,ak,aqf,fQ,ee];refine .inl ?_;have nA:kP s p (j+1)=if (nodeAt s p j).kind=2/\(kP s p j).2=0 then ym (kP s p j).1 (nodeAt s p j).gd else kP s p j:=rfl;unfold nodeAt at nA;by_cases h2:(s.nodes.get (p.nodes.get j).slot.toNat).kind=2
    ·by_cases h0:(kP s p j).2=0
     ·rw [ko.2 h2,ko.2 h0]
      rw [aY ⟨h2,h0⟩] at nA;rw [nA];exact ⟨_,rfl,by omega,rfl⟩
     ·rw [ko.2 h2,show ((kP s p j).2==(0:Int))=false by rw [<- Bool.not_eq_true,LZ]; exact h0]
      rw [av fun q=>h0 q.2] at nA;rw [nA];exact ⟨_,rfl,by omega,rfl⟩
    ·rw [show ((s.nodes.get (p.nodes.get j).slot.toNat).kind==(2:Int))=false by rw [<- Bool.not_eq_true,LZ]; exact h2]
     rw [av fun q=>h2 q.1] at nA;rw [nA];exact ⟨_,rfl,by omega,rfl⟩
   ·have:j=p.nodes.n:=by omega
    subst this;rw [bj bG];exact .inr ⟨_,_,rfl,rfl,rfl,rfl⟩) (x:=⟨(0:Int),p.nodes,((p.nodes.n:Nat):Int),(0:Int),s,xb,⟨unit,0⟩⟩) rfl
 rw [q1,q2]
theorem asL (s:b.aP) (p:b.Path) (sq:xc s) (hon:ao5 s) (hk:p.kids.n<=400):∃ m e,b.Ae s p=some (m,e)/\(xG s p/\(m,e)=aiN s p p.nodes.n\/¬ xG s p/\m=xb/\e=8):=by
 unfold b.Ae b.DL;obtain ⟨t,e,q1,q2⟩:=auc s p sq hon hk;rw [q1];simp only [fQ,ee,ak];rcases q2 with ⟨rfl,ha,_⟩ | ⟨rfl,ha,_⟩
 ·have:((0:Int) != 0)=false:=rfl
  rw [this,ba];unfold b.yR b.Jt;have hu:b.Gf=some unit:=rfl;have hw:=aqw s p ha (by have:=ha.2.2.2.1; omega);unfold xb at hw;rw [hu];simp only [fQ,ee,ak];rw [hw];simp only [aW.lB,aW.ln];unfold aiN;by_cases h0:(kP s p p.nodes.n).2=0
  ·rw [show ((kP s p p.nodes.n).2 != (0:Int))=false by rw [bne_eq_false_iff_eq]; exact h0,aY h0]
   exact ⟨_,_,rfl,.inl ⟨ha,rfl⟩⟩
  ·rw [neI.2 h0,av h0]
   exact ⟨_,_,rfl,.inl ⟨ha,rfl⟩⟩
 ·exact ⟨xb,8,rfl,.inr ⟨ha,rfl,rfl⟩⟩
theorem ao7 (s:b.aP) (p:b.Path) (ha:xG s p) (n:Nat) (hn:n < p.nodes.n) (hb:n < 1000000):b.Aj s p (n:Int)=some (aiN s p (n+1)):=by
 unfold b.Aj b.vA b.Jy;have hu:b.Gi=some unit:=rfl;rw [hu];simp only [fQ,ee,ak];obtain ⟨e,x',q1,q2⟩:=jo (step:=b.lE)
  (fun j x=>x=⟨(n:Int),(0:Int),(j:Int),s,p,xb,(kP s p j).1⟩/\(kP s p j).2=0)
  (fun e x'=>(e = .exit 0/\x'.m=(kP s p (n+1)).1/\(kP s p (n+1)).2=0)\/(e = .ret/\x'.t6=xb/\x'.t7=(kP s p (n+1)).2/\(kP s p (n+1)).2≠0))
  (n+1) (by unfold iH; omega) (by
   rintro j _ hj ⟨rfl,h0⟩;unfold b.lE b.uc
   dsimp only
   have ej:Int.toNat (j:Int)=j:=rfl;by_cases bG:(j:Int)<=(n:Int)
   ·have d2:decide ((0:Int)<=(j:Int))=true:=aq (by omega)
    have d3:decide ((j:Int) < ((p.nodes.n:Nat):Int))=true:=aq (by omega);obtain ⟨s1,s2⟩:=KS ha (show j<=p.kids.n by have:=ha.2.2.2.1; omega);have e1:aR ((j:Int)+1)=((j+1:Nat):Int):=by rw [cd (by omega) (by omega)]; omega
    rw [aq bG,d2,d3,ej,aq s1,aq s2,e1];simp only [dk,ak,aqg,fQ,ee];have nA:kP s p (j+1)=if (nodeAt s p j).kind=2/\(kP s p j).2=0 then ym (kP s p j).1 (nodeAt s p j).gd else kP s p j:=rfl;unfold nodeAt at nA;by_cases h2:(s.nodes.get (p.nodes.get j).slot.toNat).kind=2
    ·rw [ko.2 h2,ak]
     rw [aY ⟨h2,h0⟩] at nA;rw [<- nA];by_cases h3:(kP s p (j+1)).2=0
     ·rw [show ((kP s p (j+1)).2 != (0:Int))=false by rw [bne_eq_false_iff_eq]; exact h3]
      exact .inl ⟨_,rfl,by omega,rfl,h3⟩
     ·rw [neI.2 h3]
      have gQ:=ady s p h3 (n+1) (by omega);exact .inr ⟨_,_,rfl,rfl,.inr ⟨rfl,rfl,by rw [gQ],by rw [gQ]; exact h3⟩⟩
    ·rw [show ((s.nodes.get (p.nodes.get j).slot.toNat).kind==(2:Int))=false by rw [<- Bool.not_eq_true,LZ]; exact h2]
     rw [av fun q=>h2 q.1] at nA;refine .inl ⟨_,rfl,by omega,?_,by rw [nA]; exact h0⟩;rw [nA]
   ·have:j=n+1:=by omega
    subst this;rw [bj bG];exact .inr ⟨_,_,rfl,rfl,.inl ⟨rfl,rfl,h0⟩⟩) (x:=⟨(n:Int),(0:Int),(0:Int),s,p,xb,unit⟩) ⟨rfl,rfl⟩
 have q1' : goN b.lE (⟨(n:Int),(0:Int),(0:Int),s,p,⟨⟨⟨0,0,0⟩,⟨0,0,0⟩,⟨0,0,0⟩⟩,⟨0,0,0⟩⟩,unit⟩:b.iD) = .out e x':=q1;rw [q1'];unfold aiN;rcases q2 with ⟨rfl,g1,g2⟩ | ⟨rfl,g1,g2,g3⟩
 ·rw [aY g2,<- g1]; rfl
 ·rw [av g3,<- g2,<- g1]; rfl
theorem aqx (s:b.aP) (p:b.Path) (sq:xc s) (hon:ao5 s) (hk:p.kids.n<=400):∃ m e,b.EZ s p=some (m,e)/\(xG s p/\(m,e)=aiN s p p.nodes.n\/¬ xG s p/\m=xb/\e=8):=by
 unfold b.EZ b.HQ b.HR;obtain ⟨t,e,q1,q2⟩:=asK s p sq hon hk;rw [q1];simp only [fQ,ee,ak];rcases q2 with ⟨rfl,ha,_⟩ | ⟨rfl,ha,_⟩
 ·have:((0:Int) != 0)=false:=rfl
  rw [this,ba];have hn:=ha.2.2.2.1;have ew:aR (((p.nodes.n:Nat):Int) - 1)=((p.kids.n:Nat):Int):=by rw [cd (by omega) (by omega)]; omega
  rw [ew,ao7 s p ha p.kids.n (by omega) (by omega),<- hn];exact ⟨_,_,rfl,.inl ⟨ha,rfl⟩⟩
 ·exact ⟨xb,8,rfl,.inr ⟨ha,rfl,rfl⟩⟩
structure Nr (s:b.aP):Prop where
 bN:∀ i,i < s.nodes.n->Pa (s.nodes.get i).b7
 on:∀ i,i < s.nodes.n->U16 (s.nodes.get i).uz
 kind:∀ i,i < s.bX.n->Bi (s.bX.get i)
theorem Nr.inn {s:b.aP} (h:Nr s) (hf:Few s):xc s:=
 ⟨fun i hi=>⟨h.bN i hi,by have:=hf.nb i hi; omega⟩,h.kind,by have:=hf.bJ; omega,by have:=hf.nodes; omega,by have:=hf.bX; omega,by have:=hf.dD; omega⟩
theorem aeL (s:b.aP) (p:b.Path) (hr:Nr s):b.BI s p=some true:=by
 unfold b.BI b.DT b.fa b.fc;obtain ⟨g,q1,q2⟩:=ao1 s;rw [q1];simp only [fQ,ee,ak];cases g with
 | true=>rfl
 | false=>
  have hf:=q2 rfl;by_cases h1:((p.nodes.n:Nat):Int) > 400
  ·rw [aq h1]; rfl
  by_cases h2:((p.kids.n:Nat):Int) > 400
  ·rw [aq h2,bj h1]; rfl
  rw [bj h1,bj h2];simp only [ba];obtain ⟨m,e,a1,a2⟩:=asL s p (hr.inn hf) hr.on (by omega);obtain ⟨m',e',b1,b2⟩:=aqx s p (hr.inn hf) hr.on (by omega);have same:m=m'/\e=e':=by
   rcases a2 with ⟨x1,x2⟩ | ⟨x1,x2,x3⟩
   ·rcases b2 with ⟨y1,y2⟩ | ⟨y1,_⟩
    ·rw [<- y2] at x2
     exact ⟨congrArg Prod.fst x2,congrArg Prod.snd x2⟩
    ·exact absurd x1 y1
   ·rcases b2 with ⟨y1,_⟩ | ⟨y1,y2,y3⟩
    ·exact absurd y1 x1
    ·exact ⟨by rw [x2,y2],by rw [x3,y3]⟩
  obtain ⟨rfl,rfl⟩:=same;rw [a1,b1];simp only [fQ,ee,ak];rw [(afa m m).2 rfl,ak];exact congrArg some (LZ.2 rfl)
theorem Sr {P:Program} : ∀ {l:List KV},ze P l->∀ v∈l,Gx P v
 | [],_,v,hv=>by simp at hv
 | x::l,h,v,hv=>by
  simp only [ze] at h;rcases fA.1 hv with rfl | hv
  ·exact h.1
  ·exact Sr h.2 v hv
theorem Ss {P:Program} {ks:List CK} {v:KV} (h:cP ⟨true,ks⟩ v=true) (hw:Td v) (hd:Gx P v) {j:Nat} {c:CK} (hj:ks[j]? = some c):K.kindOk c (v.cells.getD j .ao)=true/\Td (v.cells.getD j .ao)/\Gx P (v.cells.getD j .ao):=by
 obtain ⟨cs,rfl,hk⟩:=asi h;obtain ⟨u,h1,h2⟩:=CZ hk hj;have e:(KV.agg cs).cells.getD j .ao=u:=by
  show cs.getD j .ao=u;rw [iK,h1];rfl
 have hm:=jC h1;rw [e];have hd' : ze P cs:=by simpa [Gx] using hd
 have hw' : C8 cs:=by simpa [Td] using hw
 exact ⟨h2,aaW hw' u hm,Sr hd' u hm⟩
theorem aqy {P:Program} {v:KV} {T:TypeId} (h:K.kindOk (.slice T) v=true) (hw:Td v) (hd:Gx P v) {i:Nat} (hi:i < lenOf v):cP (bB P T) (Ar v i)=true/\Td (Ar v i)/\Gx P (Ar v i):=by
 cases v with
 | ts t m n es acc=>
  have ht:T=t:=by
   cases m <;> simp [K.kindOk] at h;exact h
  subst ht;simp only [Gx] at hd;simp only [Td] at hw;obtain ⟨aqz,aw4⟩:=hd;have hi:i < n:=hi;have hl:i < es.length:=by rw [<- aqz.len]; exact hi
  have e:acc i=es.getD i .ao:=aqz.acc i hi;have e2:es.getD i .ao=es[i]:=by rw [iK,dr hl]; rfl
  show cP (bB P T) (acc i)=true/\Td (acc i)/\Gx P (acc i);rw [e,e2];exact ⟨ku aqz.typed (dr hl),aaW hw.2 _ (List.getElem_mem hl),Sr aw4 _ (List.getElem_mem hl)⟩
 | _=>simp [K.kindOk] at h
theorem ab1 {v:KV} (h:K.kindOk (.int .u8) v=true) (hw:Td v):0<=ay v/\ay v<=255:=by
 cases v with
 | int k n=>
  have hk:k = .u8:=by
   have:decide (IntKind.u8=k)=true:=h;exact (Sv this).symm
  subst hk;have h:(Lit.int .u8 n).wf=true:=hw;simp only [Lit.wf,aA,o5] at h;show 0<=n/\n<=255;exact h
 | _=>simp [K.kindOk] at h
theorem auO {v:KV} (h:K.kindOk (.int .u16) v=true) (hw:Td v):0<=ay v/\ay v<=65535:=by
 cases v with
 | int k n=>
  have hk:k = .u16:=by
   have:decide (IntKind.u16=k)=true:=h;exact (Sv this).symm
  subst hk;have h:(Lit.int .u16 n).wf=true:=hw;simp only [Lit.wf,aA,o5] at h;show 0<=n/\n<=65535;exact h
 | _=>simp [K.kindOk] at h
noncomputable abbrev DZ (a:KV):b.aP:=b.b6 (ax Tryz.prog (ai Tryz.prog aj) 34 a)
theorem avX:bB Tryz.prog 34=⟨true,[.slice 111,.slice 35,.slice 77,.slice 88,.slice 91,.int .i64,.int .i64]⟩:=by kernel_rfl
theorem avY:∃ ks,bB Tryz.prog 77=⟨true,ks⟩/\ks[13]? = some (.int .u16)/\ks[19]? = some (.int .u8)/\ks[20]? = some (.int .u8)/\ks[21]? = some (.int .u8)/\ks[22]? = some (.int .u8)/\ks[23]? = some (.int .u8):=⟨(bB Tryz.prog 77).ks,by kernel_rfl,by kernel_rfl,by kernel_rfl,by kernel_rfl,by kernel_rfl,by kernel_rfl,by kernel_rfl⟩
theorem avZ:∃ ks,bB Tryz.prog 88=⟨true,ks⟩/\ks[2]? = some (.slice 172):=⟨(bB Tryz.prog 88).ks,by kernel_rfl,by kernel_rfl⟩
theorem aud:∃ ks,bB Tryz.prog 172=⟨true,ks⟩/\ks[0]? = some (.int .u8):=⟨(bB Tryz.prog 172).ks,by kernel_rfl,by kernel_rfl⟩
theorem asM (a:KV):(DZ a).nodes.n=lenOf (a.cells.getD 2 .ao):=by kernel_rfl
theorem aqA (a:KV):(DZ a).bX.n=lenOf (a.cells.getD 3 .ao):=by kernel_rfl
theorem av0 (a:KV) (i:Nat):((DZ a).nodes.get i).uz=ay ((Ar (a.cells.getD 2 .ao) i).cells.getD 13 .ao):=by kernel_rfl
theorem auP (a:KV) (i:Nat):((DZ a).nodes.get i).b7.bN=⟨ay ((Ar (a.cells.getD 2 .ao) i).cells.getD 19 .ao),ay ((Ar (a.cells.getD 2 .ao) i).cells.getD 20 .ao),ay ((Ar (a.cells.getD 2 .ao) i).cells.getD 21 .ao),ay ((Ar (a.cells.getD 2 .ao) i).cells.getD 22 .ao),ay ((Ar (a.cells.getD 2 .ao) i).cells.getD 23 .ao)⟩:=by kernel_rfl
theorem asN (a:KV) (i:Nat):((DZ a).bX.get i).cG.n=lenOf ((Ar (a.cells.getD 3 .ao) i).cells.getD 2 .ao):=by kernel_rfl
theorem aue (a:KV) (i k:Nat):(((DZ a).bX.get i).cG.get k).kind=ay ((Ar ((Ar (a.cells.getD 3 .ao) i).cells.getD 2 .ao) k).cells.getD 0 .ao):=by kernel_rfl
theorem aqB {a:KV} (h:cP (bB Tryz.prog 34) a=true) (hw:Td a) (hd:Gx Tryz.prog a):Nr (DZ a):=by
 rw [avX] at h;obtain ⟨i1,i2,i3⟩:=Ss h hw hd (j:=2) rfl;obtain ⟨t1,t2,t3⟩:=Ss h hw hd (j:=3) rfl;obtain ⟨ks,l0,l13,l19,l20,l21,l22,l23⟩:=avY;obtain ⟨kt,m0,m2⟩:=avZ;obtain ⟨kp,n0,n1⟩:=aud;have node:∀ i,i < (DZ a).nodes.n->∀ j c,ks[j]? = some c->K.kindOk c ((Ar (a.cells.getD 2 .ao) i).cells.getD j .ao)=true/\Td ((Ar (a.cells.getD 2 .ao) i).cells.getD j .ao):=fun i hi j c hj=>by
  rw [asM] at hi;obtain ⟨q1,q2,q3⟩:=aqy i1 i2 i3 hi;rw [l0] at q1;obtain ⟨r1,r2,_⟩:=Ss q1 q2 q3 hj;exact ⟨r1,r2⟩
 refine ⟨fun i hi=>?_,fun i hi=>?_,fun i hi k hk=>?_⟩
 ·unfold Pa
  rw [auP];exact ⟨ab1 (node i hi 19 _ l19).1 (node i hi 19 _ l19).2,ab1 (node i hi 20 _ l20).1 (node i hi 20 _ l20).2,ab1 (node i hi 21 _ l21).1 (node i hi 21 _ l21).2,ab1 (node i hi 22 _ l22).1 (node i hi 22 _ l22).2,ab1 (node i hi 23 _ l23).1 (node i hi 23 _ l23).2⟩
 ·rw [av0]
  exact auO (node i hi 13 _ l13).1 (node i hi 13 _ l13).2
 ·rw [aqA] at hi
  obtain ⟨q1,q2,q3⟩:=aqy t1 t2 t3 hi;rw [m0] at q1;obtain ⟨r1,r2,r3⟩:=Ss q1 q2 q3 m2;rw [asN] at hk;obtain ⟨c1,c2,c3⟩:=aqy r1 r2 r3 hk;rw [n0] at c1;rw [aue];obtain ⟨x0,y0,_⟩:=Ss c1 c2 c3 n1;exact (ab1 x0 y0).1
theorem aiO {P:Program} : ∀ {ts:List TypeId} {xs:List KV} {i:Nat} {t:TypeId},l9 P ts xs=true->C8 xs->ze P xs->ts[i]? = some t->cP (bB P t) (xs.getD i .ao)=true/\Td (xs.getD i .ao)/\Gx P (xs.getD i .ao)
 | [],_,_,_,_,_,_,h=>by simp at h
 | _::_,[],_,_,h,_,_,_=>by simp [l9] at h
 | t::ts,v::vs,i,u,h,hw,hd,ht=>by
  simp only [l9,aA] at h;cases i with
  | zero=>
   rw [List.getElem?_cons_zero] at ht;rw [<- Option.some.inj ht];exact ⟨h.1,hw.1,hd.1⟩
  | succ i=>
   rw [Sx] at ht;have:=aiO (ts:=ts) (xs:=vs) (i:=i) h.2 hw.2 hd.2 ht;rw [List.getD_cons_succ];exact this
theorem aqC {ts:List TypeId} {xs:List KV} (i:Nat) (ht:ts[i]? = some 34) (h:l9 Tryz.prog ts xs=true) (hw:C8 xs) (hd:ze Tryz.prog xs):Nr (DZ (xs.getD i .ao)):=by
 obtain ⟨h1,h2,h3⟩:=aiO h hw hd ht;exact aqB h1 h2 h3
end Go.Proofs.YtckbdndhmcoihaaGreat.sc
end
section
namespace Go.aB
open Go.RowKit Go.WideShapes Go.ChangeShapes
theorem ao8 {H:Type} {enc:TypeId×Value->H} {P:Program} {f:Func} {s:ChangeSpec} {apart fresh handsOn again:Bool} {W W' : World} {args:Array Value} {v:Value} {ds gs:List (DataW H)} {before pa pv:List MemPlace}
  (whole:DataW.Whole enc P f.params.toList s.vars apart W args.toList ds gs before) (below:Below W.heap.size W W') (afe:before=pa++pv)
  (res:∀ (b:Nat) (sp:Nat->Bool) (hd:Bool),DataW.TrodAll enc P W' b sp hd f.resultTypes.toList (v.resultList f.resultTypes.size) (s.fn H (ds++gs)).results [])
  (arg:∀ sp:Nat->Bool,(∀ p∈before,sp p.block=true)->DataW.TrodAll enc P W' 0 sp true f.params.toList args.toList (s.fn H (ds++gs)).args pa)
  (var:∀ sp:Nat->Bool,(∀ p∈before,sp p.block=true)->DataW.TrodVars enc P W' sp s.vars (s.fn H (ds++gs)).vars pv)
  (wide:∀ (j:Nat) (t:TypeId) (r:Value),f.resultTypes[j]? = some t->(v.resultList f.resultTypes.size)[j]? = some r->Value.okWide P W' .any 0 t r) :
  s.post enc P f apart fresh handsOn again W args v W':=by
 have lt:∀ p∈before,p.block < W.heap.size:=fun p hp=>whole.lt p hp;have iV:∀ p∈before,(fun b=>decide (b < W.heap.size)) p.block=true:=fun p hp=>by simpa using lt p hp
 refine ⟨ds,gs,before,[],pa,pv,whole,res _ _ _,arg _ iV,var _ iV,World.keptBut_mono (fun p hp=>⟨hp,?_⟩) (below.frame (·∈before)),fun _=>?_⟩
 ·rw [afe,nG] at hp; exact Or.inr hp
 ·obtain ⟨_,_,_,_,_,fz,nd⟩:=whole
  refine ⟨wide,_,_,([]++pa)++pv,⟨[]++pa,pv,trodAll_append (arg _ (fun _ _=>rfl)) (res _ _ _),var _ (fun _ _=>rfl),rfl,fun b off hp=>?_,fun ha=>?_⟩,fun p hp _=>?_⟩
  ·have here:MemPlace.cell b off∈before:=by rw [afe]; simpa using hp
   rw [below.frozen (lt _ here)];exact fz b off here
  ·have:=nd ha
   rw [afe] at this;simpa using this
  ·rw [afe]; simpa using hp
end Go.aB
end
section
namespace Go.K
open Go Go.aB Go.RowKit Go.WideShapes Go.ChangeShapes
section
variable {H:Type} {enc:TypeId×Value->H} {P:Program} {W W' : World}
theorem aah {base:Nat} {sp:Nat->Bool} {held:Bool} : ∀ {ts:List TypeId} {vs:List Value} {ds:List (DataW H)} {ps:List MemPlace},DataW.TrodAll enc P W base sp held ts vs ds ps->ds.length=ts.length
 | [],_,_,_,h=>by
  obtain ⟨rfl,rfl,rfl⟩:=trodAll_nil h;rfl
 | t::ts,vs,ds,ps,h=>by
  obtain ⟨v,vs1,d,ds1,a,b,rfl,rfl,rfl,_,h2⟩:=trodAll_cons h;simp [aah h2]
theorem ak5 {α:Type} {n:Nat} {l:List α} (h:l.length=n+1):∃ x xs,l=x::xs:=by
 cases l with
 | nil=>simp at h
 | cons x xs=>exact ⟨x,xs,rfl⟩
theorem Su (hl:laidOutB P=true) (hb:Below W.heap.size W W') {sp:Nat->Bool} : ∀ {ts:List TypeId} {vs:List Value} {ds:List (DataW H)} {ps:List MemPlace},ts.all (fun t=>P.readableRec t&&Nat.blt t P.types.size)=true->
  DataW.TrodAll enc P W 0 (fun _=>true) true ts vs ds ps->(∀ x∈ps,x.block < W.heap.size)->(∀ x∈ps,sp x.block=true)->DataW.TrodAll enc P W' 0 sp true ts vs ds ps
 | [],_,_,_,_,h,_,_=>by
  obtain ⟨rfl,rfl,rfl⟩:=trodAll_nil h;exact trodAll_mk0
 | t::ts,vs,ds,ps,ht,h,bG,Gl=>by
  obtain ⟨v,vs1,d,ds1,a,b,rfl,rfl,rfl,h1,h2⟩:=trodAll_cons h;simp only [List.all_cons,aA] at ht;obtain ⟨⟨hr,hO⟩,ht⟩:=ht;rw [cq] at hO;refine ⟨a,b,WideElems.Trod_stays hl hr hO h1 (fun x hx=>hb.same (bG x (by simp [hx]))) (fun x hx=>Gl x (by simp [hx])),?_,rfl⟩;exact Su hl hb ht h2 (fun x hx=>bG x (by simp [hx])) (fun x hx=>Gl x (by simp [hx]))
theorem asP {s:ChangeSpec} {f:Func} {apart fresh handsOn again:Bool} {args:Array Value} {ds gs:List (DataW H)} {before:List MemPlace} (hl:laidOutB P=true) (hts:f.params.toList.all (fun t=>P.readableRec t&&Nat.blt t P.types.size)=true)
  (auf:s.vars = []) (av1:(s.fn H ds).args=ds) (anQ:(s.fn H ds).results = [.lit (.bool true)]) (hv:(s.fn H ds).vars = []) {t:TypeId} (hrt:f.resultTypes = #[t]) (hb:P.underlying t=some .bool)
  (hW:DataW.Whole enc P f.params.toList s.vars apart W args.toList ds gs before) (hg:Below W.heap.size W W'):s.post enc P f apart fresh handsOn again W args (.bool true) W':=by
 have hW':=hW;obtain ⟨p,q,hA,hV,avl,_,_⟩:=hW;rw [auf] at hV;obtain ⟨rfl,rfl⟩:=trodVars_none hV;rw [yV] at avl;subst avl;have bG:∀ x∈before,x.block < W.heap.size:=fun x hx=>hW'.lt x (by simpa using hx);refine aB.ao8 (pa:=before) (pv:=[]) hW' hg (by simp) (fun b sp hd=>?_) (fun sp Gl=>?_) (fun sp Gl=>?_) (ok_one hrt rfl (okWide_bool_mk hb _))
 ·rw [yV,anQ,hrt]
  exact trodAll_cons_mk (shut_bool hb _) trodAll_mk0
 ·rw [yV,av1]
  exact Su hl hg hts hA bG (fun x hx=>Gl x (by simpa using hx))
 ·rw [yV,hv,auf]
  rfl
end
end Go.K
end
