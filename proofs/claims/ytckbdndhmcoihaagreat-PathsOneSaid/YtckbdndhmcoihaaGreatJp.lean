/- Part of the proof of PathsOne: the machine, shown to be the model's, and plain models. No conditions. -/
import Derived.Test.YtckbdndhmcoihaaGreatIp
import Derived.Test.YtckbdndhmcoihaaGreatHp
import Derived.Test.YtckbdndhmcoihaaGreatGp
import Derived.Below
import Derived.ChangeSame
import Derived.ProofKit
import Derived.WideKeyArgs
set_option linter.unusedSimpArgs false
set_option linter.unusedVariables false
section
namespace Go.Proofs.YtckbdndhmcoihaaGreat.nodes
open Go Go.K
theorem akV (a:b.fo) (Ws:a.aP.n < 1000000):∃ r,b.Bt a=some r/\(r=true↔uC a):=by
 unfold b.Bt;obtain ⟨e,x',h1,h2⟩:∃ e x',b.uX a = .out e x'/\((e = .exit 0/\x'.a=a/\∀ i,i < a.aP.n->UI (a.aP.get i))\/(e = .ret/\x'.t2=false/\¬ uC a)):=by
  unfold b.uX;refine eW (X:=b.og) (fun j x=>x.a=a/\x.i=(j:Int)/\∀ i,i < j->UI (a.aP.get i)) (fun e x'=>(e = .exit 0/\x'.a=a/\∀ i,i < a.aP.n->UI (a.aP.get i))\/(e = .ret/\x'.t2=false/\¬ uC a)) a.aP.n (by unfold dZ; omega) ?_ ⟨rfl,rfl,fun i hi=>absurd hi (kA _)⟩;rintro j ⟨t2,ii,aa⟩ hj ⟨rfl,rfl,cQ⟩;unfold b.qL
  dsimp only
  by_cases bh:(j:Int) < (aa.aP.n:Int)
  ·have h0:(0:Int)<=(j:Int):=by omega
   rw [ai bh,ai h0];simp only [iY,aj];have ej:Int.toNat (j:Int)=j:=rfl;rw [ej];by_cases g1:(aa.aP.get j).gen < 1
   ·rw [ai g1,aj]
    exact .inr ⟨_,_,rfl,rfl,.inr ⟨rfl,rfl,fun k=>by have:=(k.amk j (by omega)).1; omega⟩⟩
   ·rw [aE g1,aF]
    by_cases g2:(aa.aP.get j).gen > 1073741824
    ·rw [ai g2,aj]
     exact .inr ⟨_,_,rfl,rfl,.inr ⟨rfl,rfl,fun k=>by have:=(k.amk j (by omega)).2; omega⟩⟩
    ·rw [aE g2,aF]
     refine .inl ⟨_,rfl,by omega,rfl,?_,fun i hi=>?_⟩
     ·show aV ((j:Int)+1)=_
      rw [cv (by omega) (by omega)];omega
     ·by_cases e:i=j
      ·subst e; exact ⟨by omega,by omega⟩
      ·exact cQ i (by omega)
  ·rw [aE bh,aF]
   exact .inr ⟨_,_,rfl,rfl,.inl ⟨rfl,rfl,fun i hi=>cQ i (by omega)⟩⟩
 rw [h1];rcases h2 with ⟨rfl,ha,h2⟩ | ⟨rfl,h2,h3⟩
 ·refine ⟨decide (((x'.a.aP.n:Nat):Int)<=128),rfl,?_⟩
  rw [ha,decide_eq_true_iff];exact ⟨fun k=>⟨by omega,h2⟩,fun k=>by have:=k.few; omega⟩
 ·exact ⟨x'.t2,rfl,⟨fun k=>by rw [h2] at k; simp at k,fun k=>absurd k h3⟩⟩
theorem aaa (a:b.fo) (h:b.Handle):∃ r,b.ug a h=some r/\(r=true↔lX a h):=by
 unfold b.ug lX;by_cases h1:h.slot >= 0
 ·by_cases h2:h.slot < (a.aP.n:Int)
  ·rw [ai h1,ai h2]
   cases hl:(a.aP.get h.slot.toNat).live with
   | true=>
    refine ⟨((a.aP.get h.slot.toNat).gen==h.gen),rfl,?_⟩;rw [iX];exact ⟨fun k=>⟨h1,h2,k,rfl⟩,fun k=>k.2.2.1⟩
   | false=>exact ⟨false,rfl,⟨fun k=>by simp at k,fun k=>by have:=k.2.2.2; simp at this⟩⟩
  ·rw [ai h1,aE h2]
   exact ⟨false,rfl,⟨fun k=>by simp at k,fun k=>absurd k.2.1 h2⟩⟩
 ·rw [aE h1]
  exact ⟨false,rfl,⟨fun k=>by simp at k,fun k=>absurd k.1 h1⟩⟩
theorem aje (g:b.cA) (t:Bool) (i:Nat) (hi:i < g.kids.n) (Ws:(g.kids.get i).n < 1000000) :
  ∃ e x',goN b.bX (⟨t,(i:Int),(0:Int),g⟩:b.ck) = .out e x'/\x'.g=g/\x'.i=(i:Int)/\((e = .exit 2/\x'.t2=t/\∀ k,k < (g.kids.get i).n->lX g.bu ((g.kids.get i).get k))\/(e = .ret/\x'.t2=false/\∃ k,k < (g.kids.get i).n/\¬ lX g.bu ((g.kids.get i).get k))):=by
 refine eW (X:=b.ck) (fun j x=>x.g=g/\x.i=(i:Int)/\x.t2=t/\x.k=(j:Int)/\∀ k,k < j->lX g.bu ((g.kids.get i).get k)) (fun e x'=>x'.g=g/\x'.i=(i:Int)/\((e = .exit 2/\x'.t2=t/\∀ k,k < (g.kids.get i).n->lX g.bu ((g.kids.get i).get k))\/(e = .ret/\x'.t2=false/\∃ k,k < (g.kids.get i).n/\¬ lX g.bu ((g.kids.get i).get k)))) (g.kids.get i).n (by unfold dZ; omega) ?_ ⟨rfl,rfl,rfl,rfl,fun k hk=>absurd hk (kA _)⟩;rintro j ⟨t2,ii,kk,gg⟩ hj ⟨rfl,rfl,rfl,rfl,cQ⟩;unfold b.bX b.zr
 dsimp only
 have hi:i < gg.kids.n:=hi;have hj:j<=(gg.kids.get i).n:=hj;have hi0:(0:Int)<=(i:Int):=by omega
 have hiz:(i:Int) < (gg.kids.n:Int):=by omega
 have ei:Int.toNat (i:Int)=i:=rfl;have ej:Int.toNat (j:Int)=j:=rfl;rw [ei,ej,ai hi0,ai hiz];simp only [iY,aj];by_cases bh:(j:Int) < ((gg.kids.get i).n:Int)
 ·have h0:(0:Int)<=(j:Int):=by omega
  obtain ⟨r,hr,hh⟩:=aaa gg.bu ((gg.kids.get i).get j);rw [ai bh,ai h0];simp only [iY,aj];rw [hr];simp only [dB,aj,db];cases r with
  | false=>exact .inr ⟨_,_,rfl,rfl,rfl,rfl,.inr ⟨rfl,rfl,j,by omega,fun k=>by have:=hh.2 k; simp at this⟩⟩
  | true=>
   refine .inl ⟨_,rfl,by omega,rfl,rfl,rfl,?_,fun k hk=>?_⟩
   ·show aV ((j:Int)+1)=_
    rw [cv (by omega) (by omega)];omega
   ·by_cases e:k=j
    ·subst e; exact hh.1 rfl
    ·exact cQ k (by omega)
 ·rw [aE bh,aF]
  exact .inr ⟨_,_,rfl,rfl,rfl,rfl,.inl ⟨rfl,rfl,fun k hk=>cQ k (by omega)⟩⟩
def LY (g:b.cA) (i:Nat):Prop:=(g.kids.get i).n<=16/\(0 < (g.kids.get i).n->(g.bu.aP.get i).live=true)/\∀ k,k < (g.kids.get i).n->lX g.bu ((g.kids.get i).get k)
theorem ajf (g:b.cA) (hlen:g.kids.n=g.bu.aP.n) (Ws:g.kids.n < 1000000) :
  ∃ e x',b.uZ g = .out e x'/\((e = .exit 0/\x'.g=g/\∀ i,i < g.kids.n->LY g i)\/(e = .ret/\x'.t2=false/\∃ i,i < g.kids.n/\¬ LY g i)):=by
 unfold b.uZ;refine eW (X:=b.eT) (fun j x=>x.g=g/\x.i=(j:Int)/\x.t2=false/\∀ i,i < j->LY g i) (fun e x'=>(e = .exit 0/\x'.g=g/\∀ i,i < g.kids.n->LY g i)\/(e = .ret/\x'.t2=false/\∃ i,i < g.kids.n/\¬ LY g i)) g.kids.n (by unfold dZ; omega) ?_ ⟨rfl,rfl,rfl,fun k hk=>absurd hk (kA _)⟩;rintro j ⟨t2,ii,gg⟩ hj ⟨rfl,rfl,rfl,cQ⟩;have hj:j<=gg.kids.n:=hj;have hlen:gg.kids.n=gg.bu.aP.n:=hlen;have Ws:gg.kids.n < 1000000:=Ws;unfold b.qM b.qj b.j3
 dsimp only
 by_cases bh:(j:Int) < (gg.kids.n:Int)
 ·have h0:(0:Int)<=(j:Int):=by omega
  have hs:(j:Int) < (gg.bu.aP.n:Int):=by omega
  have ej:Int.toNat (j:Int)=j:=rfl;rw [ej,ai bh,ai h0,ai hs];simp only [iY,aj];by_cases h16:((gg.kids.get j).n:Int) > 16
  ·rw [ai h16,aj]
   exact .inr ⟨_,_,rfl,rfl,.inr ⟨rfl,rfl,j,by omega,fun k=>by have:=k.1; omega⟩⟩
  ·rw [aE h16,aF]
   obtain ⟨e,x',k1,k2,k3,k4⟩:=aje gg false j (by omega) (by omega);have fin:(0 < (gg.kids.get j).n->(gg.bu.aP.get j).live=true)->(∃ x2,(cond ((goN b.bX (⟨false,(j:Int),(0:Int),gg⟩:b.ck)).by (aq.ae.exit 2)) (.next (⟨(goN b.bX (⟨false,(j:Int),(0:Int),gg⟩:b.ck)).st.t2,(aV ((goN b.bX (⟨false,(j:Int),(0:Int),gg⟩:b.ck)).st.i+(1:Int))),(goN b.bX (⟨false,(j:Int),(0:Int),gg⟩:b.ck)).st.g⟩:b.eT)) (cond ((goN b.bX (⟨false,(j:Int),(0:Int),gg⟩:b.ck)).by aq.ae.ret) (.out aq.ae.ret (⟨(goN b.bX (⟨false,(j:Int),(0:Int),gg⟩:b.ck)).st.t2,(goN b.bX (⟨false,(j:Int),(0:Int),gg⟩:b.ck)).st.i,(goN b.bX (⟨false,(j:Int),(0:Int),gg⟩:b.ck)).st.g⟩:b.eT)) .fail):ax b.eT) = .next x2/\j < gg.kids.n/\x2.g=gg/\x2.i=((j+1:Nat):Int)/\x2.t2=false/\∀ i,i < j+1->LY gg i)\/∃ e x2,(cond ((goN b.bX (⟨false,(j:Int),(0:Int),gg⟩:b.ck)).by (aq.ae.exit 2)) (.next (⟨(goN b.bX (⟨false,(j:Int),(0:Int),gg⟩:b.ck)).st.t2,(aV ((goN b.bX (⟨false,(j:Int),(0:Int),gg⟩:b.ck)).st.i+(1:Int))),(goN b.bX (⟨false,(j:Int),(0:Int),gg⟩:b.ck)).st.g⟩:b.eT)) (cond ((goN b.bX (⟨false,(j:Int),(0:Int),gg⟩:b.ck)).by aq.ae.ret) (.out aq.ae.ret (⟨(goN b.bX (⟨false,(j:Int),(0:Int),gg⟩:b.ck)).st.t2,(goN b.bX (⟨false,(j:Int),(0:Int),gg⟩:b.ck)).st.i,(goN b.bX (⟨false,(j:Int),(0:Int),gg⟩:b.ck)).st.g⟩:b.eT)) .fail):ax b.eT) = .out e x2/\ku e=false/\((e = .exit 0/\x2.g=gg/\∀ i,i < gg.kids.n->LY gg i)\/(e = .ret/\x2.t2=false/\∃ i,i < gg.kids.n/\¬ LY gg i)):=by
    intro hl;rw [k1];rcases k4 with ⟨rfl,q1,q2⟩ | ⟨rfl,q1,k,q2,q3⟩
    ·refine .inl ⟨_,rfl,by omega,k2,?_,q1,fun i hi=>?_⟩
     ·show aV (x'.i+1)=_
      rw [k3,cv (by omega) (by omega)];omega
     ·by_cases e:i=j
      ·subst e; exact ⟨by omega,hl,q2⟩
      ·exact cQ i (by omega)
    ·exact .inr ⟨_,_,rfl,rfl,.inr ⟨rfl,q1,j,by omega,fun r=>q3 (r.2.2 k q2)⟩⟩
   by_cases AL:((gg.kids.get j).n:Int) > 0
   ·rw [ai AL,aj]
    cases hl:(gg.bu.aP.get j).live with
    | true=>exact fin fun _=>hl
    | false=>exact .inr ⟨_,_,rfl,rfl,.inr ⟨rfl,rfl,j,by omega,fun r=>by have:=r.2.1 (by omega); rw [hl] at this; simp at this⟩⟩
   ·rw [aE AL,aF]
    exact fin fun h=>absurd h (by omega)
 ·rw [aE bh,aF]
  exact .inr ⟨_,_,rfl,rfl,.inl ⟨rfl,rfl,fun k hk=>cQ k (by omega)⟩⟩
theorem aml {g:b.cA} (ha:uC g.bu) (i:Nat):oV g i↔LY g i:=by
 have key:∀ h,b.dr g.bu h=some true↔lX g.bu h:=fun h=>by
  obtain ⟨r,hr,hh⟩:=Z9 g.bu h;rw [hr,cJ,hh];exact ⟨fun k=>k.2,fun k=>⟨ha,k⟩⟩
 exact ⟨fun h=>⟨h.1,h.2.1,fun k hk=>(key _).1 (h.2.2 k hk)⟩,fun h=>⟨h.1,h.2.1,fun k hk=>(key _).2 (h.2.2 k hk)⟩⟩
theorem sR (g:b.cA):l9 g↔uC g.bu/\g.kids.n=g.bu.aP.n/\(∀ i,i < g.kids.n->LY g i)/\∀ i,i < g.kids.n->Hp g i:=by
 obtain ⟨n,hn,hs⟩:=QT g.bu;constructor
 ·intro h
  rcases hs with ⟨rfl,ha⟩ | ⟨rfl,ha⟩
  ·exact ⟨ha,h.len,fun i hi=>(aml ha i).1 (h.row i hi),h.free⟩
  ·have:=h.aP
   rw [hn] at this;simp at this
 ·rintro ⟨ha,hl,hr,hf⟩
  rcases hs with ⟨rfl,_⟩ | ⟨rfl,hb⟩
  ·exact ⟨hn,hl,fun i hi=>(aml ha i).2 (hr i hi),hf⟩
  ·exact absurd ha hb
end Go.Proofs.YtckbdndhmcoihaaGreat.nodes
end
section
namespace Go.UJ
theorem abf:∀ (n:Nat) (g:Nat->Nat),(∀ j,j<=n->g j < n)->∃ i j,i < j/\j<=n/\g i=g j
 | 0,g,h=>absurd (h 0 (aH 0)) (kA _)
 | n+1,g,h=>by
  by_cases he:∃ i,i<=n/\g i=g (n+1)
  ·obtain ⟨i,hi,e⟩:=he
   exact ⟨i,n+1,by omega,aH _,e⟩
  ·have cH:∀ i,i<=n->g i≠g (n+1):=fun i hi e=>he ⟨i,hi,e⟩
   have hl:=h (n+1) (aH _);obtain ⟨i,j,h1,h2,h3⟩:=abf n (fun j=>if g j=n then g (n+1) else g j) fun j hj=>by
    have h1:=h j (by omega);have h2:=cH j hj;show (if g j=n then g (n+1) else g j) < n;split <;> omega
   refine ⟨i,j,h1,by omega,?_⟩;have hi:=cH i (by omega);have hj:=cH j h2;have h3:(if g i=n then g (n+1) else g i)=if g j=n then g (n+1) else g j:=h3;split at h3 <;> split at h3 <;> omega
section
variable (n:Nat) (Ke:Nat->Nat) (c:Nat->Nat->Nat)
inductive Below (to:Nat):Nat->Prop where
 | here:Below to to
 | lQ (i k:Nat) (hk:k < Ke i) (r:Below to (c i k)):Below to i
def Hp:Prop:=∀ i,i < n->∀ k,k < Ke i->¬ Below Ke c i (c i k)
structure LZ (f:Nat->Bool) (m:Nat):Prop where
 list:∃ l:List Nat,l.length=m/\l.Nodup/\(∀ i,i∈l↔i < n/\f i=true)/\∀ a b,l=a++b->∀ i,b.head? = some i->∀ k,k < Ke i->c i k∈b.tail
variable {n Ke c}
theorem LZ.start {f:Nat->Bool} (h:∀ i,i < n->f i=false):LZ n Ke c f 0:=
 ⟨[],rfl,.nil,fun i=>⟨fun k=>by simp at k,fun ⟨k,e⟩=>by rw [h i k] at e; simp at e⟩,fun a b e i hi=>by
  have:=List.append_eq_nil_iff.1 e.symm;rw [this.2] at hi;simp at hi⟩
theorem LZ.more {f:Nat->Bool} {m i:Nat} (h:LZ n Ke c f m) (hi:i < n) (hf:f i=false) (hc:∀ k,k < Ke i->c i k < n/\f (c i k)=true) {f' : Nat->Bool} (he:∀ j,f' j=if j=i then true else f j):LZ n Ke c f' (m+1):=by
 obtain ⟨l,h1,h2,h3,h4⟩:=h.list;refine ⟨i::l,by rw [yM,h1],List.nodup_cons.2 ⟨fun k=>?_,h2⟩,fun j=>?_,fun a b e j hj k hk=>?_⟩
 ·have:=((h3 i).1 k).2
  rw [hf] at this;simp at this
 ·rw [dv,h3,he]
  by_cases e:j=i
  ·subst e; simp [hi]
  ·simp [e]
 ·cases a with
  | nil=>
   have e:i::l=b:=e;subst e;have e:i=j:=by simpa using hj
   subst e;exact (h3 _).2 (hc k hk)
  | cons x a=>
   rw [List.cons_append,List.cons.injEq] at e;exact h4 a b e.2 j hj k hk
theorem nodup_range:∀ {l:List Nat} {n:Nat},l.Nodup->(∀ i,i∈l->i < n)->l.length<=n:=by
 intro l n h hb;apply Classical.byContradiction;intro hn;obtain ⟨i,j,h1,h2,h3⟩:=abf n (fun j=>l.getD j 0) fun j hj=>by
  have:j < l.length:=by omega
  show l.getD j 0 < n;rw [eX,cM this];exact hb _ (L6 this)
 have hi:i < l.length:=by omega
 have hj:j < l.length:=by omega
 have h3:l.getD i 0=l.getD j 0:=h3;rw [eX,cM hi,eX,cM hj] at h3;have:=(List.getElem_inj h).1 h3;omega
theorem LZ.le {f:Nat->Bool} {m:Nat} (h:LZ n Ke c f m):m<=n:=by
 obtain ⟨l,h1,h2,h3,_⟩:=h.list;rw [<- h1];exact nodup_range h2 fun i hi=>((h3 i).1 hi).1
theorem LZ.free {f:Nat->Bool} (h:LZ n Ke c f n):Hp n Ke c:=by
 obtain ⟨l,h1,h2,h3,h4⟩:=h.list;have kh:∀ i,i < n->i∈l:=by
  intro i hi;apply Classical.byContradiction;intro hni;have:=nodup_range (l:=i::l) (n:=n) (List.nodup_cons.2 ⟨hni,h2⟩) fun j hj=>by
   rcases dv.1 hj with rfl | hj
   ·exact hi
   ·exact ((h3 j).1 hj).1
  rw [yM,h1] at this;omega
 have key:∀ to x,Below Ke c to x->∀ a b,l=a++b->x∈b->to∈b:=by
  intro to x hr
  induction hr with
  | here=>exact fun a b _ hx=>hx
  | lQ i k hk _ ih=>
   intro a b e hi;obtain ⟨b1,b2,rfl⟩:=List.append_of_mem hi;have tJ:=h4 (a++b1) (i::b2) (by rw [e,List.append_assoc]) i rfl k hk;have:=ih (a++(b1++[i])) b2 (by rw [e]; simp) tJ;simp [this]
 intro i hi k hk hb;obtain ⟨a,b,e⟩:=List.append_of_mem (kh i hi);have h5:=h4 a (i::b) e i rfl k hk;have h6:=key i _ hb (a++[i]) b (by rw [e]; simp) h5;rw [e] at h2;have:=(List.nodup_append.1 h2).2.1;exact (List.nodup_cons.1 this).1 h6
def Kf (n:Nat) (Ke:Nat->Nat) (c:Nat->Nat->Nat) (f:Nat->Bool):Prop:=∀ i,i < n->f i=false->∃ k,k < Ke i/\f (c i k)=false
theorem ajg {f:Nat->Bool} (lZ:∀ i,i < n->∀ k,k < Ke i->c i k < n) (hs:Kf n Ke c f) (hf:Hp n Ke c):∀ i,i < n->f i=true:=by
 intro i0 hi0;apply Classical.byContradiction;intro h0;have h0:f i0=false:=by simpa using h0
 have hc:∀ i,∃ j,i < n->f i=false->(j < n/\f j=false/\∃ k,k < Ke i/\c i k=j):=by
  intro i;by_cases hi:i < n
  ·by_cases hq:f i=false
   ·obtain ⟨k,h1,h2⟩:=hs i hi hq
    exact ⟨c i k,fun _ _=>⟨lZ i hi k h1,h2,k,h1,rfl⟩⟩
   ·exact ⟨0,fun _ k=>absurd k hq⟩
  ·exact ⟨0,fun k=>absurd k hi⟩
 obtain ⟨g,hg⟩:=Classical.axiomOfChoice hc
 let it:Nat->Nat:=fun j=>Nat.rec i0 (fun _ x=>g x) j
 have hit:∀ j,it j < n/\f (it j)=false:=by
  intro j
  induction j with
  | zero=>exact ⟨hi0,h0⟩
  | succ j ih=>exact ⟨(hg _ ih.1 ih.2).1,(hg _ ih.1 ih.2).2.1⟩
 have hup:∀ d j,Below Ke c (it (j+d)) (it j):=by
  intro d
  induction d with
  | zero=>exact fun j=>.here
  | succ d ih=>
   intro j;obtain ⟨_,_,k,h1,h2⟩:=hg _ (hit j).1 (hit j).2;have:=ih (j+1);rw [show j+1+d=j+(d+1) by omega] at this;refine .lQ _ k h1 ?_;rw [h2];exact this
 obtain ⟨i,j,h1,h2,h3⟩:=abf n it fun j _=>(hit j).1;obtain ⟨_,_,k,q1,q2⟩:=hg _ (hit i).1 (hit i).2;refine hf _ (hit i).1 k q1 ?_;rw [q2];have:=hup (j - (i+1)) (i+1);rw [show i+1+(j - (i+1))=j by omega,<- h3] at this;exact this
theorem LZ.full {f:Nat->Bool} {m:Nat} (h:LZ n Ke c f m) (hf:∀ i,i < n->f i=true):m=n:=by
 have hle:=h.le;obtain ⟨l,h1,h2,h3,_⟩:=h.list;apply Classical.byContradiction;intro cH;have hm:∀ i,i < n->i∈l:=fun i hi=>(h3 i).2 ⟨hi,hf i hi⟩;obtain ⟨i,j,q1,q2,q3⟩:=abf m (fun j=>l.idxOf j) fun j hj=>by
  have:=List.idxOf_lt_length_iff.2 (hm j (by omega));show l.idxOf j < m;omega
 have hi:=List.idxOf_lt_length_iff.2 (hm i (by omega));have hj:=List.idxOf_lt_length_iff.2 (hm j (by omega));have e1:=List.getElem_idxOf hi;have e2:=List.getElem_idxOf hj;have q3:l.idxOf i=l.idxOf j:=q3;have e3:l[l.idxOf i]'hi=l[l.idxOf j]'hj:=by congr 1
 rw [e1,e2] at e3;omega
end
end Go.UJ
end
section
namespace Go.Proofs.YtckbdndhmcoihaaGreat.nodes
open Go Go.K Go.UJ
def dg (g:b.cA) (i:Nat):Nat:=(g.kids.get i).n
def ch (g:b.cA) (i k:Nat):Nat:=((g.kids.get i).get k).slot.toNat
structure Fit (g:b.cA):Prop where
 small:g.kids.n < 1000000
 few:∀ i,i < g.kids.n->dg g i < 1000000
 inr:∀ i,i < g.kids.n->∀ k,k < dg g i->0<=((g.kids.get i).get k).slot/\((g.kids.get i).get k).slot < (g.kids.n:Int)
theorem Fit.ch {g:b.cA} (h:Fit g) {i k:Nat} (hi:i < g.kids.n) (hk:k < dg g i):nodes.ch g i k < g.kids.n:=by
 have:=h.inr i hi k hk;unfold nodes.ch;omega
theorem ang {g:b.cA} (hf:Fit g) (t:Bool) (f:Sl Bool) (hn:f.n=g.kids.n) (m ag:Int) (i:Nat) (hi:i < g.kids.n) :
  ∃ a kk,goN b.gp (⟨t,f,m,ag,(i:Int),true,(0:Int),g⟩:b.fF) = .out (.exit 4) ⟨t,f,m,ag,(i:Int),a,kk,g⟩/\(a=true↔∀ k,k < dg g i->f.get (ch g i k)=true):=by
 have vU:=fun uA=>eW (X:=b.fF) (step:=b.gp) (fun j x=>∃ a,x=⟨t,f,m,ag,(i:Int),a,(j:Int),g⟩/\(a=true↔∀ k,k < j->f.get (ch g i k)=true)) (fun e x'=>e = .exit 4/\∃ a kk,x' = ⟨t,f,m,ag,(i:Int),a,kk,g⟩/\(a=true↔∀ k,k < dg g i->f.get (ch g i k)=true)) (dg g i) (by have:=hf.few i hi; unfold dZ; omega) uA (x:=⟨t,f,m,ag,(i:Int),true,(0:Int),g⟩) ⟨true,rfl,by simp⟩;refine Exists.elim (vU ?_) fun e ⟨x,h1,he,a,kk,hx,h2⟩=>?_
 rotate_left
 ·subst he hx; exact ⟨a,kk,h1,h2⟩
 rintro j _ hj ⟨a,rfl,ha⟩;have hfew:=hf.few i hi;unfold b.gp
 dsimp only
 have hi0:(0:Int)<=(i:Int):=by omega
 have hiz:(i:Int) < (g.kids.n:Int):=by omega
 have ei:Int.toNat (i:Int)=i:=rfl;have ej:Int.toNat (j:Int)=j:=rfl;rw [ei,ej,ai hi0,ai hiz];simp only [iY,aj,bj];by_cases bh:(j:Int) < ((g.kids.get i).n:Int)
 ·have hjd:j < dg g i:=by unfold dg; omega
  have h0:(0:Int)<=(j:Int):=by omega
  obtain ⟨q1,q2⟩:=hf.inr i hi j hjd;have q2' : ((g.kids.get i).get j).slot < (f.n:Int):=by rw [hn]; exact q2
  rw [ai bh,ai h0,ai q1,ai q2'];simp only [iY,aj,bp];have ec:f.get (Int.toNat ((g.kids.get i).get j).slot)=f.get (ch g i j):=rfl;rw [ec];have ew:aV ((j:Int)+1)=((j+1:Nat):Int):=by rw [cv (by omega) (by omega)]; omega
  rw [ew];cases hc:f.get (ch g i j) with
  | true=>
   refine .inl ⟨_,rfl,hjd,a,rfl,ha.trans ⟨fun h k hk=>?_,fun h k hk=>h k (by omega)⟩⟩;by_cases e:k=j
   ·subst e; exact hc
   ·exact h k (by omega)
  | false=>
   refine .inl ⟨_,rfl,hjd,false,rfl,⟨fun h=>by simp at h,fun h=>?_⟩⟩;have:=h j (by omega);rw [hc] at this;simp at this
 ·rw [aE bh,aF]
  have hjd:j=dg g i:=by unfold dg at hj ⊢; omega
  subst hjd;exact .inr ⟨_,_,rfl,rfl,rfl,a,_,rfl,ha⟩
theorem akW {g:b.cA} (hf:Fit g) (t:Bool) (f:Sl Bool) (hn:f.n=g.kids.n) (m:Nat) (ag:Int) (hc:LZ g.kids.n (dg g) (ch g) f.get m) :
  ∃ x',goN b.ja (⟨t,f,(m:Int),ag,(0:Int),g⟩:b.fa) = .out (.exit 2) x'/\x'.g=g/\x'.again=ag/\x'.cu.n=g.kids.n/\∃ m',x'.n=((m' : Nat):Int)/\LZ g.kids.n (dg g) (ch g) x'.cu.get m'/\m<=m'/\(m' = m->Kf g.kids.n (dg g) (ch g) x'.cu.get)/\(Kf g.kids.n (dg g) (ch g) f.get->m' = m):=by
 have hs:=hf.small;have vU:=fun uA=>eW (X:=b.fa) (step:=b.ja) (fun j x=>x.i=(j:Int)/\x.g=g/\x.again=ag/\x.cu.n=g.kids.n/\∃ m',x.n=((m' : Nat):Int)/\LZ g.kids.n (dg g) (ch g) x.cu.get m'/\m<=m'/\(m' = m->∀ i,i < j->x.cu.get i=false->∃ k,k < dg g i/\x.cu.get (ch g i k)=false)/\(Kf g.kids.n (dg g) (ch g) f.get->x.cu=f/\m' = m))
  (fun e x'=>e = .exit 2/\x'.g=g/\x'.again=ag/\x'.cu.n=g.kids.n/\∃ m',x'.n=((m' : Nat):Int)/\LZ g.kids.n (dg g) (ch g) x'.cu.get m'/\m<=m'/\(m' = m->Kf g.kids.n (dg g) (ch g) x'.cu.get)/\(Kf g.kids.n (dg g) (ch g) f.get->m' = m)) g.kids.n (by unfold dZ; omega) uA (x:=⟨t,f,(m:Int),ag,(0:Int),g⟩) ⟨rfl,rfl,rfl,hn,m,rfl,hc,aH _,fun _ i hi=>absurd hi (kA _),fun _=>⟨rfl,rfl⟩⟩
 refine Exists.elim (vU ?_) fun e ⟨x,h1,he,h2⟩=>?_
 rotate_left
 ·subst he; exact ⟨x,h1,h2⟩
 rintro j ⟨t2,f2,n2,ag2,i2,g2⟩ hj ⟨rfl,rfl,rfl,Pd,m',rfl,hc2,hle,eK,hsk⟩;have Pd:f2.n=g2.kids.n:=Pd;have hf:Fit g2:=hf;have hj:j<=g2.kids.n:=hj;have hc2:LZ g2.kids.n (dg g2) (ch g2) f2.get m':=hc2;have eK:m' = m->∀ i,i < j->f2.get i=false->∃ k,k < dg g2 i/\f2.get (ch g2 i k)=false:=eK;have hsk:Kf g2.kids.n (dg g2) (ch g2) f.get->f2=f/\m' = m:=hsk;unfold b.ja b.ng b.bn
 dsimp only
 have hm':=hc2.le;have iV:g2.kids.n < 1000000:=hf.small;by_cases bh:(j:Int) < (g2.kids.n:Int)
 ·obtain ⟨a,kk,k1,k2⟩:=ang hf t2 f2 Pd (m' : Int) ag2 j (by omega)
  have h0:(0:Int)<=(j:Int):=by omega
  have hjn:(j:Int) < (f2.n:Int):=by rw [Pd]; exact bh
  have ej:Int.toNat (j:Int)=j:=rfl;rw [ai bh,k1];simp only [aj,bj,ax.iM,ax.iP,ej,bp,h0,hjn,decide_true];have ew:aV ((j:Int)+1)=((j+1:Nat):Int):=by rw [cv (by omega) (by omega)]; omega
  have ew2:aV ((m' : Int)+1)=((m' + 1:Nat):Int):=by rw [cv (by omega) (by omega)]; omega
  rw [ew,ew2];have es:nf (aq.ae.exit 4) (aq.ae.exit 4)=true:=rfl;simp only [es,aj,iY];cases hfj:f2.get j with
  | true=>
   have fin:∃ m'',((m' : Nat):Int)=((m'' : Nat):Int)/\LZ g2.kids.n (dg g2) (ch g2) f2.get m''/\m<=m''/\(m'' = m->∀ i,i < j+1->f2.get i=false->∃ k,k < dg g2 i/\f2.get (ch g2 i k)=false)/\(Kf g2.kids.n (dg g2) (ch g2) f.get->f2=f/\m'' = m):=⟨m',rfl,hc2,hle,fun e i hi hfi=>by
    by_cases e' : i=j
    ·subst e'; rw [hfj] at hfi; simp at hfi
    ·exact eK e i (by omega) hfi,hsk⟩
   cases a with
   | true=>exact .inl ⟨_,rfl,by omega,rfl,rfl,rfl,Pd,fin⟩
   | false=>exact .inl ⟨_,rfl,by omega,rfl,rfl,rfl,Pd,fin⟩
  | false=>
   cases a with
   | true=>
    refine .inl ⟨_,rfl,by omega,rfl,rfl,rfl,Pd,m' + 1,rfl,?_,by omega,fun e=>by omega,fun hk=>by
     obtain ⟨rfl,_⟩:=hsk hk;obtain ⟨k,q1,q2⟩:=hk j (by omega) hfj;rw [k2.1 rfl k q1] at q2;simp at q2⟩
    refine hc2.more (i:=j) (by omega) hfj (fun k hk=>⟨hf.ch (by omega) hk,k2.1 rfl k hk⟩) fun i=>?_;show cond (Nat.beq i j) true (f2.get i)=_;by_cases e:i=j
    ·subst e; rw [tf,aI rfl]; rfl
    ·have:Nat.beq i j=false:=by
      cases hb:Nat.beq i j with
      | false=>rfl
      | true=>exact absurd (aW hb) e
     rw [this,ak e];rfl
   | false=>
    refine .inl ⟨_,rfl,by omega,rfl,rfl,rfl,Pd,m',rfl,hc2,hle,fun e i hi hfi=>?_,hsk⟩;by_cases e' : i=j
    ·subst e'
     apply Classical.byContradiction;intro VE;have:=k2.2 fun k hk=>by
      cases hq:f2.get (ch g2 i k) with
      | true=>rfl
      | false=>exact absurd ⟨k,hk,hq⟩ VE
     simp at this
    ·exact eK e i (by omega) hfi
 ·rw [aE bh,aF]
  simp only [bj,aj];refine .inr ⟨_,_,rfl,rfl,rfl,rfl,rfl,Pd,m',rfl,hc2,hle,fun e i hi hfi=>eK e i (by omega) hfi,fun hk=>(hsk hk).2⟩
theorem ajh {g:b.cA} (hf:Fit g):∃ r,b.uY g=some r/\(r=true↔UJ.Hp g.kids.n (dg g) (ch g)):=by
 have hs:=hf.small;have vU:=fun uA=>eW (X:=b.jg) (step:=b.ll) (fun j x=>x.again=(j:Int)/\x.g=g/\x.cu.n=g.kids.n/\∃ m,x.n=((m:Nat):Int)/\LZ g.kids.n (dg g) (ch g) x.cu.get m/\(j<=m\/Kf g.kids.n (dg g) (ch g) x.cu.get))
  (fun e x'=>e = .exit 0/\x'.g=g/\x'.cu.n=g.kids.n/\∃ m,x'.n=((m:Nat):Int)/\LZ g.kids.n (dg g) (ch g) x'.cu.get m/\(g.kids.n<=m\/Kf g.kids.n (dg g) (ch g) x'.cu.get)) g.kids.n (by unfold dZ; omega) uA (x:=⟨false,⟨g.kids.n,fun _=>false⟩,(0:Int),(0:Int),g⟩) ⟨rfl,rfl,rfl,0,rfl,.start fun _ _=>rfl,.inl (yK _)⟩
 refine Exists.elim (vU ?_) fun e ⟨x,h1,he,hg,hn,m,hm,hc,eK⟩=>?_
 rotate_left
 ·subst he
  unfold b.uY b.zq;have en:Int.toNat ((g.kids.n:Nat):Int)=g.kids.n:=rfl;have hb:Nat.ble (1 * g.kids.n) 281474976710656=true:=by rw [Nat.ble_eq]; omega
  rw [en,h1,hb,ai (Int.le_refl _)];simp only [iY,aj,bj,ax.iM,ax.iP,hg,hm];refine ⟨_,rfl,?_⟩;rw [iX];constructor
  ·intro e
   have:m=g.kids.n:=by omega
   subst this;exact hc.free
  ·intro adp
   rcases eK with h | h
   ·have:=hc.le; omega
   ·have:=hc.full (ajg (fun i hi k hk=>hf.ch hi hk) h adp)
    omega
 rintro j ⟨t2,f2,n2,ag2,g2⟩ hj ⟨rfl,rfl,Pd,m,rfl,hc,eK⟩;have Pd:f2.n=g2.kids.n:=Pd;have hf:Fit g2:=hf;have hj:j<=g2.kids.n:=hj;have hc:LZ g2.kids.n (dg g2) (ch g2) f2.get m:=hc;unfold b.ll b.gQ
 dsimp only
 by_cases bh:(j:Int) < (g2.kids.n:Int)
 ·obtain ⟨x',k1,k2,k3,k4,m',k5,k6,k7,k8,k9⟩:=akW hf t2 f2 Pd m (j:Int) hc
  rw [ai bh,k1];simp only [aj,bj,ax.iM,ax.iP,k2,k3,k5];have ew:aV ((j:Int)+1)=((j+1:Nat):Int):=by rw [cv (by omega) (by omega)]; omega
  rw [ew];refine .inl ⟨_,rfl,by omega,rfl,rfl,k4,m',rfl,k6,?_⟩;by_cases e:m' = m
  ·exact .inr (k8 e)
  ·rcases eK with h | h
   ·exact .inl (by omega)
   ·exact .inr (k8 (k9 h))
 ·rw [aE bh,aF]
  simp only [bj,aj];refine .inr ⟨_,_,rfl,rfl,rfl,rfl,Pd,m,rfl,hc,?_⟩;have:j=g2.kids.n:=by omega
  subst this;exact eK
theorem anh {g:b.cA} {i:Nat} {x:Int×Int} (h:Reach (qOf g) ((i:Int),(g.bu.aP.get i).gen) x):UJ.Below (dg g) (ch g) i x.1.toNat:=by
 induction h with
 | here=>exact .here
 | lQ h k hk _ ih=>exact .lQ h.1.toNat k hk ih
theorem ani {g:b.cA} (hr:∀ i,i < g.kids.n->LY g i) (hlen:g.kids.n=g.bu.aP.n) {i j:Nat} (h:UJ.Below (dg g) (ch g) i j):∀ x:b.Handle,x.slot.toNat=j->lX g.bu x->Reach (qOf g) ((i:Int),(g.bu.aP.get i).gen) (hp x):=by
 induction h with
 | here=>
  rintro ⟨s,gn⟩ e ⟨h1,h2,h3,_⟩;have h1:0<=s:=h1;have e:s.toNat=i:=e;have h3:(g.bu.aP.get s.toNat).gen=gn:=h3;have:hp ⟨s,gn⟩=((i:Int),(g.bu.aP.get i).gen):=by
   show (s,gn)=_;rw [<- h3,e];congr 1;omega
  rw [this];exact .here
 | lQ j k hk _ ih=>
  rintro x e ⟨h1,h2,_,_⟩;subst e;have hj:x.slot.toNat < g.kids.n:=by omega
  exact .lQ (q:=qOf g) (hp x) k hk (ih ((g.kids.get x.slot.toNat).get k) rfl ((hr _ hj).2.2 k hk))
theorem anj {g:b.cA} (hr:∀ i,i < g.kids.n->LY g i) (hlen:g.kids.n=g.bu.aP.n):(∀ i,i < g.kids.n->nodes.Hp g i)↔UJ.Hp g.kids.n (dg g) (ch g):=
 ⟨fun h i hi k hk hb=>h i hi k hk (ani hr hlen hb _ rfl ((hr i hi).2.2 k hk)),fun h i hi k hk hb=>h i hi k hk (anh hb)⟩
theorem apC {g:b.cA} (ha:uC g.bu) (hlen:g.kids.n=g.bu.aP.n) (hr:∀ i,i < g.kids.n->LY g i):Fit g:=by
 have:=ha.few;exact ⟨by omega,fun i hi=>by have:=(hr i hi).1; unfold dg; omega,fun i hi k hk=>by have:=(hr i hi).2.2 k hk; exact ⟨this.1,by rw [hlen]; exact this.2.1⟩⟩
theorem akX (g:b.cA) (Ws:g.bu.aP.n < 1000000):∃ r,b.Bw g=some r/\(r=true↔l9 g):=by
 unfold b.Bw b.M7;obtain ⟨r,hr,ha⟩:=akV g.bu Ws;rw [hr];simp only [dB,aj,db];cases r with
 | false=>exact ⟨false,rfl,⟨fun h=>by simp at h,fun h=>absurd (ha.2 ((sR g).1 h).1) (by simp)⟩⟩
 | true=>
  have ha:=ha.1 rfl;by_cases hlen:g.kids.n=g.bu.aP.n
  ·have e1:(((g.kids.n:Nat):Int) != ((g.bu.aP.n:Nat):Int))=false:=by rw [hlen]; exact bne_self_eq_false _
   rw [e1];simp only [Fl,aF];obtain ⟨e,x',h1,h2⟩:=ajf g hlen (by omega);unfold b.M8;rw [h1];simp only [ax.iM,ax.iP];rcases h2 with ⟨rfl,hg,eS⟩ | ⟨rfl,ht,i,hi,eS⟩
   ·have es:nf (aq.ae.exit 0) (aq.ae.exit 0)=true:=rfl
    rw [es,hg];obtain ⟨r,hl,hf⟩:=ajh (apC ha hlen eS);rw [hl];refine ⟨r,rfl,hf.trans ((anj eS hlen).symm.trans ?_)⟩;rw [sR];exact ⟨fun h=>⟨ha,hlen,eS,h⟩,fun h=>h.2.2.2⟩
   ·have es:nf aq.ae.ret (aq.ae.exit 0)=false:=rfl
    have mV:nf aq.ae.ret aq.ae.ret=true:=rfl;rw [es,mV,ht];exact ⟨false,rfl,⟨fun h=>by simp at h,fun h=>absurd (((sR g).1 h).2.2.1 i hi) eS⟩⟩
  ·have e1:(((g.kids.n:Nat):Int) != ((g.bu.aP.n:Nat):Int))=true:=by
    rw [bne_iff_ne];omega
   rw [e1];exact ⟨false,rfl,⟨fun h=>by simp at h,fun h=>absurd ((sR g).1 h).2.1 hlen⟩⟩
open Classical in
theorem aji (g:b.cA):Dq g=some (if l9 g then 0 else 8):=by
 obtain ⟨n,hn,_⟩:=QT g.bu;unfold Dq;rw [hn];rfl
end Go.Proofs.YtckbdndhmcoihaaGreat.nodes
end
section
namespace Go.Proofs.YtckbdndhmcoihaaGreat.sc
open Go Go.K Go.Proofs.YtckbdndhmcoihaaGreat.nodes
theorem SZ (m:b.dm):DB m=0↔AH m:=by
 unfold DB;by_cases h:YY m
 ·rw [aI h]
  by_cases k:AH m
  ·rw [aI k]; exact ⟨fun _=>k,fun _=>rfl⟩
  ·rw [ak k]; exact ⟨fun q=>by simp at q,fun q=>absurd q k⟩
 ·rw [ak h]; exact ⟨fun q=>by simp at q,fun q=>absurd q.1 h⟩
def QU:b.Node:=⟨0,SY,0,Ox,aja,0,⟨⟨0,0,0,0,0⟩,⟨⟨0,0,0,0⟩,0,0,0,false,0⟩⟩⟩
def xY:b.Handle:=⟨0,0⟩
def F2 (s:b.aw) (i:Nat):Prop:=((s.graph.bu.aP.get i).live=true->abe s (s.nodes.get i))/\((s.graph.bu.aP.get i).live=false->sQ (s.nodes.get i) QU)/\((s.nodes.get i).kind=5->(s.graph.kids.get i).n=0)
def Y2 (s:b.aw):Prop:=s.ay.n<=32/\s.az.n<=16/\(∀ i,i < s.ay.n->AH (s.ay.get i))/\∀ i,i < s.az.n->EX (s.az.get i)
def nK (s:b.aw):Prop:=l9 s.graph/\s.nodes.n=s.graph.kids.n/\Y2 s/\(∀ i,i < s.nodes.n->F2 s i)/\(s.root=xY\/lX s.graph.bu s.root)
def pR (s:b.aw):Prop:=(∀ i,i < s.nodes.n->CX (s.nodes.get i).bB/\(s.nodes.get i).lO.n < 1000000)/\(∀ i,i < s.ay.n->wA (s.ay.get i))/\s.graph.bu.aP.n < 1000000/\s.nodes.n < 1000000/\s.ay.n < 1000000/\s.az.n < 1000000
theorem agV (s:Sl b.dm) (hs:s.n<=1000) (hk:∀ i,i < s.n->wA (s.get i)):(∃ x',goN b.bL (⟨s,(0:Int),((s.n:Nat):Int),(0:Int)⟩:b.bD) = .out (.exit 0) x'/\∀ i,i < s.n->AH (s.get i))\/
  ∃ x',goN b.bL (⟨s,(0:Int),((s.n:Nat):Int),(0:Int)⟩:b.bD) = .out .ret x'/\x'.t4 >= 0/\∃ i,i < s.n/\¬ AH (s.get i):=by
 have key:=eJ (step:=b.bL) s.n (by unfold dZ; omega) (fun j=>⟨s,(0:Int),((s.n:Nat):Int),(j:Int)⟩) (fun k=>AH (s.get k)) (e0:=.exit 0) (er:=.ret) rfl rfl (fun x'=>x'.t4 >= 0) (xe:=⟨s,(0:Int),((s.n:Nat):Int),((s.n:Nat):Int)⟩) (fun j hj=>by
  have e1:aV ((j:Int)+1)=((j+1:Nat):Int):=by rw [cv (by omega) (by omega)]; omega
  have d1:decide ((j:Int) < ((s.n:Nat):Int))=true:=ai (by omega);have d2:decide ((0:Int)<=(j:Int))=true:=ai (by omega);have ej:Int.toNat (j:Int)=j:=rfl;unfold b.bL b.gS
  dsimp only
  have AK:(j:Int) >= 0:=by omega
  rw [d1,d2,ej,e1,akM _ (hk j hj)];simp only [cg,aj,dB,db];rw [<- SZ];by_cases h:DB (s.get j)=0
  ·rw [bne_eq_false_iff_eq.2 h]
   exact ⟨fun _=>rfl,fun k=>absurd h k⟩
  ·rw [bne_iff_ne.2 h]
   exact ⟨fun k=>absurd k h,fun _=>⟨_,rfl,AK⟩⟩) (by
  unfold b.bL
  dsimp only
  rw [aE (Int.lt_irrefl _)];rfl)
 rcases key with ⟨h1,h2⟩ | ⟨x',h1,h2,h3⟩
 ·exact .inl ⟨_,h1,h2⟩
 ·exact .inr ⟨x',h1,h2,h3⟩
theorem akY (s:Sl b.cN) (hs:s.n<=1000):(∃ x',goN b.bM (⟨s,(0:Int),((s.n:Nat):Int),(0:Int)⟩:b.bF) = .out (.exit 0) x'/\∀ i,i < s.n->EX (s.get i))\/
  ∃ x',goN b.bM (⟨s,(0:Int),((s.n:Nat):Int),(0:Int)⟩:b.bF) = .out .ret x'/\x'.t4 >= 0/\∃ i,i < s.n/\¬ EX (s.get i):=by
 have key:=eJ (step:=b.bM) s.n (by unfold dZ; omega) (fun j=>⟨s,(0:Int),((s.n:Nat):Int),(j:Int)⟩) (fun k=>EX (s.get k)) (e0:=.exit 0) (er:=.ret) rfl rfl (fun x'=>x'.t4 >= 0) (xe:=⟨s,(0:Int),((s.n:Nat):Int),((s.n:Nat):Int)⟩) (fun j hj=>by
  have e1:aV ((j:Int)+1)=((j+1:Nat):Int):=by rw [cv (by omega) (by omega)]; omega
  have d1:decide ((j:Int) < ((s.n:Nat):Int))=true:=ai (by omega);have d2:decide ((0:Int)<=(j:Int))=true:=ai (by omega);have ej:Int.toNat (j:Int)=j:=rfl;unfold b.bM b.gT
  dsimp only
  have AK:(j:Int) >= 0:=by omega
  obtain ⟨e,q1,q2⟩:=ana (s.get j);rw [d1,d2,ej,e1,q1];simp only [cg,aj,dB,db];rcases q2 with ⟨h,k⟩ | ⟨h,k⟩
  ·rw [h]
   exact ⟨fun _=>rfl,fun g=>absurd k g⟩
  ·rw [h]
   exact ⟨fun g=>absurd g k,fun _=>⟨_,rfl,AK⟩⟩) (by
  unfold b.bM
  dsimp only
  rw [aE (Int.lt_irrefl _)];rfl)
 rcases key with ⟨h1,h2⟩ | ⟨x',h1,h2,h3⟩
 ·exact .inl ⟨_,h1,h2⟩
 ·exact .inr ⟨x',h1,h2,h3⟩
theorem aeH (s:b.aw) (hs:s.ay.n < 1000000) (hk:∀ i,i < s.ay.n->wA (s.ay.get i)):(goN b.gd (⟨false,(0:Int),s⟩:b.ig) = .out (.exit 0) ⟨false,((s.ay.n:Nat):Int),s⟩/\∀ i,i < s.ay.n->AH (s.ay.get i))\/
  ∃ x',goN b.gd (⟨false,(0:Int),s⟩:b.ig) = .out .ret x'/\x'.t2=false/\∃ i,i < s.ay.n/\¬ AH (s.ay.get i):=by
 exact eJ (step:=b.gd) s.ay.n (by unfold dZ; omega) (fun j=>⟨false,(j:Int),s⟩) (fun k=>AH (s.ay.get k)) (e0:=.exit 0) (er:=.ret) rfl rfl (fun x'=>x'.t2=false) (xe:=⟨false,((s.ay.n:Nat):Int),s⟩) (fun j hj=>by
  have e1:aV ((j:Int)+1)=((j+1:Nat):Int):=by rw [cv (by omega) (by omega)]; omega
  have d1:decide ((j:Int) < ((s.ay.n:Nat):Int))=true:=ai (by omega);have d2:decide ((0:Int)<=(j:Int))=true:=ai (by omega);have ej:Int.toNat (j:Int)=j:=rfl;unfold b.gd b.xD
  dsimp only
  rw [d1,d2,ej,e1,ai6 _ (hk j hj)];simp only [cg,aj,dB,db];rw [<- SZ];by_cases h:DB (s.ay.get j)=0
  ·rw [bne_eq_false_iff_eq.2 h]
   exact ⟨fun _=>rfl,fun k=>absurd h k⟩
  ·rw [bne_iff_ne.2 h]
   exact ⟨fun k=>absurd k h,fun _=>⟨_,rfl,rfl⟩⟩) (by
  unfold b.gd
  dsimp only
  rw [aE (Int.lt_irrefl _)];rfl)
theorem ajj (s:b.aw) (hs:s.az.n < 1000000):(goN b.gf (⟨false,(0:Int),s⟩:b.ij) = .out (.exit 2) ⟨false,((s.az.n:Nat):Int),s⟩/\∀ i,i < s.az.n->EX (s.az.get i))\/
  ∃ x',goN b.gf (⟨false,(0:Int),s⟩:b.ij) = .out .ret x'/\x'.t2=false/\∃ i,i < s.az.n/\¬ EX (s.az.get i):=by
 exact eJ (step:=b.gf) s.az.n (by unfold dZ; omega) (fun j=>⟨false,(j:Int),s⟩) (fun k=>EX (s.az.get k)) (e0:=.exit 2) (er:=.ret) rfl rfl (fun x'=>x'.t2=false) (xe:=⟨false,((s.az.n:Nat):Int),s⟩) (fun j hj=>by
  have e1:aV ((j:Int)+1)=((j+1:Nat):Int):=by rw [cv (by omega) (by omega)]; omega
  have d1:decide ((j:Int) < ((s.az.n:Nat):Int))=true:=ai (by omega);have d2:decide ((0:Int)<=(j:Int))=true:=ai (by omega);have ej:Int.toNat (j:Int)=j:=rfl;unfold b.gf b.xE
  dsimp only
  obtain ⟨r,q1,q2⟩:=akG (s.az.get j);rw [d1,d2,ej,e1,q1];simp only [cg,aj,dB,db];rw [<- q2];cases r with
  | true=>exact ⟨fun _=>rfl,fun k=>absurd rfl k⟩
  | false=>exact ⟨fun k=>by simp at k,fun _=>⟨_,rfl,rfl⟩⟩) (by
  unfold b.gf
  dsimp only
  rw [aE (Int.lt_irrefl _)];rfl)
theorem aeI (s:b.aw) (hs:s.ay.n < 1000000) (ht:s.az.n < 1000000) (hk:∀ i,i < s.ay.n->wA (s.ay.get i)):∃ r,b.sK s=some r/\(r=true↔Y2 s):=by
 unfold b.sK;rcases aeH s hs hk with ⟨h1,h2⟩ | ⟨x',h1,h2,i,h3,h4⟩
 ·have e0:b.nz s = .out (.exit 0) ⟨false,((s.ay.n:Nat):Int),s⟩:=h1
  rcases ajj s ht with ⟨g1,g2⟩ | ⟨x',g1,g2,i,g3,g4⟩
  ·have e1:b.j4 s = .out (.exit 2) ⟨false,((s.az.n:Nat):Int),s⟩:=by
    unfold b.j4;rw [e0];exact g1
   rw [e0,e1];show ∃ r,cond (decide (((s.ay.n:Nat):Int)<=32)) (some (decide (((s.az.n:Nat):Int)<=16))) (some false)=some r/\(r=true↔Y2 s);by_cases hm:((s.ay.n:Nat):Int)<=32
   ·rw [ai hm]
    exact ⟨_,rfl,AZ.trans ⟨fun h=>⟨by omega,by omega,h2,g2⟩,fun h=>by have:=h.2.1; omega⟩⟩
   ·rw [aE hm]
    exact ⟨false,rfl,⟨fun h=>by simp at h,fun h=>absurd h.1 (by omega)⟩⟩
  ·have e1:b.j4 s = .out .ret x':=by
    unfold b.j4;rw [e0];exact g1
   rw [e0,e1];exact ⟨x'.t2,rfl,⟨fun h=>by rw [g2] at h; simp at h,fun h=>absurd (h.2.2.2 i g3) g4⟩⟩
 ·have e0:b.nz s = .out .ret x':=h1
  rw [e0];exact ⟨x'.t2,rfl,⟨fun h=>by rw [h2] at h; simp at h,fun h=>absurd (h.2.2.1 i h3) h4⟩⟩
theorem akZ (n:b.Node) (hn:n.lO.n < 1000000):∃ r,b.yp n=some r/\(r=true↔sQ n QU):=by
 unfold b.yp b.J3;obtain ⟨r,q1,q2⟩:=Z7 n QU hn;have:b.jd n QU=some r:=q1;unfold QU SY Ox aja at this;rw [this];exact ⟨r,rfl,q2⟩
theorem ajk (s:b.aw) (lZ:pR s) (hlen:s.nodes.n=s.graph.kids.n) (hg:s.graph.kids.n=s.graph.bu.aP.n):(goN b.fL (⟨0,s.nodes,((s.nodes.n:Nat):Int),(0:Int),s⟩:b.eo) = .out (.exit 0) ⟨0,s.nodes,((s.nodes.n:Nat):Int),((s.nodes.n:Nat):Int),s⟩/\∀ i,i < s.nodes.n->F2 s i)\/
  ∃ x',goN b.fL (⟨0,s.nodes,((s.nodes.n:Nat):Int),(0:Int),s⟩:b.eo) = .out .ret x'/\x'.t2=8/\∃ i,i < s.nodes.n/\¬ F2 s i:=by
 have hn:=lZ.2.2.2.1;exact eJ (step:=b.fL) s.nodes.n (by unfold dZ; omega) (fun j=>⟨0,s.nodes,((s.nodes.n:Nat):Int),(j:Int),s⟩) (fun k=>F2 s k) (e0:=.exit 0) (er:=.ret) rfl rfl (fun x'=>x'.t2=8) (xe:=⟨0,s.nodes,((s.nodes.n:Nat):Int),((s.nodes.n:Nat):Int),s⟩) (fun j hj=>by
  have e1:aV ((j:Int)+1)=((j+1:Nat):Int):=by rw [cv (by omega) (by omega)]; omega
  have d1:decide ((j:Int) < ((s.nodes.n:Nat):Int))=true:=ai (by omega);have d2:decide ((0:Int)<=(j:Int))=true:=ai (by omega);have d3:decide ((j:Int) < ((s.graph.bu.aP.n:Nat):Int))=true:=ai (by omega);have d4:decide ((j:Int) < ((s.graph.kids.n:Nat):Int))=true:=ai (by omega);have ej:Int.toNat (j:Int)=j:=rfl;obtain ⟨ajc,Ks⟩:=lZ.1 j hj;unfold b.fL b.kz b.vM b.vN
  dsimp only
  rw [ej];obtain ⟨r,q1,q2⟩:=adN (s.nodes.get j) QU Ks;obtain ⟨e,g1,g2⟩:=akT s (s.nodes.get j) ajc Ks;unfold QU SY Ox aja at q1;rw [d1,d2,d3,d4,e1,q1,g1];unfold F2;cases hl:(s.graph.bu.aP.get j).live with
  | false=>
   simp only [cg,aj,aF,dB,db,HY,Fl];cases r with
   | true=>
    have hz:=q2.1 rfl;have h0:(s.nodes.get j).kind=0:=hz.1;exact ⟨fun _=>rfl,fun k=>absurd ⟨fun h=>by simp at h,fun _=>hz,fun h=>by omega⟩ k⟩
   | false=>exact ⟨fun k=>by have:=q2.2 (k.2.1 trivial); simp at this,fun _=>⟨_,rfl,rfl⟩⟩
  | true=>
   simp only [cg,aj,aF,dB,db,HY,Fl];rcases g2 with ⟨g3,g4⟩ | ⟨g3,g4⟩
   ·rw [g3]
    have:((0:Int) != 0)=false:=rfl;rw [this,aF];by_cases h5:(s.nodes.get j).kind=5
    ·rw [iX.2 h5,aj]
     by_cases hk:(((s.graph.kids.get j).n:Nat):Int) > 0
     ·rw [ai hk]
      exact ⟨fun k=>absurd (k.2.2 h5) (by omega),fun _=>⟨_,rfl,rfl⟩⟩
     ·rw [aE hk]
      exact ⟨fun _=>rfl,fun k=>absurd ⟨fun _=>g4,fun h=>by simp at h,fun _=>by omega⟩ k⟩
    ·have:((s.nodes.get j).kind==(5:Int))=false:=by rw [<- Bool.not_eq_true,Rx]; exact h5
     rw [this,aF];exact ⟨fun _=>rfl,fun k=>absurd ⟨fun _=>g4,fun h=>by simp at h,fun h=>absurd h h5⟩ k⟩
   ·rw [g3]
    exact ⟨fun k=>absurd (k.1 trivial) g4,fun _=>⟨_,rfl,rfl⟩⟩) (by
  unfold b.fL b.kz
  dsimp only
  rw [aE (Int.lt_irrefl _)];rfl)
theorem agW (s:b.aw) (lZ:pR s) (hlen:s.nodes.n=s.graph.kids.n) (hg:s.graph.kids.n=s.graph.bu.aP.n):(goN b.jn (⟨false,(0:Int),s⟩:b.fO) = .out (.exit 0) ⟨false,((s.nodes.n:Nat):Int),s⟩/\∀ i,i < s.nodes.n->F2 s i)\/
  ∃ x',goN b.jn (⟨false,(0:Int),s⟩:b.fO) = .out .ret x'/\x'.t2=false/\∃ i,i < s.nodes.n/\¬ F2 s i:=by
 have hn:=lZ.2.2.2.1;exact eJ (step:=b.jn) s.nodes.n (by unfold dZ; omega) (fun j=>⟨false,(j:Int),s⟩) (fun k=>F2 s k) (e0:=.exit 0) (er:=.ret) rfl rfl (fun x'=>x'.t2=false) (xe:=⟨false,((s.nodes.n:Nat):Int),s⟩) (fun j hj=>by
  have e1:aV ((j:Int)+1)=((j+1:Nat):Int):=by rw [cv (by omega) (by omega)]; omega
  have d1:decide ((j:Int) < ((s.nodes.n:Nat):Int))=true:=ai (by omega);have d2:decide ((0:Int)<=(j:Int))=true:=ai (by omega);have d3:decide ((j:Int) < ((s.graph.bu.aP.n:Nat):Int))=true:=ai (by omega);have d4:decide ((j:Int) < ((s.graph.kids.n:Nat):Int))=true:=ai (by omega);have ej:Int.toNat (j:Int)=j:=rfl;obtain ⟨ajc,Ks⟩:=lZ.1 j hj;unfold b.jn b.nI b.nH b.D5 b.D6
  dsimp only
  rw [ej];obtain ⟨r,q1,q2⟩:=akZ (s.nodes.get j) Ks;obtain ⟨e,g1,g2⟩:=ajb s (s.nodes.get j) ajc Ks;rw [d1,d2,d3,d4,e1,q1,g1];unfold F2;cases hl:(s.graph.bu.aP.get j).live with
  | false=>
   simp only [cg,aj,aF,dB,db,HY,Fl];cases r with
   | true=>
    have hz:=q2.1 rfl;have h0:(s.nodes.get j).kind=0:=hz.1;rw [h0];exact ⟨fun _=>rfl,fun k=>absurd ⟨fun h=>by simp at h,fun _=>hz,fun h=>by simp at h⟩ k⟩
   | false=>exact ⟨fun k=>by have:=q2.2 (k.2.1 trivial); simp at this,fun _=>⟨_,rfl,rfl⟩⟩
  | true=>
   simp only [cg,aj,aF,dB,db,HY,Fl];cases e with
   | true=>
    have g4:=g2.1 rfl;simp only [Fl,aF];by_cases h5:(s.nodes.get j).kind=5
    ·rw [iX.2 h5,aj]
     by_cases hk:(((s.graph.kids.get j).n:Nat):Int) > 0
     ·rw [ai hk]
      exact ⟨fun k=>absurd (k.2.2 h5) (by omega),fun _=>⟨_,rfl,rfl⟩⟩
     ·rw [aE hk]
      exact ⟨fun _=>rfl,fun k=>absurd ⟨fun _=>g4,fun h=>by simp at h,fun _=>by omega⟩ k⟩
    ·have:((s.nodes.get j).kind==(5:Int))=false:=by rw [<- Bool.not_eq_true,Rx]; exact h5
     rw [this,aF];exact ⟨fun _=>rfl,fun k=>absurd ⟨fun _=>g4,fun h=>by simp at h,fun h=>absurd h h5⟩ k⟩
   | false=>exact ⟨fun k=>by have:=g2.2 (k.1 trivial); simp at this,fun _=>⟨_,rfl,rfl⟩⟩) (by
  unfold b.jn b.nI b.nH
  dsimp only
  rw [aE (Int.lt_irrefl _)];rfl)
theorem Kg (h:b.Handle):((h.slot==(0:Int))&&((h.gen==(0:Int))&&true))=true↔h=xY:=by
 obtain ⟨x,y⟩:=h;unfold xY;simp
theorem ak0 {s:b.aw} (hg:l9 s.graph) (h:b.Handle):b.dr s.graph.bu h=some (decide (b.dr s.graph.bu h=some true))/\(b.dr s.graph.bu h=some true↔lX s.graph.bu h):=by
 obtain ⟨r,q1,q2⟩:=Z9 s.graph.bu h;have ha:=((sR s.graph).1 hg).1;rw [q1];cases r with
 | true=>exact ⟨rfl,fun _=>(q2.1 rfl).2,fun _=>rfl⟩
 | false=>exact ⟨rfl,fun k=>by simp at k,fun k=>by have:=q2.2 ⟨ha,k⟩; simp at this⟩
open Classical in
theorem adP (s:b.aw) (lZ:pR s):∃ e,b.pW s=some e/\(e=0/\nK s\/e=8/\¬ nK s):=by
 unfold b.pW b.vo b.vm b.Ef b.Eg;have hq:b.Hq s.graph=some (if l9 s.graph then 0 else 8):=aji s.graph;rw [hq];simp only [dB,db,aj];by_cases hg:l9 s.graph
 ·rw [aI hg]
  have hlen:=((sR s.graph).1 hg).2.1;refine AI neI (fun h=>absurd rfl h) fun _=>?_;refine AI neI (fun h k=>h (by rw [k.2.1])) fun k1=>?_;refine AI AZ (fun h k=>by have:=k.2.2.1.1; omega) fun k2=>?_;unfold b.wW;rcases agV s.ay (by omega) lZ.2.1 with ⟨x',q1,q2⟩ | ⟨x',q1,q2,i,q3,q4⟩
  ·rw [q1]
   simp only [ax.iM,ax.iP];have ex:nf (.exit 0) (.exit 0)=true:=rfl;rw [ex,aj];refine AI AZ (fun h k=>by have:=k.2.2.1.2.1; omega) fun k3=>?_;unfold b.wX;rcases akY s.az (by omega) with ⟨y',r1,r2⟩ | ⟨y',r1,r2,i,r3,r4⟩
   ·rw [r1]
    simp only [ax.iM,ax.iP];rw [ex,aj];unfold b.lI;rcases ajk s lZ (by omega) hlen with ⟨s1,s2⟩ | ⟨z',s1,s2,i,s3,s4⟩
    ·rw [s1]
     simp only [ax.iM,ax.iP];rw [ex,aj];obtain ⟨t1,t2⟩:=ak0 hg s.root;by_cases hr:s.root=xY
     ·rw [(DC (Kg s.root) |> fun h=>by rw [<- Bool.not_eq_true,h]; exact fun k=>k hr:(!((s.root.slot==(0:Int))&&((s.root.gen==(0:Int))&&true)))=false)]
      exact ⟨0,rfl,.inl ⟨rfl,hg,by omega,⟨by omega,by omega,q2,r2⟩,s2,.inl hr⟩⟩
     ·rw [(DC (Kg s.root)).2 hr]
      rw [t1];simp only [dB,db,aj];refine AI (DC AZ) (fun h k=>by
       rcases k.2.2.2.2 with g | g
       ·exact hr g
       ·exact h (t2.2 g)) fun k5=>?_
      exact ⟨0,rfl,.inl ⟨rfl,hg,by omega,⟨by omega,by omega,q2,r2⟩,s2,.inr (t2.1 (Classical.byContradiction k5))⟩⟩
    ·rw [s1]
     exact ⟨z'.t2,rfl,.inr ⟨s2,fun k=>s4 (k.2.2.2.1 i s3)⟩⟩
   ·rw [r1]
    simp only [ax.iM,ax.iP,r2,decide_true];exact ⟨8,rfl,.inr ⟨rfl,fun k=>r4 (k.2.2.1.2.2.2 i r3)⟩⟩
  ·rw [q1]
   simp only [ax.iM,ax.iP,q2,decide_true];exact ⟨8,rfl,.inr ⟨rfl,fun k=>q4 (k.2.2.1.2.2.1 i q3)⟩⟩
 ·rw [ak hg]
  exact ⟨8,rfl,.inr ⟨rfl,fun k=>hg k.1⟩⟩
theorem agX (s:b.aw) (lZ:pR s):∃ r,b.BX s=some r/\(r=true↔nK s):=by
 unfold b.BX b.Ni b.Nj b.Nk;obtain ⟨r,q1,q2⟩:=akX s.graph lZ.2.2.1;obtain ⟨r',p1,p2⟩:=aeI s lZ.2.2.2.2.1 lZ.2.2.2.2.2 lZ.2.1;rw [q1,p1];simp only [dB,db,aj];refine ke (DC q2) (fun h k=>h k.1) fun k1=>?_;have hg:l9 s.graph:=Classical.byContradiction k1;have hlen:=((sR s.graph).1 hg).2.1;refine ke neI (fun h k=>h (by rw [k.2.1])) fun k2=>?_;refine ke (DC p2) (fun h k=>h k.2.2.1) fun k3=>?_;have eK:=Classical.byContradiction k3;unfold b.pD;rcases agW s lZ (by omega) hlen with ⟨s1,s2⟩ | ⟨z',s1,s2,i,s3,s4⟩
 ·rw [s1]
  simp only [ax.iM,ax.iP];have ex:nf (.exit 0) (.exit 0)=true:=rfl;rw [ex,aj];by_cases hr:s.root=xY
  ·rw [(Kg s.root).2 hr]
   exact ⟨true,rfl,⟨fun _=>⟨hg,by omega,eK,s2,.inl hr⟩,fun _=>rfl⟩⟩
  ·have:((s.root.slot==(0:Int))&&((s.root.gen==(0:Int))&&true))=false:=by rw [<- Bool.not_eq_true,Kg]; exact hr
   rw [this];unfold b.Dp b.J4;obtain ⟨t,t1,t2⟩:=aaa s.graph.bu s.root;rw [t1];refine ⟨t,rfl,t2.trans ⟨fun h=>⟨hg,by omega,eK,s2,.inr h⟩,fun h=>?_⟩⟩;rcases h.2.2.2.2 with g | g
   ·exact absurd g hr
   ·exact g
 ·rw [s1]
  exact ⟨z'.t2,rfl,⟨fun k=>by rw [s2] at k; simp at k,fun k=>absurd (k.2.2.2.1 i s3) s4⟩⟩
theorem aab (s:b.aw) (lZ:pR s):∃ e,b.rT s=some e/\(e=0/\nK s\/e=8/\¬ nK s):=by
 unfold b.rT b.Ho;obtain ⟨r,q1,q2⟩:=agX s lZ;rw [q1];cases r with
 | true=>exact ⟨0,rfl,.inl ⟨rfl,q2.1 rfl⟩⟩
 | false=>exact ⟨8,rfl,.inr ⟨rfl,fun k=>by have:=q2.2 k; simp at this⟩⟩
theorem mi {α:Type} (s:Sl α) (i:Nat) (v:α):(s.set i v).get i=v:=by
 unfold Sl.set;show cond (Nat.beq i i) v (s.get i)=v;rw [tf];rfl
theorem jy {α:Type} (s:Sl α) {i j:Nat} (v:α) (h:j≠i):(s.set i v).get j=s.get j:=by
 unfold Sl.set;show cond (Nat.beq j i) v (s.get j)=s.get j;have:Nat.beq j i=false:=by
  cases q:Nat.beq j i with
  | false=>rfl
  | true=>exact absurd (aW q) h
 rw [this];rfl
def A5 (g:b.cA) (M:Nat->Int) (i:Nat):Nat->Int
 | 0=>1
 | k+1=>if 0<=((g.kids.get i).get k).slot/\((g.kids.get i).get k).slot < (g.kids.n:Int) then min (A5 g M i k+M ((g.kids.get i).get k).slot.toNat) 100000 else A5 g M i k
theorem UK (g:b.cA) (M:Nat->Int) (i k:Nat):A5 g M i (k+1)=if 0<=((g.kids.get i).get k).slot/\((g.kids.get i).get k).slot < (g.kids.n:Int) then min (A5 g M i k+M ((g.kids.get i).get k).slot.toNat) 100000 else A5 g M i k:=rfl
def Xb (g:b.cA):Nat->Nat->Int
 | 0,_=>0
 | t+1,i=>A5 g (Xb g t) i (min (g.kids.get i).n 1000)
theorem adQ {g:b.cA} {M:Nat->Int} (hM:∀ j,0<=M j) (i:Nat):∀ k,1<=A5 g M i k/\A5 g M i k<=100000
 | 0=>⟨Int.le_refl _,by show (1:Int)<=100000; omega⟩
 | k+1=>by
  have:=adQ hM (g:=g) i k;have hm:=hM ((g.kids.get i).get k).slot.toNat;unfold A5;split
  ·exact ⟨by omega,by omega⟩
  ·exact this
theorem ajl (g:b.cA):∀ t i,0<=Xb g t i/\Xb g t i<=100000
 | 0,i=>⟨Int.le_refl _,by show (0:Int)<=100000; omega⟩
 | t+1,i=>by
  have:=adQ (g:=g) (fun j=>(ajl g t j).1) i (min (g.kids.get i).n 1000);show 0<=A5 _ _ _ _/\A5 _ _ _ _<=100000;omega
theorem ak1 (s:b.aw) (M:Nat->Int) (hM:∀ j,0<=M j/\M j<=100000) (t2:Bool) (many nx:Sl Int) (step:Int) (i:Nat) (hi:i < s.graph.kids.n) (hm:many.n=s.graph.kids.n) (hx:nx.n=s.graph.kids.n) (h1:nx.get i=1) (ak2:∀ j,j < s.graph.kids.n->many.get j=M j) :
  ∃ AJ kk,goN b.gu (⟨t2,((s.graph.kids.n:Nat):Int),many,step,nx,(i:Int),(0:Int),s⟩:b.eU) = .out (.exit 4) ⟨t2,((s.graph.kids.n:Nat):Int),many,step,AJ,(i:Int),kk,s⟩/\AJ.n=s.graph.kids.n/\AJ.get i=A5 s.graph M i (min (s.graph.kids.get i).n 1000)/\∀ j,j≠i->AJ.get j=nx.get j:=by
 obtain ⟨e,x',h2,he,AJ,kk,h3,h4⟩:=eW (step:=b.gu)
  (fun k x=>∃ q:Sl Int,x=⟨t2,((s.graph.kids.n:Nat):Int),many,step,q,(i:Int),(k:Int),s⟩/\q.n=s.graph.kids.n/\q.get i=A5 s.graph M i k/\∀ j,j≠i->q.get j=nx.get j)
  (fun e x'=>e = .exit 4/\∃ AJ kk,x' = ⟨t2,((s.graph.kids.n:Nat):Int),many,step,AJ,(i:Int),kk,s⟩/\AJ.n=s.graph.kids.n/\AJ.get i=A5 s.graph M i (min (s.graph.kids.get i).n 1000)/\∀ j,j≠i->AJ.get j=nx.get j)
  (min (s.graph.kids.get i).n 1000) (by unfold dZ; omega) (by
   rintro k _ hk ⟨q,rfl,hq,hqi,hqo⟩;have ei:Int.toNat (i:Int)=i:=rfl;have ek:Int.toNat (k:Int)=k:=rfl;have d1:decide ((0:Int)<=(i:Int))=true:=ai (by omega);have d2:decide ((i:Int) < ((s.graph.kids.n:Nat):Int))=true:=ai (by omega);have d3:decide ((i:Int) < ((q.n:Nat):Int))=true:=ai (by omega);have d4:decide ((0:Int)<=(k:Int))=true:=ai (by omega);unfold b.gu b.kW
   dsimp only
   rw [ei,ek,d1,d2,d3,d4];simp only [cg,iY,wD,aj,bj,bp];by_cases yJ:(k:Int) < (((s.graph.kids.get i).n:Nat):Int)
   ·rw [ai yJ]
    by_cases hk2:(k:Int) < 1000
    ·rw [ai hk2]
     simp only [aj];have e1:aV ((k:Int)+1)=((k+1:Nat):Int):=by rw [cv (by omega) (by omega)]; omega
     rw [e1];refine .inl ?_;by_cases g1:0<=((s.graph.kids.get i).get k).slot
     ·by_cases g2:((s.graph.kids.get i).get k).slot < ((s.graph.kids.n:Nat):Int)
      ·have g3:((s.graph.kids.get i).get k).slot < ((many.n:Nat):Int):=by rw [hm]; exact g2
       have ed:decide (((s.graph.kids.get i).get k).slot >= 0)=true:=ai g1;rw [ed,ai g2,ai g3];simp only [cg,aj];refine ⟨_,rfl,by omega,_,rfl,hq,?_,fun j hj=>?_⟩
       ·rw [mi,hqi,ak2 _ (by omega)]
        have b1:=adQ (g:=s.graph) (fun j=>(hM j).1) i k;have b2:=hM ((s.graph.kids.get i).get k).slot.toNat;rw [cv (by omega) (by omega),UK,aI ⟨g1,g2⟩]
       ·rw [jy _ _ hj]; exact hqo j hj
      ·have ed:decide (((s.graph.kids.get i).get k).slot >= 0)=true:=ai g1
       rw [ed,aE g2];simp only [aj,aF];refine ⟨_,rfl,by omega,_,rfl,hq,?_,hqo⟩;rw [hqi,UK,ak fun h=>g2 h.2]
     ·have ed:decide (((s.graph.kids.get i).get k).slot >= 0)=false:=aE g1
      rw [ed];simp only [aF];refine ⟨_,rfl,by omega,_,rfl,hq,?_,hqo⟩;rw [hqi,UK,ak fun h=>g1 h.1]
    ·rw [aE hk2]
     have:k=min (s.graph.kids.get i).n 1000:=by omega
     exact .inr ⟨_,_,rfl,rfl,rfl,q,_,rfl,hq,by rw [<- this]; exact hqi,hqo⟩
   ·rw [aE yJ]
    have:k=min (s.graph.kids.get i).n 1000:=by omega
    exact .inr ⟨_,_,rfl,rfl,rfl,q,_,rfl,hq,by rw [<- this]; exact hqi,hqo⟩
   ) (x:=⟨t2,((s.graph.kids.n:Nat):Int),many,step,nx,(i:Int),(0:Int),s⟩) ⟨nx,rfl,hx,h1,fun _ _=>rfl⟩
 ·subst he h3; exact ⟨AJ,kk,h2,h4⟩
theorem aoO (s:b.aw) (M:Nat->Int) (hM:∀ j,0<=M j/\M j<=100000) (hn:s.graph.kids.n<=300) (t2:Bool) (many nx:Sl Int) (step:Int) (hm:many.n=s.graph.kids.n) (hx:nx.n=s.graph.kids.n) (ak2:∀ j,j < s.graph.kids.n->many.get j=M j) :
  (∃ AJ,goN b.gI (⟨t2,((s.graph.kids.n:Nat):Int),many,step,nx,(0:Int),s⟩:b.gA) = .out (.exit 2) ⟨t2,((s.graph.kids.n:Nat):Int),many,step,AJ,((s.graph.kids.n:Nat):Int),s⟩/\AJ.n=s.graph.kids.n/\∀ j,j < s.graph.kids.n->AJ.get j=A5 s.graph M j (min (s.graph.kids.get j).n 1000)/\AJ.get j<=10000)\/
  ∃ x',goN b.gI (⟨t2,((s.graph.kids.n:Nat):Int),many,step,nx,(0:Int),s⟩:b.gA) = .out .ret x'/\x'.t2=true/\x'.many=many:=by
 obtain ⟨e,x',h2,h3⟩:=eW (step:=b.gI)
  (fun k x=>∃ q:Sl Int,x=⟨t2,((s.graph.kids.n:Nat):Int),many,step,q,(k:Int),s⟩/\q.n=s.graph.kids.n/\∀ j,j < k->q.get j=A5 s.graph M j (min (s.graph.kids.get j).n 1000)/\q.get j<=10000)
  (fun e x'=>(e = .exit 2/\∃ AJ,x' = ⟨t2,((s.graph.kids.n:Nat):Int),many,step,AJ,((s.graph.kids.n:Nat):Int),s⟩/\AJ.n=s.graph.kids.n/\∀ j,j < s.graph.kids.n->AJ.get j=A5 s.graph M j (min (s.graph.kids.get j).n 1000)/\AJ.get j<=10000)\/(e = .ret/\x'.t2=true/\x'.many=many))
  s.graph.kids.n (by unfold dZ; omega) (by
   rintro k _ hk ⟨q,rfl,hq,hqo⟩;have ek:Int.toNat (k:Int)=k:=rfl;have d1:decide ((0:Int)<=(k:Int))=true:=ai (by omega);unfold b.gI b.bm
   dsimp only
   rw [ek,d1];simp only [cg,iY,wD,aj,bj,bp];by_cases bh:(k:Int) < ((s.graph.kids.n:Nat):Int)
   ·have d2:decide ((k:Int) < ((q.n:Nat):Int))=true:=ai (by omega)
    rw [ai bh,d2];simp only [aj];obtain ⟨AJ,kk,r1,r2,r3,r4⟩:=ak1 s M hM t2 many (q.set k 1) step k (by omega) hm hq (mi q k 1) ak2;rw [r1];rw [ax.iP];simp only [ax.iM,bj,aj];have ex:nf (.exit 4) (.exit 4)=true:=rfl;have d3:decide ((k:Int) < ((AJ.n:Nat):Int))=true:=ai (by omega);rw [ex,d1,d3,ek];simp only [cg,aj];by_cases hb:AJ.get k > 10000
    ·rw [ai hb]
     exact .inr ⟨_,_,rfl,rfl,.inr ⟨rfl,rfl,rfl⟩⟩
    ·rw [aE hb]
     have e1:aV ((k:Int)+1)=((k+1:Nat):Int):=by rw [cv (by omega) (by omega)]; omega
     rw [e1];refine .inl ⟨_,rfl,by omega,AJ,rfl,r2,fun j hj=>?_⟩;by_cases hjk:j=k
     ·subst hjk; exact ⟨r3,by omega⟩
     ·rw [r4 j hjk,jy _ _ hjk]; exact hqo j (by omega)
   ·have:k=s.graph.kids.n:=by omega
    subst this;rw [aE bh];exact .inr ⟨_,_,rfl,rfl,.inl ⟨rfl,q,rfl,hq,hqo⟩⟩
   ) (x:=⟨t2,((s.graph.kids.n:Nat):Int),many,step,nx,(0:Int),s⟩) ⟨nx,rfl,hx,fun j hj=>absurd hj (kA j)⟩
 ·rcases h3 with ⟨rfl,AJ,rfl,h4⟩ | ⟨rfl,h4⟩
  ·exact .inl ⟨AJ,h2,h4⟩
  ·exact .inr ⟨x',h2,h4⟩
def ajm (g:b.cA):Prop:=g.kids.n<=300/\∀ t,t<=18->∀ i,i < g.kids.n->Xb g t i<=10000
theorem ak3 (s:b.aw):∃ r,b.yl s=some r/\(r=false->ajm s.graph):=by
 unfold b.yl b.CG;by_cases hn:((s.graph.kids.n:Nat):Int) > 300
 ·rw [ai hn]; exact ⟨true,rfl,fun h=>by simp at h⟩
 rw [aE hn];have en:Int.toNat ((s.graph.kids.n:Nat):Int)=s.graph.kids.n:=rfl;have d1:decide (((s.graph.kids.n:Nat):Int)<=((s.graph.kids.n:Nat):Int))=true:=ai (Int.le_refl _);have d2:Nat.ble (8 * s.graph.kids.n) 281474976710656=true:=by rw [Nat.ble_eq]; omega
 rw [en,d1,d2];simp only [cg,aj,aF,bj];obtain ⟨e,x',h2,h3⟩:=eW (step:=b.mq)
  (fun t x=>∃ q:Sl Int,x=⟨false,((s.graph.kids.n:Nat):Int),q,(t:Int),s⟩/\q.n=s.graph.kids.n/\(∀ j,j < s.graph.kids.n->q.get j=Xb s.graph t j)/\∀ t',t'<=t->∀ j,j < s.graph.kids.n->Xb s.graph t' j<=10000)
  (fun e x'=>(e = .exit 0/\∀ t',t'<=18->∀ j,j < s.graph.kids.n->Xb s.graph t' j<=10000)\/(e = .ret/\x'.t2=true))
  18 (by unfold dZ; omega) (by
   rintro t _ ht ⟨q,rfl,hq,hqo,hqb⟩;unfold b.mq b.cZ
   dsimp only
   have d0:decide ((0:Int)<=((s.graph.kids.n:Nat):Int))=true:=ai (by omega);rw [en,d0,d1,d2];simp only [cg,aj,bj];by_cases bh:(t:Int) < 18
   ·rw [ai bh,aj]
    rcases aoO s (Xb s.graph t) (ajl s.graph t) (by omega) false q ⟨s.graph.kids.n,fun _=>0⟩ (t:Int) hq rfl hqo with ⟨AJ,r1,r2,r3⟩ | ⟨x',r1,r2,r3⟩
    ·rw [r1]
     simp only [ax.iM,ax.iP,bj];have e1:aV ((t:Int)+1)=((t+1:Nat):Int):=by rw [cv (by omega) (by omega)]; omega
     rw [e1];refine .inl ⟨_,rfl,by omega,AJ,rfl,r2,fun j hj=>(r3 j hj).1,fun t' ht' j hj=>?_⟩;by_cases htt:t' = t+1
     ·subst htt
      have:=r3 j hj;show A5 s.graph (Xb s.graph t) j _<=10000;omega
     ·exact hqb t' (by omega) j hj
    ·rw [r1]
     simp only [ax.iM,ax.iP,bj];exact .inr ⟨_,_,rfl,rfl,.inr ⟨rfl,r2⟩⟩
   ·have:t=18:=by omega
    subst this;rw [aE bh];exact .inr ⟨_,_,rfl,rfl,.inl ⟨rfl,hqb⟩⟩
   ) (x:=⟨false,((s.graph.kids.n:Nat):Int),⟨s.graph.kids.n,fun _=>0⟩,(0:Int),s⟩) ⟨_,rfl,rfl,fun _ _=>rfl,fun t' ht j hj=>by
   have:t' = 0:=by omega
   subst this;show (0:Int)<=10000;omega⟩
 ·rw [h2]
  rcases h3 with ⟨rfl,h3⟩ | ⟨rfl,h3⟩
  ·exact ⟨false,rfl,fun _=>⟨by omega,h3⟩⟩
  ·exact ⟨x'.t2,rfl,fun h=>by rw [h3] at h; simp at h⟩
theorem aeJ (g:b.cA):∃ r,b.nU g=some r/\(r=false->g.bu.aP.n<=200/\g.kids.n<=200):=by
 unfold b.nU b.uf;by_cases h1:((g.bu.aP.n:Nat):Int) > 200
 ·rw [ai h1]; exact ⟨true,rfl,fun h=>by simp at h⟩
 rw [aE h1];by_cases h2:((g.kids.n:Nat):Int) > 200
 ·rw [ai h2]; exact ⟨true,rfl,fun h=>by simp at h⟩
 rw [aE h2];simp only [aF];obtain ⟨e,x',q1,q2⟩:=eW (step:=b.iq)
  (fun t x=>∃ m:Int,x=⟨false,m,(t:Int),g⟩)
  (fun e x'=>e = .exit 0\/e = .ret)
  g.kids.n (by unfold dZ; omega) (by
   rintro t _ ht ⟨m,rfl⟩;have et:Int.toNat (t:Int)=t:=rfl;have d1:decide ((0:Int)<=(t:Int))=true:=ai (by omega);unfold b.iq
   dsimp only
   rw [et,d1];by_cases bh:(t:Int) < ((g.kids.n:Nat):Int)
   ·rw [ai bh]
    simp only [cg,aj];have e1:aV ((t:Int)+1)=((t+1:Nat):Int):=by rw [cv (by omega) (by omega)]; omega
    rw [e1];by_cases hb:aV (m+(((g.kids.get t).n:Nat):Int)) > 400
    ·rw [ai hb]
     exact .inr ⟨_,_,rfl,rfl,.inr rfl⟩
    ·rw [aE hb]
     exact .inl ⟨_,rfl,by omega,_,rfl⟩
   ·rw [aE bh]
    exact .inr ⟨_,_,rfl,rfl,.inl rfl⟩) (x:=⟨false,(0:Int),(0:Int),g⟩) ⟨0,rfl⟩
 rw [q1];rcases q2 with rfl | rfl
 ·exact ⟨false,rfl,fun _=>⟨by omega,by omega⟩⟩
 ·exact ⟨x'.t2,rfl,fun _=>⟨by omega,by omega⟩⟩
theorem aeK (l:Sl b.cN):∃ r,b.mD l=some r:=by
 unfold b.mD b.ui;obtain ⟨e,x',q1,q2⟩:=eW (step:=b.jb)
  (fun t x=>∃ m:Int,x=⟨l,false,m,(t:Int)⟩)
  (fun e x'=>e = .exit 0)
  100 (by unfold dZ; omega) (by
   rintro t _ ht ⟨m,rfl⟩;have et:Int.toNat (t:Int)=t:=rfl;have d1:decide ((0:Int)<=(t:Int))=true:=ai (by omega);unfold b.jb
   dsimp only
   rw [et,d1];by_cases bh:(t:Int) < ((l.n:Nat):Int)
   ·rw [ai bh]
    simp only [cg,aj];by_cases hb:(t:Int) < 100
    ·rw [ai hb]
     have e1:aV ((t:Int)+1)=((t+1:Nat):Int):=by rw [cv (by omega) (by omega)]; omega
     rw [e1];exact .inl ⟨_,rfl,by omega,_,rfl⟩
    ·rw [aE hb]
     exact .inr ⟨_,_,rfl,rfl,rfl⟩
   ·rw [aE bh]
    exact .inr ⟨_,_,rfl,rfl,rfl⟩) (x:=⟨l,false,(0:Int),(0:Int)⟩) ⟨0,rfl⟩
 rw [q1];subst q2;rw [ax.iP];simp only [ax.iM];by_cases h:(((x'.l.n:Nat):Int) > 40)
 ·rw [ai h]; exact ⟨true,rfl⟩
 ·rw [aE h]; exact ⟨_,rfl⟩
def ajn (m:b.dm):Prop:=m.bN.n<=1000/\m.uV.n<=1000/\m.aG.n<=100/\∀ i,i < m.aG.n->(m.aG.get i).index.n<=1000
theorem S3 (m:b.dm):∃ r,b.rR m=some r/\(r=false->ajn m):=by
 unfold b.rR b.zu;by_cases h1:((m.bN.n:Nat):Int) > 1000
 ·rw [ai h1]; exact ⟨true,rfl,fun h=>by simp at h⟩
 rw [aE h1];by_cases h2:((m.uV.n:Nat):Int) > 1000
 ·rw [ai h2]; exact ⟨true,rfl,fun h=>by simp at h⟩
 rw [aE h2];by_cases h3:((m.aG.n:Nat):Int) > 100
 ·rw [ai h3]; exact ⟨true,rfl,fun h=>by simp at h⟩
 rw [aE h3];simp only [aF];have key:=eJ (step:=b.gR) m.aG.n (by unfold dZ; omega) (fun j=>⟨false,(j:Int),m⟩) (fun k=>(m.aG.get k).index.n<=1000) (e0:=.exit 0) (er:=.ret) rfl rfl (fun x'=>x'.t2=true) (xe:=⟨false,((m.aG.n:Nat):Int),m⟩) (fun j hj=>by
  have e1:aV ((j:Int)+1)=((j+1:Nat):Int):=by rw [cv (by omega) (by omega)]; omega
  have d1:decide ((j:Int) < ((m.aG.n:Nat):Int))=true:=ai (by omega);have d2:decide ((0:Int)<=(j:Int))=true:=ai (by omega);have ej:Int.toNat (j:Int)=j:=rfl;unfold b.gR
  dsimp only
  rw [d1,d2,ej,e1];simp only [cg,aj];by_cases h:(((m.aG.get j).index.n:Nat):Int) > 1000
  ·rw [ai h]
   exact ⟨fun k=>by omega,fun _=>⟨_,rfl,rfl⟩⟩
  ·rw [aE h]
   exact ⟨fun _=>rfl,fun k=>by omega⟩) (by
  unfold b.gR
  dsimp only
  rw [aE (Int.lt_irrefl _)];rfl)
 have e0:goN b.gR (⟨false,(0:Int),m⟩:b.lB)=goN b.gR ⟨false,((0:Nat):Int),m⟩:=rfl;rw [e0];rcases key with ⟨k1,k2⟩ | ⟨x',k1,k2,_⟩
 ·rw [k1]; exact ⟨false,rfl,fun _=>⟨by omega,by omega,by omega,k2⟩⟩
 ·rw [k1]; exact ⟨x'.t2,rfl,fun h=>by rw [k2] at h; simp at h⟩
structure Few (s:b.aw):Prop where
 g6:b.nU s.graph=some false
 g9:b.mD s.az=some false
 ways:ajm s.graph
 aP:s.graph.bu.aP.n<=200
 kids:s.graph.kids.n<=200
 nodes:s.nodes.n<=200
 ay:s.ay.n<=60
 az:s.az.n<=60
 lO:∀ i,i < s.nodes.n->(s.nodes.get i).lO.n<=200
 sq:∀ i,i < s.ay.n->ajn (s.ay.get i)
theorem stepT {p:Prop} {c:Bool} {x:Option Bool} {Q:Prop} (hc:c=true↔p) (h2 : ¬ p->∃ r,x=some r/\(r=false->Q)):∃ r,cond c (some true) x=some r/\(r=false->Q):=by
 cases c with
 | true=>exact ⟨true,rfl,fun k=>by simp at k⟩
 | false=>exact h2 fun k=>by have:=hc.2 k; simp at this
theorem ajo (s:b.aw):∃ r,b.u5 s=some r/\(r=false->Few s):=by
 unfold b.u5 b.G4 b.G5 b.G6 b.zz b.qN;obtain ⟨r1,q1,p1⟩:=ak3 s;obtain ⟨r2,q2,p2⟩:=aeJ s.graph;obtain ⟨r3,q3⟩:=aeK s.az;rw [q1,q2,q3];simp only [dB,db,aj];refine stepT Iff.rfl fun k1=>?_;refine stepT Iff.rfl fun k2=>?_;refine stepT AZ fun k3=>?_;refine stepT AZ fun k4=>?_;refine stepT AZ fun k5=>?_;refine stepT Iff.rfl fun k6=>?_;have f6:b.nU s.graph=some false:=by rw [q2]; exact congrArg some (by simpa using k2)
 have f9:b.mD s.az=some false:=by rw [q3]; exact congrArg some (by simpa using k6)
 have p1:=p1 (by simpa using k1);have p2:=p2 (by simpa using k2);have key:=eJ (step:=b.fZ) s.nodes.n (by unfold dZ; omega) (fun j=>⟨false,(j:Int),s⟩) (fun k=>(s.nodes.get k).lO.n<=200) (e0:=.exit 0) (er:=.ret) rfl rfl (fun x'=>x'.t2=true) (xe:=⟨false,((s.nodes.n:Nat):Int),s⟩) (fun j hj=>by
  have e1:aV ((j:Int)+1)=((j+1:Nat):Int):=by rw [cv (by omega) (by omega)]; omega
  have d1:decide ((j:Int) < ((s.nodes.n:Nat):Int))=true:=ai (by omega);have d2:decide ((0:Int)<=(j:Int))=true:=ai (by omega);have ej:Int.toNat (j:Int)=j:=rfl;unfold b.fZ
  dsimp only
  rw [d1,d2,ej,e1];simp only [cg,aj];by_cases h:(((s.nodes.get j).lO.n:Nat):Int) > 200
  ·rw [ai h]
   exact ⟨fun k=>by omega,fun _=>⟨_,rfl,rfl⟩⟩
  ·rw [aE h]
   exact ⟨fun _=>rfl,fun k=>by omega⟩) (by
  unfold b.fZ
  dsimp only
  rw [aE (Int.lt_irrefl _)];rfl)
 have e0:goN b.fZ (⟨false,(0:Int),s⟩:b.kx)=goN b.fZ ⟨false,((0:Nat):Int),s⟩:=rfl;rw [e0];rcases key with ⟨g1,g2⟩ | ⟨x',g1,g2,_⟩
 ·rw [g1]
  simp only [ax.iP];have key:=eJ (step:=b.ga) s.ay.n (by unfold dZ; omega) (fun j=>⟨false,(j:Int),s⟩) (fun k=>b.rR (s.ay.get k)=some false) (e0:=.exit 2) (er:=.ret) rfl rfl (fun x'=>x'.t2=true) (xe:=⟨false,((s.ay.n:Nat):Int),s⟩) (fun j hj=>by
   have e1:aV ((j:Int)+1)=((j+1:Nat):Int):=by rw [cv (by omega) (by omega)]; omega
   have d1:decide ((j:Int) < ((s.ay.n:Nat):Int))=true:=ai (by omega);have d2:decide ((0:Int)<=(j:Int))=true:=ai (by omega);have ej:Int.toNat (j:Int)=j:=rfl;obtain ⟨r,m1,_⟩:=S3 (s.ay.get j);unfold b.ga b.xz
   dsimp only
   rw [d1,d2,ej,e1,m1];cases r with
   | true=>exact ⟨fun k=>by simp at k,fun _=>⟨_,rfl,rfl⟩⟩
   | false=>exact ⟨fun _=>rfl,fun k=>absurd rfl k⟩) (by
   unfold b.ga
   dsimp only
   rw [aE (Int.lt_irrefl _)];rfl)
  have e0:goN b.ga (⟨false,(0:Int),s⟩:b.jh)=goN b.ga ⟨false,((0:Nat):Int),s⟩:=rfl;rw [e0];rcases key with ⟨f1,f2⟩ | ⟨x',f1,f2,_⟩
  ·rw [f1]
   refine ⟨false,rfl,fun _=>⟨f6,f9,p1,p2.1,p2.2,by omega,by omega,by omega,g2,fun i hi=>?_⟩⟩;obtain ⟨r,m1,m2⟩:=S3 (s.ay.get i);rw [f2 i hi] at m1;exact m2 (Fm m1).symm
  ·rw [f1]; exact ⟨x'.t2,rfl,fun h=>by rw [f2] at h; simp at h⟩
 ·rw [g1]; exact ⟨x'.t2,rfl,fun h=>by rw [g2] at h; simp at h⟩
theorem QV (a c:b.Handle):((a.slot==c.slot)&&((a.gen==c.gen)&&true))=true↔a=c:=by
 obtain ⟨a0,a1⟩:=a;obtain ⟨c0,c1⟩:=c;simp
theorem ank (a c:Sl b.Handle) (hn:a.n < 1000000):∃ r,b.mu a c=some r/\(r=true↔nJ a c):=by
 unfold b.mu b.pH;by_cases hq:a.n=c.n
 ·have cH:(((a.n:Nat):Int) != ((c.n:Nat):Int))=false:=by simp [hq]
  rw [cH,aF];have key:=eJ (step:=b.dS) a.n (by unfold dZ; omega) (fun j=>⟨a,c,false,((a.n:Nat):Int),(j:Int)⟩) (fun j=>a.get j=c.get j) (e0:=.exit 0) (er:=.ret) rfl rfl (fun x'=>x'.t4=false) (xe:=⟨a,c,false,((a.n:Nat):Int),((a.n:Nat):Int)⟩) (fun j hj=>by
   have e1:aV ((j:Int)+1)=((j+1:Nat):Int):=by rw [cv (by omega) (by omega)]; omega
   have d1:decide ((j:Int) < ((a.n:Nat):Int))=true:=ai (by omega);have d2:decide ((0:Int)<=(j:Int))=true:=ai (by omega);have d3:decide ((j:Int) < ((c.n:Nat):Int))=true:=ai (by omega);have ej:Int.toNat (j:Int)=j:=rfl;unfold b.dS
   dsimp only
   rw [d1,d2,d3,ej,e1];simp only [cg,aj];by_cases h1:a.get j=c.get j
   ·rw [(QV (a.get j) (c.get j)).2 h1]
    exact ⟨fun _=>rfl,fun h=>absurd h1 h⟩
   ·have:(((a.get j).slot==(c.get j).slot)&&(((a.get j).gen==(c.get j).gen)&&true))=false:=by rw [<- Bool.not_eq_true,QV]; exact h1
    rw [this];exact ⟨fun h=>absurd h h1,fun _=>⟨_,rfl,rfl⟩⟩) (by
   unfold b.dS
   dsimp only
   rw [aE (Int.lt_irrefl _)];rfl)
  have e0:goN b.dS (⟨a,c,false,((a.n:Nat):Int),(0:Int)⟩:b.fT)=goN b.dS ⟨a,c,false,((a.n:Nat):Int),((0:Nat):Int)⟩:=rfl;rw [e0];rcases key with ⟨h1,h2⟩ | ⟨x',h1,h2,j,h3,h4⟩
  ·rw [h1]
   exact ⟨true,rfl,⟨fun _=>⟨hq,h2⟩,fun _=>rfl⟩⟩
  ·rw [h1]
   exact ⟨x'.t4,rfl,⟨fun h=>by rw [h2] at h; simp at h,fun h=>absurd (h.2 j h3) h4⟩⟩
 ·have cH:(((a.n:Nat):Int) != ((c.n:Nat):Int))=true:=by simp; omega
  rw [cH,aj];exact ⟨false,rfl,⟨fun h=>by simp at h,fun h=>absurd h.1 hq⟩⟩
theorem UL (a c:Sl b.Handle) (hn:a.n < 1000000):∃ r,b.fP a c=some r/\(r=true↔nJ a c):=by
 unfold b.fP b.pJ;by_cases hq:a.n=c.n
 ·have cH:(((a.n:Nat):Int) != ((c.n:Nat):Int))=false:=by simp [hq]
  rw [cH,aF];have key:=eJ (step:=b.dT) a.n (by unfold dZ; omega) (fun j=>⟨a,c,false,(j:Int)⟩) (fun j=>a.get j=c.get j) (e0:=.exit 0) (er:=.ret) rfl rfl (fun x'=>x'.t4=false) (xe:=⟨a,c,false,((a.n:Nat):Int)⟩) (fun j hj=>by
   have e1:aV ((j:Int)+1)=((j+1:Nat):Int):=by rw [cv (by omega) (by omega)]; omega
   have d1:decide ((j:Int) < ((a.n:Nat):Int))=true:=ai (by omega);have d2:decide ((0:Int)<=(j:Int))=true:=ai (by omega);have d3:decide ((j:Int) < ((c.n:Nat):Int))=true:=ai (by omega);have ej:Int.toNat (j:Int)=j:=rfl;unfold b.dT
   dsimp only
   rw [d1,d2,d3,ej,e1];simp only [cg,aj];by_cases h1:a.get j=c.get j
   ·rw [(QV (a.get j) (c.get j)).2 h1]
    exact ⟨fun _=>rfl,fun h=>absurd h1 h⟩
   ·have:(((a.get j).slot==(c.get j).slot)&&(((a.get j).gen==(c.get j).gen)&&true))=false:=by rw [<- Bool.not_eq_true,QV]; exact h1
    rw [this];exact ⟨fun h=>absurd h h1,fun _=>⟨_,rfl,rfl⟩⟩) (by
   unfold b.dT
   dsimp only
   rw [aE (Int.lt_irrefl _)];rfl)
  have e0:goN b.dT (⟨a,c,false,(0:Int)⟩:b.fU)=goN b.dT ⟨a,c,false,((0:Nat):Int)⟩:=rfl;rw [e0];rcases key with ⟨h1,h2⟩ | ⟨x',h1,h2,j,h3,h4⟩
  ·rw [h1]
   exact ⟨true,rfl,⟨fun _=>⟨hq,h2⟩,fun _=>rfl⟩⟩
  ·rw [h1]
   exact ⟨x'.t4,rfl,⟨fun h=>by rw [h2] at h; simp at h,fun h=>absurd (h.2 j h3) h4⟩⟩
 ·have cH:(((a.n:Nat):Int) != ((c.n:Nat):Int))=true:=by simp; omega
  rw [cH,aj];exact ⟨false,rfl,⟨fun h=>by simp at h,fun h=>absurd h.1 hq⟩⟩
def Y3 (s:b.aw) (kids:Sl Int):Nat->b.Handle
 | 0=>s.root
 | j+1=>(s.graph.kids.get (Y3 s kids j).slot.toNat).get (kids.get j).toNat
def abg (s:b.aw) (kids:Sl Int) (j:Nat):Prop:=0<=kids.get j/\kids.get j < ((s.graph.kids.get (Y3 s kids j).slot.toNat).n:Int)
def EZ (s:b.aw) (kids:Sl Int):Prop:=∀ j,j < kids.n->abg s kids j
def F3 (s:b.aw) (kids:Sl Int) (l:Sl b.Handle):Prop:=l.n=kids.n+1/\∀ i,i<=kids.n->l.get i=Y3 s kids i
theorem anl {s:b.aw} (hs:nK s) {h:b.Handle} (hh:lX s.graph.bu h) {k:Nat} (hk:k < (s.graph.kids.get h.slot.toNat).n):lX s.graph.bu ((s.graph.kids.get h.slot.toNat).get k):=by
 have hg:=(sR s.graph).1 hs.1;refine (hg.2.2.1 h.slot.toNat ?_).2.2 k hk;have:=hh.1;have:=hh.2.1;have:=hg.2.1;omega
theorem HO {s:b.aw} (hs:nK s) (hr:s.root≠xY) (kids:Sl Int):∀ j,(∀ i,i < j->abg s kids i)->lX s.graph.bu (Y3 s kids j)
 | 0,_=>by
  rcases hs.2.2.2.2 with h | h
  ·exact absurd h hr
  ·exact h
 | j+1,h=>by
  have h1:=HO hs hr kids j fun i hi=>h i (by omega);have h2:=h j (by omega);exact anl hs h1 (by have:=h2.1; have:=h2.2; omega)
theorem L3 {s:b.aw} (hs:nK s) {h:b.Handle} (hh:lX s.graph.bu h):0<=h.slot/\h.slot < (s.graph.kids.n:Int)/\h.slot < (s.nodes.n:Int):=by
 have hg:=(sR s.graph).1 hs.1;have:=hh.1;have:=hh.2.1;have:=hg.2.1;have:=hs.2.1;omega
theorem Xc {s:b.aw} (hs:nK s) (hr:s.root≠xY) (kids:Sl Int) (hn:kids.n<=400) :
  ∃ p ok,b.nB s kids=some (p,ok)/\(ok=true/\EZ s kids/\F3 s kids p.nodes/\p.kids=kids\/ok=false/\¬ EZ s kids):=by
 unfold b.nB b.rX b.kX b.tA;have hc:b.rW kids=some kids:=by
  unfold b.rW Dt;rw [eQ (by omega) (by omega) (by omega)];rfl
 rw [hc];simp only [dB,db,aj];by_cases h0:(0:Int) < ((kids.n:Nat):Int)
 ·rw [ai h0]
  simp only [aj];have hh:=HO hs hr kids 0 fun i hi=>absurd hi (kA i);have ak4:lX s.graph.bu s.root:=hh;obtain ⟨r1,r2,_⟩:=L3 hs ak4;rw [ai r1,ai r2];simp only [cg,aj];by_cases k1:kids.get 0 < 0
  ·rw [ai k1]
   exact ⟨_,_,rfl,.inr ⟨rfl,fun h=>by have:=(h 0 (by omega)).1; omega⟩⟩
  rw [aE k1];simp only [aF];by_cases k2:kids.get 0 >= (((s.graph.kids.get (Int.toNat s.root.slot)).n:Nat):Int)
  ·rw [ai k2]
   exact ⟨_,_,rfl,.inr ⟨rfl,fun h=>absurd (h 0 (by omega)).2 (by show ¬ (kids.get 0 < (((s.graph.kids.get s.root.slot.toNat).n:Nat):Int)); omega)⟩⟩
  have k3:(0:Int)<=kids.get 0:=by omega
  have k4:kids.get 0 < (((s.graph.kids.get (Int.toNat s.root.slot)).n:Nat):Int):=by omega
  rw [aE k2,ai k3,ai k4];simp only [cg,aj,aF];obtain ⟨e,x',q1,q2⟩:=eW (step:=b.jo)
   (fun r x=>∃ l:Sl b.Handle,x=⟨false,kids,((kids.n:Nat):Int),((r+1:Nat):Int),s,⟨⟨0,fun _=>⟨0,0⟩⟩,⟨0,fun _=>0⟩⟩,⟨l,kids⟩,Y3 s kids (r+1)⟩/\r+1<=kids.n/\(∀ i,i < r+1->abg s kids i)/\l.n=r+2/\∀ i,i < r+2->l.get i=Y3 s kids i)
   (fun e x'=>(e = .exit 0/\EZ s kids/\F3 s kids x'.p.nodes/\x'.p.kids=kids)\/(e = .ret/\x'.t5=false/\¬ EZ s kids))
   (kids.n - 1) (by unfold dZ; omega) (by
    rintro r _ hj ⟨l,rfl,hrn,eK,hl,hlg⟩;have ej:Int.toNat ((r+1:Nat):Int)=r+1:=rfl;have d1:decide ((0:Int)<=((r+1:Nat):Int))=true:=ai (by omega);obtain ⟨s1,s2,_⟩:=L3 hs (HO hs hr kids (r+1) eK);unfold b.jo b.lW
    dsimp only
    rw [ej,d1,ai s1,ai s2];simp only [bj,aj,cg,wD];by_cases bh:(((r+1:Nat):Int)) < ((kids.n:Nat):Int)
    ·rw [ai bh]
     simp only [aj];by_cases m1:kids.get (r+1) < 0
     ·rw [ai m1]
      exact .inr ⟨_,_,rfl,rfl,.inr ⟨rfl,rfl,fun h=>by have:=(h (r+1) (by omega)).1; omega⟩⟩
     rw [aE m1];by_cases m2:kids.get (r+1) >= (((s.graph.kids.get (Int.toNat (Y3 s kids (r+1)).slot)).n:Nat):Int)
     ·rw [ai m2]
      exact .inr ⟨_,_,rfl,rfl,.inr ⟨rfl,rfl,fun h=>by have:=(h (r+1) (by omega)).2; omega⟩⟩
     have m3:(0:Int)<=kids.get (r+1):=by omega
     have m4:kids.get (r+1) < (((s.graph.kids.get (Int.toNat (Y3 s kids (r+1)).slot)).n:Nat):Int):=by omega
     rw [aE m2,ai m3,ai m4,eQ (by omega) (by omega) (by omega)];have e1:aV (((r+1:Nat):Int)+1)=((r+1+1:Nat):Int):=by rw [cv (by omega) (by omega)]; omega
     rw [e1];refine .inl ⟨_,rfl,by omega,_,rfl,by omega,fun i hi=>?_,by show l.n+1=r+1+2; omega,fun i hi=>?_⟩
     ·by_cases hir:i=r+1
      ·subst hir; exact ⟨m3,m4⟩
      ·exact eK i (by omega)
     ·by_cases hir:i=r+2
      ·subst hir
       rw [<- hl,Sl.YX];rw [hl];rfl
      ·rw [Sl.YW (by omega)]
       exact hlg i (by omega)
    ·rw [aE bh]
     have:r+1=kids.n:=by omega
     refine .inr ⟨_,_,rfl,rfl,.inl ⟨rfl,fun j hj=>eK j (by omega),⟨by show l.n=kids.n+1; omega,fun i hi=>hlg i (by omega)⟩,rfl⟩⟩
    ) (x:=⟨false,kids,((kids.n:Nat):Int),(1:Int),s,⟨⟨0,fun _=>⟨0,0⟩⟩,⟨0,fun _=>0⟩⟩,⟨(Sl.lit [s.root]).push ((s.graph.kids.get (Int.toNat s.root.slot)).get (Int.toNat (kids.get 0))),kids⟩,(s.graph.kids.get (Int.toNat s.root.slot)).get (Int.toNat (kids.get 0))⟩) ⟨_,rfl,by omega,fun i hi=>by
    have:i=0:=by omega
    subst this;exact ⟨k3,k4⟩,rfl,fun i hi=>by
    rcases (by omega:i=0\/i=1) with rfl | rfl
    ·rfl
    ·rfl⟩
  ·rw [q1]
   rcases q2 with ⟨rfl,g1,g2,g3⟩ | ⟨rfl,g1,g2⟩
   ·exact ⟨x'.p,true,rfl,.inl ⟨rfl,g1,g2,g3⟩⟩
   ·exact ⟨x'.t4,x'.t5,rfl,.inr ⟨g1,g2⟩⟩
 ·rw [aE h0]
  refine ⟨_,true,rfl,.inl ⟨rfl,fun j hj=>absurd hj (by omega),⟨by show 1=kids.n+1; omega,fun i hi=>?_⟩,rfl⟩⟩;have:i=0:=by omega
  subst this;rfl
theorem afC {s:b.aw} (hs:nK s) (hr:s.root≠xY) (kids:Sl Int) (hn:kids.n<=400) :
  ∃ p ok,b.xO s kids=some (p,ok)/\(ok=true/\EZ s kids/\F3 s kids p.nodes/\nJ p.kids kids\/ok=false/\¬ EZ s kids):=by
 unfold b.xO b.CO b.r5;by_cases h0:(0:Int) < ((kids.n:Nat):Int)
 ·rw [ai h0]
  simp only [aj];have hh:=HO hs hr kids 0 fun i hi=>absurd hi (kA i);have ak4:lX s.graph.bu s.root:=hh;obtain ⟨r1,r2,_⟩:=L3 hs ak4;rw [ai r1,ai r2];simp only [cg,aj];by_cases k1:kids.get 0 < 0
  ·rw [ai k1]
   exact ⟨_,_,rfl,.inr ⟨rfl,fun h=>by have:=(h 0 (by omega)).1; omega⟩⟩
  rw [aE k1];simp only [aF];by_cases k2:kids.get 0 >= (((s.graph.kids.get (Int.toNat s.root.slot)).n:Nat):Int)
  ·rw [ai k2]
   exact ⟨_,_,rfl,.inr ⟨rfl,fun h=>absurd (h 0 (by omega)).2 (by show ¬ (kids.get 0 < (((s.graph.kids.get s.root.slot.toNat).n:Nat):Int)); omega)⟩⟩
  have k3:(0:Int)<=kids.get 0:=by omega
  have k4:kids.get 0 < (((s.graph.kids.get (Int.toNat s.root.slot)).n:Nat):Int):=by omega
  rw [aE k2,ai k3,ai k4];simp only [cg,aj,aF];obtain ⟨e,x',q1,q2⟩:=eW (step:=b.np)
   (fun r x=>∃ (l:Sl b.Handle) (c:Sl Int),x=⟨kids,false,((r+1:Nat):Int),s,⟨⟨0,fun _=>⟨0,0⟩⟩,⟨0,fun _=>0⟩⟩,⟨l,c⟩,Y3 s kids (r+1)⟩/\r+1<=kids.n/\(∀ i,i < r+1->abg s kids i)/\l.n=r+2/\(∀ i,i < r+2->l.get i=Y3 s kids i)/\c.n=r+1/\∀ i,i < r+1->c.get i=kids.get i)
   (fun e x'=>(e = .exit 0/\EZ s kids/\F3 s kids x'.p.nodes/\nJ x'.p.kids kids)\/(e = .ret/\x'.t5=false/\¬ EZ s kids))
   (kids.n - 1) (by unfold dZ; omega) (by
    rintro r _ hj ⟨l,c,rfl,hrn,eK,hl,hlg,hc,hcg⟩;have ej:Int.toNat ((r+1:Nat):Int)=r+1:=rfl;have d1:decide ((0:Int)<=((r+1:Nat):Int))=true:=ai (by omega);obtain ⟨s1,s2,_⟩:=L3 hs (HO hs hr kids (r+1) eK);unfold b.np b.pI
    dsimp only
    rw [ej,d1,ai s1,ai s2];simp only [bj,aj,cg,wD];by_cases bh:(((r+1:Nat):Int)) < ((kids.n:Nat):Int)
    ·rw [ai bh]
     simp only [aj];by_cases m1:kids.get (r+1) < 0
     ·rw [ai m1]
      exact .inr ⟨_,_,rfl,rfl,.inr ⟨rfl,rfl,fun h=>by have:=(h (r+1) (by omega)).1; omega⟩⟩
     rw [aE m1];by_cases m2:kids.get (r+1) >= (((s.graph.kids.get (Int.toNat (Y3 s kids (r+1)).slot)).n:Nat):Int)
     ·rw [ai m2]
      exact .inr ⟨_,_,rfl,rfl,.inr ⟨rfl,rfl,fun h=>by have:=(h (r+1) (by omega)).2; omega⟩⟩
     have m3:(0:Int)<=kids.get (r+1):=by omega
     have m4:kids.get (r+1) < (((s.graph.kids.get (Int.toNat (Y3 s kids (r+1)).slot)).n:Nat):Int):=by omega
     rw [aE m2,ai m3,ai m4,eQ (b:=16) (by omega) (by omega) (by omega),eQ (b:=8) (by omega) (by omega) (by omega)];have e1:aV (((r+1:Nat):Int)+1)=((r+1+1:Nat):Int):=by rw [cv (by omega) (by omega)]; omega
     rw [e1];refine .inl ⟨_,rfl,by omega,_,_,rfl,by omega,fun i hi=>?_,by show l.n+1=r+1+2; omega,fun i hi=>?_,by show c.n+1=r+1+1; omega,fun i hi=>?_⟩
     ·by_cases hir:i=r+1
      ·subst hir; exact ⟨m3,m4⟩
      ·exact eK i (by omega)
     ·by_cases hir:i=r+2
      ·subst hir
       rw [<- hl,Sl.YX];rw [hl];rfl
      ·rw [Sl.YW (by omega)]
       exact hlg i (by omega)
     ·by_cases hir:i=r+1
      ·subst hir
       rw [<- hc,Sl.YX]
      ·rw [Sl.YW (by omega)]
       exact hcg i (by omega)
    ·rw [aE bh]
     have:r+1=kids.n:=by omega
     exact .inr ⟨_,_,rfl,rfl,.inl ⟨rfl,fun j hj=>eK j (by omega),⟨by show l.n=kids.n+1; omega,fun i hi=>hlg i (by omega)⟩,by show c.n=kids.n; omega,fun i hi=>hcg i (by have:i < c.n:=hi; omega)⟩⟩
    ) (x:=⟨kids,false,(1:Int),s,⟨⟨0,fun _=>⟨0,0⟩⟩,⟨0,fun _=>0⟩⟩,⟨(Sl.lit [s.root]).push ((s.graph.kids.get (Int.toNat s.root.slot)).get (Int.toNat (kids.get 0))),(⟨0,fun _=>0⟩:Sl Int).push (kids.get 0)⟩,(s.graph.kids.get (Int.toNat s.root.slot)).get (Int.toNat (kids.get 0))⟩) ⟨_,_,rfl,by omega,fun i hi=>by
    have:i=0:=by omega
    subst this;exact ⟨k3,k4⟩,rfl,fun i hi=>by
    rcases (by omega:i=0\/i=1) with rfl | rfl
    ·rfl
    ·rfl,rfl,fun i hi=>by
    have:i=0:=by omega
    subst this;rfl⟩
  ·rw [q1]
   rcases q2 with ⟨rfl,g1,g2,g3⟩ | ⟨rfl,g1,g2⟩
   ·exact ⟨x'.p,true,rfl,.inl ⟨rfl,g1,g2,g3⟩⟩
   ·exact ⟨x'.t4,x'.t5,rfl,.inr ⟨g1,g2⟩⟩
 ·rw [aE h0]
  refine ⟨_,true,rfl,.inl ⟨rfl,fun j hj=>absurd hj (by omega),⟨by show 1=kids.n+1; omega,fun i hi=>?_⟩,by show 0=kids.n; omega,fun i hi=>absurd hi (kA i)⟩⟩;have:i=0:=by omega
  subst this;rfl
theorem UM {s:b.aw} {kids:Sl Int} {l m:Sl b.Handle} (h:F3 s kids l):nJ l m↔F3 s kids m:=by
 constructor
 ·exact fun k=>⟨by rw [<- k.1,h.1],fun i hi=>by rw [<- k.2 i (by rw [h.1]; omega),h.2 i hi]⟩
 ·exact fun k=>⟨by rw [h.1,k.1],fun i hi=>by rw [h.2 i (by have:=h.1; omega),k.2 i (by have:=h.1; omega)]⟩
def uD (s:b.aw) (p:b.Path):Prop:=nK s/\s.root≠xY/\EZ s p.kids/\F3 s p.kids p.nodes
theorem aac (s:b.aw) (p:b.Path) (lZ:pR s) (hk:p.kids.n<=400):∃ e,b.oD s p=some e/\(e=0/\uD s p\/e=8/\¬ uD s p):=by
 unfold b.oD b.vp b.B8 b.vq;obtain ⟨e,q1,q2⟩:=adP s lZ;rw [q1];simp only [dB,db,aj];rcases q2 with ⟨rfl,hs⟩ | ⟨rfl,hs⟩
 ·have:((0:Int) != 0)=false:=rfl
  rw [this,aF];refine AI (Kg s.root) (fun h k=>k.2.1 h) fun hr=>?_;obtain ⟨x,ok,p1,p2⟩:=Xc hs hr p.kids hk;rw [p1];simp only [dB,db,aj];rcases p2 with ⟨rfl,g1,g2,g3⟩ | ⟨rfl,g1⟩
  ·have hx:x.nodes.n < 1000000:=by rw [g2.1]; omega
   obtain ⟨r,m1,m2⟩:=ank x.nodes p.nodes hx;rw [m1];simp only [dB,db,aj,Fl,aF];refine AI (DC (m2.trans (UM g2))) (fun h k=>h k.2.2.2) fun h=>?_;exact ⟨0,rfl,.inl ⟨rfl,hs,hr,g1,Classical.byContradiction h⟩⟩
  ·exact ⟨8,rfl,.inr ⟨rfl,fun k=>g1 k.2.2.1⟩⟩
 ·exact ⟨8,rfl,.inr ⟨rfl,fun k=>hs k.1⟩⟩
theorem Xd (s:b.aw) (p:b.Path) (lZ:pR s) (hk:p.kids.n<=400):∃ e,b.r8 s p=some e/\(e=0/\uD s p\/e=8/\¬ uD s p):=by
 unfold b.r8 b.Ag b.HA b.HB b.Ah b.uw;obtain ⟨e,q1,q2⟩:=aab s lZ;rw [q1];simp only [dB,db,aj];rcases q2 with ⟨rfl,hs⟩ | ⟨rfl,hs⟩
 ·have:((0:Int) != 0)=false:=rfl
  rw [this,aF];refine AI (Kg s.root) (fun h k=>k.2.1 h) fun hr=>?_;obtain ⟨x,ok,p1,p2⟩:=afC hs hr p.kids hk;rw [p1];simp only [dB,db,aj];rcases p2 with ⟨rfl,g1,g2,g3⟩ | ⟨rfl,g1⟩
  ·have hx:x.nodes.n < 1000000:=by rw [g2.1]; omega
   obtain ⟨r,m1,m2⟩:=UL x.nodes p.nodes hx;rw [m1];simp only [dB,db,aj,Fl,aF];refine AI (DC (m2.trans (UM g2))) (fun h k=>h k.2.2.2) fun h=>?_;exact ⟨0,rfl,.inl ⟨rfl,hs,hr,g1,Classical.byContradiction h⟩⟩
  ·exact ⟨8,rfl,.inr ⟨rfl,fun k=>g1 k.2.2.1⟩⟩
 ·exact ⟨8,rfl,.inr ⟨rfl,fun k=>hs k.1⟩⟩
def U16 (n:Int):Prop:=0<=n/\n<=65535
theorem amm {n:Int} (h:U16 n):w16 n=n:=by
 obtain ⟨h1,h2⟩:=h;show IntKind.wrap .u16 n=n;unfold IntKind.wrap;have hb:(2 ^ IntKind.u16.bits:Int)=65536:=rfl;have hs:IntKind.u16.signed=false:=rfl;simp only [hb,hs,Bool.false_and];rw [ak (by simp)];omega
theorem asa {n:Int} (h:U16 n):((E5 IntKind.u16 n (1:Int):Nat):Int)=n % 2:=by
 obtain ⟨h1,h2⟩:=h;obtain ⟨m,rfl⟩:=Int.eq_ofNat_of_zero_le h1;unfold E5;show (((BitVec.ofInt 16 (m:Int) &&& BitVec.ofInt 16 1).toNat:Nat):Int)=(m:Int) % 2;rw [BitVec.toNat_and,BitVec.toNat_ofInt];have e1:(BitVec.ofInt 16 1).toNat=1:=rfl;rw [e1,Nat.and_one_is_mod];omega
def adR (on k:Int):Prop:=on / 2 ^ k.toNat % 2=1
theorem Xe {on:Int} (h:U16 on) (k:Nat):U16 (on / 2 ^ k):=by
 obtain ⟨h1,h2⟩:=h;have hp:(0:Int) < 2 ^ k:=Int.pow_pos (by omega);refine ⟨Int.ediv_nonneg h1 (Int.le_of_lt hp),?_⟩;exact Int.le_trans (Int.ediv_le_self _ h1) h2
theorem ajp {on:Int} (h:U16 on) {k:Nat} (hk:16<=k):on / 2 ^ k=0:=by
 obtain ⟨h1,h2⟩:=h;apply Int.ediv_eq_zero_of_lt h1;have:(2:Int) ^ 16<=2 ^ k:=by
  have:=Nat.pow_le_pow_right (show 0 < 2 by omega) hk
  exact_mod_cast this
 have e:(2:Int) ^ 16=65536:=by decide
 omega
theorem ajq {on k:Int} (h:U16 on):(w16 ((E5 IntKind.u16 (Int.fdiv on ((2:Int) ^ (min (Int.toNat k) 16))) (1:Int):Nat):Int)==(0:Int))=true↔¬ adR on k:=by
 have e:Int.fdiv on ((2:Int) ^ (min (Int.toNat k) 16))=on / 2 ^ (min (Int.toNat k) 16):=Int.fdiv_eq_ediv_of_nonneg _ (Int.le_of_lt (Int.pow_pos (by omega)));have hu:=Xe h (min (Int.toNat k) 16);rw [e,asa hu,amm ⟨by omega,by omega⟩,iX];unfold adR;by_cases hk:k.toNat<=16
 ·rw [Nat.min_eq_left hk]; omega
 ·rw [Nat.min_eq_right (by omega),ajp h (by omega),ajp h (by omega)]; omega
theorem anm {on k:Int} (h:U16 on) (hk:k<=1000000):∃ r,b.B9 on k=some r/\(r=true↔adR on k):=by
 unfold b.B9 b.Ny;obtain ⟨e,x',q1,q2⟩:=eW (step:=b.ou)
  (fun t x=>x=⟨on / 2 ^ t,k,false,(t:Int)⟩)
  (fun e x'=>e = .exit 0/\x'.s6=on / 2 ^ k.toNat)
  k.toNat (by unfold dZ; omega) (by
   rintro t _ ht rfl;unfold b.ou
   dsimp only
   have hu:=Xe h t;by_cases bh:(t:Int) < k
   ·rw [ai bh]
    have e1:aV ((t:Int)+1)=((t+1:Nat):Int):=by rw [cv (by omega) (by omega)]; omega
    have e2:Int.tdiv (on / 2 ^ t) 2=on / 2 ^ (t+1):=by
     rw [Int.tdiv_eq_ediv_of_nonneg hu.1,Int.ediv_ediv_of_nonneg (Int.le_of_lt (Int.pow_pos (by omega))),Int.pow_succ]
    rw [e1,e2,amm (Xe h (t+1))];exact .inl ⟨_,rfl,by omega,rfl⟩
   ·rw [aE bh]
    have:t=k.toNat:=by omega
    subst this;exact .inr ⟨_,_,rfl,rfl,rfl,rfl⟩) (x:=⟨on,k,false,(0:Int)⟩) (by
   show _=_;rw [Int.pow_zero,Int.ediv_one];rfl)
 rw [q1];obtain ⟨rfl,q3⟩:=q2;simp only [ax.iM,ax.iP,q3];have hu:=Xe h k.toNat;refine ⟨_,rfl,?_⟩;rw [iX,Int.tmod_eq_emod_of_nonneg hu.1];exact Iff.rfl
def nodeAt (s:b.aw) (p:b.Path) (j:Nat):b.Node:=s.nodes.get (p.nodes.get j).slot.toNat
def adS (s:b.aw) (p:b.Path) (j:Nat):Prop:=(nodeAt s p j).kind=3->adR (nodeAt s p j).s6 (p.kids.get j)
def adT (s:b.aw) (p:b.Path):Prop:=∀ j,j < p.kids.n->adS s p j
def aoP (s:b.aw):Prop:=∀ i,i < s.nodes.n->U16 (s.nodes.get i).s6
theorem ajr {s:b.aw} {p:b.Path} (h:uD s p) {j:Nat} (hj:j<=p.kids.n):lX s.graph.bu (p.nodes.get j):=by
 rw [h.2.2.2.2 j hj];exact HO h.1 h.2.1 p.kids j fun i hi=>h.2.2.1 i (by omega)
theorem DD {s:b.aw} {p:b.Path} (h:uD s p) {j:Nat} (hj:j<=p.kids.n):0<=(p.nodes.get j).slot/\(p.nodes.get j).slot < (s.nodes.n:Int):=by
 have:=L3 h.1 (ajr h hj);exact ⟨this.1,this.2.2⟩
theorem adU {s:b.aw} {p:b.Path} (h:uD s p) {j:Nat} (hj:j < p.kids.n):0<=p.kids.get j/\p.kids.get j < 16:=by
 have hg:=(sR s.graph).1 h.1.1;have hh:=HO h.1 h.2.1 p.kids j fun i hi=>h.2.2.1 i (by omega);have hs:=L3 h.1 hh;have hr:=(hg.2.2.1 (Y3 s p.kids j).slot.toNat (by omega)).1;have:=h.2.2.1 j hj;exact ⟨this.1,by have:=this.2; omega⟩
theorem aoQ (s:b.aw) (p:b.Path) (lZ:pR s) (hon:aoP s) (hk:p.kids.n<=400):∃ t e,b.yv s p=some (t,e)/\(e=0/\uD s p/\(t=true↔adT s p)\/e=8/\¬ uD s p/\t=false):=by
 unfold b.yv b.CN;obtain ⟨e,q1,q2⟩:=aac s p lZ hk;rw [q1];simp only [dB,db,aj];rcases q2 with ⟨rfl,ha⟩ | ⟨rfl,ha⟩
 ·have:((0:Int) != 0)=false:=rfl
  rw [this,aF];unfold b.wu;have key:=eJ (step:=b.iJ) p.kids.n (by unfold dZ; omega) (fun j=>⟨false,(0:Int),p.kids,((p.kids.n:Nat):Int),(j:Int),s,p⟩) (fun j=>adS s p j) (e0:=.exit 0) (er:=.ret) rfl rfl (fun x'=>x'.t4=false/\x'.t5=0) (xe:=⟨false,(0:Int),p.kids,((p.kids.n:Nat):Int),((p.kids.n:Nat):Int),s,p⟩) (fun j hj=>by
   have e1:aV ((j:Int)+1)=((j+1:Nat):Int):=by rw [cv (by omega) (by omega)]; omega
   have d1:decide ((j:Int) < ((p.kids.n:Nat):Int))=true:=ai (by omega);have d2:decide ((0:Int)<=(j:Int))=true:=ai (by omega);have d3:decide ((j:Int) < ((p.nodes.n:Nat):Int))=true:=ai (by have:=ha.2.2.2.1; omega);have ej:Int.toNat (j:Int)=j:=rfl;obtain ⟨s1,s2⟩:=DD ha (show j<=p.kids.n by omega);obtain ⟨k1,k2⟩:=adU ha hj;unfold b.iJ
   dsimp only
   rw [d1,d2,ej,d3,e1,ai s1,ai s2,aE (show ¬ p.kids.get j < 0 by omega)];simp only [cg,aj,HY];unfold adS nodeAt;by_cases h3:(s.nodes.get (p.nodes.get j).slot.toNat).kind=3
   ·rw [iX.2 h3,aj]
    have hsh:=ajq (k:=p.kids.get j) (hon (p.nodes.get j).slot.toNat (by omega));by_cases hb:adR (s.nodes.get (p.nodes.get j).slot.toNat).s6 (p.kids.get j)
    ·have:(w16 ((E5 IntKind.u16 (Int.fdiv (s.nodes.get (p.nodes.get j).slot.toNat).s6 ((2:Int) ^ (min (Int.toNat (p.kids.get j)) 16))) (1:Int):Nat):Int)==(0:Int))=false:=by
      rw [<- Bool.not_eq_true,hsh]; exact fun h=>h hb
     rw [this];exact ⟨fun _=>rfl,fun h=>absurd (fun _=>hb) h⟩
    ·rw [hsh.2 hb]
     exact ⟨fun h=>absurd (h h3) hb,fun _=>⟨_,rfl,rfl,rfl⟩⟩
   ·have:((s.nodes.get (p.nodes.get j).slot.toNat).kind==(3:Int))=false:=by rw [<- Bool.not_eq_true,Rx]; exact h3
    rw [this,aF];exact ⟨fun _=>rfl,fun h=>absurd (fun k=>absurd k h3) h⟩) (by
   unfold b.iJ
   dsimp only
   rw [aE (Int.lt_irrefl _)];rfl)
  have e0:goN b.iJ (⟨false,(0:Int),p.kids,((p.kids.n:Nat):Int),(0:Int),s,p⟩:b.mP)=goN b.iJ ⟨false,(0:Int),p.kids,((p.kids.n:Nat):Int),((0:Nat):Int),s,p⟩:=rfl;rw [e0];rcases key with ⟨h1,h2⟩ | ⟨x',h1,h2,j,h3,h4⟩
  ·rw [h1]
   exact ⟨true,0,rfl,.inl ⟨rfl,ha,fun _=>h2,fun _=>rfl⟩⟩
  ·rw [h1]
   refine ⟨x'.t4,x'.t5,rfl,.inl ⟨h2.2,ha,fun h=>by rw [h2.1] at h; simp at h,fun h=>absurd (h j h3) h4⟩⟩
 ·exact ⟨false,8,rfl,.inr ⟨rfl,ha,rfl⟩⟩
theorem aeL (s:b.aw) (p:b.Path) (hon:aoP s) (ha:uD s p) (hk:p.kids.n < 1000000):∃ t,b.qY s p=some t/\(t=true↔adT s p):=by
 unfold b.qY b.vr;have key:=eJ (step:=b.fM) p.kids.n (by unfold dZ; omega) (fun j=>⟨false,(j:Int),s,p⟩) (fun j=>adS s p j) (e0:=.exit 0) (er:=.ret) rfl rfl (fun x'=>x'.t4=false) (xe:=⟨false,((p.kids.n:Nat):Int),s,p⟩) (fun j hj=>by
  have e1:aV ((j:Int)+1)=((j+1:Nat):Int):=by rw [cv (by omega) (by omega)]; omega
  have d1:decide ((j:Int) < ((p.kids.n:Nat):Int))=true:=ai (by omega);have d2:decide ((0:Int)<=(j:Int))=true:=ai (by omega);have d3:decide ((j:Int) < ((p.nodes.n:Nat):Int))=true:=ai (by have:=ha.2.2.2.1; omega);have ej:Int.toNat (j:Int)=j:=rfl;obtain ⟨s1,s2⟩:=DD ha (show j<=p.kids.n by omega);obtain ⟨k1,k2⟩:=adU ha hj;obtain ⟨r,b1,b2⟩:=anm (k:=p.kids.get j) (hon (p.nodes.get j).slot.toNat (by omega)) (by omega);unfold b.fM b.vO
  dsimp only
  rw [ej,d1,d2,d3,e1,ai s1,ai s2,b1];simp only [cg,aj,dB,db];unfold adS nodeAt;by_cases h3:(s.nodes.get (p.nodes.get j).slot.toNat).kind=3
  ·rw [iX.2 h3,aj,<- b2]
   cases r with
   | true=>exact ⟨fun _=>rfl,fun h=>absurd (fun _=>rfl) h⟩
   | false=>exact ⟨fun h=>by have:=h h3; simp at this,fun _=>⟨_,rfl,rfl⟩⟩
  ·have:((s.nodes.get (p.nodes.get j).slot.toNat).kind==(3:Int))=false:=by rw [<- Bool.not_eq_true,Rx]; exact h3
   rw [this,aF];exact ⟨fun _=>rfl,fun h=>absurd (fun k=>absurd k h3) h⟩) (by
  unfold b.fM
  dsimp only
  rw [aE (Int.lt_irrefl _)];rfl)
 have e0:goN b.fM (⟨false,(0:Int),s,p⟩:b.iK)=goN b.fM ⟨false,((0:Nat):Int),s,p⟩:=rfl;rw [e0];rcases key with ⟨h1,h2⟩ | ⟨x',h1,h2,j,h3,h4⟩
 ·rw [h1]
  exact ⟨true,rfl,fun _=>h2,fun _=>rfl⟩
 ·rw [h1]
  exact ⟨x'.t4,rfl,fun h=>by rw [h2] at h; simp at h,fun h=>absurd (h j h3) h4⟩
theorem ann (s:b.aw) (p:b.Path) (lZ:pR s) (hon:aoP s) (hk:p.kids.n<=400):∃ t e,b.Ge s p=some (t,e)/\(e=0/\uD s p/\(t=true↔adT s p)\/e=8/\¬ uD s p/\t=false):=by
 unfold b.Ge b.I6;obtain ⟨e,q1,q2⟩:=Xd s p lZ hk;rw [q1];simp only [dB,db,aj];rcases q2 with ⟨rfl,ha⟩ | ⟨rfl,ha⟩
 ·have:((0:Int) != 0)=false:=rfl
  rw [this,aF];unfold b.Qu;obtain ⟨t,t1,t2⟩:=aeL s p hon ha (by omega);rw [t1];exact ⟨t,0,rfl,.inl ⟨rfl,ha,t2⟩⟩
 ·exact ⟨false,8,rfl,.inr ⟨rfl,ha,rfl⟩⟩
end Go.Proofs.YtckbdndhmcoihaaGreat.sc
end
section
namespace Go.Proofs.YtckbdndhmcoihaaGreat.b
open Go.K
noncomputable section
end
end Go.Proofs.YtckbdndhmcoihaaGreat.b
end
section
namespace Go.Proofs.YtckbdndhmcoihaaGreat.sc
open Go Go.K Go.Proofs.YtckbdndhmcoihaaGreat.nodes
structure yF (s:b.aw):Prop where
 aU:∀ i,i < s.nodes.n->CX (s.nodes.get i).bB
 on:∀ i,i < s.nodes.n->U16 (s.nodes.get i).s6
 kind:∀ i,i < s.ay.n->wA (s.ay.get i)
theorem yF.inn {s:b.aw} (h:yF s) (hf:Few s):pR s:=
 ⟨fun i hi=>⟨h.aU i hi,by have:=hf.lO i hi; omega⟩,h.kind,by have:=hf.aP; omega,by have:=hf.nodes; omega,by have:=hf.ay; omega,by have:=hf.az; omega⟩
theorem QW {P:Program} : ∀ {l:List KV},uW P l->∀ v∈l,xt P v
 | [],_,v,hv=>by simp at hv
 | x::l,h,v,hv=>by
  simp only [uW] at h;rcases dv.1 hv with rfl | hv
  ·exact h.1
  ·exact QW h.2 v hv
theorem wC {P:Program} {ks:List CK} {v:KV} (h:cl ⟨true,ks⟩ v=true) (hw:JH P v) (hd:xt P v) {j:Nat} {c:CK} (hj:ks[j]? = some c):K.kindOk c (v.cells.getD j .bA)=true/\JH P (v.cells.getD j .bA)/\xt P (v.cells.getD j .bA):=by
 obtain ⟨cs,rfl,hk⟩:=amW h;obtain ⟨u,h1,h2⟩:=y7 hk hj;have e:(KV.agg cs).cells.getD j .bA=u:=by
  show cs.getD j .bA=u;rw [eX,h1];rfl
 have hm:=fR h1;rw [e];have hd' : uW P cs:=by simpa [xt] using hd
 have hw' : zg P cs:=by simpa [JH] using hw
 exact ⟨h2,X8 hw' u hm,QW hd' u hm⟩
theorem adV {P:Program} {v:KV} {T:TypeId} (h:K.kindOk (.slice T) v=true) (hw:JH P v) (hd:xt P v) {i:Nat} (hi:i < lenOf v):cl (aX P T) (nN v i)=true/\JH P (nN v i)/\xt P (nN v i):=by
 cases v with
 | ts t m n es acc=>
  have ht:T=t:=by
   cases m <;> simp [K.kindOk] at h;exact h
  subst ht;simp only [xt] at hd;simp only [JH] at hw;obtain ⟨ak5,asb⟩:=hd;have hi:i < n:=hi;have hl:i < es.length:=by rw [<- ak5.len]; exact hi
  have e:acc i=es.getD i .bA:=ak5.acc i hi;have e2:es.getD i .bA=es[i]:=by rw [eX,cM hl]; rfl
  show cl (aX P T) (acc i)=true/\JH P (acc i)/\xt P (acc i);rw [e,e2];exact ⟨gM ak5.typed (cM hl),X8 hw.2.1 _ (L6 hl),QW asb _ (L6 hl)⟩
 | _=>simp [K.kindOk] at h
theorem Y4 {P:Program} {v:KV} (h:K.kindOk (.int .u8) v=true) (hw:JH P v):0<=av v/\av v<=255:=by
 cases v with
 | int k n=>
  have hk:k = .u8:=by
   have:decide (IntKind.u8=k)=true:=h;exact (QZ this).symm
  subst hk;have h:(Lit.int .u8 n).wf=true:=hw;simp only [Lit.wf,au,lR] at h;show 0<=n/\n<=255;exact h
 | _=>simp [K.kindOk] at h
theorem apD {P:Program} {v:KV} (h:K.kindOk (.int .u16) v=true) (hw:JH P v):0<=av v/\av v<=65535:=by
 cases v with
 | int k n=>
  have hk:k = .u16:=by
   have:decide (IntKind.u16=k)=true:=h;exact (QZ this).symm
  subst hk;have h:(Lit.int .u16 n).wf=true:=hw;simp only [Lit.wf,au,lR] at h;show 0<=n/\n<=65535;exact h
 | _=>simp [K.kindOk] at h
noncomputable abbrev lk (a:KV):b.aw:=b.de (eE Tryz.prog (bI Tryz.prog dx) 34 a)
theorem aoR:aX Tryz.prog 34=⟨true,[.slice 111,.slice 35,.slice 77,.slice 88,.slice 91,.int .i64,.int .i64]⟩:=by kernel_rfl
theorem aqY:∃ ks,aX Tryz.prog 77=⟨true,ks⟩/\ks[13]? = some (.int .u16)/\ks[19]? = some (.int .u8)/\ks[20]? = some (.int .u8)/\ks[21]? = some (.int .u8)/\ks[22]? = some (.int .u8)/\ks[23]? = some (.int .u8):=⟨(aX Tryz.prog 77).ks,by kernel_rfl,by kernel_rfl,by kernel_rfl,by kernel_rfl,by kernel_rfl,by kernel_rfl,by kernel_rfl⟩
theorem aoS:∃ ks,aX Tryz.prog 88=⟨true,ks⟩/\ks[2]? = some (.slice 172):=⟨(aX Tryz.prog 88).ks,by kernel_rfl,by kernel_rfl⟩
theorem aoT:∃ ks,aX Tryz.prog 172=⟨true,ks⟩/\ks[0]? = some (.int .u8):=⟨(aX Tryz.prog 172).ks,by kernel_rfl,by kernel_rfl⟩
theorem afD (a:KV):(lk a).nodes.n=lenOf (a.cells.getD 2 .bA):=by kernel_rfl
theorem UN (a:KV):(lk a).ay.n=lenOf (a.cells.getD 3 .bA):=by kernel_rfl
theorem aqZ (a:KV) (i:Nat):((lk a).nodes.get i).s6=av ((nN (a.cells.getD 2 .bA) i).cells.getD 13 .bA):=by kernel_rfl
theorem apE (a:KV) (i:Nat):((lk a).nodes.get i).bB.aU=⟨av ((nN (a.cells.getD 2 .bA) i).cells.getD 19 .bA),av ((nN (a.cells.getD 2 .bA) i).cells.getD 20 .bA),av ((nN (a.cells.getD 2 .bA) i).cells.getD 21 .bA),av ((nN (a.cells.getD 2 .bA) i).cells.getD 22 .bA),av ((nN (a.cells.getD 2 .bA) i).cells.getD 23 .bA)⟩:=by kernel_rfl
theorem afE (a:KV) (i:Nat):((lk a).ay.get i).aG.n=lenOf ((nN (a.cells.getD 3 .bA) i).cells.getD 2 .bA):=by kernel_rfl
theorem aoU (a:KV) (i k:Nat):(((lk a).ay.get i).aG.get k).kind=av ((nN ((nN (a.cells.getD 3 .bA) i).cells.getD 2 .bA) k).cells.getD 0 .bA):=by kernel_rfl
theorem ak6 {a:KV} (h:cl (aX Tryz.prog 34) a=true) (hw:JH Tryz.prog a) (hd:xt Tryz.prog a):yF (lk a):=by
 rw [aoR] at h;obtain ⟨i1,i2,i3⟩:=wC h hw hd (j:=2) rfl;obtain ⟨t1,t2,t3⟩:=wC h hw hd (j:=3) rfl;obtain ⟨ks,l0,l13,l19,l20,l21,l22,l23⟩:=aqY;obtain ⟨kt,m0,m2⟩:=aoS;obtain ⟨kp,n0,n1⟩:=aoT;have node:∀ i,i < (lk a).nodes.n->∀ j c,ks[j]? = some c->K.kindOk c ((nN (a.cells.getD 2 .bA) i).cells.getD j .bA)=true/\JH Tryz.prog ((nN (a.cells.getD 2 .bA) i).cells.getD j .bA):=fun i hi j c hj=>by
  rw [afD] at hi;obtain ⟨q1,q2,q3⟩:=adV i1 i2 i3 hi;rw [l0] at q1;obtain ⟨r1,r2,_⟩:=wC q1 q2 q3 hj;exact ⟨r1,r2⟩
 refine ⟨fun i hi=>?_,fun i hi=>?_,fun i hi k hk=>?_⟩
 ·unfold CX
  rw [apE];exact ⟨Y4 (node i hi 19 _ l19).1 (node i hi 19 _ l19).2,Y4 (node i hi 20 _ l20).1 (node i hi 20 _ l20).2,Y4 (node i hi 21 _ l21).1 (node i hi 21 _ l21).2,Y4 (node i hi 22 _ l22).1 (node i hi 22 _ l22).2,Y4 (node i hi 23 _ l23).1 (node i hi 23 _ l23).2⟩
 ·rw [aqZ]
  exact apD (node i hi 13 _ l13).1 (node i hi 13 _ l13).2
 ·rw [UN] at hi
  obtain ⟨q1,q2,q3⟩:=adV t1 t2 t3 hi;rw [m0] at q1;obtain ⟨r1,r2,r3⟩:=wC q1 q2 q3 m2;rw [afE] at hk;obtain ⟨c1,c2,c3⟩:=adV r1 r2 r3 hk;rw [n0] at c1;rw [aoU];obtain ⟨x0,y0,_⟩:=wC c1 c2 c3 n1;exact (Y4 x0 y0).1
theorem UO {P:Program} : ∀ {ts:List TypeId} {xs:List KV} {i:Nat} {t:TypeId},j2 P ts xs=true->zg P xs->uW P xs->ts[i]? = some t->cl (aX P t) (xs.getD i .bA)=true/\JH P (xs.getD i .bA)/\xt P (xs.getD i .bA)
 | [],_,_,_,_,_,_,h=>by simp at h
 | _::_,[],_,_,h,_,_,_=>by simp [j2] at h
 | t::ts,v::vs,i,u,h,hw,hd,ht=>by
  simp only [j2,au] at h;cases i with
  | zero=>
   rw [List.getElem?_cons_zero] at ht;rw [<- Fm ht];exact ⟨h.1,hw.1,hd.1⟩
  | succ i=>
   rw [Q0] at ht;have:=UO (ts:=ts) (xs:=vs) (i:=i) h.2 hw.2 hd.2 ht;rw [List.getD_cons_succ];exact this
theorem ak7 {ts:List TypeId} {xs:List KV} (i:Nat) (ht:ts[i]? = some 34) (h:j2 Tryz.prog ts xs=true) (hw:zg Tryz.prog xs) (hd:uW Tryz.prog xs):yF (lk (xs.getD i .bA)):=by
 obtain ⟨h1,h2,h3⟩:=UO h hw hd ht;exact ak6 h1 h2 h3
end Go.Proofs.YtckbdndhmcoihaaGreat.sc
end
section
namespace Go.Proofs.YtckbdndhmcoihaaGreat.sc
open Go Go.K
def QX {α:Type} [Inhabited α] (l:Sl α):Prop:=∀ i,l.n<=i->l.get i=default
structure yG (s:b.aw):Prop where
 kids:QX s.graph.kids
 nodes:QX s.nodes
 ay:QX s.ay
 az:QX s.az
 aG:∀ i,i < s.ay.n->QX (s.ay.get i).aG
 asc:∀ i,i < s.graph.kids.n->(s.graph.kids.get i).n<=8796093022208
theorem HP {P:Program} {v:KV} {T:TypeId} (h:K.kindOk (.slice T) v=true) (hw:JH P v) (hd:xt P v) {i:Nat} (hi:lenOf v<=i):nN v i = .bA:=by
 cases v with
 | ts t m n es acc=>
  simp only [xt] at hd;simp only [JH] at hw;have hl:=hd.1.len;have hi:n<=i:=hi;show acc i = .bA;rw [hw.2.2.1];show es.getD i .bA = .bA;rw [eX,List.getElem?_eq_none (by omega)];rfl
 | _=>simp [K.kindOk] at h
theorem apF {P:Program} {v:KV} {T:TypeId} (h:K.kindOk (.slice T) v=true) (hw:JH P v):lenOf v * P.bytesOf T<=reachBytes/\v.cells.getD 0 .bA=v:=by
 cases v with
 | ts t m n es acc=>
  have ht:T=t:=by
   cases m <;> simp [K.kindOk] at h;exact h
  subst ht;simp only [JH] at hw;exact ⟨hw.2.2.2,rfl⟩
 | _=>simp [K.kindOk] at h
theorem aoV:Tryz.prog.bytesOf 32=16:=by kernel_rfl
theorem aq0:aX Tryz.prog 35=⟨false,[.slice 32]⟩:=by kernel_rfl
theorem ajs (a:KV):(lk a).graph.kids.n=lenOf (a.cells.getD 1 .bA):=by kernel_rfl
theorem aoW (a:KV):(lk a).az.n=lenOf (a.cells.getD 4 .bA):=by kernel_rfl
theorem aoX (a:KV) (i:Nat):((lk a).graph.kids.get i).n=lenOf ((nN (a.cells.getD 1 .bA) i).cells.getD 0 .bA):=by kernel_rfl
theorem ak8 (a:KV) (i:Nat):(lk a).graph.kids.get i=(fun e=>cT b.dW (eE Tryz.prog (bI Tryz.prog 5) 35 e)) (nN (a.cells.getD 1 .bA) i):=by kernel_rfl
theorem ak9:(fun e=>cT b.dW (eE Tryz.prog (bI Tryz.prog 5) 35 e)) .bA=default:=by kernel_rfl
theorem ajt (a:KV) (i:Nat):(lk a).nodes.get i=(fun e=>b.nV (eE Tryz.prog (bI Tryz.prog 5) 77 e)) (nN (a.cells.getD 2 .bA) i):=by kernel_rfl
theorem aju:(fun e=>b.nV (eE Tryz.prog (bI Tryz.prog 5) 77 e)) .bA=default:=by kernel_rfl
theorem ajv (a:KV) (i:Nat):(lk a).ay.get i=(fun e=>b.nW (eE Tryz.prog (bI Tryz.prog 5) 88 e)) (nN (a.cells.getD 3 .bA) i):=by kernel_rfl
theorem ajw:(fun e=>b.nW (eE Tryz.prog (bI Tryz.prog 5) 88 e)) .bA=default:=by kernel_rfl
theorem ala (a:KV) (i:Nat):(lk a).az.get i=(fun e=>b.fj (eE Tryz.prog (bI Tryz.prog 5) 91 e)) (nN (a.cells.getD 4 .bA) i):=by kernel_rfl
theorem alb:(fun e=>b.fj (eE Tryz.prog (bI Tryz.prog 5) 91 e)) .bA=default:=by kernel_rfl
theorem ajx (a:KV) (i k:Nat):((lk a).ay.get i).aG.get k=(fun e=>b.Bx (eE Tryz.prog (bI Tryz.prog 4) 172 e)) (nN ((nN (a.cells.getD 3 .bA) i).cells.getD 2 .bA) k):=by kernel_rfl
theorem ajy:(fun e=>b.Bx (eE Tryz.prog (bI Tryz.prog 4) 172 e)) .bA=default:=by kernel_rfl
theorem agY {a:KV} (h:cl (aX Tryz.prog 34) a=true) (hw:JH Tryz.prog a) (hd:xt Tryz.prog a):yG (lk a):=by
 rw [aoR] at h;obtain ⟨g1,g2,g3⟩:=wC h hw hd (j:=1) rfl;obtain ⟨i1,i2,i3⟩:=wC h hw hd (j:=2) rfl;obtain ⟨t1,t2,t3⟩:=wC h hw hd (j:=3) rfl;obtain ⟨x1,x2,x3⟩:=wC h hw hd (j:=4) rfl;obtain ⟨kt,m0,m2⟩:=aoS;refine ⟨fun i hi=>?_,fun i hi=>?_,fun i hi=>?_,fun i hi=>?_,fun i hi k hk=>?_,fun i hi=>?_⟩
 ·rw [ajs] at hi
  rw [ak8,HP g1 g2 g3 hi,ak9]
 ·rw [afD] at hi
  rw [ajt,HP i1 i2 i3 hi,aju]
 ·rw [UN] at hi
  rw [ajv,HP t1 t2 t3 hi,ajw]
 ·rw [aoW] at hi
  rw [ala,HP x1 x2 x3 hi,alb]
 ·rw [UN] at hi
  obtain ⟨q1,q2,q3⟩:=adV t1 t2 t3 hi;rw [m0] at q1;obtain ⟨r1,r2,r3⟩:=wC q1 q2 q3 m2;rw [afE] at hk;rw [ajx,HP r1 r2 r3 hk,ajy]
 ·rw [ajs] at hi
  obtain ⟨q1,q2,q3⟩:=adV g1 g2 g3 hi;rw [aq0] at q1;have k:=apF (amX q1) q2;have k1:=k.1;have hr:reachBytes=140737488351232:=by decide
  rw [aoV,hr] at k1;rw [aoX,k.2];omega
theorem alc {ts:List TypeId} {xs:List KV} (i:Nat) (ht:ts[i]? = some 34) (h:j2 Tryz.prog ts xs=true) (hw:zg Tryz.prog xs) (hd:uW Tryz.prog xs):yG (lk (xs.getD i .bA)):=by
 obtain ⟨h1,h2,h3⟩:=UO h hw hd ht;exact agY h1 h2 h3
end Go.Proofs.YtckbdndhmcoihaaGreat.sc
end
section
namespace Go.Proofs.YtckbdndhmcoihaaGreat.sc
open Go Go.K Go.Proofs.YtckbdndhmcoihaaGreat.nodes
theorem ajz {X:Type} {step:X->ax X} {n m:Nat} (f g:Int->X) (o:Nat->Option Bool) {e0 er:aq.ae} (h0:ku e0=false) (hr:ku er=false) (hn:n < 1000000) (hm:n<=m) (ho:∀ j,j < n->(o j).isSome=true)
  (h:∀ j:Nat,step (f (j:Int))=cond (decide ((j:Int) < (n:Int))) (cond (decide (0<=(j:Int))&&decide ((j:Int) < (n:Int))) (cond (decide (0<=(j:Int))&&decide ((j:Int) < (m:Int))) (cond (o j).isSome (cond (!((o j).getD default)) (.out er (g (j:Int))) (.next (f (aV ((j:Int)+1))))) .fail) .fail) .fail) (.out e0 (f (j:Int)))) :
  (goN step (f 0) = .out e0 (f (n:Int))/\∀ j,j < n->o j=some true)\/∃ j,j < n/\goN step (f 0) = .out er (g (j:Int))/\o j=some false:=by
 have key:=eJ (step:=step) n (by unfold dZ; omega) (fun j=>f (j:Int)) (fun j=>o j=some true) h0 hr (fun x'=>∃ j,j < n/\x' = g (j:Int)/\o j=some false) (xe:=f (n:Int)) (fun j hj=>by
  have e1:aV ((j:Int)+1)=((j+1:Nat):Int):=by rw [cv (by omega) (by omega)]; omega
  have d1:decide ((j:Int) < ((n:Nat):Int))=true:=ai (by omega);have d2:decide ((0:Int)<=(j:Int))=true:=ai (by omega);have d3:decide ((j:Int) < ((m:Nat):Int))=true:=ai (by omega);have:=ho j hj;rw [h j,d1,d2,d3,e1];cases q:o j with
  | none=>rw [q] at this; simp at this
  | some c=>
   cases c with
   | true=>exact ⟨fun _=>rfl,fun k=>absurd rfl k⟩
   | false=>exact ⟨fun k=>by simp at k,fun _=>⟨_,rfl,j,hj,rfl,q⟩⟩) (by
  rw [h n,aE (Int.lt_irrefl _)];rfl)
 rcases key with ⟨h1,h2⟩ | ⟨x',h1,⟨j,h2,h3,h4⟩,_⟩
 ·exact .inl ⟨h1,h2⟩
 ·exact .inr ⟨j,h2,by rw [<- h3]; exact h1,h4⟩
theorem amn {X:Type} {step:X->ax X} {n m:Nat} (f g:Int->X) (c:Nat->Bool) {e0 er:aq.ae} (h0:ku e0=false) (hr:ku er=false) (hn:n < 1000000) (hm:n<=m)
  (h:∀ j:Nat,step (f (j:Int))=cond (decide ((j:Int) < (n:Int))) (cond (decide (0<=(j:Int))&&decide ((j:Int) < (n:Int))) (cond (decide (0<=(j:Int))&&decide ((j:Int) < (m:Int))) (cond (!(c j)) (.out er (g (j:Int))) (.next (f (aV ((j:Int)+1))))) .fail) .fail) (.out e0 (f (j:Int)))) :
  (goN step (f 0) = .out e0 (f (n:Int))/\∀ j,j < n->c j=true)\/∃ j,j < n/\goN step (f 0) = .out er (g (j:Int))/\c j=false:=by
 rcases ajz f g (fun j=>some (c j)) h0 hr hn hm (fun _ _=>rfl) h with ⟨h1,h2⟩ | ⟨j,h1,h2,h3⟩
 ·exact .inl ⟨h1,fun j hj=>Fm (h2 j hj)⟩
 ·exact .inr ⟨j,h1,h2,Fm h3⟩
theorem aoY {s:b.aw} (hf:Few s) (ht:yG s):∀ i,i < s.graph.kids.n->(s.graph.kids.get i).n<=400:=by
 have h:=hf.g6;have hk:=ht.asc;have h1:=hf.aP;have h2:=hf.kids
 revert h hk h1 h2
 generalize s.graph=g;intro h hk h1 h2;unfold b.nU b.uf at h;rw [aE (by omega),aE (by omega)] at h;simp only [aF] at h;obtain ⟨e,x',q1,q2⟩:=eW (step:=b.iq)
  (fun t x=>∃ m:Int,x=⟨false,m,(t:Int),g⟩/\0<=m/\m<=400/\∀ i,i < t->(g.kids.get i).n<=400)
  (fun e x'=>e = .exit 0/\(∀ i,i < g.kids.n->(g.kids.get i).n<=400)\/e = .ret/\x'.t2=true)
  g.kids.n (by unfold dZ; omega) (by
   rintro t _ ht ⟨m,rfl,m1,m2,m3⟩;have et:Int.toNat (t:Int)=t:=rfl;have d1:decide ((0:Int)<=(t:Int))=true:=ai (by omega);unfold b.iq
   dsimp only
   rw [et,d1];by_cases bh:(t:Int) < ((g.kids.n:Nat):Int)
   ·rw [ai bh]
    simp only [cg,aj];have e1:aV ((t:Int)+1)=((t+1:Nat):Int):=by rw [cv (by omega) (by omega)]; omega
    have hkt:=hk t (by omega);rw [e1];by_cases hb:aV (m+(((g.kids.get t).n:Nat):Int)) > 400
    ·rw [ai hb]
     exact .inr ⟨_,_,rfl,rfl,.inr ⟨rfl,rfl⟩⟩
    ·rw [aE hb]
     have hv:aV (m+(((g.kids.get t).n:Nat):Int))=m+(((g.kids.get t).n:Nat):Int):=cv (by omega) (by omega);rw [hv] at hb ⊢;refine .inl ⟨_,rfl,by omega,_,rfl,by omega,by omega,fun i hi=>?_⟩;by_cases hit:i=t
     ·subst hit; omega
     ·exact m3 i (by omega)
   ·rw [aE bh]
    exact .inr ⟨_,_,rfl,rfl,.inl ⟨rfl,fun i hi=>m3 i (by omega)⟩⟩) (x:=⟨false,(0:Int),(0:Int),g⟩) ⟨0,rfl,by omega,by omega,fun i hi=>absurd hi (kA i)⟩
 rw [q1] at h;rcases q2 with ⟨rfl,q2⟩ | ⟨rfl,q2⟩
 ·exact q2
 ·have h:some x'.t2=some false:=h
  rw [q2] at h;simp at h
theorem aoZ {l:Sl b.cN} (h:b.mD l=some false):∀ i,i < l.n->(l.get i).dt.n<=20000:=by
 unfold b.mD b.ui at h;obtain ⟨e,x',q1,rfl,q2,q3⟩:=eW (step:=b.jb)
  (fun t x=>∃ m:Int,x=⟨l,false,m,(t:Int)⟩/\0<=m/\m<=100000 * (t:Int)/\∀ i,i < t->min (((l.get i).dt.n:Nat):Int) 100000<=m)
  (fun e x'=>e = .exit 0/\x'.l=l/\(l.n<=40->∀ i,i < l.n->min (((l.get i).dt.n:Nat):Int) 100000<=x'.n))
  100 (by unfold dZ; omega) (by
   rintro t _ ht ⟨m,rfl,m1,m2,m3⟩;have et:Int.toNat (t:Int)=t:=rfl;have d1:decide ((0:Int)<=(t:Int))=true:=ai (by omega);unfold b.jb
   dsimp only
   rw [et,d1];by_cases bh:(t:Int) < ((l.n:Nat):Int)
   ·rw [ai bh]
    simp only [cg,aj];by_cases hb:(t:Int) < 100
    ·rw [ai hb]
     have e1:aV ((t:Int)+1)=((t+1:Nat):Int):=by rw [cv (by omega) (by omega)]; omega
     have e2:aV (m+min (((l.get t).dt.n:Nat):Int) 100000)=m+min (((l.get t).dt.n:Nat):Int) 100000:=cv (by omega) (by omega);rw [e1,e2];refine .inl ⟨_,rfl,by omega,_,rfl,by omega,by omega,fun i hi=>?_⟩;by_cases hit:i=t
     ·subst hit; omega
     ·have:=m3 i (by omega); omega
    ·rw [aE hb]
     exact .inr ⟨_,_,rfl,rfl,rfl,rfl,fun h40=>by omega⟩
   ·rw [aE bh]
    exact .inr ⟨_,_,rfl,rfl,rfl,rfl,fun _ i hi=>m3 i (by omega)⟩) (x:=⟨l,false,(0:Int),(0:Int)⟩) ⟨0,rfl,by omega,by omega,fun i hi=>absurd hi (kA i)⟩
 rw [q1] at h;have h:cond (decide (((x'.l.n:Nat):Int) > 40)) (some true) (some (decide (x'.n > 20000)))=some false:=h;rw [q2] at h;by_cases h40:((l.n:Nat):Int) > 40
 ·rw [ai h40] at h; simp at h
 ·rw [aE h40] at h
  have h:some (decide (x'.n > 20000))=some false:=h;have hx : ¬ x'.n > 20000:=of_decide_eq_false (Fm h);intro i hi;have:=q3 (by omega) i hi;omega
theorem Rt {X:Type} [Inhabited X] {st:ax X} {e0:aq.ae} {xf:X} {xr:Nat->X} {n:Nat} {C:Nat->Prop} (t:X->Bool) (hk:(st = .out e0 xf/\∀ j,j < n->C j)\/∃ j,j < n/\st = .out .ret (xr j)/\¬ C j) (ht:∀ j,t (xr j)=false) (h1:nf e0 e0=true) (h2:nf .ret e0=false) :
  ∃ r,cond (st.by e0) (some true) (cond (st.by .ret) (some (t st.st)) none)=some r/\(r=true↔∀ j,j < n->C j):=by
 rcases hk with ⟨rfl,h⟩ | ⟨j,hj,rfl,h⟩
 ·rw [ax.iM,h1]
  exact ⟨true,rfl,fun _=>h,fun _=>rfl⟩
 ·rw [ax.iM,h2,ax.iP,ht j]
  exact ⟨false,rfl,fun k=>by simp at k,fun k=>absurd (k j hj) h⟩
theorem agZ {c:Bool} {p:Prop} (h:c=true↔p) (k:c=false) : ¬ p:=fun q=>by rw [h.2 q] at k; simp at k
theorem afF {X:Type} {st:ax X} {A:Prop} {n:Nat} {c:Nat->Bool} {C:Nat->Prop} {xr:Nat->X} (h:(A/\∀ j,j < n->c j=true)\/∃ j,j < n/\st = .out .ret (xr j)/\c j=false) (hc:∀ j,c j=true↔C j):(A/\∀ j,j < n->C j)\/∃ j,j < n/\st = .out .ret (xr j)/\¬ C j:=by
 rcases h with ⟨h,k⟩ | ⟨j,hj,h,k⟩
 ·exact .inl ⟨h,fun j hj=>(hc j).1 (k j hj)⟩
 ·exact .inr ⟨j,hj,h,agZ (hc j) k⟩
theorem Xf {X:Type} {st:ax X} {A:Prop} {n:Nat} {o:Nat->Option Bool} {C:Nat->Prop} {xr:Nat->X} (h:(A/\∀ j,j < n->o j=some true)\/∃ j,j < n/\st = .out .ret (xr j)/\o j=some false) (hc:∀ j,j < n->∃ r,o j=some r/\(r=true↔C j)):(A/\∀ j,j < n->C j)\/∃ j,j < n/\st = .out .ret (xr j)/\¬ C j:=by
 rcases h with ⟨h,k⟩ | ⟨j,hj,h,k⟩
 ·refine .inl ⟨h,fun j hj=>?_⟩
  obtain ⟨r,h1,h2⟩:=hc j hj;rw [k j hj] at h1;exact h2.1 (Fm h1).symm
 ·refine .inr ⟨j,hj,h,?_⟩
  obtain ⟨r,h1,h2⟩:=hc j hj;rw [k] at h1;exact agZ h2 (Fm h1).symm
theorem Ru {o:Nat->Option Bool} {n:Nat} {C:Nat->Prop} (h:∀ j,j < n->∃ r,o j=some r/\(r=true↔C j)):∀ j,j < n->(o j).isSome=true:=fun j hj=>by
 obtain ⟨r,h1,_⟩:=h j hj;rw [h1]; rfl
theorem Xg {n m:Nat} : (((n:Nat):Int) != ((m:Nat):Int))=true↔n≠m:=by rw [bne_iff_ne]; omega
theorem ao0 (a c:b.Slot):((a.gen==c.gen)&&((a.live==c.live)&&true))=true↔a=c:=by
 obtain ⟨a0,a1⟩:=a;obtain ⟨c0,c1⟩:=c;simp
theorem ajA (a c:b.fo) (hn:a.aP.n < 1000000):∃ r,b.yw a c=some r/\(r=true↔nJ a.aP c.aP):=by
 unfold b.yw b.CP;refine ke Xg (fun h k=>h k.1) fun hq=>?_;have hq:a.aP.n=c.aP.n:=Classical.byContradiction hq;obtain ⟨r,h1,h2⟩:=Rt (fun x=>x.t4) (afF (amn (step:=b.pK) (n:=a.aP.n) (m:=c.aP.n) (fun i=>⟨false,i,a,c⟩) (fun i=>⟨false,i,a,c⟩) (fun j=>((a.aP.get j).gen==(c.aP.get j).gen)&&(((a.aP.get j).live==(c.aP.get j).live)&&true)) (e0:=.exit 0) (er:=.ret) rfl rfl hn (by omega) (fun j=>rfl)) (fun j=>ao0 _ _)) (fun _=>rfl) rfl rfl;exact ⟨r,h1,h2.trans ⟨fun h=>⟨hq,h⟩,fun h=>h.2⟩⟩
def adW (g h:b.cA):Prop:=nJ g.bu.aP h.bu.aP/\g.kids.n=h.kids.n/\∀ i,i < g.kids.n->nJ (g.kids.get i) (h.kids.get i)
theorem ajB (g h:b.cA) (hn:g.bu.aP.n < 1000000) (hk:g.kids.n < 1000000) (hl:∀ i,i < g.kids.n->(g.kids.get i).n < 1000000):∃ r,b.yx g h=some r/\(r=true↔adW g h):=by
 unfold b.yx b.Ka b.CQ;obtain ⟨r,q1,q2⟩:=ajA g.bu h.bu hn;rw [q1];simp only [dB,db,aj];refine ke (DC q2) (fun h k=>h k.1) fun k1=>?_;refine ke Xg (fun h k=>h k.2.1) fun k2=>?_;have k1:=Classical.byContradiction k1;have k2:g.kids.n=h.kids.n:=Classical.byContradiction k2;have ho:∀ j,j < g.kids.n->∃ r,b.fP (g.kids.get j) (h.kids.get j)=some r/\(r=true↔nJ (g.kids.get j) (h.kids.get j)):=fun j hj=>UL _ _ (hl j hj);obtain ⟨r,h1,h2⟩:=Rt (fun x=>x.t4) (Xf (ajz (step:=b.pL) (n:=g.kids.n) (m:=h.kids.n) (fun i=>⟨false,i,g,h⟩) (fun i=>⟨false,i,g,h⟩) (fun j=>b.fP (g.kids.get j) (h.kids.get j)) (e0:=.exit 0) (er:=.ret) rfl rfl hk (by omega) (Ru ho) (fun j=>rfl)) ho) (fun _=>rfl) rfl rfl;exact ⟨r,h1,h2.trans ⟨fun h=>⟨k1,k2,h⟩,fun h=>h.2.2⟩⟩
def Xh (t u:b.cN):Prop:=t.w=u.w/\t.h=u.h/\nJ t.dt u.dt
theorem ano (a c:b.Color):((a.e0==c.e0)&&((a.e1==c.e1)&&((a.e2==c.e2)&&((a.e3==c.e3)&&true))))=true↔a=c:=by
 obtain ⟨a0,a1,a2,a3⟩:=a;obtain ⟨c0,c1,c2,c3⟩:=c;simp
theorem anp (t u:b.cN) (hn:t.dt.n < 1000000):∃ r,b.rv t u=some r/\(r=true↔Xh t u):=by
 unfold b.rv b.CR;refine ke neI (fun h k=>h k.1) fun k1=>?_;refine ke neI (fun h k=>h k.2.1) fun k2=>?_;refine ke Xg (fun h k=>h k.2.2.1) fun k3=>?_;have k1:=Classical.byContradiction k1;have k2:=Classical.byContradiction k2;have k3:t.dt.n=u.dt.n:=Classical.byContradiction k3;obtain ⟨r,h1,h2⟩:=Rt (fun x=>x.t4) (afF (amn (step:=b.pM) (n:=t.dt.n) (m:=u.dt.n) (fun i=>⟨false,i,t,u⟩) (fun i=>⟨false,i,t,u⟩) (fun j=>((t.dt.get j).e0==(u.dt.get j).e0)&&(((t.dt.get j).e1==(u.dt.get j).e1)&&(((t.dt.get j).e2==(u.dt.get j).e2)&&(((t.dt.get j).e3==(u.dt.get j).e3)&&true)))) (e0:=.exit 0) (er:=.ret) rfl rfl hn (by omega) (fun j=>rfl)) (fun j=>ano _ _)) (fun _=>rfl) rfl rfl;exact ⟨r,h1,h2.trans ⟨fun h=>⟨k1,k2,k3,h⟩,fun h=>h.2.2.2⟩⟩
theorem ald (a c:Sl b.cN) (hn:a.n < 1000000) (hl:∀ i,i < a.n->(a.get i).dt.n < 1000000):∃ r,b.qZ a c=some r/\(r=true↔a.n=c.n/\∀ i,i < a.n->Xh (a.get i) (c.get i)):=by
 unfold b.qZ b.vt;refine ke Xg (fun h k=>h k.1) fun hq=>?_;have hq:a.n=c.n:=Classical.byContradiction hq;have ho:∀ j,j < a.n->∃ r,b.rv (a.get j) (c.get j)=some r/\(r=true↔Xh (a.get j) (c.get j)):=fun j hj=>anp _ _ (hl j hj);obtain ⟨r,h1,h2⟩:=Rt (fun x=>x.t4) (Xf (ajz (step:=b.mR) (n:=a.n) (m:=c.n) (fun i=>⟨a,c,false,i⟩) (fun i=>⟨a,c,false,i⟩) (fun j=>b.rv (a.get j) (c.get j)) (e0:=.exit 0) (er:=.ret) rfl rfl hn (by omega) (Ru ho) (fun j=>rfl)) ho) (fun _=>rfl) rfl rfl;exact ⟨r,h1,h2.trans ⟨fun h=>⟨hq,h⟩,fun h=>h.2⟩⟩
def Rv (p q:b.Prim):Prop:=p.kind=q.kind/\nJ p.index q.index
def Y5 (m k:b.dm):Prop:=nJ m.bN k.bN/\nJ m.uV k.uV/\m.aG.n=k.aG.n/\∀ i,i < m.aG.n->Rv (m.aG.get i) (k.aG.get i)
theorem ao1 (a c:b.tt):((a.e0==c.e0)&&((a.e1==c.e1)&&true))=true↔a=c:=by
 obtain ⟨a0,a1⟩:=a;obtain ⟨c0,c1⟩:=c;simp
theorem ajC (m k:b.dm) (hn:m.aG.n=k.aG.n) (hb:m.aG.n < 1000000) (hl:∀ i,i < m.aG.n->(m.aG.get i).index.n < 1000000) :
  (goN b.gV (⟨false,(0:Int),m,k⟩:b.je) = .out (.exit 4) ⟨false,((m.aG.n:Nat):Int),m,k⟩/\∀ i,i < m.aG.n->Rv (m.aG.get i) (k.aG.get i))\/
  ∃ x',goN b.gV (⟨false,(0:Int),m,k⟩:b.je) = .out .ret x'/\x'.t4=false/\∃ i,i < m.aG.n/\¬ Rv (m.aG.get i) (k.aG.get i):=by
 exact eJ (step:=b.gV) m.aG.n (by unfold dZ; omega) (fun j=>⟨false,(j:Int),m,k⟩) (fun i=>Rv (m.aG.get i) (k.aG.get i)) (e0:=.exit 4) (er:=.ret) rfl rfl (fun x'=>x'.t4=false) (xe:=⟨false,((m.aG.n:Nat):Int),m,k⟩) (fun j hj=>by
  have e1:aV ((j:Int)+1)=((j+1:Nat):Int):=by rw [cv (by omega) (by omega)]; omega
  have d1:decide ((j:Int) < ((m.aG.n:Nat):Int))=true:=ai (by omega);have d2:decide ((0:Int)<=(j:Int))=true:=ai (by omega);have d3:decide ((j:Int) < ((k.aG.n:Nat):Int))=true:=ai (by omega);have ej:Int.toNat (j:Int)=j:=rfl;obtain ⟨r,q1,q2⟩:=Y1 (m.aG.get j).index (k.aG.get j).index (hl j hj);unfold b.gV b.Aq
  dsimp only
  rw [d1,d2,d3,ej,e1,q1];simp only [cg,aj,dB,db];by_cases hk:(m.aG.get j).kind=(k.aG.get j).kind
  ·rw [bne_eq_false_iff_eq.2 hk]
   cases r with
   | true=>exact ⟨fun _=>rfl,fun h=>absurd ⟨hk,q2.1 rfl⟩ h⟩
   | false=>exact ⟨fun h=>by have:=q2.2 h.2; simp at this,fun _=>⟨_,rfl,rfl⟩⟩
  ·rw [bne_iff_ne.2 hk]
   exact ⟨fun h=>absurd h.1 hk,fun _=>⟨_,rfl,rfl⟩⟩) (by
  unfold b.gV
  dsimp only
  rw [aE (Int.lt_irrefl _)];rfl)
theorem ale (m k:b.dm) (hv:m.bN.n < 1000000) (hu:m.uV.n < 1000000) (hb:m.aG.n < 1000000) (hl:∀ i,i < m.aG.n->(m.aG.get i).index.n < 1000000):∃ r,b.rz m k=some r/\(r=true↔Y5 m k):=by
 unfold b.rz;refine ke Xg (fun h q=>h q.1.1) fun k1=>?_;refine ke Xg (fun h q=>h q.2.1.1) fun k2=>?_;refine ke Xg (fun h q=>h q.2.2.1) fun k3=>?_;have k1:m.bN.n=k.bN.n:=Classical.byContradiction k1;have k2:m.uV.n=k.uV.n:=Classical.byContradiction k2;have k3:m.aG.n=k.aG.n:=Classical.byContradiction k3;rcases amn (step:=b.pN) (n:=m.bN.n) (m:=k.bN.n) (fun i=>⟨false,i,m,k⟩) (fun i=>⟨false,i,m,k⟩) (fun j=>((m.bN.get j).x==(k.bN.get j).x)&&(((m.bN.get j).y==(k.bN.get j).y)&&(((m.bN.get j).z==(k.bN.get j).z)&&true))) (e0:=.exit 0) (er:=.ret) rfl rfl hv (by omega) (fun j=>rfl) with ⟨a1,a2⟩ | ⟨j,a1,a2,a3⟩
 ·have e0:b.oh m k = .out (.exit 0) ⟨false,((m.bN.n:Nat):Int),m,k⟩:=a1
  rcases amn (step:=b.oJ) (n:=m.uV.n) (m:=k.uV.n) (fun i=>⟨false,i,m,k⟩) (fun i=>⟨false,i,m,k⟩) (fun j=>((m.uV.get j).e0==(k.uV.get j).e0)&&(((m.uV.get j).e1==(k.uV.get j).e1)&&true)) (e0:=.exit 2) (er:=.ret) rfl rfl hu (by omega) (fun j=>rfl) with ⟨b1,b2⟩ | ⟨j,b1,b2,b3⟩
  ·have e1:b.kE m k = .out (.exit 2) ⟨false,((m.uV.n:Nat):Int),m,k⟩:=by
    unfold b.kE;rw [e0];exact b1
   rcases ajC m k k3 hb hl with ⟨c1,c2⟩ | ⟨x',c1,c2,i,c3,c4⟩
   ·have e2:b.pZ m k = .out (.exit 4) ⟨false,((m.aG.n:Nat):Int),m,k⟩:=by
     unfold b.pZ;rw [e1];exact c1
    rw [e0,e1,e2];exact ⟨true,rfl,fun _=>⟨⟨k1,fun i hi=>(Xa _ _).1 (a2 i hi)⟩,⟨k2,fun i hi=>(ao1 _ _).1 (b2 i hi)⟩,k3,c2⟩,fun _=>rfl⟩
   ·have e2:b.pZ m k = .out .ret x':=by
     unfold b.pZ;rw [e1];exact c1
    rw [e0,e1,e2];exact ⟨x'.t4,rfl,fun h=>by rw [c2] at h; simp at h,fun h=>absurd (h.2.2.2 i c3) c4⟩
  ·have e1:b.kE m k = .out .ret ⟨false,(j:Int),m,k⟩:=by
    unfold b.kE;rw [e0];exact b2
   rw [e0,e1];exact ⟨false,rfl,fun h=>by simp at h,fun h=>absurd (h.2.1.2 j b1) (agZ (ao1 _ _) b3)⟩
 ·have e0:b.oh m k = .out .ret ⟨false,(j:Int),m,k⟩:=a2
  rw [e0];exact ⟨false,rfl,fun h=>by simp at h,fun h=>absurd (h.1.2 j a1) (agZ (Xa _ _) a3)⟩
structure NC (a c:b.aw):Prop where
 graph:adW a.graph c.graph
 nodes:a.nodes.n=c.nodes.n/\∀ i,i < a.nodes.n->sQ (a.nodes.get i) (c.nodes.get i)
 ay:a.ay.n=c.ay.n/\∀ i,i < a.ay.n->Y5 (a.ay.get i) (c.ay.get i)
 az:a.az.n=c.az.n/\∀ i,i < a.az.n->Xh (a.az.get i) (c.az.get i)
 root:a.root=c.root
structure ag0 (s:b.aw):Prop where
 aP:s.graph.bu.aP.n < 1000000
 kids:s.graph.kids.n < 1000000
 lQ:∀ i,i < s.graph.kids.n->(s.graph.kids.get i).n < 1000000
 nodes:s.nodes.n < 1000000
 lO:∀ i,i < s.nodes.n->(s.nodes.get i).lO.n < 1000000
 ay:s.ay.n < 1000000
 bN:∀ i,i < s.ay.n->(s.ay.get i).bN.n < 1000000
 uV:∀ i,i < s.ay.n->(s.ay.get i).uV.n < 1000000
 aG:∀ i,i < s.ay.n->(s.ay.get i).aG.n < 1000000
 index:∀ i,i < s.ay.n->∀ k,k < (s.ay.get i).aG.n->((s.ay.get i).aG.get k).index.n < 1000000
 az:s.az.n < 1000000
 dt:∀ i,i < s.az.n->(s.az.get i).dt.n < 1000000
theorem alf {s:b.aw} (hf:Few s) (ht:yG s):ag0 s where
 aP:=by have:=hf.aP; omega
 kids:=by have:=hf.kids; omega
 lQ:=fun i hi=>by have:=aoY hf ht i hi; omega
 nodes:=by have:=hf.nodes; omega
 lO:=fun i hi=>by have:=hf.lO i hi; omega
 ay:=by have:=hf.ay; omega
 bN:=fun i hi=>by have:=(hf.sq i hi).1; omega
 uV:=fun i hi=>by have:=(hf.sq i hi).2.1; omega
 aG:=fun i hi=>by have:=(hf.sq i hi).2.2.1; omega
 index:=fun i hi k hk=>by have:=(hf.sq i hi).2.2.2 k hk; omega
 az:=by have:=hf.az; omega
 dt:=fun i hi=>by have:=aoZ hf.g9 i hi; omega
theorem ajD (a c:b.aw) (h:ag0 a):∃ r,b.uz a c=some r/\(r=true↔NC a c):=by
 unfold b.uz b.Kb b.Kc;obtain ⟨r1,q1,i1⟩:=ajB a.graph c.graph h.aP h.kids h.lQ;obtain ⟨r2,q2,i2⟩:=ald a.az c.az h.az h.dt;rw [q1,q2];simp only [dB,db,aj];refine ke (DC i1) (fun g k=>g k.graph) fun k1=>?_;refine ke Xg (fun g k=>g k.nodes.1) fun k2=>?_;refine ke Xg (fun g k=>g k.ay.1) fun k3=>?_;refine ke (DC i2) (fun g k=>g k.az) fun k4=>?_;refine ke (DC (QV a.root c.root)) (fun g k=>g k.root) fun k5=>?_;have k1:=Classical.byContradiction k1;have k2:a.nodes.n=c.nodes.n:=Classical.byContradiction k2;have k3:a.ay.n=c.ay.n:=Classical.byContradiction k3;have k4:=Classical.byContradiction k4;have k5:=Classical.byContradiction k5;have ho:∀ j,j < a.nodes.n->∃ r,b.jd (a.nodes.get j) (c.nodes.get j)=some r/\(r=true↔sQ (a.nodes.get j) (c.nodes.get j)):=fun j hj=>Z7 _ _ (h.lO j hj);have hm:∀ j,j < a.ay.n->∃ r,b.rz (a.ay.get j) (c.ay.get j)=some r/\(r=true↔Y5 (a.ay.get j) (c.ay.get j)):=fun j hj=>ale _ _ (h.bN j hj) (h.uV j hj) (h.aG j hj) (h.index j hj);rcases Xf (ajz (step:=b.pO) (n:=a.nodes.n) (m:=c.nodes.n) (fun i=>⟨false,i,a,c⟩) (fun i=>⟨false,i,a,c⟩) (fun j=>b.jd (a.nodes.get j) (c.nodes.get j)) (e0:=.exit 0) (er:=.ret) rfl rfl h.nodes (by omega) (Ru ho) (fun j=>rfl)) ho with ⟨a1,a2⟩ | ⟨j,a1,a2,a3⟩
 ·have e0:b.oi a c = .out (.exit 0) ⟨false,((a.nodes.n:Nat):Int),a,c⟩:=a1
  rcases Xf (ajz (step:=b.oK) (n:=a.ay.n) (m:=c.ay.n) (fun i=>⟨false,i,a,c⟩) (fun i=>⟨false,i,a,c⟩) (fun j=>b.rz (a.ay.get j) (c.ay.get j)) (e0:=.exit 2) (er:=.ret) rfl rfl h.ay (by omega) (Ru hm) (fun j=>rfl)) hm with ⟨b1,b2⟩ | ⟨j,b1,b2,b3⟩
  ·have e1:b.p0 a c = .out (.exit 2) ⟨false,((a.ay.n:Nat):Int),a,c⟩:=by
    unfold b.p0;rw [e0];exact b1
   rw [e0,e1];exact ⟨true,rfl,fun _=>⟨k1,⟨k2,a2⟩,⟨k3,b2⟩,k4,k5⟩,fun _=>rfl⟩
  ·have e1:b.p0 a c = .out .ret ⟨false,(j:Int),a,c⟩:=by
    unfold b.p0;rw [e0];exact b2
   rw [e0,e1];exact ⟨false,rfl,fun h=>by simp at h,fun h=>absurd (h.ay.2 j b1) b3⟩
 ·have e0:b.oi a c = .out .ret ⟨false,(j:Int),a,c⟩:=a2
  rw [e0];exact ⟨false,rfl,fun h=>by simp at h,fun h=>absurd (h.nodes.2 j a1) a3⟩
theorem sQ.refl (n:b.Node):sQ n n:=⟨rfl,rfl,rfl,rfl,nJ.refl _,rfl,rfl⟩
theorem NC.refl (s:b.aw):NC s s:=
 ⟨⟨nJ.refl _,rfl,fun _ _=>nJ.refl _⟩,⟨rfl,fun _ _=>sQ.refl _⟩,⟨rfl,fun _ _=>⟨nJ.refl _,nJ.refl _,rfl,fun _ _=>⟨rfl,nJ.refl _⟩⟩⟩,⟨rfl,fun _ _=>⟨rfl,rfl,nJ.refl _⟩⟩,rfl⟩
theorem alg {s:b.aw} (h:ag0 s):b.uz s s=some true:=by
 obtain ⟨r,h1,h2⟩:=ajD s s h;rw [h1,h2.2 (NC.refl s)]
def upto {α:Type} [Inhabited α] (l:Sl α) (j:Nat):Sl α:=⟨j,fun i=>if i < j then l.get i else default⟩
theorem xZ {α:Type} [Inhabited α] (l:Sl α):upto l 0=⟨0,fun _=>default⟩:=by
 unfold upto;congr 1
theorem alh {α:Type} [Inhabited α] (l:Sl α) (j:Nat):(upto l j).push (l.get j)=upto l (j+1):=by
 unfold upto Sl.push;congr 1;funext i
 dsimp only
 by_cases h1:i < j
 ·have:Nat.blt i j=true:=by rw [bO]; exact h1
  rw [this,aj,aI h1,aI (by omega)]
 ·have:Nat.blt i j=false:=by
   cases q:Nat.blt i j with
   | false=>rfl
   | true=>rw [bO] at q; exact absurd q h1
  rw [this,aF];by_cases h2:i=j
  ·subst h2
   rw [tf,aj,aI (by omega)]
  ·have:Nat.beq i j=false:=by
    cases q:Nat.beq i j with
    | false=>rfl
    | true=>exact absurd (aW q) h2
   rw [this,aF,ak (by omega)]
theorem L4 {α:Type} [Inhabited α] {l:Sl α} (h:QX l):upto l l.n=l:=by
 cases l with
 | mk n f=>
  unfold upto;congr 1;funext i;by_cases hi:i < n
  ·exact aI hi
  ·rw [ak hi]; exact (h i (by show n<=i; omega)).symm
theorem join_nil {α:Type} (f:Nat->α) (t:Sl α):(⟨0,f⟩:Sl α).join t=t:=by
 cases t with
 | mk n g=>
  unfold Sl.join
  dsimp only
  rw [bp];congr 1
theorem x6 {X α:Type} [Inhabited α] {step:X->ax X} (l:Sl α) (f:Int->Sl α->X) {e0:aq.ae} (h0:ku e0=false) (hn:l.n < 1000000)
  (uA:∀ j:Nat,j < l.n->step (f (j:Int) (upto l j)) = .next (f (aV ((j:Int)+1)) ((upto l j).push (l.get j)))) (ae5:step (f (l.n:Int) (upto l l.n)) = .out e0 (f (l.n:Int) (upto l l.n))) :
  goN step (f 0 (upto l 0)) = .out e0 (f (l.n:Int) (upto l l.n)):=by
 obtain ⟨e,x',q1,rfl,rfl⟩:=eW (step:=step) (fun j x=>x=f (j:Int) (upto l j)) (fun e x'=>e=e0/\x' = f (l.n:Int) (upto l l.n)) l.n (by unfold dZ; omega) (by
  rintro j _ hj rfl;by_cases bh:j < l.n
  ·refine .inl ⟨_,uA j bh,bh,?_⟩
   rw [alh];have e1:aV ((j:Int)+1)=((j+1:Nat):Int):=by rw [cv (by omega) (by omega)]; omega
   rw [e1]
  ·have:j=l.n:=by omega
   subst this;exact .inr ⟨_,_,ae5,h0,rfl,rfl⟩) (x:=f 0 (upto l 0)) rfl
 exact q1
theorem ali (n:b.Node) (h:n.lO.n < 1000000):b.yz n=some n:=by
 unfold b.yz;rw [eQ (by omega) (by omega) (by omega),join_nil];rfl
theorem anq (t:b.cN) (h:t.dt.n < 1000000):b.yC t=some t:=by
 unfold b.yC;rw [eQ (by omega) (by omega) (by omega),join_nil];rfl
theorem alj (m:b.dm) (hv:m.bN.n < 1000000) (hu:m.uV.n < 1000000) (hb:m.aG.n < 1000000) (hl:∀ i,i < m.aG.n->(m.aG.get i).index.n < 1000000) (ht:QX m.aG):b.yA m=some m:=by
 unfold b.yA;rw [eQ (b:=24) (by omega) (by omega) (by omega),eQ (b:=16) (by omega) (by omega) (by omega)];have key:=x6 (step:=b.j9) m.aG (fun i q=>⟨i,m,⟨⟨0,fun _=>⟨0,0,0⟩⟩,⟨0,fun _=>⟨0,0⟩⟩,⟨0,fun _=>⟨0,⟨0,fun _=>0⟩⟩⟩⟩,⟨m.bN,m.uV,q⟩⟩) (e0:=.exit 0) rfl hb (fun j hj=>by
  have d1:decide ((j:Int) < ((m.aG.n:Nat):Int))=true:=ai (by omega);have d2:decide ((0:Int)<=(j:Int))=true:=ai (by omega);have ej:Int.toNat (j:Int)=j:=rfl;have hl:=hl j hj;have hu:(upto m.aG j).n=j:=rfl;unfold b.j9
  dsimp only
  rw [d1,d2,ej,eQ (b:=8) (by omega) (by omega) (by omega),eQ (b:=32) (by omega) (by omega) (by omega),join_nil];simp only [cg,iY,aj,bj]) (by
  unfold b.j9
  dsimp only
  rw [aE (Int.lt_irrefl _)];simp only [aj,aF,bj])
 rw [xZ,L4 ht] at key;have e0:b.wx m = .out (.exit 0) ⟨((m.aG.n:Nat):Int),m,⟨⟨0,fun _=>⟨0,0,0⟩⟩,⟨0,fun _=>⟨0,0⟩⟩,⟨0,fun _=>⟨0,⟨0,fun _=>0⟩⟩⟩⟩,⟨m.bN,m.uV,m.aG⟩⟩:=by
  unfold b.wx;rw [join_nil,join_nil];exact key
 rw [e0];simp only [bj,aj];rfl
theorem ajE (g:b.cA) (hn:g.bu.aP.n < 1000000) (hk:g.kids.n < 1000000) (hl:∀ i,i < g.kids.n->(g.kids.get i).n < 1000000) (ht:QX g.kids):b.yy g=some g:=by
 unfold b.yy;have ha:b.CS g=some g.bu:=by
  unfold b.CS b.Dw;rw [eQ (by omega) (by omega) (by omega),join_nil];rfl
 have key:=x6 (step:=b.la) g.kids (fun i q=>⟨i,g,⟨⟨⟨0,fun _=>⟨0,false⟩⟩⟩,⟨0,fun _=>⟨0,fun _=>⟨0,0⟩⟩⟩⟩,⟨g.bu,q⟩⟩) (e0:=.exit 0) rfl hk (fun j hj=>by
  have d1:decide ((j:Int) < ((g.kids.n:Nat):Int))=true:=ai (by omega);have d2:decide ((0:Int)<=(j:Int))=true:=ai (by omega);have ej:Int.toNat (j:Int)=j:=rfl;have hl:=hl j hj;have hu:(upto g.kids j).n=j:=rfl;unfold b.la
  dsimp only
  rw [d1,d2,ej,eQ (b:=16) (by omega) (by omega) (by omega),eQ (b:=24) (by omega) (by omega) (by omega),join_nil];simp only [cg,iY,aj,bj]) (by
  unfold b.la
  dsimp only
  rw [aE (Int.lt_irrefl _)];simp only [aj,aF,bj])
 rw [xZ,L4 ht] at key;have e0:b.CT g = .out (.exit 0) ⟨((g.kids.n:Nat):Int),g,⟨⟨⟨0,fun _=>⟨0,false⟩⟩⟩,⟨0,fun _=>⟨0,fun _=>⟨0,0⟩⟩⟩⟩,⟨g.bu,g.kids⟩⟩:=by
  unfold b.CT;rw [ha];exact key
 rw [ha,e0];rfl
def Rw:b.aw:=⟨⟨⟨⟨0,fun _=>⟨0,false⟩⟩⟩,⟨0,fun _=>⟨0,fun _=>⟨0,0⟩⟩⟩⟩,⟨0,fun _=>QU⟩,⟨0,fun _=>⟨⟨0,fun _=>⟨0,0,0⟩⟩,⟨0,fun _=>⟨0,0⟩⟩,⟨0,fun _=>⟨0,⟨0,fun _=>0⟩⟩⟩⟩⟩,⟨0,fun _=>⟨0,0,⟨0,fun _=>⟨0,0,0,0⟩⟩⟩⟩,⟨0,0⟩⟩
theorem ajF (s:b.aw) (h:ag0 s) (ht:yG s):b.yD s=some s:=by
 have hg:b.Kd s=some s.graph:=ajE s.graph h.aP h.kids h.lQ ht.kids;have k1:=x6 (step:=b.lh) s.nodes (fun i q=>⟨i,s,Rw,⟨s.graph,q,⟨0,fun _=>default⟩,⟨0,fun _=>default⟩,s.root⟩⟩) (e0:=.exit 0) rfl h.nodes (fun j hj=>by
  have d1:decide ((j:Int) < ((s.nodes.n:Nat):Int))=true:=ai (by omega);have d2:decide ((0:Int)<=(j:Int))=true:=ai (by omega);have ej:Int.toNat (j:Int)=j:=rfl;have hu:(upto s.nodes j).n=j:=rfl;have hn:=h.nodes;unfold b.lh b.Ci
  dsimp only
  rw [d1,d2,ej,ali _ (h.lO j hj),eQ (b:=224) (by omega) (by omega) (by omega)];simp only [cg,iY,aj,bj,dB,db]) (by
  unfold b.lh
  dsimp only
  rw [aE (Int.lt_irrefl _)];simp only [aj,aF,bj])
 rw [xZ,L4 ht.nodes] at k1;have e1:b.eC s = .out (.exit 0) ⟨((s.nodes.n:Nat):Int),s,Rw,⟨s.graph,s.nodes,⟨0,fun _=>default⟩,⟨0,fun _=>default⟩,s.root⟩⟩:=by
  unfold b.eC;rw [hg];exact k1
 have k2:=x6 (step:=b.kb) s.ay (fun i q=>⟨i,s,Rw,⟨s.graph,s.nodes,q,⟨0,fun _=>default⟩,s.root⟩⟩) (e0:=.exit 2) rfl h.ay (fun j hj=>by
  have d1:decide ((j:Int) < ((s.ay.n:Nat):Int))=true:=ai (by omega);have d2:decide ((0:Int)<=(j:Int))=true:=ai (by omega);have ej:Int.toNat (j:Int)=j:=rfl;have hu:(upto s.ay j).n=j:=rfl;have hn:=h.ay;unfold b.kb b.Ay
  dsimp only
  rw [d1,d2,ej,alj _ (h.bN j hj) (h.uV j hj) (h.aG j hj) (h.index j hj) (ht.aG j hj),eQ (b:=72) (by omega) (by omega) (by omega)];simp only [cg,iY,aj,bj,dB,db]) (by
  unfold b.kb
  dsimp only
  rw [aE (Int.lt_irrefl _)];simp only [aj,aF,bj])
 rw [xZ,L4 ht.ay] at k2;have e2:b.eD s = .out (.exit 2) ⟨((s.ay.n:Nat):Int),s,Rw,⟨s.graph,s.nodes,s.ay,⟨0,fun _=>default⟩,s.root⟩⟩:=by
  unfold b.eD;rw [e1];exact k2
 have k3:=x6 (step:=b.kd) s.az (fun i q=>⟨i,s,Rw,⟨s.graph,s.nodes,s.ay,q,s.root⟩⟩) (e0:=.exit 4) rfl h.az (fun j hj=>by
  have d1:decide ((j:Int) < ((s.az.n:Nat):Int))=true:=ai (by omega);have d2:decide ((0:Int)<=(j:Int))=true:=ai (by omega);have ej:Int.toNat (j:Int)=j:=rfl;have hu:(upto s.az j).n=j:=rfl;have hn:=h.az;unfold b.kd b.Az
  dsimp only
  rw [d1,d2,ej,anq _ (h.dt j hj),eQ (b:=40) (by omega) (by omega) (by omega)];simp only [cg,iY,aj,bj,dB,db]) (by
  unfold b.kd
  dsimp only
  rw [aE (Int.lt_irrefl _)];simp only [aj,aF,bj])
 rw [xZ,L4 ht.az] at k3;have e3:b.CU s = .out (.exit 4) ⟨((s.az.n:Nat):Int),s,Rw,⟨s.graph,s.nodes,s.ay,s.az,s.root⟩⟩:=by
  unfold b.CU;rw [e2];exact k3
 unfold b.yD;rw [hg,e1,e2,e3];simp only [bj,aj];rfl
end Go.Proofs.YtckbdndhmcoihaaGreat.sc
end
section
namespace Go.Proofs.YtckbdndhmcoihaaGreat.sc
open Go Go.K
def ag1 (s:b.bR) (i:b.cf):b.cf:=cond (s.aU.e0==0||(i.kept.e0&&decide (s.aU.e0 < 4))) i ⟨⟨s.look.color,i.look.ca,i.look.gW,i.look.gq,i.look.eH,i.look.bin⟩,⟨(s.aU.e0==3||s.aU.e0==7),i.kept.e1,i.kept.e2,i.kept.e3,i.kept.e4⟩⟩
def ag3 (s:b.bR) (i:b.cf):b.cf:=cond (s.aU.e1==0||(i.kept.e1&&decide (s.aU.e1 < 4))) i ⟨⟨i.look.color,s.look.ca,i.look.gW,i.look.gq,i.look.eH,i.look.bin⟩,⟨i.kept.e0,(s.aU.e1==3||s.aU.e1==7),i.kept.e2,i.kept.e3,i.kept.e4⟩⟩
def ag4 (s:b.bR) (i:b.cf):b.cf:=cond (s.aU.e2==0||(i.kept.e2&&decide (s.aU.e2 < 4))) i ⟨⟨i.look.color,i.look.ca,s.look.gW,i.look.gq,i.look.eH,i.look.bin⟩,⟨i.kept.e0,i.kept.e1,(s.aU.e2==3||s.aU.e2==7),i.kept.e3,i.kept.e4⟩⟩
def ag5 (s:b.bR) (i:b.cf):b.cf:=cond (s.aU.e3==0||(i.kept.e3&&decide (s.aU.e3 < 4))) i ⟨⟨i.look.color,i.look.ca,i.look.gW,s.look.gq,i.look.eH,i.look.bin⟩,⟨i.kept.e0,i.kept.e1,i.kept.e2,(s.aU.e3==3||s.aU.e3==7),i.kept.e4⟩⟩
def ag6 (s:b.bR) (i:b.cf):b.cf:=cond (s.aU.e4==0||(i.kept.e4&&decide (s.aU.e4 < 4))) i ⟨⟨i.look.color,i.look.ca,i.look.gW,i.look.gq,s.look.eH,s.look.bin⟩,⟨i.kept.e0,i.kept.e1,i.kept.e2,i.kept.e3,(s.aU.e4==3||s.aU.e4==7)⟩⟩
theorem apG (i:b.cf) (s:b.bR) (t:b.cf) (h:dG s.aU.e0):b.eB ⟨0,i,s,t⟩ = .next ⟨1,ag1 s i,s,t⟩:=by
 obtain ⟨l,⟨k0,k1,k2,k3,k4⟩⟩:=i;obtain ⟨⟨e0,e1,e2,e3,e4⟩,m⟩:=s;rcases h with h | h | h | h | h <;> (dsimp only at h; subst h; cases k0 <;> kernel_rfl)
theorem apH (i:b.cf) (s:b.bR) (t:b.cf) (h:dG s.aU.e0):b.gC ⟨0,i,s,t⟩ = .next ⟨1,ag1 s i,s,t⟩:=by
 obtain ⟨l,⟨k0,k1,k2,k3,k4⟩⟩:=i;obtain ⟨⟨e0,e1,e2,e3,e4⟩,m⟩:=s;rcases h with h | h | h | h | h <;> (dsimp only at h; subst h; cases k0 <;> kernel_rfl)
theorem apI (i:b.cf) (s:b.bR) (t:b.cf) (h:dG s.aU.e1):b.eB ⟨1,i,s,t⟩ = .next ⟨2,ag3 s i,s,t⟩:=by
 obtain ⟨l,⟨k0,k1,k2,k3,k4⟩⟩:=i;obtain ⟨⟨e0,e1,e2,e3,e4⟩,m⟩:=s;rcases h with h | h | h | h | h <;> (dsimp only at h; subst h; cases k1 <;> kernel_rfl)
theorem apJ (i:b.cf) (s:b.bR) (t:b.cf) (h:dG s.aU.e1):b.gC ⟨1,i,s,t⟩ = .next ⟨2,ag3 s i,s,t⟩:=by
 obtain ⟨l,⟨k0,k1,k2,k3,k4⟩⟩:=i;obtain ⟨⟨e0,e1,e2,e3,e4⟩,m⟩:=s;rcases h with h | h | h | h | h <;> (dsimp only at h; subst h; cases k1 <;> kernel_rfl)
theorem apK (i:b.cf) (s:b.bR) (t:b.cf) (h:dG s.aU.e2):b.eB ⟨2,i,s,t⟩ = .next ⟨3,ag4 s i,s,t⟩:=by
 obtain ⟨l,⟨k0,k1,k2,k3,k4⟩⟩:=i;obtain ⟨⟨e0,e1,e2,e3,e4⟩,m⟩:=s;rcases h with h | h | h | h | h <;> (dsimp only at h; subst h; cases k2 <;> kernel_rfl)
theorem apL (i:b.cf) (s:b.bR) (t:b.cf) (h:dG s.aU.e2):b.gC ⟨2,i,s,t⟩ = .next ⟨3,ag4 s i,s,t⟩:=by
 obtain ⟨l,⟨k0,k1,k2,k3,k4⟩⟩:=i;obtain ⟨⟨e0,e1,e2,e3,e4⟩,m⟩:=s;rcases h with h | h | h | h | h <;> (dsimp only at h; subst h; cases k2 <;> kernel_rfl)
theorem apM (i:b.cf) (s:b.bR) (t:b.cf) (h:dG s.aU.e3):b.eB ⟨3,i,s,t⟩ = .next ⟨4,ag5 s i,s,t⟩:=by
 obtain ⟨l,⟨k0,k1,k2,k3,k4⟩⟩:=i;obtain ⟨⟨e0,e1,e2,e3,e4⟩,m⟩:=s;rcases h with h | h | h | h | h <;> (dsimp only at h; subst h; cases k3 <;> kernel_rfl)
theorem apN (i:b.cf) (s:b.bR) (t:b.cf) (h:dG s.aU.e3):b.gC ⟨3,i,s,t⟩ = .next ⟨4,ag5 s i,s,t⟩:=by
 obtain ⟨l,⟨k0,k1,k2,k3,k4⟩⟩:=i;obtain ⟨⟨e0,e1,e2,e3,e4⟩,m⟩:=s;rcases h with h | h | h | h | h <;> (dsimp only at h; subst h; cases k3 <;> kernel_rfl)
theorem apO (i:b.cf) (s:b.bR) (t:b.cf) (h:dG s.aU.e4):b.eB ⟨4,i,s,t⟩ = .next ⟨5,ag6 s i,s,t⟩:=by
 obtain ⟨l,⟨k0,k1,k2,k3,k4⟩⟩:=i;obtain ⟨⟨e0,e1,e2,e3,e4⟩,m⟩:=s;rcases h with h | h | h | h | h <;> (dsimp only at h; subst h; cases k4 <;> kernel_rfl)
theorem apP (i:b.cf) (s:b.bR) (t:b.cf) (h:dG s.aU.e4):b.gC ⟨4,i,s,t⟩ = .next ⟨5,ag6 s i,s,t⟩:=by
 obtain ⟨l,⟨k0,k1,k2,k3,k4⟩⟩:=i;obtain ⟨⟨e0,e1,e2,e3,e4⟩,m⟩:=s;rcases h with h | h | h | h | h <;> (dsimp only at h; subst h; cases k4 <;> kernel_rfl)
def made (s:b.bR) (i:b.cf):b.cf:=ag6 s (ag5 s (ag4 s (ag3 s (ag1 s i))))
theorem go5 {X:Type} {step:X->ax X} {x0 x1 x2 x3 x4 x5 xe:X} {e:aq.ae} (h0:step x0 = .next x1) (h1:step x1 = .next x2) (h2:step x2 = .next x3) (h3:step x3 = .next x4) (h4:step x4 = .next x5) (h5:step x5 = .out e xe) (he:ku e=false):goN step x0 = .out e xe:=by
 obtain ⟨e',x',q1,q2,q3⟩:=eW (step:=step) (fun j x=>x=match j with
  | 0=>x0
  | 1=>x1
  | 2=>x2
  | 3=>x3
  | 4=>x4
  | _=>x5) (fun e' x'=>e' = e/\x' = xe) 5 (by unfold dZ; omega) (by
   rintro j _ hj rfl;rcases (by omega:j=0\/j=1\/j=2\/j=3\/j=4\/j=5) with rfl | rfl | rfl | rfl | rfl | rfl
   ·exact .inl ⟨_,h0,by omega,rfl⟩
   ·exact .inl ⟨_,h1,by omega,rfl⟩
   ·exact .inl ⟨_,h2,by omega,rfl⟩
   ·exact .inl ⟨_,h3,by omega,rfl⟩
   ·exact .inl ⟨_,h4,by omega,rfl⟩
   ·exact .inr ⟨_,_,h5,he,rfl,rfl⟩) (x:=x0) rfl
 rw [q1,q2,q3]
theorem ajG (i:b.cf) (s:b.bR) (h:Jh s):b.o7 i s=some (made s i):=by
 unfold b.o7 b.zC;obtain ⟨h0,h1,h2,h3,h4⟩:=h;rw [go5 (apG _ s _ h0) (apI _ s _ h1) (apK _ s _ h2) (apM _ s _ h3) (apO _ s _ h4) (e:=.exit 0) rfl rfl];cases hz:((s.aU.e0==0)&&((s.aU.e1==0)&&((s.aU.e2==0)&&((s.aU.e3==0)&&((s.aU.e4==0)&&true))))) with
 | false=>rfl
 | true=>
  simp only [au,iX,and_true] at hz;obtain ⟨z0,z1,z2,z3,z4⟩:=hz;have e:made s i=i:=by
   unfold made ag1 ag3 ag4 ag5 ag6;rw [z0,z1,z2,z3,z4];rfl
  rw [e];rfl
theorem ajH (i:b.cf) (s:b.bR) (h:Jh s):b.ym i s=some (made s i):=by
 unfold b.ym b.JP;obtain ⟨h0,h1,h2,h3,h4⟩:=h;rw [go5 (apH _ s _ h0) (apJ _ s _ h1) (apL _ s _ h2) (apN _ s _ h3) (apP _ s _ h4) (e:=.exit 0) rfl rfl];rfl
end Go.Proofs.YtckbdndhmcoihaaGreat.sc
end
section
namespace Go.Proofs.YtckbdndhmcoihaaGreat.sc
open Go Go.K Go.Proofs.YtckbdndhmcoihaaGreat.nodes
def ao2:b.Path:=⟨⟨0,fun _=>⟨0,0⟩⟩,⟨0,fun _=>0⟩⟩
def amo (s:b.aw) (kids:Sl Int) (e:Int):Prop:=e=8/\¬ nK s\/e=6/\nK s/\s.root=xY\/e=2/\nK s/\s.root≠xY/\¬ EZ s kids
theorem ag7 (s:b.aw) (kids:Sl Int) (lZ:pR s) (hn:kids.n<=400):∃ p e,b.pb s kids=some (p,e)/\(e=0/\(nK s/\s.root≠xY/\EZ s kids)/\F3 s kids p.nodes/\p.kids=kids\/p=ao2/\amo s kids e):=by
 unfold b.pb b.tC b.tD;obtain ⟨e,q1,q2⟩:=adP s lZ;rw [q1];simp only [dB,db,aj];rcases q2 with ⟨rfl,hs⟩ | ⟨rfl,hs⟩
 ·have:((0:Int) != 0)=false:=rfl
  rw [this,aF];by_cases hr:s.root=xY
  ·rw [(Kg s.root).2 hr]
   exact ⟨_,_,rfl,.inr ⟨rfl,.inr (.inl ⟨rfl,hs,hr⟩)⟩⟩
  ·have:((s.root.slot==(0:Int))&&((s.root.gen==(0:Int))&&true))=false:=by rw [<- Bool.not_eq_true,Kg]; exact hr
   rw [this];obtain ⟨x,ok,p1,p2⟩:=Xc hs hr kids hn;rw [p1];rcases p2 with ⟨rfl,g1,g2,g3⟩ | ⟨rfl,g1⟩
   ·exact ⟨x,0,rfl,.inl ⟨rfl,⟨hs,hr,g1⟩,g2,g3⟩⟩
   ·exact ⟨_,_,rfl,.inr ⟨rfl,.inr (.inr ⟨rfl,hs,hr,g1⟩)⟩⟩
 ·exact ⟨_,_,rfl,.inr ⟨rfl,.inl ⟨rfl,hs⟩⟩⟩
theorem aeM (s:b.aw) (kids:Sl Int) (lZ:pR s) (hn:kids.n<=400):∃ p e,b.sP s kids=some (p,e)/\(e=0/\(nK s/\s.root≠xY/\EZ s kids)/\F3 s kids p.nodes/\nJ p.kids kids\/p=ao2/\amo s kids e):=by
 unfold b.sP b.w4 b.EV b.w5 b.uw;obtain ⟨e,q1,q2⟩:=aab s lZ;rw [q1];simp only [dB,db,aj];rcases q2 with ⟨rfl,hs⟩ | ⟨rfl,hs⟩
 ·have:((0:Int) != 0)=false:=rfl
  rw [this,aF];by_cases hr:s.root=xY
  ·rw [(Kg s.root).2 hr]
   exact ⟨_,_,rfl,.inr ⟨rfl,.inr (.inl ⟨rfl,hs,hr⟩)⟩⟩
  ·have:((s.root.slot==(0:Int))&&((s.root.gen==(0:Int))&&true))=false:=by rw [<- Bool.not_eq_true,Kg]; exact hr
   rw [this];obtain ⟨x,ok,p1,p2⟩:=afC hs hr kids hn;rw [p1];rcases p2 with ⟨rfl,g1,g2,g3⟩ | ⟨rfl,g1⟩
   ·exact ⟨x,0,rfl,.inl ⟨rfl,⟨hs,hr,g1⟩,g2,g3⟩⟩
   ·exact ⟨_,_,rfl,.inr ⟨rfl,.inr (.inr ⟨rfl,hs,hr,g1⟩)⟩⟩
 ·exact ⟨_,_,rfl,.inr ⟨rfl,.inl ⟨rfl,hs⟩⟩⟩
theorem alk (a c:b.Path) (h1:a.nodes.n < 1000000) (h2:a.kids.n < 1000000):∃ r,b.pe a c=some r/\(r=true↔nJ a.nodes c.nodes/\nJ a.kids c.kids):=by
 unfold b.pe b.Aj b.Ak;obtain ⟨r1,q1,i1⟩:=UL a.nodes c.nodes h1;obtain ⟨r2,q2,i2⟩:=Y1 a.kids c.kids h2;rw [q1,q2];simp only [dB,db,aj];refine xX i1 (fun h k=>h k.1) fun k1=>?_;exact ⟨r2,rfl,i2.trans ⟨fun h=>⟨k1,h⟩,fun h=>h.2⟩⟩
def begin:b.cf:=⟨⟨⟨255,255,255,255⟩,-1,0,0,false,0⟩,⟨false,false,false,false,false⟩⟩
def Jj (l:Sl b.bR):Nat->b.cf
 | 0=>begin
 | j+1=>made (l.get j) (Jj l j)
open Classical in
noncomputable def yH (l:Sl b.bR):b.gY×Int:=if l.n<=128 then (if ∀ j,j < l.n->wB (l.get j) then ((Jj l l.n).look,0) else (mU,8)) else (mU,4)
theorem aeN (l:Sl b.bR) (hs:∀ j,j < l.n->CX (l.get j)):b.pd l=some (yH l):=by
 unfold b.pd yH;by_cases hn:((l.n:Nat):Int) > 128
 ·rw [ai hn,ak (by omega)]
  rfl
 rw [aE hn,aI (by omega)];have hb:b.Ai l=some begin:=rfl;have key:=eJ (step:=b.gU) l.n (by unfold dZ; omega) (fun j=>⟨0,l,((l.n:Nat):Int),(j:Int),mU,Jj l j⟩) (fun j=>wB (l.get j)) (e0:=.exit 0) (er:=.ret) rfl rfl (fun x'=>x'.t2=mU/\x'.t3=8) (xe:=⟨0,l,((l.n:Nat):Int),((l.n:Nat):Int),mU,Jj l l.n⟩) (fun j hj=>by
  have e1:aV ((j:Int)+1)=((j+1:Nat):Int):=by rw [cv (by omega) (by omega)]; omega
  have d1:decide ((j:Int) < ((l.n:Nat):Int))=true:=ai (by omega);have d2:decide ((0:Int)<=(j:Int))=true:=ai (by omega);have ej:Int.toNat (j:Int)=j:=rfl;obtain ⟨e,q1,q2⟩:=Z6 (l.get j);unfold b.gU b.oU b.te
  dsimp only
  rw [d1,d2,ej,e1,q1];simp only [cg,aj,dB,db];rcases q2 with ⟨rfl,h⟩ | ⟨rfl,h⟩
  ·rw [ajG _ _ h.1]
   exact ⟨fun _=>rfl,fun k=>absurd h k⟩
  ·exact ⟨fun k=>absurd k h,fun _=>⟨_,rfl,rfl,rfl⟩⟩) (by
  unfold b.gU
  dsimp only
  rw [aE (Int.lt_irrefl _)];rfl)
 rcases key with ⟨h1,h2⟩ | ⟨x',h1,⟨h2,h3⟩,j,h4,h5⟩
 ·have e0:b.iL l = .out (.exit 0) ⟨0,l,((l.n:Nat):Int),((l.n:Nat):Int),mU,Jj l l.n⟩:=by
   unfold b.iL;rw [hb];exact h1
  rw [hb,e0,aI h2];rfl
 ·have e0:b.iL l = .out .ret x':=by
   unfold b.iL;rw [hb];exact h1
  rw [hb,e0,ak fun k=>h5 (k j h4)];show some (x'.t2,x'.t3)=_;rw [h2,h3]
theorem alm (l:Sl b.bR) (hs:∀ j,j < l.n->CX (l.get j)):b.vu l=some (yH l):=by
 unfold b.vu yH;by_cases hn:((l.n:Nat):Int) > 128
 ·rw [ai hn,ak (by omega)]
  rfl
 rw [aE hn,aI (by omega)];have hb:b.HN l=some begin:=rfl;have key:=eJ (step:=b.jF) l.n (by unfold dZ; omega) (fun j=>⟨l,0,(j:Int),mU,Jj l j⟩) (fun j=>wB (l.get j)) (e0:=.exit 0) (er:=.ret) rfl rfl (fun x'=>x'.t2=mU/\x'.t3=8) (xe:=⟨l,0,((l.n:Nat):Int),mU,Jj l l.n⟩) (fun j hj=>by
  have e1:aV ((j:Int)+1)=((j+1:Nat):Int):=by rw [cv (by omega) (by omega)]; omega
  have d1:decide ((j:Int) < ((l.n:Nat):Int))=true:=ai (by omega);have d2:decide ((0:Int)<=(j:Int))=true:=ai (by omega);have ej:Int.toNat (j:Int)=j:=rfl;obtain ⟨r,q1,q2⟩:=W9 (l.get j) (hs j hj);unfold b.jF b.xV b.xW
  dsimp only
  rw [d1,d2,ej,e1,q1];simp only [cg,aj,dB,db];cases r with
  | true=>
   have h:=q2.1 rfl;rw [ajH _ _ h.1];exact ⟨fun _=>rfl,fun k=>absurd h k⟩
  | false=>exact ⟨fun k=>by have:=q2.2 k; simp at this,fun _=>⟨_,rfl,rfl,rfl⟩⟩) (by
  unfold b.jF
  dsimp only
  rw [aE (Int.lt_irrefl _)];rfl)
 rcases key with ⟨h1,h2⟩ | ⟨x',h1,⟨h2,h3⟩,j,h4,h5⟩
 ·have e0:b.lj l = .out (.exit 0) ⟨l,0,((l.n:Nat):Int),mU,Jj l l.n⟩:=by
   unfold b.lj;rw [hb];exact h1
  rw [hb,e0,aI h2];rfl
 ·have e0:b.lj l = .out .ret x':=by
   unfold b.lj;rw [hb];exact h1
  rw [hb,e0,ak fun k=>h5 (k j h4)];show some (x'.t2,x'.t3)=_;rw [h2,h3]
def Cq (s:b.aw) (p:b.Path):Sl b.bR:=⟨p.nodes.n,fun i=>(nodeAt s p i).bB⟩
def CY (s:b.aw) (p:b.Path):Sl b.bR:=upto (Cq s p) p.nodes.n
theorem adX {s:b.aw} {p:b.Path} (hr:yF s) (ha:uD s p):∀ j,j < (CY s p).n->CX ((CY s p).get j):=by
 intro j hj;have hj:j < p.nodes.n:=hj;have e:(CY s p).get j=(nodeAt s p j).bB:=aI hj;rw [e];obtain ⟨s1,s2⟩:=DD ha (show j<=p.kids.n by have:=ha.2.2.2.1; omega);exact hr.aU _ (by omega)
theorem aln (s:b.aw) (p:b.Path) (hr:yF s) (lZ:pR s) (hk:p.kids.n<=400):∃ l e,b.sN s p=some (l,e)/\(uD s p/\(l,e)=yH (CY s p)\/¬ uD s p/\l=mU/\e=8):=by
 unfold b.sN b.wZ;obtain ⟨e,q1,q2⟩:=aac s p lZ hk;rw [q1];simp only [dB,db,aj];rcases q2 with ⟨rfl,ha⟩ | ⟨rfl,ha⟩
 ·have:((0:Int) != 0)=false:=rfl
  rw [this,aF];have hn:=ha.2.2.2.1;have key:=x6 (step:=b.jc) (Cq s p) (fun i q=>⟨0,q,p.nodes,(p.nodes.n:Int),i,s,mU⟩) (e0:=.exit 0) rfl (by show p.nodes.n < _; omega) (fun j hj=>by
   have hj:j < p.nodes.n:=hj;have d1:decide ((j:Int) < ((p.nodes.n:Nat):Int))=true:=ai (by omega);have d2:decide ((0:Int)<=(j:Int))=true:=ai (by omega);have ej:Int.toNat (j:Int)=j:=rfl;obtain ⟨s1,s2⟩:=DD ha (show j<=p.kids.n by omega);have hu:(upto (Cq s p) j).n=j:=rfl;unfold b.jc
   dsimp only
   rw [d1,d2,ej,ai s1,ai s2,eQ (b:=56) (by omega) (by omega) (by omega)];simp only [cg,iY,aj,bj];rfl) (by
   unfold b.jc
   dsimp only
   have:decide (((Cq s p).n:Int) < (p.nodes.n:Int))=false:=aE (Int.lt_irrefl _);rw [this];simp only [aj,aF,bj])
  rw [xZ] at key;have e0:b.Eo s p = .out (.exit 0) ⟨0,CY s p,p.nodes,(p.nodes.n:Int),(p.nodes.n:Int),s,mU⟩:=key;have e2:b.sE s p=some (yH (CY s p)):=by
   unfold b.sE;rw [e0];exact aeN _ (adX hr ha)
  rw [e0,e2];exact ⟨_,_,rfl,.inl ⟨ha,rfl⟩⟩
 ·exact ⟨mU,8,rfl,.inr ⟨ha,rfl,rfl⟩⟩
theorem ajI (s:b.aw) (p:b.Path) (hr:yF s) (lZ:pR s) (hk:p.kids.n<=400):∃ l e,b.yE s p=some (l,e)/\(uD s p/\(l,e)=yH (CY s p)\/¬ uD s p/\l=mU/\e=8):=by
 unfold b.yE b.CV;obtain ⟨e,q1,q2⟩:=Xd s p lZ hk;rw [q1];simp only [dB,db,aj];rcases q2 with ⟨rfl,ha⟩ | ⟨rfl,ha⟩
 ·have:((0:Int) != 0)=false:=rfl
  rw [this,aF];have hn:=ha.2.2.2.1;have key:=x6 (step:=b.jE) (Cq s p) (fun i q=>⟨⟨0,fun _=>default⟩,q,i,s,p⟩) (e0:=.exit 0) rfl (by show p.nodes.n < _; omega) (fun j hj=>by
   have hj:j < p.nodes.n:=hj;have d1:decide ((j:Int) < ((p.nodes.n:Nat):Int))=true:=ai (by omega);have d2:decide ((0:Int)<=(j:Int))=true:=ai (by omega);have ej:Int.toNat (j:Int)=j:=rfl;obtain ⟨s1,s2⟩:=DD ha (show j<=p.kids.n by omega);have hu:(upto (Cq s p) j).n=j:=rfl;unfold b.jE
   dsimp only
   rw [d1,d2,ej,ai s1,ai s2,eQ (b:=56) (by omega) (by omega) (by omega)];simp only [cg,iY,aj,bj];rfl) (by
   unfold b.jE
   dsimp only
   have:decide (((Cq s p).n:Int) < (p.nodes.n:Int))=false:=aE (Int.lt_irrefl _);rw [this];simp only [aj,aF,bj])
  rw [xZ] at key;have e1:b.CW s p=some (CY s p):=by
   unfold b.CW b.wy;have e0:b.EW s p = .out (.exit 0) ⟨⟨0,fun _=>default⟩,CY s p,(p.nodes.n:Int),s,p⟩:=key;rw [e0];rfl
  have e2:b.wz s p=some (yH (CY s p)):=by
   unfold b.wz;rw [e1];exact alm _ (adX hr ha)
  rw [e1,e2];exact ⟨_,_,rfl,.inl ⟨ha,rfl⟩⟩
 ·exact ⟨mU,8,rfl,.inr ⟨ha,rfl,rfl⟩⟩
theorem aaM (s:b.aw) (p:b.Path) (kids:Sl Int) (hr:yF s) (ht:yG s):b.w6 s p kids=some true:=by
 obtain ⟨g,q1,q2⟩:=ajo s;have e0:b.AG s p kids=some g:=q1;unfold b.w6;rw [e0];cases g with
 | true=>rfl
 | false=>
  have hf:=q2 rfl;have hsh:=alf hf ht;have lZ:=hr.inn hf;simp only [dB,db,aj,aF];by_cases h1:((p.nodes.n:Nat):Int) > 400
  ·rw [ai h1]; rfl
  by_cases h2:((p.kids.n:Nat):Int) > 400
  ·rw [ai h2,aE h1]; rfl
  by_cases h3:((kids.n:Nat):Int) > 400
  ·rw [ai h3,aE h2,aE h1]; rfl
  rw [aE h1,aE h2,aE h3];simp only [aF];have e1:b.ns s p kids=some s:=ajF s hsh ht;obtain ⟨a,ea,a1,a2⟩:=ag7 s kids lZ (by omega);obtain ⟨a',ea',b1,b2⟩:=aeM s kids lZ (by omega);have e2:b.pP s p kids=some (a,ea):=by
   unfold b.pP;rw [e1]; exact a1
  have e3:b.tE s p kids=some (a',ea'):=b1;obtain ⟨l,el,c1,c2⟩:=aln s p hr lZ (by omega);obtain ⟨l',el',d1,d2⟩:=ajI s p hr lZ (by omega);have e4:b.eA s p kids=some (l,el):=by
   unfold b.eA;rw [e1]; exact c1
  have e5:b.fc s p kids=some (l',el'):=d1;obtain ⟨t,et,f1,f2⟩:=aoQ s p lZ hr.on (by omega);obtain ⟨t',et',g1,g2⟩:=ann s p lZ hr.on (by omega);have e6:b.pQ s p kids=some (t,et):=by
   unfold b.pQ;rw [e1]; exact f1
  have e7:b.tF s p kids=some (t',et'):=g1;have e9:b.tH s p kids=some true:=by
   unfold b.tH;rw [e1]; exact alg hsh
  have aq1:ea=ea'/\(nJ a.nodes a'.nodes/\nJ a.kids a'.kids)/\a.nodes.n < 1000000/\a.kids.n < 1000000:=by
   rcases a2 with ⟨rfl,hg,x2,x3⟩ | ⟨rfl,VE⟩
   ·rcases b2 with ⟨rfl,_,y2,y3⟩ | ⟨_,VE⟩
    ·refine ⟨rfl,⟨(UM x2).2 y2,?_⟩,by rw [x2.1]; omega,by rw [x3]; omega⟩
     rw [x3];exact ⟨y3.1.symm,fun i hi=>(y3.2 i (by rw [y3.1]; exact hi)).symm⟩
    ·rcases VE with ⟨_,h⟩ | ⟨_,_,h⟩ | ⟨_,_,_,h⟩
     ·exact absurd hg.1 h
     ·exact absurd h hg.2.1
     ·exact absurd hg.2.2 h
   ·rcases b2 with ⟨rfl,hg,y2,y3⟩ | ⟨rfl,asd⟩
    ·rcases VE with ⟨_,h⟩ | ⟨_,_,h⟩ | ⟨_,_,_,h⟩
     ·exact absurd hg.1 h
     ·exact absurd h hg.2.1
     ·exact absurd hg.2.2 h
    ·refine ⟨?_,⟨nJ.refl _,nJ.refl _⟩,by show 0 < 1000000; omega,by show 0 < 1000000; omega⟩
     rcases VE with ⟨h,k⟩ | ⟨h,k,m⟩ | ⟨h,k,m,o⟩ <;> rcases asd with ⟨h',k'⟩ | ⟨h',k',m'⟩ | ⟨h',k',m',o'⟩ <;> first | omega | (exfalso; first | exact k k' | exact k' k | exact m' m | exact m m')
  obtain ⟨rfl,DF,Xt,Pd⟩:=aq1;have e8:b.tG s p kids=some true:=by
   unfold b.tG;rw [e2,e3];obtain ⟨r,r1,r2⟩:=alk a a' Xt Pd;rw [r2.2 DF] at r1;exact r1
  have xk:l=l'/\el=el':=by
   rcases c2 with ⟨x1,x2⟩ | ⟨x1,x2,x3⟩
   ·rcases d2 with ⟨_,y2⟩ | ⟨y1,_⟩
    ·rw [<- y2] at x2
     exact ⟨congrArg Prod.fst x2,congrArg Prod.snd x2⟩
    ·exact absurd x1 y1
   ·rcases d2 with ⟨y1,_⟩ | ⟨_,y2,y3⟩
    ·exact absurd y1 x1
    ·exact ⟨by rw [x2,y2],by rw [x3,y3]⟩
  obtain ⟨rfl,rfl⟩:=xk;have hon:t=t'/\et=et':=by
   rcases f2 with ⟨rfl,x1,x2⟩ | ⟨rfl,x1,rfl⟩
   ·rcases g2 with ⟨rfl,_,y2⟩ | ⟨_,y1,_⟩
    ·refine ⟨?_,rfl⟩
     cases t <;> cases t' <;> first | rfl | (have:=x2.1 rfl; have:=y2.2 this; simp at this) | (have:=y2.1 rfl; have:=x2.2 this; simp at this)
    ·exact absurd x1 y1
   ·rcases g2 with ⟨_,y1,_⟩ | ⟨rfl,_,rfl⟩
    ·exact absurd y1 x1
    ·exact ⟨rfl,rfl⟩
  obtain ⟨rfl,rfl⟩:=hon;rw [e1,e2,e3,e4,e5,e6,e7,e8,e9];simp only [dB,db,aj,beq_self_eq_true,cg,iY]
end Go.Proofs.YtckbdndhmcoihaaGreat.sc
end
section
namespace Go.aq
open Go.RowKit Go.WideShapes Go.ChangeShapes
theorem ajJ {H:Type} {enc:TypeId×Value->H} {P:Program} {f:Func} {s:ChangeSpec} {apart fresh handsOn again:Bool} {W W' : World} {args:Array Value} {v:Value} {ds gs:List (DataW H)} {before pa pv:List MemPlace}
  (whole:DataW.Whole enc P f.params.toList s.vars apart W args.toList ds gs before) (below:Below W.heap.size W W') (abh:before=pa++pv)
  (res:∀ (b:Nat) (sp:Nat->Bool) (hd:Bool),DataW.TrodAll enc P W' b sp hd f.resultTypes.toList (v.resultList f.resultTypes.size) (s.fn H (ds++gs)).results [])
  (arg:∀ sp:Nat->Bool,(∀ p∈before,sp p.block=true)->DataW.TrodAll enc P W' 0 sp true f.params.toList args.toList (s.fn H (ds++gs)).args pa)
  (var:∀ sp:Nat->Bool,(∀ p∈before,sp p.block=true)->DataW.TrodVars enc P W' sp s.vars (s.fn H (ds++gs)).vars pv)
  (wide:∀ (j:Nat) (t:TypeId) (r:Value),f.resultTypes[j]? = some t->(v.resultList f.resultTypes.size)[j]? = some r->Value.okWide P W' .any 0 t r) :
  s.post enc P f apart fresh handsOn again W args v W':=by
 have lt:∀ p∈before,p.block < W.heap.size:=fun p hp=>whole.lt p hp;have fk:∀ p∈before,(fun b=>decide (b < W.heap.size)) p.block=true:=fun p hp=>by simpa using lt p hp
 refine ⟨ds,gs,before,[],pa,pv,whole,res _ _ _,arg _ fk,var _ fk,World.keptBut_mono (fun p hp=>⟨hp,?_⟩) (below.frame (·∈before)),fun _=>?_⟩
 ·rw [abh,iW] at hp; exact Or.inr hp
 ·obtain ⟨_,_,_,_,_,fz,nd⟩:=whole
  refine ⟨wide,_,_,([]++pa)++pv,⟨[]++pa,pv,trodAll_append (arg _ (fun _ _=>rfl)) (res _ _ _),var _ (fun _ _=>rfl),rfl,fun b off hp=>?_,fun ha=>?_⟩,fun p hp _=>?_⟩
  ·have here:MemPlace.cell b off∈before:=by rw [abh]; simpa using hp
   rw [below.frozen (lt _ here)];exact fz b off here
  ·have:=nd ha
   rw [abh] at this;simpa using this
  ·rw [abh]; simpa using hp
end Go.aq
end
section
namespace Go.K
open Go Go.aq Go.RowKit Go.WideShapes Go.ChangeShapes
section
variable {H:Type} {enc:TypeId×Value->H} {P:Program} {W W' : World}
theorem Xi {base:Nat} {sp:Nat->Bool} {held:Bool} : ∀ {ts:List TypeId} {vs:List Value} {ds:List (DataW H)} {ps:List MemPlace},DataW.TrodAll enc P W base sp held ts vs ds ps->ds.length=ts.length
 | [],_,_,_,h=>by
  obtain ⟨rfl,rfl,rfl⟩:=trodAll_nil h;rfl
 | t::ts,vs,ds,ps,h=>by
  obtain ⟨v,vs1,d,ds1,a,b,rfl,rfl,rfl,_,h2⟩:=trodAll_cons h;simp [Xi h2]
theorem Y6 {α:Type} {n:Nat} {l:List α} (h:l.length=n+1):∃ x xs,l=x::xs:=by
 cases l with
 | nil=>simp at h
 | cons x xs=>exact ⟨x,xs,rfl⟩
theorem QY (hl:laidOutB P=true) (hb:Below W.heap.size W W') {sp:Nat->Bool} : ∀ {ts:List TypeId} {vs:List Value} {ds:List (DataW H)} {ps:List MemPlace},ts.all (fun t=>P.readableRec t&&Nat.blt t P.types.size)=true->
  DataW.TrodAll enc P W 0 (fun _=>true) true ts vs ds ps->(∀ x∈ps,x.block < W.heap.size)->(∀ x∈ps,sp x.block=true)->DataW.TrodAll enc P W' 0 sp true ts vs ds ps
 | [],_,_,_,_,h,_,_=>by
  obtain ⟨rfl,rfl,rfl⟩:=trodAll_nil h;exact trodAll_mk0
 | t::ts,vs,ds,ps,ht,h,bh,DG=>by
  obtain ⟨v,vs1,d,ds1,a,b,rfl,rfl,rfl,h1,h2⟩:=trodAll_cons h;simp only [List.all_cons,au] at ht;obtain ⟨⟨hr,eS⟩,ht⟩:=ht;rw [bO] at eS;refine ⟨a,b,WideElems.Trod_stays hl hr eS h1 (fun x hx=>hb.same (bh x (by simp [hx]))) (fun x hx=>DG x (by simp [hx])),?_,rfl⟩;exact QY hl hb ht h2 (fun x hx=>bh x (by simp [hx])) (fun x hx=>DG x (by simp [hx]))
theorem ans {s:ChangeSpec} {f:Func} {apart fresh handsOn again:Bool} {args:Array Value} {ds gs:List (DataW H)} {before:List MemPlace} (hl:laidOutB P=true) (hts:f.params.toList.all (fun t=>P.readableRec t&&Nat.blt t P.types.size)=true)
  (ao3:s.vars = []) (aq2:(s.fn H ds).args=ds) (aia:(s.fn H ds).results = [.lit (.bool true)]) (hv:(s.fn H ds).vars = []) {t:TypeId} (hrt:f.resultTypes = #[t]) (hb:P.underlying t=some .bool)
  (hW:DataW.Whole enc P f.params.toList s.vars apart W args.toList ds gs before) (hg:Below W.heap.size W W'):s.post enc P f apart fresh handsOn again W args (.bool true) W':=by
 have hW':=hW;obtain ⟨p,q,hA,hV,aqm,_,_⟩:=hW;rw [ao3] at hV;obtain ⟨rfl,rfl⟩:=trodVars_none hV;rw [uE] at aqm;subst aqm;have bh:∀ x∈before,x.block < W.heap.size:=fun x hx=>hW'.lt x (by simpa using hx);refine aq.ajJ (pa:=before) (pv:=[]) hW' hg (by simp) (fun b sp hd=>?_) (fun sp DG=>?_) (fun sp DG=>?_) (ok_one hrt rfl (okWide_bool_mk hb _))
 ·rw [uE,aia,hrt]
  exact trodAll_cons_mk (shut_bool hb _) trodAll_mk0
 ·rw [uE,aq2]
  exact QY hl hg hts hA bh (fun x hx=>DG x (by simpa using hx))
 ·rw [uE,hv,ao3]
  rfl
end
end Go.K
end
