/- Part of the proof of WorldPlain: the machine, shown to be the model's, and plain models. No conditions. -/
import Derived.Test.YtckbdndhmcoihaaJp
import Derived.Below
import Derived.ChangeSame
import Derived.ProofKit
import Derived.Test.YtckbdndhmcoihaaGp
import Derived.WideKeyArgs
set_option linter.unusedSimpArgs false
set_option linter.unusedVariables false
section
namespace Go.Proofs.Ytckbdndhmcoihaa.b
open Go.K
noncomputable section
structure fg where
 t2:Bool
 l:(Sl Place)
 p:(Sl Path)
 i:Int
 s:aC
instance:Inhabited fg:=⟨⟨default,default,default,default,default⟩⟩
def vZ (x:fg):List KV:=[.bool x.t2,dG 75 DK x.l,dG 50 IZ x.p,.int .i64 x.i]
def v7 (x:fg):List (List KV):=[zt x.s]
def Cr (vs:List KV) (rs:List (List KV)):fg:=⟨eH (v9 vs 0),eF Nq (v9 vs 1),eF KN (v9 vs 2),ax (v9 vs 3),zu (r9 rs 0)⟩
def DQ:aJ:=⟨[(2,w9 b9),(4,w9 (n9 75)),(6,w9 (n9 50)),(8,w9 i9)],[(1,[n9 139,n9 47,n9 64,n9 79,n9 118,i9,i9],1)],[(1,0,0)]⟩
structure gh where
 t2:Bool
 l:(Sl Place)
 p:(Sl Path)
 i:Int
 turns:Bool
 k:Int
 s:aC
 end_:Handle
instance:Inhabited gh:=⟨by constructor<;>exact default⟩
def si (x:gh):List KV:=[.bool x.t2,dG 75 DK x.l,dG 50 IZ x.p,.int .i64 x.i,.bool x.turns,.int .i64 x.k]
def sk (x:gh):List (List KV):=[zt x.s,afY x.end_]
def z7 (vs:List KV) (rs:List (List KV)):gh:=⟨eH (v9 vs 0),eF Nq (v9 vs 1),eF KN (v9 vs 2),ax (v9 vs 3),eH (v9 vs 4),ax (v9 vs 5),zu (r9 rs 0),afZ (r9 rs 1)⟩
def Bd:aJ:=⟨[(2,w9 b9),(4,w9 (n9 75)),(6,w9 (n9 50)),(8,w9 i9),(9,w9 b9),(11,w9 i9)],[(1,[n9 139,n9 47,n9 64,n9 79,n9 118,i9,i9],1),(10,[i9,i9],1)],[(1,0,0),(10,1,0)]⟩
def Jr:=Cv [(9,rM),(8,yY),(7,Dn),(6,DP)] [] 4 521370 Bd
def fh (x:gh):aX gh:=(cond ((decide (0<=x.i))&&(decide (x.i < (x.p.n:Int)))) (cond (decide (x.k < ((x.p.get (Int.toNat x.i)).nodes.n:Int))) (cond ((decide (0<=x.i))&&(decide (x.i < (x.p.n:Int)))) (cond ((decide (0<=x.k))&&(decide (x.k < ((x.p.get (Int.toNat x.i)).nodes.n:Int)))) (cond x.turns (.next ⟨x.t2,x.l,x.p,x.i,true,(aP (x.k+1)),x.s,((x.p.get (Int.toNat x.i)).nodes.get (Int.toNat x.k))⟩) (cond ((decide (0<=((x.p.get (Int.toNat x.i)).nodes.get (Int.toNat x.k)).slot))&&(decide (((x.p.get (Int.toNat x.i)).nodes.get (Int.toNat x.k)).slot < (x.s.nodes.n:Int)))) (.next ⟨x.t2,x.l,x.p,x.i,((x.s.nodes.get (Int.toNat ((x.p.get (Int.toNat x.i)).nodes.get (Int.toNat x.k)).slot)).kind==2),(aP (x.k+1)),x.s,((x.p.get (Int.toNat x.i)).nodes.get (Int.toNat x.k))⟩) .fail)) .fail) .fail) (.out (aI.ah.exit 2) x)) .fail)
theorem Hp (x:gh):Jr (si x) (sk x)=aX.enc si sk (fh x):=by
 unfold fh
 try simp only [aX.cJ]
 kernel_rfl
def oD:Lp:=⟨4,521370,Bd,fun vs rs=>dU si sk (goN fh (z7 vs rs)) [aI.ah.exit 2],false⟩
theorem sm:oD.Ok PG:=C8 (ak.cons o8 (ak.cons yp (ak.cons Br (ak.cons BD ak.nil)))) bu.nil (pa:=z7) Hp
structure fN where
 t2:Bool
 l:(Sl Place)
 p:(Sl Path)
 i:Int
 turns:Bool
 k:Int
 s:aC
 x:gu
instance:Inhabited fN:=⟨by constructor<;>exact default⟩
def rO (x:fN):List KV:=[.bool x.t2,dG 75 DK x.l,dG 50 IZ x.p,.int .i64 x.i,.bool x.turns,.int .i64 x.k]
def rP (x:fN):List (List KV):=[zt x.s,Wg x.x]
def yZ (vs:List KV) (rs:List (List KV)):fN:=⟨eH (v9 vs 0),eF Nq (v9 vs 1),eF KN (v9 vs 2),ax (v9 vs 3),eH (v9 vs 4),ax (v9 vs 5),zu (r9 rs 0),Wh (r9 rs 1)⟩
def z8:aJ:=⟨[(2,w9 b9),(4,w9 (n9 75)),(6,w9 (n9 50)),(8,w9 i9),(9,w9 b9),(13,w9 i9)],[(1,[n9 139,n9 47,n9 64,n9 79,n9 118,i9,i9],1),(12,[n9 36,n9 125,n9 120],1)],[(1,0,0),(12,1,0)]⟩
def Jl:=Cv [(9,rM),(8,yY),(7,Dn),(6,DP)] [oD] 4 1042750 z8
def eV (x:fN):aX fN:=(cond (decide (x.k < (x.x.ay.n:Int))) (cond (!x.turns) (cond ((decide (0<=x.i))&&(decide (x.i < (x.l.n:Int)))) (cond (decide (x.k >= ((x.l.get (Int.toNat x.i)).item.ay.n:Int))) (.out aI.ah.ret ⟨false,x.l,x.p,x.i,x.turns,x.k,x.s,x.x⟩) (cond ((decide (0<=x.i))&&(decide (x.i < (x.l.n:Int)))) (cond ((decide (0<=x.k))&&(decide (x.k < ((x.l.get (Int.toNat x.i)).item.ay.n:Int)))) (cond ((decide (0<=x.k))&&(decide (x.k < (x.x.ay.n:Int)))) (cond (!((((x.l.get (Int.toNat x.i)).item.ay.get (Int.toNat x.k)).x==(x.x.ay.get (Int.toNat x.k)).x)&&((((x.l.get (Int.toNat x.i)).item.ay.get (Int.toNat x.k)).y==(x.x.ay.get (Int.toNat x.k)).y)&&((((x.l.get (Int.toNat x.i)).item.ay.get (Int.toNat x.k)).z==(x.x.ay.get (Int.toNat x.k)).z)&&true)))) (.out aI.ah.ret ⟨false,x.l,x.p,x.i,x.turns,x.k,x.s,x.x⟩) (.next ⟨x.t2,x.l,x.p,x.i,x.turns,(aP (x.k+1)),x.s,x.x⟩)) .fail) .fail) .fail)) .fail) (.out (aI.ah.exit 4) x)) (.out (aI.ah.exit 4) x))
theorem Gr (x:fN):Jl (rO x) (rP x)=aX.enc rO rP (eV x):=by
 unfold eV
 try simp only [aX.cJ]
 kernel_rfl
def sq:Lp:=⟨4,1042750,z8,fun vs rs=>dU rO rP (goN eV (yZ vs rs)) [aI.ah.exit 4,aI.ah.ret],false⟩
theorem y9:sq.Ok PG:=C8 (ak.cons o8 (ak.cons yp (ak.cons Br (ak.cons BD ak.nil)))) (rH sm bu.nil) (pa:=yZ) Gr
def L7:=Cv [(9,rM),(8,yY),(7,Dn),(6,DP)] [oD,sq] 4 1018 DQ
def bz (x:fg):=goN fh ⟨x.t2,x.l,x.p,x.i,false,0,x.s,((x.p.get (Int.toNat x.i)).nodes.get 0)⟩
def cz (x:fg):=goN eV ⟨(bz x).st.t2,(bz x).st.l,(bz x).st.p,(bz x).st.i,(bz x).st.turns,0,(bz x).st.s,((bz x).st.s.eO.get (Int.toNat ((bz x).st.s.nodes.get (Int.toNat (bz x).st.end_.slot)).fB))⟩
def dN (x:fg):aX fg:=(cond (decide (x.i < (x.l.n:Int))) (cond ((decide (0<=x.i))&&(decide (x.i < (x.p.n:Int)))) (cond (decide (0 < ((x.p.get (Int.toNat x.i)).nodes.n:Int))) (cond ((bz x).by (aI.ah.exit 2)) (cond ((decide (0<=(bz x).st.end_.slot))&&(decide ((bz x).st.end_.slot < ((bz x).st.s.nodes.n:Int)))) (cond ((decide (0<=((bz x).st.s.nodes.get (Int.toNat (bz x).st.end_.slot)).fB))&&(decide (((bz x).st.s.nodes.get (Int.toNat (bz x).st.end_.slot)).fB < ((bz x).st.s.eO.n:Int)))) (cond ((cz x).by (aI.ah.exit 4)) (.next ⟨(cz x).st.t2,(cz x).st.l,(cz x).st.p,(aP ((cz x).st.i+1)),(cz x).st.s⟩) (cond ((cz x).by aI.ah.ret) (.out aI.ah.ret ⟨(cz x).st.t2,(cz x).st.l,(cz x).st.p,(cz x).st.i,(cz x).st.s⟩) .fail)) .fail) .fail) .fail) .fail) .fail) (.out (aI.ah.exit 0) x))
theorem Js (x:fg):L7 (vZ x) (v7 x)=aX.enc vZ v7 (dN x):=by
 unfold dN
 try simp only [aX.cJ]
 kernel_rfl
def DR:Lp:=⟨4,1018,DQ,fun vs rs=>dU vZ v7 (goN dN (Cr vs rs)) [aI.ah.exit 0,aI.ah.ret],false⟩
theorem L8:DR.Ok PG:=C8 (ak.cons o8 (ak.cons yp (ak.cons Br (ak.cons BD ak.nil)))) (rH sm (rH y9 bu.nil)) (pa:=Cr) Js
def Cb:List (Nat×(List KV->KR KV)):=[(9,rM),(8,yY),(7,Dn),(6,DP)]
def Cc:List Lp:=[oD,sq,DR]
theorem PS:ak PG Cb:=(ak.cons o8 (ak.cons yp (ak.cons Br (ak.cons BD ak.nil))))
theorem PT:bu PG Cc:=(rH sm (rH y9 (rH L8 bu.nil)))
def qD (s:aC):=DN
def Az (s:aC):=zv s
def iZ (s:aC):=vX s
def qE (s:aC):=gb s
def qF (s:aC):=goN dN ⟨false,((iZ s).getD default).fst,((qE s).getD default).fst,0,s⟩
def yq (s:aC):Option (Bool):=(cond (qD s).isSome (cond (Az s).isSome (cond ((Az s).getD default) (some (((qD s).getD default))) (cond (!((qD s).getD default)) (some (((qD s).getD default))) (cond (iZ s).isSome (cond (qE s).isSome (cond (((iZ s).getD default).snd != 0) (some ((((iZ s).getD default).snd != 0))) (cond (((qE s).getD default).snd != 0) (some ((((iZ s).getD default).snd != 0))) (cond ((((iZ s).getD default).fst.n:Int) != (((qE s).getD default).fst.n:Int)) (some ((((iZ s).getD default).snd != 0))) (cond ((qF s).by (aI.ah.exit 0)) (some (true)) (cond ((qF s).by aI.ah.ret) (some ((qF s).st.t2)) none))))) none) none))) none) none)
theorem QZ (s:aC):FT PG (rG PG Cb Cc (fun q=>Nat.beq q 3)) 9 9 4 [kC s] = (yq s).map kB:=by
 unfold yq
 try simp only [cf]
 kernel_rfl
theorem PU (w:Nat->KV):vA PG [34] w 0 = [kC (eP (g0 34 (w 0)))]:=by kernel_rfl
end
end Go.Proofs.Ytckbdndhmcoihaa.b
end
section
namespace Go.Proofs.Ytckbdndhmcoihaa.sc
open Go Go.K Go.aI Go.Au Go.Proofs.Ytckbdndhmcoihaa.nodes
theorem akG:b.DN=some true:=by kernel_rfl
theorem amy:EE unit:=by
 unfold EE RowsIn Ng rK qu unit
 dsimp only
 omega
theorem akH {v:b.fp} (h:rK v 1024):iA unit v=(v,0):=by
 have e:PI unit v=v:=by
  obtain ⟨x,y,z⟩:=v;unfold PI unit dot;simp only [b.fp.mk.injEq];refine ⟨?_,?_,?_⟩ <;> omega
 have h4:rK v 4096:=by
  unfold rK qu at h ⊢;omega
 unfold iA;rw [aE ⟨amy,h4,by rw [e]; exact h4⟩,e]
theorem abz {s:b.aC} {p:b.Path} : ∀ n,(∀ j,j < n->(nodeAt s p j).kind≠2)->(gI s p n).1=unit
 | 0,_=>rfl
 | j+1,h=>by
  have ih:=abz j fun k hk=>h k (by omega);have h2:=h j (by omega);by_cases h0:(gI s p j).2=0
  ·by_cases h4:(nodeAt s p j).kind=4
   ·rw [S6 h4 h0]; exact ih
   ·rw [Nu h2 h4]; exact ih
  ·rw [QB h0]; exact ih
theorem aii {s:b.aC} {l:Sl b.Place} {p:Sl b.Path} {i:Nat} (hi:i < p.n) (ht:uq s (p.get i)) :
  ∃ x',goN b.fh ⟨false,l,p,(i:Int),false,0,s,((p.get i).nodes.get 0)⟩ = .out (.exit 2) x'/\x'.t2=false/\x'.l=l/\x'.p=p/\x'.i=(i:Int)/\x'.s=s/\x'.end_=(p.get i).nodes.get (p.get i).kids.n/\(x'.turns=false->∀ j,j < (p.get i).nodes.n->(nodeAt s (p.get i) j).kind≠2):=by
 have hn:=ht.n;have hf:=ht.Wx;obtain ⟨e',x',q1,q2,q3⟩:=jH (step:=b.fh)
  (fun j x=>x.t2=false/\x.l=l/\x.p=p/\x.i=(i:Int)/\x.k=(j:Int)/\x.s=s/\(0 < j->x.end_=(p.get i).nodes.get (j - 1))/\(x.turns=false->∀ k,k < j->(nodeAt s (p.get i) k).kind≠2))
  (fun e' x'=>e' = .exit 2/\x'.t2=false/\x'.l=l/\x'.p=p/\x'.i=(i:Int)/\x'.s=s/\x'.end_=(p.get i).nodes.get (p.get i).kids.n/\(x'.turns=false->∀ j,j < (p.get i).nodes.n->(nodeAt s (p.get i) j).kind≠2))
  (p.get i).nodes.n (by unfold gV; omega) (by
   rintro j ⟨t2,xl,xp,xi,turns,k,xs,end_⟩ hj ⟨i1,i2,i3,i4,i5,i6,i7,i8⟩
   dsimp only at i1 i2 i3 i4 i5 i6 i7 i8
   subst i1 i2 i3 i4 i5 i6;unfold b.fh
   dsimp only
   have ei:Int.toNat (i:Int)=i:=rfl;have ej:Int.toNat (j:Int)=j:=rfl;have d0:decide ((0:Int)<=(i:Int))=true:=az (by omega);have d1:decide ((i:Int) < (xp.n:Int))=true:=az (by omega);rw [d0,d1,ei,ej];by_cases bj:j < (xp.get i).nodes.n
   ·have d2:decide ((0:Int)<=(j:Int))=true:=az (by omega)
    have d3:decide ((j:Int) < ((xp.get i).nodes.n:Int))=true:=az (by omega);have e1:aP ((j:Int)+1)=((j+1:Nat):Int):=by rw [di (by omega) (by omega)]; omega
    obtain ⟨s1,s2⟩:=J4 ht.asked (show j<=(xp.get i).kids.n by omega);rw [d2,d3,e1,az s1,az s2];cases turns with
    | true=>
     simp only [↓aj,↓aG,cC];exact .inl ⟨_,rfl,by omega,rfl,rfl,rfl,rfl,rfl,rfl,fun _=>rfl,fun q=>by simp at q⟩
    | false=>
     simp only [↓aj,↓aG,cC];refine .inl ⟨_,rfl,by omega,rfl,rfl,rfl,rfl,rfl,rfl,fun _=>rfl,fun q k hk=>?_⟩;by_cases c:k=j
     ·subst c
      intro h2;have q:((nodeAt xs (xp.get i) k).kind==(2:Int))=false:=q;rw [Fa.2 h2] at q;simp at q
     ·exact i8 rfl k (by omega)
   ·have:j=(xp.get i).nodes.n:=by omega
    subst this;rw [bq (Int.lt_irrefl _)];simp only [↓aj,↓aG,cC];refine .inr ⟨_,_,rfl,rfl,rfl,rfl,rfl,rfl,rfl,rfl,?_,i8⟩;show end_=_;rw [i7 (by omega),hn];rfl) (x:=⟨false,l,p,(i:Int),false,0,s,((p.get i).nodes.get 0)⟩) ⟨rfl,rfl,rfl,rfl,rfl,rfl,fun q=>absurd q (Nat.lt_irrefl _),fun _ k hk=>absurd hk (oX _)⟩
 subst q2;exact ⟨x',q1,q3⟩
theorem ab3 {s:b.aC} {l:Sl b.Place} {p:Sl b.Path} {i:Nat} (hi:i < l.n) (turns:Bool) (m:b.gu) (hm:m.ay.n<=64) (hv:turns=false->(l.get i).item.ay.n=m.ay.n/\∀ k,k < m.ay.n->(l.get i).item.ay.get k=m.ay.get k) :
  ∃ x',goN b.eV ⟨false,l,p,(i:Int),turns,0,s,m⟩ = .out (.exit 4) x'/\x'.t2=false/\x'.l=l/\x'.p=p/\x'.i=(i:Int)/\x'.s=s:=by
 obtain ⟨e',x',q1,q2,q3⟩:=jH (step:=b.eV)
  (fun j x=>x=⟨false,l,p,(i:Int),turns,(j:Int),s,m⟩)
  (fun e' x'=>e' = .exit 4/\x'.t2=false/\x'.l=l/\x'.p=p/\x'.i=(i:Int)/\x'.s=s)
  m.ay.n (by unfold gV; omega) (by
   rintro j _ hj rfl;unfold b.eV
   dsimp only
   have ei:Int.toNat (i:Int)=i:=rfl;have ej:Int.toNat (j:Int)=j:=rfl;have d0:decide ((0:Int)<=(i:Int))=true:=az (by omega);have d1:decide ((i:Int) < (l.n:Int))=true:=az (by omega);rw [d0,d1,ei,ej];by_cases bj:j < m.ay.n
   ·have d2:decide ((0:Int)<=(j:Int))=true:=az (by omega)
    have d3:decide ((j:Int) < (m.ay.n:Int))=true:=az (by omega);have e1:aP ((j:Int)+1)=((j+1:Nat):Int):=by rw [di (by omega) (by omega)]; omega
    rw [d2,d3,e1];cases turns with
    | true=>
     simp only [↓aj,↓aG,cC,Bool.not_true];exact .inr ⟨_,_,rfl,rfl,rfl,rfl,rfl,rfl,rfl,rfl⟩
    | false=>
     obtain ⟨h1,h2⟩:=hv rfl;have d4:decide ((j:Int) >= ((l.get i).item.ay.n:Int))=false:=bq (by omega);have d5:decide ((j:Int) < ((l.get i).item.ay.n:Int))=true:=az (by omega);rw [d4,d5,h2 j bj,(ajp (m.ay.get j) (m.ay.get j)).2 rfl];simp only [↓aj,↓aG,cC,Bool.not_true,GQ];exact .inl ⟨_,rfl,by omega,rfl⟩
   ·have:j=m.ay.n:=by omega
    subst this;rw [bq (Int.lt_irrefl _)];exact .inr ⟨_,_,rfl,rfl,rfl,rfl,rfl,rfl,rfl,rfl⟩) (x:=⟨false,l,p,(i:Int),turns,0,s,m⟩) rfl
 subst q2;exact ⟨x',q1,q3⟩
theorem agP {s:b.aC} {l:Sl b.Place} {p:Sl b.Path} (hb:amx s l p):∃ x',goN b.dN ⟨false,l,p,0,s⟩ = .out (.exit 0) x':=by
 have hfew:=hb.Wx;have hln:=hb.n;obtain ⟨e',x',q1,q2⟩:=jH (step:=b.dN)
  (fun j x=>x=⟨false,l,p,(j:Int),s⟩) (fun e' x'=>e' = .exit 0)
  l.n (by unfold gV; omega) (by
   rintro j _ hj rfl;by_cases bj:j < l.n
   ·have hjp:j < p.n:=by omega
    obtain ⟨ks,_,_,ht⟩:=hb.way j hjp;have cM:=hb.ok j hjp;have hn:=ht.n;obtain ⟨y,y1,y2,y3,y4,y5,y6,y7,y8⟩:=aii (l:=l) hjp ht;have e0:b.bz ⟨false,l,p,(j:Int),s⟩ = .out (.exit 2) y:=y1;obtain ⟨m1,m2⟩:=ht.at;obtain ⟨hm,hk⟩:=ht.ok;have hv:y.turns=false->(l.get j).item.ay.n=(iB s (p.get j)).ay.n/\∀ k,k < (iB s (p.get j)).ay.n->(l.get j).item.ay.get k=(iB s (p.get j)).ay.get k:=fun hy=>by
     have hu:=abz _ (y8 hy);rw [cM.ay];refine ⟨J8 _ _ _ _,fun k hk=>?_⟩;rw [((acZ _ (cM.tQ rfl)).2 k hk).2,hu,akH (hm.2.2.1 k hk)]
    obtain ⟨z,z1,z2,z3,z4,z5,z6⟩:=ab3 (s:=s) (l:=l) (p:=p) bj y.turns (iB s (p.get j)) hm.1.1 hv;have e1:b.cz ⟨false,l,p,(j:Int),s⟩ = .out (.exit 4) z:=by
     unfold b.cz;rw [e0];rw [aX.kD,y2,y3,y4,y5,y6,y7];exact z1
    unfold b.dN;rw [e0,e1];rw [aX.kD,aX.kD,y6,y7,z2,z3,z4,z5,z6]
    dsimp only
    have ej:Int.toNat (j:Int)=j:=rfl;have d1:decide ((j:Int) < (l.n:Int))=true:=az (by omega);have d2:decide ((0:Int)<=(j:Int))=true:=az (by omega);have d3:decide ((j:Int) < (p.n:Int))=true:=az (by omega);have d4:decide ((0:Int) < ((p.get j).nodes.n:Int))=true:=az (by omega);have e2:aP ((j:Int)+1)=((j+1:Nat):Int):=by rw [di (by omega) (by omega)]; omega
    obtain ⟨s1,s2⟩:=J4 ht.asked (aB (p.get j).kids.n);have aoC:s.nodes.get ((p.get j).nodes.get (p.get j).kids.n).slot.toNat=nodeAt s (p.get j) (p.get j).kids.n:=rfl;rw [d1,d2,ej,d3,d4,e2,az s1,az s2,aoC,az m1,az m2];exact .inl ⟨_,rfl,by omega,rfl⟩
   ·have:j=l.n:=by omega
    subst this;unfold b.dN
    dsimp only
    rw [bq (Int.lt_irrefl _)];exact .inr ⟨_,_,rfl,rfl,rfl⟩) (x:=⟨false,l,p,0,s⟩) rfl
 subst q2;exact ⟨x',q1⟩
theorem Va (s:b.aC) (hs:L6 s):b.yq s=some true:=by
 unfold b.yq;obtain ⟨g,g1,g2⟩:=agu s;have e0:b.qD s=some true:=akG;have e1:b.Az s=some g:=g1;rw [e0,e1];simp only [iG,fv,aj,aG,Bool.not_true];cases g with
 | true=>rfl
 | false=>
  have hf:=g2 rfl;obtain ⟨l,e,p,f,h1,h2,h3⟩:=agO (hs.inn hf) hs.on;have e2:b.iZ s=some (l,e):=h1;have e3:b.qE s=some (p,f):=h2;have e4:b.qF s=goN b.dN ⟨false,l,p,0,s⟩:=by
   unfold b.qF;rw [e2,e3];rfl
  rw [e2,e3,e4];simp only [iG,fv,aj,aG];rcases h3 with ⟨he,_,_⟩ | ⟨rfl,rfl,hb⟩
  ·rw [neI.2 he]
   rfl
  ·rw [show ((0:Int) != 0)=false from rfl,aG,aG,show ((l.n:Int) != (p.n:Int))=false by rw [bne_eq_false_iff_eq,hb.n],aG]
   obtain ⟨x',q⟩:=agP hb;rw [q];rfl
end Go.Proofs.Ytckbdndhmcoihaa.sc
end
section
namespace Go.Proofs.Ytckbdndhmcoihaa.sc
open Go Go.K Go.Proofs.Ytckbdndhmcoihaa.nodes
theorem PV {P:Program} : ∀ {l:List KV},Bo P l->∀ v∈l,F3 P v
 | [],_,v,hv=>by simp at hv
 | x::l,h,v,hv=>by
  simp only [Bo] at h;rcases de.1 hv with rfl | hv
  ·exact h.1
  ·exact PV h.2 v hv
theorem PW {P:Program} {ks:List CK} {v:KV} (h:cw ⟨true,ks⟩ v=true) (hw:QI P v) (hd:F3 P v) {j:Nat} {c:CK} (hj:ks[j]? = some c):K.kindOk c (v.cells.getD j .bf)=true/\QI P (v.cells.getD j .bf)/\F3 P (v.cells.getD j .bf):=by
 obtain ⟨cs,rfl,hk⟩:=akb h;obtain ⟨u,h1,h2⟩:=CT hk hj;have e:(KV.agg cs).cells.getD j .bf=u:=by
  show cs.getD j .bf=u;rw [fD,h1];rfl
 have hm:=gi h1;rw [e];have hd' : Bo P cs:=by simpa [F3] using hd
 have hw' : DV P cs:=by simpa [QI] using hw
 exact ⟨h2,V8 hw' u hm,PV hd' u hm⟩
theorem aij {P:Program} {v:KV} {T:TypeId} (h:K.kindOk (.slice T) v=true) (hw:QI P v) (hd:F3 P v) {i:Nat} (hi:i < lenOf v):cw (aQ P T) (Ac v i)=true/\QI P (Ac v i)/\F3 P (Ac v i):=by
 cases v with
 | ts t m n es acc=>
  have ht:T=t:=by
   cases m <;> simp [K.kindOk] at h;exact h
  subst ht;simp only [F3] at hd;simp only [QI] at hw;obtain ⟨aik,aqa⟩:=hd;have hi:i < n:=hi;have hl:i < es.length:=by rw [<- aik.len]; exact hi
  have e:acc i=es.getD i .bf:=aik.acc i hi;have e2:es.getD i .bf=es[i]:=by rw [fD,cK hl]; rfl
  show cw (aQ P T) (acc i)=true/\QI P (acc i)/\F3 P (acc i);rw [e,e2];exact ⟨gE aik.typed (cK hl),V8 hw.2.1 _ (P2 hl),PV aqa _ (P2 hl)⟩
 | _=>simp [K.kindOk] at h
theorem WS {P:Program} {v:KV} (h:K.kindOk (.int .u8) v=true) (hw:QI P v):0<=ax v/\ax v<=255:=by
 cases v with
 | int k n=>
  have hk:k = .u8:=by
   have:decide (IntKind.u8=k)=true:=h;exact (PY this).symm
  subst hk;have h:(Lit.int .u8 n).wf=true:=hw;simp only [Lit.wf,ao,lT] at h;show 0<=n/\n<=255;exact h
 | _=>simp [K.kindOk] at h
theorem ank {P:Program} {v:KV} (h:K.kindOk (.int .u16) v=true) (hw:QI P v):0<=ax v/\ax v<=65535:=by
 cases v with
 | int k n=>
  have hk:k = .u16:=by
   have:decide (IntKind.u16=k)=true:=h;exact (PY this).symm
  subst hk;have h:(Lit.int .u16 n).wf=true:=hw;simp only [Lit.wf,ao,lT] at h;show 0<=n/\n<=65535;exact h
 | _=>simp [K.kindOk] at h
noncomputable abbrev DS (a:KV):b.aC:=b.eP (ik Try.prog (ca Try.prog dB) 34 a)
theorem aoD:aQ Try.prog 34=⟨true,[.slice 139,.slice 47,.slice 64,.slice 79,.slice 118,.int .i64,.int .i64]⟩:=by kernel_rfl
theorem aoE:∃ ks,aQ Try.prog 64=⟨true,ks⟩/\ks[13]? = some (.int .u16)/\ks[19]? = some (.int .u8)/\ks[20]? = some (.int .u8)/\ks[21]? = some (.int .u8)/\ks[22]? = some (.int .u8)/\ks[23]? = some (.int .u8):=⟨(aQ Try.prog 64).ks,by kernel_rfl,by kernel_rfl,by kernel_rfl,by kernel_rfl,by kernel_rfl,by kernel_rfl,by kernel_rfl⟩
theorem aoF:∃ ks,aQ Try.prog 79=⟨true,ks⟩/\ks[2]? = some (.slice 120):=⟨(aQ Try.prog 79).ks,by kernel_rfl,by kernel_rfl⟩
theorem amz:∃ ks,aQ Try.prog 120=⟨true,ks⟩/\ks[0]? = some (.int .u8):=⟨(aQ Try.prog 120).ks,by kernel_rfl,by kernel_rfl⟩
theorem akI (a:KV):(DS a).nodes.n=lenOf (a.cells.getD 2 .bf):=by kernel_rfl
theorem ail (a:KV):(DS a).eO.n=lenOf (a.cells.getD 3 .bf):=by kernel_rfl
theorem aoG (a:KV) (i:Nat):((DS a).nodes.get i).sh=ax ((Ac (a.cells.getD 2 .bf) i).cells.getD 13 .bf):=by kernel_rfl
theorem anl (a:KV) (i:Nat):((DS a).nodes.get i).bF.cp=⟨ax ((Ac (a.cells.getD 2 .bf) i).cells.getD 19 .bf),ax ((Ac (a.cells.getD 2 .bf) i).cells.getD 20 .bf),ax ((Ac (a.cells.getD 2 .bf) i).cells.getD 21 .bf),ax ((Ac (a.cells.getD 2 .bf) i).cells.getD 22 .bf),ax ((Ac (a.cells.getD 2 .bf) i).cells.getD 23 .bf)⟩:=by kernel_rfl
theorem akJ (a:KV) (i:Nat):((DS a).eO.get i).fY.n=lenOf ((Ac (a.cells.getD 3 .bf) i).cells.getD 2 .bf):=by kernel_rfl
theorem amA (a:KV) (i k:Nat):(((DS a).eO.get i).fY.get k).kind=ax ((Ac ((Ac (a.cells.getD 3 .bf) i).cells.getD 2 .bf) k).cells.getD 0 .bf):=by kernel_rfl
theorem aim {a:KV} (h:cw (aQ Try.prog 34) a=true) (hw:QI Try.prog a) (hd:F3 Try.prog a):L6 (DS a):=by
 rw [aoD] at h;obtain ⟨i1,i2,i3⟩:=PW h hw hd (j:=2) rfl;obtain ⟨t1,t2,t3⟩:=PW h hw hd (j:=3) rfl;obtain ⟨ks,l0,l13,l19,l20,l21,l22,l23⟩:=aoE;obtain ⟨kt,m0,m2⟩:=aoF;obtain ⟨kp,n0,n1⟩:=amz;have node:∀ i,i < (DS a).nodes.n->∀ j c,ks[j]? = some c->K.kindOk c ((Ac (a.cells.getD 2 .bf) i).cells.getD j .bf)=true/\QI Try.prog ((Ac (a.cells.getD 2 .bf) i).cells.getD j .bf):=fun i hi j c hj=>by
  rw [akI] at hi;obtain ⟨q1,q2,q3⟩:=aij i1 i2 i3 hi;rw [l0] at q1;obtain ⟨r1,r2,_⟩:=PW q1 q2 q3 hj;exact ⟨r1,r2⟩
 refine ⟨fun i hi=>?_,fun i hi=>?_,fun i hi k hk=>?_⟩
 ·unfold Qx
  rw [anl];exact ⟨WS (node i hi 19 _ l19).1 (node i hi 19 _ l19).2,WS (node i hi 20 _ l20).1 (node i hi 20 _ l20).2,WS (node i hi 21 _ l21).1 (node i hi 21 _ l21).2,WS (node i hi 22 _ l22).1 (node i hi 22 _ l22).2,WS (node i hi 23 _ l23).1 (node i hi 23 _ l23).2⟩
 ·rw [aoG]
  exact ank (node i hi 13 _ l13).1 (node i hi 13 _ l13).2
 ·rw [ail] at hi
  obtain ⟨q1,q2,q3⟩:=aij t1 t2 t3 hi;rw [m0] at q1;obtain ⟨r1,r2,r3⟩:=PW q1 q2 q3 m2;rw [akJ] at hk;obtain ⟨c1,c2,c3⟩:=aij r1 r2 r3 hk;rw [n0] at c1;rw [amA];obtain ⟨x0,y0,_⟩:=PW c1 c2 c3 n1;exact (WS x0 y0).1
theorem abA {P:Program} : ∀ {ts:List TypeId} {xs:List KV} {i:Nat} {t:TypeId},lV P ts xs=true->DV P xs->Bo P xs->ts[i]? = some t->cw (aQ P t) (xs.getD i .bf)=true/\QI P (xs.getD i .bf)/\F3 P (xs.getD i .bf)
 | [],_,_,_,_,_,_,h=>by simp at h
 | _::_,[],_,_,h,_,_,_=>by simp [lV] at h
 | t::ts,v::vs,i,u,h,hw,hd,ht=>by
  simp only [lV,ao] at h;cases i with
  | zero=>
   rw [List.getElem?_cons_zero] at ht;rw [<- GK ht];exact ⟨h.1,hw.1,hd.1⟩
  | succ i=>
   rw [L9] at ht;have:=abA (ts:=ts) (xs:=vs) (i:=i) h.2 hw.2 hd.2 ht;rw [List.getD_cons_succ];exact this
theorem ain {ts:List TypeId} {xs:List KV} (i:Nat) (ht:ts[i]? = some 34) (h:lV Try.prog ts xs=true) (hw:DV Try.prog xs) (hd:Bo Try.prog xs):L6 (DS (xs.getD i .bf)):=by
 obtain ⟨h1,h2,h3⟩:=abA h hw hd ht;exact aim h1 h2 h3
end Go.Proofs.Ytckbdndhmcoihaa.sc
end
section
namespace Go.aI
open Go.RowKit Go.WideShapes Go.ChangeShapes
theorem agQ {H:Type} {enc:TypeId×Value->H} {P:Program} {f:Func} {s:ChangeSpec} {apart fresh handsOn again:Bool} {W W' : World} {args:Array Value} {v:Value} {ds gs:List (DataW H)} {before pa pv:List MemPlace}
  (whole:DataW.Whole enc P f.params.toList s.vars apart W args.toList ds gs before) (below:Below W.heap.size W W') (YR:before=pa++pv)
  (res:∀ (b:Nat) (sp:Nat->Bool) (hd:Bool),DataW.TrodAll enc P W' b sp hd f.resultTypes.toList (v.resultList f.resultTypes.size) (s.fn H (ds++gs)).results [])
  (arg:∀ sp:Nat->Bool,(∀ p∈before,sp p.block=true)->DataW.TrodAll enc P W' 0 sp true f.params.toList args.toList (s.fn H (ds++gs)).args pa)
  (var:∀ sp:Nat->Bool,(∀ p∈before,sp p.block=true)->DataW.TrodVars enc P W' sp s.vars (s.fn H (ds++gs)).vars pv)
  (wide:∀ (j:Nat) (t:TypeId) (r:Value),f.resultTypes[j]? = some t->(v.resultList f.resultTypes.size)[j]? = some r->Value.okWide P W' .any 0 t r) :
  s.post enc P f apart fresh handsOn again W args v W':=by
 have lt:∀ p∈before,p.block < W.heap.size:=fun p hp=>whole.lt p hp;have eS:∀ p∈before,(fun b=>decide (b < W.heap.size)) p.block=true:=fun p hp=>by simpa using lt p hp
 refine ⟨ds,gs,before,[],pa,pv,whole,res _ _ _,arg _ eS,var _ eS,World.keptBut_mono (fun p hp=>⟨hp,?_⟩) (below.frame (·∈before)),fun _=>?_⟩
 ·rw [YR,jJ] at hp; exact Or.inr hp
 ·obtain ⟨_,_,_,_,_,fz,nd⟩:=whole
  refine ⟨wide,_,_,([]++pa)++pv,⟨[]++pa,pv,trodAll_append (arg _ (fun _ _=>rfl)) (res _ _ _),var _ (fun _ _=>rfl),rfl,fun b off hp=>?_,fun ha=>?_⟩,fun p hp _=>?_⟩
  ·have here:MemPlace.cell b off∈before:=by rw [YR]; simpa using hp
   rw [below.frozen (lt _ here)];exact fz b off here
  ·have:=nd ha
   rw [YR] at this;simpa using this
  ·rw [YR]; simpa using hp
end Go.aI
end
section
namespace Go.K
open Go Go.aI Go.RowKit Go.WideShapes Go.ChangeShapes
section
variable {H:Type} {enc:TypeId×Value->H} {P:Program} {W W' : World}
theorem Vb {base:Nat} {sp:Nat->Bool} {held:Bool} : ∀ {ts:List TypeId} {vs:List Value} {ds:List (DataW H)} {ps:List MemPlace},DataW.TrodAll enc P W base sp held ts vs ds ps->ds.length=ts.length
 | [],_,_,_,h=>by
  obtain ⟨rfl,rfl,rfl⟩:=trodAll_nil h;rfl
 | t::ts,vs,ds,ps,h=>by
  obtain ⟨v,vs1,d,ds1,a,b,rfl,rfl,rfl,_,h2⟩:=trodAll_cons h;simp [Vb h2]
theorem akL {α:Type} {n:Nat} {l:List α} (h:l.length=n+1):∃ x xs,l=x::xs:=by
 cases l with
 | nil=>simp at h
 | cons x xs=>exact ⟨x,xs,rfl⟩
theorem PX (hl:laidOutB P=true) (hb:Below W.heap.size W W') {sp:Nat->Bool} : ∀ {ts:List TypeId} {vs:List Value} {ds:List (DataW H)} {ps:List MemPlace},ts.all (fun t=>P.readableRec t&&Nat.blt t P.types.size)=true->
  DataW.TrodAll enc P W 0 (fun _=>true) true ts vs ds ps->(∀ x∈ps,x.block < W.heap.size)->(∀ x∈ps,sp x.block=true)->DataW.TrodAll enc P W' 0 sp true ts vs ds ps
 | [],_,_,_,_,h,_,_=>by
  obtain ⟨rfl,rfl,rfl⟩:=trodAll_nil h;exact trodAll_mk0
 | t::ts,vs,ds,ps,ht,h,bj,FJ=>by
  obtain ⟨v,vs1,d,ds1,a,b,rfl,rfl,rfl,h1,h2⟩:=trodAll_cons h;simp only [List.all_cons,ao] at ht;obtain ⟨⟨hr,fk⟩,ht⟩:=ht;rw [bG] at fk;refine ⟨a,b,WideElems.Trod_stays hl hr fk h1 (fun x hx=>hb.same (bj x (by simp [hx]))) (fun x hx=>FJ x (by simp [hx])),?_,rfl⟩;exact PX hl hb ht h2 (fun x hx=>bj x (by simp [hx])) (fun x hx=>FJ x (by simp [hx]))
theorem akM {s:ChangeSpec} {f:Func} {apart fresh handsOn again:Bool} {args:Array Value} {ds gs:List (DataW H)} {before:List MemPlace} (hl:laidOutB P=true) (hts:f.params.toList.all (fun t=>P.readableRec t&&Nat.blt t P.types.size)=true)
  (amB:s.vars = []) (aoH:(s.fn H ds).args=ds) (aft:(s.fn H ds).results = [.lit (.bool true)]) (hv:(s.fn H ds).vars = []) {t:TypeId} (hrt:f.resultTypes = #[t]) (hb:P.underlying t=some .bool)
  (hW:DataW.Whole enc P f.params.toList s.vars apart W args.toList ds gs before) (hg:Below W.heap.size W W'):s.post enc P f apart fresh handsOn again W args (.bool true) W':=by
 have hW':=hW;obtain ⟨p,q,hA,hV,an2,_,_⟩:=hW;rw [amB] at hV;obtain ⟨rfl,rfl⟩:=trodVars_none hV;rw [yd] at an2;subst an2;have bj:∀ x∈before,x.block < W.heap.size:=fun x hx=>hW'.lt x (by simpa using hx);refine aI.agQ (pa:=before) (pv:=[]) hW' hg (by simp) (fun b sp hd=>?_) (fun sp FJ=>?_) (fun sp FJ=>?_) (ok_one hrt rfl (okWide_bool_mk hb _))
 ·rw [yd,aft,hrt]
  exact trodAll_cons_mk (shut_bool hb _) trodAll_mk0
 ·rw [yd,aoH]
  exact PX hl hg hts hA bj (fun x hx=>FJ x (by simpa using hx))
 ·rw [yd,hv,amB]
  rfl
end
end Go.K
end
