/- Part of the proof of WorldLevels: the machine, shown to be the model's, and plain models. No conditions. -/
import Derived.Test.YtckbdndhmcoihaaJp
import Derived.Below
import Derived.ChangeSame
import Derived.ProofKit
import Derived.Test.YtckbdndhmcoihaaGp
import Derived.WideKeyArgs
set_option linter.unusedSimpArgs false
set_option linter.unusedVariables false
section
namespace Go.Proofs.Ytckbdndhmcoihaa.b
open Go.K
noncomputable section
structure fI where
 t4:Bool
 l:(Sl Place)
 p:(Sl Path)
 i:Int
 s:aA
 from_:dI
instance:Inhabited fI:=⟨by constructor<;>exact default⟩
def uN (x:fI):List KV:=[.bool x.t4,dL 75 DN x.l,dL 50 Gt x.p,.int .i64 x.i]
def uO (x:fI):List (List KV):=[Bp x.s,ajP x.from_]
def Ba (vs:List KV) (rs:List (List KV)):fI:=⟨fh (v9 vs 0),eX Kl (v9 vs 1),eX EH (v9 vs 2),av (v9 vs 3),Bq (r9 rs 0),ajQ (r9 rs 1)⟩
def Cv:aJ:=⟨[(4,w9 b9),(6,w9 (n9 75)),(8,w9 (n9 50)),(10,w9 i9)],[(2,[n9 139,n9 47,n9 64,n9 79,n9 118,i9,i9],1),(3,[i9,i9,i9],1)],[(2,0,0),(3,1,0)]⟩
structure dG where
 t4:Bool
 l:(Sl Place)
 p:(Sl Path)
 i:Int
 k:Int
 s:aA
 from_:dI
instance:Inhabited dG:=⟨by constructor<;>exact default⟩
def ss (x:dG):List KV:=[.bool x.t4,dL 75 DN x.l,dL 50 Gt x.p,.int .i64 x.i,.int .i64 x.k]
def su (x:dG):List (List KV):=[Bp x.s,ajP x.from_]
def zY (vs:List KV) (rs:List (List KV)):dG:=⟨fh (v9 vs 0),eX Kl (v9 vs 1),eX EH (v9 vs 2),av (v9 vs 3),av (v9 vs 4),Bq (r9 rs 0),ajQ (r9 rs 1)⟩
def Bb:aJ:=⟨[(4,w9 b9),(6,w9 (n9 75)),(8,w9 (n9 50)),(10,w9 i9),(11,w9 i9)],[(2,[n9 139,n9 47,n9 64,n9 79,n9 118,i9,i9],1),(3,[i9,i9,i9],1)],[(2,0,0),(3,1,0)]⟩
def JE:=BU [(11,Hz),(10,Kr),(9,wi),(8,DS),(7,Hq),(6,HA)] [] 3 65170 Bb
def eJ (x:dG):=Cu (x.p.get (Int.toNat x.i)) (x.p.get (Int.toNat x.k))
def rS (x:dG):=xd (x.l.get (Int.toNat x.i)) x.from_
def rT (x:dG):=xd (x.l.get (Int.toNat x.k)) x.from_
def dY (x:dG):aX dG:=(cond (decide (x.k < x.i)) (cond ((decide (0<=x.i))&&(decide (x.i < (x.p.n:Int)))) (cond ((decide (0<=x.k))&&(decide (x.k < (x.p.n:Int)))) (cond (eJ x).isSome (cond (decide (((eJ x).getD default) >= 0)) (cond ((decide (0<=x.i))&&(decide (x.i < (x.p.n:Int)))) (cond ((decide (0<=((eJ x).getD default)))&&(decide (((eJ x).getD default) < ((x.p.get (Int.toNat x.i)).nodes.n:Int)))) (cond ((decide (0<=((x.p.get (Int.toNat x.i)).nodes.get (Int.toNat ((eJ x).getD default))).slot))&&(decide (((x.p.get (Int.toNat x.i)).nodes.get (Int.toNat ((eJ x).getD default))).slot < (x.s.nodes.n:Int)))) (cond ((x.s.nodes.get (Int.toNat ((x.p.get (Int.toNat x.i)).nodes.get (Int.toNat ((eJ x).getD default))).slot)).kind==4) (cond ((decide (0<=x.i))&&(decide (x.i < (x.l.n:Int)))) (cond (rS x).isSome (cond ((rS x).getD default) (cond ((decide (0<=x.k))&&(decide (x.k < (x.l.n:Int)))) (cond (rT x).isSome (cond ((rT x).getD default) (.out aG.ah.ret ⟨false,x.l,x.p,x.i,x.k,x.s,x.from_⟩) (.next ⟨x.t4,x.l,x.p,x.i,(aO (x.k+1)),x.s,x.from_⟩)) .fail) .fail) (.next ⟨x.t4,x.l,x.p,x.i,(aO (x.k+1)),x.s,x.from_⟩)) .fail) .fail) (.next ⟨x.t4,x.l,x.p,x.i,(aO (x.k+1)),x.s,x.from_⟩)) .fail) .fail) .fail) (.next ⟨x.t4,x.l,x.p,x.i,(aO (x.k+1)),x.s,x.from_⟩)) .fail) .fail) .fail) (.out (aG.ah.exit 2) x))
theorem HB (x:dG):JE (ss x) (su x)=aX.enc ss su (dY x):=by
 unfold dY
 try simp only [aX.cD]
 kernel_rfl
def uQ:Lp:=⟨3,65170,Bb,fun vs rs=>dR ss su (goN dY (zY vs rs)) [aG.ah.exit 2,aG.ah.ret],false⟩
theorem zZ:uQ.Ok PG:=CA (ak.cons GB (ak.cons Jx (ak.cons uz (ak.cons DT (ak.cons Gg (ak.cons GC ak.nil)))))) bm.nil (pa:=zY) HB
def Li:=BU [(11,Hz),(10,Kr),(9,wi),(8,DS),(7,Hq),(6,HA)] [uQ] 3 1018 Cv
def bZ (x:fI):=goN dY ⟨x.t4,x.l,x.p,x.i,0,x.s,x.from_⟩
def dK (x:fI):aX fI:=(cond (decide (x.i < (x.l.n:Int))) (cond ((bZ x).by (aG.ah.exit 2)) (.next ⟨(bZ x).st.t4,(bZ x).st.l,(bZ x).st.p,(aO ((bZ x).st.i+1)),(bZ x).st.s,(bZ x).st.from_⟩) (cond ((bZ x).by aG.ah.ret) (.out aG.ah.ret ⟨(bZ x).st.t4,(bZ x).st.l,(bZ x).st.p,(bZ x).st.i,(bZ x).st.s,(bZ x).st.from_⟩) .fail)) (.out (aG.ah.exit 0) x))
theorem Jy (x:fI):Li (uN x) (uO x)=aX.enc uN uO (dK x):=by
 unfold dK
 try simp only [aX.cD]
 kernel_rfl
def Cw:Lp:=⟨3,1018,Cv,fun vs rs=>dR uN uO (goN dK (Ba vs rs)) [aG.ah.exit 0,aG.ah.ret],false⟩
theorem Lj:Cw.Ok PG:=CA (ak.cons GB (ak.cons Jx (ak.cons uz (ak.cons DT (ak.cons Gg (ak.cons GC ak.nil)))))) (r7 zZ bm.nil) (pa:=Ba) Jy
def Av:List (Nat×(List KV->KR KV)):=[(11,Hz),(10,Kr),(9,wi),(8,DS),(7,Hq),(6,HA)]
def Aw:List Lp:=[uQ,Cw]
theorem OA:ak PG Av:=(ak.cons GB (ak.cons Jx (ak.cons uz (ak.cons DT (ak.cons Gg (ak.cons GC ak.nil))))))
theorem OB:bm PG Aw:=(r7 zZ (r7 Lj bm.nil))
def o5 (s:aA) (from_:dI):=DV
def y9 (s:aA) (from_:dI):=zt s
def hZ (s:aA) (from_:dI):=wj s
def lR (s:aA) (from_:dI):=gb s
def o6 (s:aA) (from_:dI):=goN dK ⟨false,((hZ s from_).getD default).fst,((lR s from_).getD default).fst,0,s,from_⟩
def kG (s:aA) (from_:dI):Option (Bool):=(cond (((hZ s from_).getD default).snd != 0) (some (true)) (some (((((hZ s from_).getD default).fst.n:Int)==(((lR s from_).getD default).fst.n:Int)))))
def xf (s:aA) (from_:dI):Option (Bool):=(cond (o5 s from_).isSome (cond (y9 s from_).isSome (cond ((y9 s from_).getD default) (some (((o5 s from_).getD default))) (cond (!((o5 s from_).getD default)) (some (((o5 s from_).getD default))) (cond (hZ s from_).isSome (cond (lR s from_).isSome (cond (((hZ s from_).getD default).snd != 0)
     (kG s from_) (cond (((lR s from_).getD default).snd != 0)
     (kG s from_) (cond (decide ((((hZ s from_).getD default).fst.n:Int) > 60))
      (kG s from_) (cond ((((hZ s from_).getD default).fst.n:Int) != (((lR s from_).getD default).fst.n:Int))
      (kG s from_) (cond ((o6 s from_).by (aG.ah.exit 0)) (some (true)) (cond ((o6 s from_).by aG.ah.ret) (some ((o6 s from_).st.t4)) none)))))) none) none))) none) none)
theorem Qd (s:aA) (from_:dI):CV PG (pw PG Av Aw (fun q=>Nat.beq q 3)) 9 9 3 [kA s,np from_] = (xf s from_).map kB:=by
 unfold xf kG
 try simp only [b6]
 kernel_rfl
theorem OC (w:Nat->KV):vJ PG [34,36] w 0 = [kA (eR (g0 34 (w 0))),np (jV (g0 36 (w 1)))]:=by kernel_rfl
end
end Go.Proofs.Ytckbdndhmcoihaa.b
end
section
namespace Go.Proofs.Ytckbdndhmcoihaa.sc
open Go Go.K Go.aG Go.yX Go.Proofs.Ytckbdndhmcoihaa.nodes
theorem aiM:b.DV=some true:=by kernel_rfl
def Cf (g:b.Gate) (v:b.dI):Int:=max (max (uU ((uU (max g.cN.x v.x)) - (uU (min g.cN.x v.x)))) (uU ((uU (max g.cN.y v.y)) - (uU (min g.cN.y v.y))))) (uU ((uU (max g.cN.z v.z)) - (uU (min g.cN.z v.z))))
def reach (d n:Int):Bool:=cond (decide (n<=0)) true (decide (d >= uU n))
theorem Yp (d n:Int):b.ox d n=some (reach d n):=by
 unfold b.ox reach;cases decide (n<=0) <;> rfl
def opens (g:b.Gate) (v:b.dI):Bool:=cond (reach (Cf g v) g.from_) (!(reach (Cf g v) g.to_)) false
theorem aiN (g:b.Gate) (v:b.dI):b.oM g v=some (opens g v):=by
 have e0:b.BC g v=some (uU ((uU (max g.cN.x v.x)) - (uU (min g.cN.x v.x)))):=rfl;have e1:b.BD g v=some (uU ((uU (max g.cN.y v.y)) - (uU (min g.cN.y v.y)))):=rfl;have e2:b.BF g v=some (uU ((uU (max g.cN.z v.z)) - (uU (min g.cN.z v.z)))):=rfl;have e3:b.BG g v=some (reach (Cf g v) g.from_):=by
  unfold b.BG;rw [e0,e1,e2];exact Yp _ _
 have e4:b.BH g v=some (reach (Cf g v) g.to_):=by
  unfold b.BH;rw [e0,e1,e2];exact Yp _ _
 unfold b.oM opens;rw [e0,e1,e2,e3,e4];simp only [gJ,eU,aj];cases reach (Cf g v) g.from_ <;> rfl
theorem aiO {g h:b.Gate} {v:b.dI} (hc:g.cN=h.cN) (ht:g.to_<=0\/(0 < h.from_/\uU g.to_<=uU h.from_)) (hg:opens g v=true):opens h v=false:=by
 have hf:Cf g v=Cf h v:=by unfold Cf; rw [hc]
 unfold opens at hg ⊢;cases h1:reach (Cf g v) g.from_ with
 | false=>rw [h1] at hg; simp at hg
 | true=>
  rw [h1] at hg;have h2:reach (Cf g v) g.to_=false:=by
   cases h3:reach (Cf g v) g.to_ with
   | false=>rfl
   | true=>rw [h3] at hg; simp at hg
  rw [<- hf];have h4:reach (Cf g v) h.from_=false:=by
   unfold reach at h2 ⊢;rcases ht with ht | ⟨h5,h6⟩
   ·rw [ay ht] at h2; simp at h2
   ·cases h7:decide (g.to_<=0) with
    | true=>rw [h7] at h2; simp at h2
    | false=>
     rw [h7,aI] at h2;rw [bo (show ¬ h.from_<=0 by omega),aI];have h8:=of_decide_eq_false h2;exact bo (by omega)
  rw [h4];rfl
theorem ahk {n:Int} (h:0<=n) (h' : n < 18446744073709551616):uU n=n:=by
 show Go.IntKind.wrap .u64 n=n;unfold Go.IntKind.wrap;simp only [Go.IntKind.signed,Go.IntKind.bits]
 first | omega | (simp; omega)
theorem ale {l:Sl Int} (h:WV l):∀ i j,i<=j->j < l.n->l.get i<=l.get j:=fun i j hij hj=>by
 induction j with
 | zero=>rw [show i=0 by omega]; exact Int.le_refl _
 | succ j ih=>
  by_cases c:i=j+1
  ·rw [c]; exact Int.le_refl _
  ·have h1:=ih (by omega) (by omega)
   have h2:=(h.1 (j+1) hj).1;have h3:Kh l (j+1)=l.get j:=rfl;rw [h3] at h2;omega
theorem adD {c:b.dI} {l:Sl Int} (hl:WV l) {a e:Int} (ha:0<=a) (hae:a < e) {v:b.dI} :
  opens ⟨c,if a < (l.n:Int) then (if 0 < a then l.get (a - 1).toNat else 0) else 0,if a < (l.n:Int) then l.get a.toNat else 0⟩ v=true->
  opens ⟨c,if e < (l.n:Int) then (if 0 < e then l.get (e - 1).toNat else 0) else 0,if e < (l.n:Int) then l.get e.toNat else 0⟩ v=false:=by
 intro h;by_cases h1:e < (l.n:Int)
 ·rw [aE h1,aE h1,aE (show 0 < e by omega)]
  rw [aE (show a < (l.n:Int) by omega),aE (show a < (l.n:Int) by omega)] at h;have r:=ale hl a.toNat (e - 1).toNat (by omega) (by omega);have p1:=agP (l:=l) (n:=l.n) hl.1 a.toNat (by omega);have p2:=(hl.1 (e - 1).toNat (by omega)).2;refine aiO (g:=⟨c,if 0 < a then l.get (a - 1).toNat else 0,l.get a.toNat⟩) rfl ?_ h;by_cases z:l.get a.toNat<=0
  ·exact .inl z
  ·refine .inr ⟨by show 0 < l.get (e - 1).toNat; omega,?_⟩
   show uU (l.get a.toNat)<=uU (l.get (e - 1).toNat);rw [ahk (by omega) (by omega),ahk (by omega) (by omega)];exact r
 ·rw [aa h1,aa h1]
  unfold opens;have:reach (Cf ⟨c,0,0⟩ v) (0:Int)=true:=rfl;show cond (reach (Cf ⟨c,0,0⟩ v) (0:Int)) (!(reach (Cf ⟨c,0,0⟩ v) (0:Int))) false=false;rw [this];rfl
theorem Yq (p:b.Place) (v:b.dI) (hn:p.ao.n<=1000):∃ r,b.xd p v=some r/\(r=true->∀ i,i < p.ao.n->opens (p.ao.get i) v=true):=by
 have key:=ou (step:=b.lE) p.ao.n (by unfold gK; omega) (fun j=>⟨false,(j:Int),p,v⟩) (fun i=>opens (p.ao.get i) v=true) (e0:=.exit 0) (er:=.ret) rfl rfl (fun x'=>x'.t4=false) (xe:=⟨false,(p.ao.n:Int),p,v⟩) (fun j hj=>by
  have e1:aO ((j:Int)+1)=((j+1:Nat):Int):=by rw [df (by omega) (by omega)]; omega
  have d1:decide ((j:Int) < (p.ao.n:Int))=true:=ay (by omega);have d2:decide ((0:Int)<=(j:Int))=true:=ay (by omega);have ej:Int.toNat (j:Int)=j:=rfl;unfold b.lE b.DU
  dsimp only
  rw [d1,d2,ej,e1,aiN];simp only [cK,aj,gJ,eU];cases opens (p.ao.get j) v with
  | true=>exact ⟨fun _=>rfl,fun k=>absurd rfl k⟩
  | false=>exact ⟨fun k=>by simp at k,fun _=>⟨_,rfl,rfl⟩⟩) (by
  unfold b.lE
  dsimp only
  rw [bo (Int.lt_irrefl _)];rfl)
 unfold b.xd;rcases key with ⟨h1,h2⟩ | ⟨x',h1,h2,_⟩
 ·have e0:b.wk p v = .out (.exit 0) ⟨false,(p.ao.n:Int),p,v⟩:=h1
  rw [e0];exact ⟨p.rM,rfl,fun _=>h2⟩
 ·have e0:b.wk p v = .out .ret x':=h1
  rw [e0];refine ⟨x'.t4,rfl,fun q=>?_⟩;rw [h2] at q;simp at q
theorem aiP (p q:b.Path) (hn:p.kids.n<=1000):∃ r,b.Cu p q=some r/\(r = -1\/∃ i:Nat,r=(i:Int)/\i < p.kids.n/\i < q.kids.n/\p.kids.get i≠q.kids.get i/\∀ k,k < i->p.kids.get k=q.kids.get k):=by
 obtain ⟨e',x',q1,q2⟩:=jD (step:=b.ph)
  (fun j x=>x=⟨0,(j:Int),p,q⟩/\j<=q.kids.n/\∀ k,k < j->p.kids.get k=q.kids.get k)
  (fun e' x'=>e' = .exit 0\/(e' = .ret/\∃ i:Nat,x'.t4=(i:Int)/\i < p.kids.n/\i < q.kids.n/\p.kids.get i≠q.kids.get i/\∀ k,k < i->p.kids.get k=q.kids.get k))
  p.kids.n (by unfold gK; omega) (by
   rintro j _ hj ⟨rfl,h1,h2⟩;unfold b.ph
   dsimp only
   have ej:Int.toNat (j:Int)=j:=rfl;have d2:decide ((0:Int)<=(j:Int))=true:=ay (by omega);rw [d2,ej];by_cases bj:j < p.kids.n
   ·rw [ay (show (j:Int) < (p.kids.n:Int) by omega)]
    by_cases hlq:j < q.kids.n
    ·rw [ay (show (j:Int) < (q.kids.n:Int) by omega)]
     have e1:aO ((j:Int)+1)=((j+1:Nat):Int):=by rw [df (by omega) (by omega)]; omega
     rw [e1];by_cases hk:p.kids.get j=q.kids.get j
     ·rw [show (p.kids.get j != q.kids.get j)=false from bne_eq_false_iff_eq.2 hk]
      refine .inl ⟨_,rfl,by omega,rfl,by omega,fun k hkk=>?_⟩;by_cases c:k=j
      ·subst c; exact hk
      ·exact h2 k (by omega)
     ·rw [neI.2 hk]
      exact .inr ⟨_,_,rfl,rfl,.inr ⟨rfl,j,rfl,bj,hlq,hk,h2⟩⟩
    ·rw [bo (show ¬ (j:Int) < (q.kids.n:Int) by omega)]
     exact .inr ⟨_,_,rfl,rfl,.inl rfl⟩
   ·rw [bo (show ¬ (j:Int) < (p.kids.n:Int) by omega)]
    exact .inr ⟨_,_,rfl,rfl,.inl rfl⟩) (x:=⟨0,0,p,q⟩) ⟨rfl,qK _,fun k hk=>absurd hk (oD _)⟩
 have e0:b.Fi p q = .out e' x':=q1;unfold b.Cu;rw [e0];rcases q2 with rfl | ⟨rfl,i,h1,h2⟩
 ·exact ⟨-1,rfl,.inl rfl⟩
 ·exact ⟨x'.t4,rfl,.inr ⟨i,h1,h2⟩⟩
theorem am7 {s:b.aA} {p q:b.Path} (hp:Zm s p.kids p.nodes) (hq:Zm s q.kids q.nodes) {n:Nat} (hn:n<=p.kids.n) (Lz:n<=q.kids.n) (h:∀ k,k < n->p.kids.get k=q.kids.get k):∀ j,j<=n->p.nodes.get j=q.nodes.get j/\fv s p j=fv s q j:=by
 have hh:∀ j,j<=n->Vi s p.kids j=Vi s q.kids j:=fun j=>by
  induction j with
  | zero=>exact fun _=>rfl
  | succ j ih=>
   intro hj;show (s.graph.kids.get (Vi s p.kids j).slot.toNat).get (p.kids.get j).toNat=(s.graph.kids.get (Vi s q.kids j).slot.toNat).get (q.kids.get j).toNat;rw [ih (by omega),h j (by omega)]
 have hnd:∀ j,j<=n->p.nodes.get j=q.nodes.get j:=fun j hj=>by rw [hp.2 j (by omega),hq.2 j (by omega),hh j hj]
 intro j hj;refine ⟨hnd j hj,?_⟩
 induction j with
 | zero=>rfl
 | succ j ih=>
  have ih:=ih (by omega);have hN:nodeAt s p j=nodeAt s q j:=by unfold nodeAt; rw [hnd j (by omega)]
  show (if (fv s p j).2=0 then (if (nodeAt s p j).kind=2 then vi (fv s p j).1 (nodeAt s p j).nX else if (nodeAt s p j).kind=4 then ((fv s p j).1,(lX (fv s p j).1 (nodeAt s p j).cN).2) else fv s p j) else fv s p j) =
   (if (fv s q j).2=0 then (if (nodeAt s q j).kind=2 then vi (fv s q j).1 (nodeAt s q j).nX else if (nodeAt s q j).kind=4 then ((fv s q j).1,(lX (fv s q j).1 (nodeAt s q j).cN).2) else fv s q j) else fv s q j)
  rw [ih,hN]
theorem ab6 {s:b.aA} {p:b.Path} {j:Nat} (h4:(nodeAt s p j).kind=4):∀ n,j < n->∃ i,i < (kf s p n).n/\(kf s p n).get i=w7 s p j
 | 0,h=>absurd h (oD _)
 | n+1,h=>by
  by_cases c:j=n
  ·subst c
   rw [Jt h4];exact ⟨(kf s p j).n,Mt _,Sl.EJ⟩
  ·obtain ⟨i,h1,h2⟩:=ab6 h4 n (by omega)
   by_cases k4:(nodeAt s p n).kind=4
   ·rw [Jt k4]
    exact ⟨i,Nat.lt_succ_of_lt h1,by rw [Sl.HM h1]; exact h2⟩
   ·rw [DP k4]
    exact ⟨i,h1,h2⟩
theorem alf {s:b.aA} {p q:b.Path} (hp:r5 s p) (hq:r5 s q) {x y:b.Place} (hx:FT s p x 0) (hy:FT s q y 0) {i:Nat} (h1:i < p.kids.n) (h2:i < q.kids.n) (h3:p.kids.get i≠q.kids.get i) (h4:∀ k,k < i->p.kids.get k=q.kids.get k) (h5:(nodeAt s p i).kind=4) {v:b.dI}
  (sx:∀ k,k < x.ao.n->opens (x.ao.get k) v=true) (sy:∀ k,k < y.ao.n->opens (y.ao.get k) v=true):False:=by
 obtain ⟨e1,e2⟩:=am7 hp.asked.2.2.2 hq.asked.2.2.2 (by omega) (by omega) h4 i (aB _);have hN:nodeAt s p i=nodeAt s q i:=by unfold nodeAt; rw [e1]
 have hf:WV (nodeAt s p i).eI:=((hp.node (by have:=hp.n; omega)).2.2.2.2.2.2.1 h5).2;have hgp:opens (w7 s p i) v=true:=by
  obtain ⟨k,k1,k2⟩:=ab6 h5 p.nodes.n (by have:=hp.n; omega);have:=sx k (by rw [hx.ao]; exact k1);rw [hx.ao,k2] at this;exact this
 have hgq:opens (w7 s q i) v=true:=by
  obtain ⟨k,k1,k2⟩:=ab6 (p:=q) (by rw [<- hN]; exact h5) q.nodes.n (by have:=hq.n; omega);have:=sy k (by rw [hy.ao]; exact k1);rw [hy.ao,k2] at this;exact this
 obtain ⟨a1,a2⟩:=NC hp.asked h1;obtain ⟨c1,c2⟩:=NC hq.asked h2;have hc:w7 s q i=⟨(w7 s p i).cN,if q.kids.get i < ((nodeAt s p i).eI.n:Int) then (if 0 < q.kids.get i then (nodeAt s p i).eI.get (q.kids.get i - 1).toNat else 0) else 0,if q.kids.get i < ((nodeAt s p i).eI.n:Int) then (nodeAt s p i).eI.get (q.kids.get i).toNat else 0⟩:=by
  unfold w7;rw [e2,hN]
 rw [hc] at hgq;have hd:w7 s p i=⟨(w7 s p i).cN,if p.kids.get i < ((nodeAt s p i).eI.n:Int) then (if 0 < p.kids.get i then (nodeAt s p i).eI.get (p.kids.get i - 1).toNat else 0) else 0,if p.kids.get i < ((nodeAt s p i).eI.n:Int) then (nodeAt s p i).eI.get (p.kids.get i).toNat else 0⟩:=rfl;rw [hd] at hgp;rcases Int.lt_or_gt_of_ne h3 with h | h
 ·rw [adD hf a1 h hgp] at hgq
  simp at hgq
 ·rw [adD hf c1 h hgq] at hgp
  simp at hgp
theorem aiQ {s:b.aA} {l:Sl b.Place} {p:Sl b.Path} (hb:aka s l p) (v:b.dI) {i:Nat} (hi:i < p.n):goN b.dY ⟨false,l,p,(i:Int),0,s,v⟩ = .out (.exit 2) ⟨false,l,p,(i:Int),(i:Int),s,v⟩:=by
 have aqH:=hb.Tp;have hln:=hb.n;obtain ⟨e',x',q1,q2,q3⟩:=jD (step:=b.dY)
  (fun j x=>x=⟨false,l,p,(i:Int),(j:Int),s,v⟩) (fun e' x'=>e' = .exit 2/\x' = ⟨false,l,p,(i:Int),(i:Int),s,v⟩)
  i (by unfold gK; omega) (by
   rintro j _ hj rfl;have ei:Int.toNat (i:Int)=i:=rfl;have ej:Int.toNat (j:Int)=j:=rfl;by_cases bj:j < i
   ·have d0:decide ((j:Int) < (i:Int))=true:=ay (by omega)
    have d1:decide ((0:Int)<=(i:Int))=true:=ay (by omega);have d2:decide ((i:Int) < (p.n:Int))=true:=ay (by omega);have d3:decide ((0:Int)<=(j:Int))=true:=ay (by omega);have d4:decide ((j:Int) < (p.n:Int))=true:=ay (by omega);have d5:decide ((i:Int) < (l.n:Int))=true:=ay (by omega);have d6:decide ((j:Int) < (l.n:Int))=true:=ay (by omega);have e1:aO ((j:Int)+1)=((j+1:Nat):Int):=by rw [df (by omega) (by omega)]; omega
    obtain ⟨_,_,_,ti⟩:=hb.way i hi;obtain ⟨_,_,_,tj⟩:=hb.way j (by omega);have oi:=hb.ok i hi;have oj:=hb.ok j (by omega);have hni:=ti.n;have hnj:=tj.n;have hfi:=ti.Tp;have hfj:=tj.Tp;obtain ⟨r,p1,p2⟩:=aiP (p.get i) (p.get j) (by omega);obtain ⟨r1,s1,s2⟩:=Yq (l.get i) v (by rw [oi.ao]; have:=Js s (p.get i) (p.get i).nodes.n; omega);obtain ⟨r2,t1,t2⟩:=Yq (l.get j) v (by rw [oj.ao]; have:=Js s (p.get j) (p.get j).nodes.n; omega);unfold b.dY b.eJ b.rS b.rT
    dsimp only
    rw [d0,d1,d2,d3,d4,d5,d6,e1,ei,ej,p1,s1,t1]
    dsimp only [gJ,eU,aj]
    rcases p2 with rfl | ⟨k,rfl,k1,k2,k3,k4⟩
    ·exact .inl ⟨_,rfl,by omega,rfl⟩
    ·have ek:Int.toNat (k:Int)=k:=rfl
     have d7:decide ((k:Int) >= 0)=true:=ay (by omega);have d8:decide ((0:Int)<=(k:Int))=true:=ay (by omega);have d9:decide ((k:Int) < ((p.get i).nodes.n:Int))=true:=ay (by omega);obtain ⟨g1,g2⟩:=PX ti.asked (show k<=(p.get i).kids.n by omega);have g3:0<=((p.get i).nodes.get (Int.toNat (k:Int))).slot:=g1;have g4:((p.get i).nodes.get (Int.toNat (k:Int))).slot < (s.nodes.n:Int):=g2;rw [d7,d9,ay g3,ay g4];have hN:s.nodes.get ((p.get i).nodes.get (Int.toNat (k:Int))).slot.toNat=nodeAt s (p.get i) k:=rfl;rw [hN];by_cases h4:(nodeAt s (p.get i) k).kind=4
     ·rw [DX.2 h4]
      cases r1 with
      | false=>exact .inl ⟨_,rfl,by omega,rfl⟩
      | true=>
       cases r2 with
       | false=>exact .inl ⟨_,rfl,by omega,rfl⟩
       | true=>exact (alf ti tj oi oj k1 k2 k3 k4 h4 (s2 rfl) (t2 rfl)).elim
     ·rw [show ((nodeAt s (p.get i) k).kind==4)=false by rw [<- Bool.not_eq_true,DX]; exact h4]
      exact .inl ⟨_,rfl,by omega,rfl⟩
   ·have:j=i:=by omega
    subst this;unfold b.dY
    dsimp only
    rw [bo (Int.lt_irrefl _)];exact .inr ⟨_,_,rfl,rfl,rfl,rfl⟩) (x:=⟨false,l,p,(i:Int),0,s,v⟩) rfl
 rw [q1,q2,q3]
theorem aeY {s:b.aA} {l:Sl b.Place} {p:Sl b.Path} (hb:aka s l p) (v:b.dI):∃ x',goN b.dK ⟨false,l,p,0,s,v⟩ = .out (.exit 0) x':=by
 have aqH:=hb.Tp;have hln:=hb.n;obtain ⟨e',x',q1,q2⟩:=jD (step:=b.dK)
  (fun j x=>x=⟨false,l,p,(j:Int),s,v⟩) (fun e' x'=>e' = .exit 0)
  l.n (by unfold gK; omega) (by
   rintro j _ hj rfl;by_cases bj:j < l.n
   ·have e0:b.bZ ⟨false,l,p,(j:Int),s,v⟩ = .out (.exit 2) ⟨false,l,p,(j:Int),(j:Int),s,v⟩:=aiQ hb v (by omega)
    have e1:aO ((j:Int)+1)=((j+1:Nat):Int):=by rw [df (by omega) (by omega)]; omega
    unfold b.dK;rw [e0];rw [aX.lW]
    dsimp only
    rw [ay (show (j:Int) < (l.n:Int) by omega),e1];exact .inl ⟨_,rfl,by omega,rfl⟩
   ·have:j=l.n:=by omega
    subst this;unfold b.dK
    dsimp only
    rw [bo (Int.lt_irrefl _)];exact .inr ⟨_,_,rfl,rfl,rfl⟩) (x:=⟨false,l,p,0,s,v⟩) rfl
 subst q2;exact ⟨x',q1⟩
theorem Tw (s:b.aA) (v:b.dI) (hs:Mr s):b.xf s v=some true:=by
 unfold b.xf b.kG;obtain ⟨g,g1,g2⟩:=agZ s;have e0:b.o5 s v=some true:=aiM;have e1:b.y9 s v=some g:=g1;rw [e0,e1];simp only [gJ,eU,aj,aI,Bool.not_true];cases g with
 | true=>rfl
 | false=>
  have hf:=g2 rfl;obtain ⟨l,e,p,f,h1,h2,h3⟩:=ahj (hs.inn hf) hs.on;have e2:b.hZ s v=some (l,e):=h1;have e3:b.lR s v=some (p,f):=h2;have e4:b.o6 s v=goN b.dK ⟨false,l,p,0,s,v⟩:=by
   unfold b.o6;rw [e2,e3];rfl
  rw [e2,e3,e4];simp only [gJ,eU,aj,aI];rcases h3 with ⟨he,_,_⟩ | ⟨rfl,rfl,hb⟩
  ·rw [neI.2 he]
   rfl
  ·rw [show ((0:Int) != 0)=false from rfl,show ((l.n:Int) != (p.n:Int))=false by rw [bne_eq_false_iff_eq,hb.n],show ((l.n:Int)==(p.n:Int))=true by rw [DX,hb.n]]
   obtain ⟨x',q⟩:=aeY hb v;rw [q];cases decide ((l.n:Int) > 60) <;> rfl
end Go.Proofs.Ytckbdndhmcoihaa.sc
end
section
namespace Go.Proofs.Ytckbdndhmcoihaa.sc
open Go Go.K Go.Proofs.Ytckbdndhmcoihaa.nodes
theorem Qe {P:Program} : ∀ {l:List KV},Bm P l->∀ v∈l,Gc P v
 | [],_,v,hv=>by simp at hv
 | x::l,h,v,hv=>by
  simp only [Bm] at h;rcases de.1 hv with rfl | hv
  ·exact h.1
  ·exact Qe h.2 v hv
theorem Qf {P:Program} {ks:List CK} {v:KV} (h:cw ⟨true,ks⟩ v=true) (hw:Q0 P v) (hd:Gc P v) {j:Nat} {c:CK} (hj:ks[j]? = some c):K.kindOk c (v.cells.getD j .bf)=true/\Q0 P (v.cells.getD j .bf)/\Gc P (v.cells.getD j .bf):=by
 obtain ⟨cs,rfl,hk⟩:=akJ h;obtain ⟨u,h1,h2⟩:=CY hk hj;have e:(KV.agg cs).cells.getD j .bf=u:=by
  show cs.getD j .bf=u;rw [fC,h1];rfl
 have hm:=gh h1;rw [e];have hd' : Bm P cs:=by simpa [Gc] using hd
 have hw' : D0 P cs:=by simpa [Q0] using hw
 exact ⟨h2,Wv hw' u hm,Qe hd' u hm⟩
theorem aiR {P:Program} {v:KV} {T:TypeId} (h:K.kindOk (.slice T) v=true) (hw:Q0 P v) (hd:Gc P v) {i:Nat} (hi:i < lenOf v):cw (aQ P T) (z8 v i)=true/\Q0 P (z8 v i)/\Gc P (z8 v i):=by
 cases v with
 | ts t m n es acc=>
  have ht:T=t:=by
   cases m <;> simp [K.kindOk] at h;exact h
  subst ht;simp only [Gc] at hd;simp only [Q0] at hw;obtain ⟨aiS,aqI⟩:=hd;have hi:i < n:=hi;have hl:i < es.length:=by rw [<- aiS.len]; exact hi
  have e:acc i=es.getD i .bf:=aiS.acc i hi;have e2:es.getD i .bf=es[i]:=by rw [fC,cI hl]; rfl
  show cw (aQ P T) (acc i)=true/\Q0 P (acc i)/\Gc P (acc i);rw [e,e2];exact ⟨gC aiS.typed (cI hl),Wv hw.2.1 _ (Qk hl),Qe aqI _ (Qk hl)⟩
 | _=>simp [K.kindOk] at h
theorem Xm {P:Program} {v:KV} (h:K.kindOk (.int .u8) v=true) (hw:Q0 P v):0<=av v/\av v<=255:=by
 cases v with
 | int k n=>
  have hk:k = .u8:=by
   have:decide (IntKind.u8=k)=true:=h;exact (Qh this).symm
  subst hk;have h:(Lit.int .u8 n).wf=true:=hw;simp only [Lit.wf,aq,lT] at h;show 0<=n/\n<=255;exact h
 | _=>simp [K.kindOk] at h
theorem anX {P:Program} {v:KV} (h:K.kindOk (.int .u16) v=true) (hw:Q0 P v):0<=av v/\av v<=65535:=by
 cases v with
 | int k n=>
  have hk:k = .u16:=by
   have:decide (IntKind.u16=k)=true:=h;exact (Qh this).symm
  subst hk;have h:(Lit.int .u16 n).wf=true:=hw;simp only [Lit.wf,aq,lT] at h;show 0<=n/\n<=65535;exact h
 | _=>simp [K.kindOk] at h
noncomputable abbrev DW (a:KV):b.aA:=b.eR (ij Try.prog (cg Try.prog dB) 34 a)
theorem apd:aQ Try.prog 34=⟨true,[.slice 139,.slice 47,.slice 64,.slice 79,.slice 118,.int .i64,.int .i64]⟩:=by kernel_rfl
theorem ape:∃ ks,aQ Try.prog 64=⟨true,ks⟩/\ks[13]? = some (.int .u16)/\ks[19]? = some (.int .u8)/\ks[20]? = some (.int .u8)/\ks[21]? = some (.int .u8)/\ks[22]? = some (.int .u8)/\ks[23]? = some (.int .u8):=⟨(aQ Try.prog 64).ks,by kernel_rfl,by kernel_rfl,by kernel_rfl,by kernel_rfl,by kernel_rfl,by kernel_rfl,by kernel_rfl⟩
theorem apf:∃ ks,aQ Try.prog 79=⟨true,ks⟩/\ks[2]? = some (.slice 120):=⟨(aQ Try.prog 79).ks,by kernel_rfl,by kernel_rfl⟩
theorem am8:∃ ks,aQ Try.prog 120=⟨true,ks⟩/\ks[0]? = some (.int .u8):=⟨(aQ Try.prog 120).ks,by kernel_rfl,by kernel_rfl⟩
theorem alg (a:KV):(DW a).nodes.n=lenOf (a.cells.getD 2 .bf):=by kernel_rfl
theorem aiT (a:KV):(DW a).fj.n=lenOf (a.cells.getD 3 .bf):=by kernel_rfl
theorem apg (a:KV) (i:Nat):((DW a).nodes.get i).rM=av ((z8 (a.cells.getD 2 .bf) i).cells.getD 13 .bf):=by kernel_rfl
theorem anY (a:KV) (i:Nat):((DW a).nodes.get i).bD.cp=⟨av ((z8 (a.cells.getD 2 .bf) i).cells.getD 19 .bf),av ((z8 (a.cells.getD 2 .bf) i).cells.getD 20 .bf),av ((z8 (a.cells.getD 2 .bf) i).cells.getD 21 .bf),av ((z8 (a.cells.getD 2 .bf) i).cells.getD 22 .bf),av ((z8 (a.cells.getD 2 .bf) i).cells.getD 23 .bf)⟩:=by kernel_rfl
theorem alh (a:KV) (i:Nat):((DW a).fj.get i).fY.n=lenOf ((z8 (a.cells.getD 3 .bf) i).cells.getD 2 .bf):=by kernel_rfl
theorem am9 (a:KV) (i k:Nat):(((DW a).fj.get i).fY.get k).kind=av ((z8 ((z8 (a.cells.getD 3 .bf) i).cells.getD 2 .bf) k).cells.getD 0 .bf):=by kernel_rfl
theorem aiU {a:KV} (h:cw (aQ Try.prog 34) a=true) (hw:Q0 Try.prog a) (hd:Gc Try.prog a):Mr (DW a):=by
 rw [apd] at h;obtain ⟨i1,i2,i3⟩:=Qf h hw hd (j:=2) rfl;obtain ⟨t1,t2,t3⟩:=Qf h hw hd (j:=3) rfl;obtain ⟨ks,l0,l13,l19,l20,l21,l22,l23⟩:=ape;obtain ⟨kt,m0,m2⟩:=apf;obtain ⟨kp,n0,n1⟩:=am8;have node:∀ i,i < (DW a).nodes.n->∀ j c,ks[j]? = some c->K.kindOk c ((z8 (a.cells.getD 2 .bf) i).cells.getD j .bf)=true/\Q0 Try.prog ((z8 (a.cells.getD 2 .bf) i).cells.getD j .bf):=fun i hi j c hj=>by
  rw [alg] at hi;obtain ⟨q1,q2,q3⟩:=aiR i1 i2 i3 hi;rw [l0] at q1;obtain ⟨r1,r2,_⟩:=Qf q1 q2 q3 hj;exact ⟨r1,r2⟩
 refine ⟨fun i hi=>?_,fun i hi=>?_,fun i hi k hk=>?_⟩
 ·unfold QP
  rw [anY];exact ⟨Xm (node i hi 19 _ l19).1 (node i hi 19 _ l19).2,Xm (node i hi 20 _ l20).1 (node i hi 20 _ l20).2,Xm (node i hi 21 _ l21).1 (node i hi 21 _ l21).2,Xm (node i hi 22 _ l22).1 (node i hi 22 _ l22).2,Xm (node i hi 23 _ l23).1 (node i hi 23 _ l23).2⟩
 ·rw [apg]
  exact anX (node i hi 13 _ l13).1 (node i hi 13 _ l13).2
 ·rw [aiT] at hi
  obtain ⟨q1,q2,q3⟩:=aiR t1 t2 t3 hi;rw [m0] at q1;obtain ⟨r1,r2,r3⟩:=Qf q1 q2 q3 m2;rw [alh] at hk;obtain ⟨c1,c2,c3⟩:=aiR r1 r2 r3 hk;rw [n0] at c1;rw [am9];obtain ⟨x0,y0,_⟩:=Qf c1 c2 c3 n1;exact (Xm x0 y0).1
theorem ab7 {P:Program} : ∀ {ts:List TypeId} {xs:List KV} {i:Nat} {t:TypeId},lV P ts xs=true->D0 P xs->Bm P xs->ts[i]? = some t->cw (aQ P t) (xs.getD i .bf)=true/\Q0 P (xs.getD i .bf)/\Gc P (xs.getD i .bf)
 | [],_,_,_,_,_,_,h=>by simp at h
 | _::_,[],_,_,h,_,_,_=>by simp [lV] at h
 | t::ts,v::vs,i,u,h,hw,hd,ht=>by
  simp only [lV,aq] at h;cases i with
  | zero=>
   rw [List.getElem?_cons_zero] at ht;rw [<- GX ht];exact ⟨h.1,hw.1,hd.1⟩
  | succ i=>
   rw [Ms] at ht;have:=ab7 (ts:=ts) (xs:=vs) (i:=i) h.2 hw.2 hd.2 ht;rw [List.getD_cons_succ];exact this
theorem aiV {ts:List TypeId} {xs:List KV} (i:Nat) (ht:ts[i]? = some 34) (h:lV Try.prog ts xs=true) (hw:D0 Try.prog xs) (hd:Bm Try.prog xs):Mr (DW (xs.getD i .bf)):=by
 obtain ⟨h1,h2,h3⟩:=ab7 h hw hd ht;exact aiU h1 h2 h3
end Go.Proofs.Ytckbdndhmcoihaa.sc
end
section
namespace Go.aG
open Go.RowKit Go.WideShapes Go.ChangeShapes
theorem ahl {H:Type} {enc:TypeId×Value->H} {P:Program} {f:Func} {s:ChangeSpec} {apart fresh handsOn again:Bool} {W W' : World} {args:Array Value} {v:Value} {ds gs:List (DataW H)} {before pa pv:List MemPlace}
  (whole:DataW.Whole enc P f.params.toList s.vars apart W args.toList ds gs before) (below:Below W.heap.size W W') (Zn:before=pa++pv)
  (res:∀ (b:Nat) (sp:Nat->Bool) (hd:Bool),DataW.TrodAll enc P W' b sp hd f.resultTypes.toList (v.resultList f.resultTypes.size) (s.fn H (ds++gs)).results [])
  (arg:∀ sp:Nat->Bool,(∀ p∈before,sp p.block=true)->DataW.TrodAll enc P W' 0 sp true f.params.toList args.toList (s.fn H (ds++gs)).args pa)
  (var:∀ sp:Nat->Bool,(∀ p∈before,sp p.block=true)->DataW.TrodVars enc P W' sp s.vars (s.fn H (ds++gs)).vars pv)
  (wide:∀ (j:Nat) (t:TypeId) (r:Value),f.resultTypes[j]? = some t->(v.resultList f.resultTypes.size)[j]? = some r->Value.okWide P W' .any 0 t r) :
  s.post enc P f apart fresh handsOn again W args v W':=by
 have lt:∀ p∈before,p.block < W.heap.size:=fun p hp=>whole.lt p hp;have eV:∀ p∈before,(fun b=>decide (b < W.heap.size)) p.block=true:=fun p hp=>by simpa using lt p hp
 refine ⟨ds,gs,before,[],pa,pv,whole,res _ _ _,arg _ eV,var _ eV,World.keptBut_mono (fun p hp=>⟨hp,?_⟩) (below.frame (·∈before)),fun _=>?_⟩
 ·rw [Zn,jF] at hp; exact Or.inr hp
 ·obtain ⟨_,_,_,_,_,fz,nd⟩:=whole
  refine ⟨wide,_,_,([]++pa)++pv,⟨[]++pa,pv,trodAll_append (arg _ (fun _ _=>rfl)) (res _ _ _),var _ (fun _ _=>rfl),rfl,fun b off hp=>?_,fun ha=>?_⟩,fun p hp _=>?_⟩
  ·have here:MemPlace.cell b off∈before:=by rw [Zn]; simpa using hp
   rw [below.frozen (lt _ here)];exact fz b off here
  ·have:=nd ha
   rw [Zn] at this;simpa using this
  ·rw [Zn]; simpa using hp
end Go.aG
end
section
namespace Go.K
open Go Go.aG Go.RowKit Go.WideShapes Go.ChangeShapes
section
variable {H:Type} {enc:TypeId×Value->H} {P:Program} {W W' : World}
theorem Vx {base:Nat} {sp:Nat->Bool} {held:Bool} : ∀ {ts:List TypeId} {vs:List Value} {ds:List (DataW H)} {ps:List MemPlace},DataW.TrodAll enc P W base sp held ts vs ds ps->ds.length=ts.length
 | [],_,_,_,h=>by
  obtain ⟨rfl,rfl,rfl⟩:=trodAll_nil h;rfl
 | t::ts,vs,ds,ps,h=>by
  obtain ⟨v,vs1,d,ds1,a,b,rfl,rfl,rfl,_,h2⟩:=trodAll_cons h;simp [Vx h2]
theorem adE {α:Type} {n:Nat} {l:List α} (h:l.length=n+1):∃ x xs,l=x::xs:=by
 cases l with
 | nil=>simp at h
 | cons x xs=>exact ⟨x,xs,rfl⟩
theorem Qg (hl:laidOutB P=true) (hb:Below W.heap.size W W') {sp:Nat->Bool} : ∀ {ts:List TypeId} {vs:List Value} {ds:List (DataW H)} {ps:List MemPlace},ts.all (fun t=>P.readableRec t&&Nat.blt t P.types.size)=true->
  DataW.TrodAll enc P W 0 (fun _=>true) true ts vs ds ps->(∀ x∈ps,x.block < W.heap.size)->(∀ x∈ps,sp x.block=true)->DataW.TrodAll enc P W' 0 sp true ts vs ds ps
 | [],_,_,_,_,h,_,_=>by
  obtain ⟨rfl,rfl,rfl⟩:=trodAll_nil h;exact trodAll_mk0
 | t::ts,vs,ds,ps,ht,h,bj,FW=>by
  obtain ⟨v,vs1,d,ds1,a,b,rfl,rfl,rfl,h1,h2⟩:=trodAll_cons h;simp only [List.all_cons,aq] at ht;obtain ⟨⟨hr,fp⟩,ht⟩:=ht;rw [bF] at fp;refine ⟨a,b,WideElems.Trod_stays hl hr fp h1 (fun x hx=>hb.same (bj x (by simp [hx]))) (fun x hx=>FW x (by simp [hx])),?_,rfl⟩;exact Qg hl hb ht h2 (fun x hx=>bj x (by simp [hx])) (fun x hx=>FW x (by simp [hx]))
theorem alj {s:ChangeSpec} {f:Func} {apart fresh handsOn again:Bool} {args:Array Value} {ds gs:List (DataW H)} {before:List MemPlace} (hl:laidOutB P=true) (hts:f.params.toList.all (fun t=>P.readableRec t&&Nat.blt t P.types.size)=true)
  (ana:s.vars = []) (aph:(s.fn H ds).args=ds) (afZ:(s.fn H ds).results = [.lit (.bool true)]) (hv:(s.fn H ds).vars = []) {t:TypeId} (hrt:f.resultTypes = #[t]) (hb:P.underlying t=some .bool)
  (hW:DataW.Whole enc P f.params.toList s.vars apart W args.toList ds gs before) (hg:Below W.heap.size W W'):s.post enc P f apart fresh handsOn again W args (.bool true) W':=by
 have hW':=hW;obtain ⟨p,q,hA,hV,aoD,_,_⟩:=hW;rw [ana] at hV;obtain ⟨rfl,rfl⟩:=trodVars_none hV;rw [yl] at aoD;subst aoD;have bj:∀ x∈before,x.block < W.heap.size:=fun x hx=>hW'.lt x (by simpa using hx);refine aG.ahl (pa:=before) (pv:=[]) hW' hg (by simp) (fun b sp hd=>?_) (fun sp FW=>?_) (fun sp FW=>?_) (ok_one hrt rfl (okWide_bool_mk hb _))
 ·rw [yl,afZ,hrt]
  exact trodAll_cons_mk (shut_bool hb _) trodAll_mk0
 ·rw [yl,aph]
  exact Qg hl hg hts hA bj (fun x hx=>FW x (by simpa using hx))
 ·rw [yl,hv,ana]
  rfl
end
end Go.K
end
