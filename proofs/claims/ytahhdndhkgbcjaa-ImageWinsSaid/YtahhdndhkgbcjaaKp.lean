/- Part of the proof of ImageWins: a machine that runs the program's code over open terms, shown to be the model's, and the plain models of its functions. No conditions. -/
import Derived.Test.YtahhdndhkgbcjaaJp
import Derived.Below
import Derived.ChangeSame
import Derived.ProofKit
import Derived.Test.YtahhdndhkgbcjaaHp
import Derived.WideKeyArgs
section
namespace Go.Proofs.Ytahhdndhkgbcjaa.b
open Go.K Go.K.wi
open Go.aG (aw)
theorem W5 (h:aB) (D:Sl aZ) (a b n:Nat) (h1:a+n≤b) (h2:b+n≤D.n) (h3:D.n≤10000000000) :
  ∃ e y,goN dj ⟨D,(a:Int),(b:Int),(n:Int),(0:Int),h⟩ = .out e y∧(e = .exit 0∧y.a=(a:Int)∧y.b=(b:Int)∧y.n=(n:Int)∧y.eK=h∧y.data.n=D.n∧∀ t,y.data.get t=Au D.get a b n t):=by
 refine dx (step:=dj) (fun j y=>y.a=(a:Int)∧y.b=(b:Int)∧y.n=(n:Int)∧y.eK=h∧y.i=(j:Int)∧j≤n∧y.data.n=D.n∧∀ t,y.data.get t=Au D.get a b j t) (fun e y=>e = .exit 0∧y.a=(a:Int)∧y.b=(b:Int)∧y.n=(n:Int)∧y.eK=h∧y.data.n=D.n∧∀ t,y.data.get t=Au D.get a b n t) n (by have:mm=1000000000000:=rfl; omega) (fun j y hj ⟨f1,f2,f3,f4,f5,f6,f7,f8⟩=>?_) ⟨rfl,rfl,rfl,rfl,rfl,Nat.zero_le _,rfl,fun t=>by rw [Au,if_neg (by omega),if_neg (by omega)]⟩
 unfold dj
 simp only [f1,f2,f3,f5,f7,a9,cond_true]
 by_cases bX:j < n
 ·rw [decide_eq_true (show (j:Int) < (n:Int) by omega),cond_true,aaB (by omega),aaB (by omega),SC (by omega),SC (by omega),Px (by omega)]
  simp only [cond_true,Int.toNat_natCast]
  refine .inl ⟨_,rfl,bX,rfl,rfl,rfl,f4,rfl,bX,by rw [ahM]; exact f7,fun t=>?_⟩
  rw [Mm,aiI D.get (by omega) t,f8,f8,f8,Nat.zero_add,Nat.zero_add]
 ·rw [decide_eq_false (show ¬ (j:Int) < (n:Int) by omega),cond_false]
  have:j=n:=by omega
  subst this
  exact .inr ⟨_,_,rfl,rfl,rfl,f1,f2,f3,f4,f7,f8⟩
theorem BW (h:aB) (D:Sl aZ) (a b n:Nat) (h1:a+n≤b) (h2:b+n≤D.n) (h3:D.n≤10000000000) :
  ∃ D',eP ⟨D,(a:Int),(b:Int),(n:Int),h⟩ = .out .ret ⟨D',(a:Int),(b:Int),(n:Int),h⟩∧D'.n=D.n∧∀ t,D'.get t=Au D.get a b n t:=by
 obtain ⟨e,y,hy,rfl,y1,y2,y3,y4,y5,y6⟩:=W5 h D a b n h1 h2 h3
 have e0:di ⟨D,(a:Int),(b:Int),(n:Int),h⟩ = .out (.exit 0) y:=hy
 refine ⟨y.data,?_,y5,y6⟩
 unfold eP js
 rw [e0]
 simp only [a9,cond_true,aJ.kk,aJ.kK,fR,Nat.beq_refl,y1,y2,y3,y4]
theorem aaD (h:aB) (D:Sl aZ) (a m b:Nat) (h1:a < m) (h2:m < b) (h4:b≤D.n) (h3:D.n≤10000000000) :
  ∃ e y,goN dy ⟨D,(a:Int),(m:Int),(b:Int),((m - a:Nat):Int),((b - m:Nat):Int),h⟩ = .out e y∧(e = .exit 0∧y.a=(a:Int)∧y.m=(m:Int)∧y.b=(b:Int)∧y.eK=h∧y.data.n=D.n∧
   ∃ i:Nat,1≤i∧a+i≤m∧m+i≤b∧y.i=(i:Int)∧y.j=(i:Int)∧(∀ t,t < m - i∨m+i≤t→y.data.get t=Cw D.get a m b t)∧(∀ t,m - i≤t→t < m→Cw D.get a m b t=y.data.get (t+i))∧∀ t,m≤t→t < m+i→Cw D.get a m b t=y.data.get (t - i)):=by
 refine dx (step:=dy) (fun k y=>y.a=(a:Int)∧y.m=(m:Int)∧y.b=(b:Int)∧y.eK=h∧y.data.n=D.n∧
   ∃ i j:Nat,1≤i∧1≤j∧a+i≤m∧m+j≤b∧i+j+k≤b - a∧y.i=(i:Int)∧y.j=(j:Int)∧(∀ t,t < m - i∨m+j≤t→y.data.get t=Cw D.get a m b t)∧(∀ t,m - i≤t→t < m - i+j→Cw D.get a m b t=y.data.get (t+i))∧∀ t,m - i+j≤t→t < m+j→Cw D.get a m b t=y.data.get (t - j)) _ (b - a) (by have:mm=1000000000000:=rfl; omega) (fun k y hk ⟨f1,f2,f3,f4,f5,i,j,g1,g2,g3,g4,g5,g6,g7,g8,g9,g10⟩=>?_) ?_
 ·unfold dy
  by_cases he:i=j
  ·subst he
   rw [g6,g7,bne_self_eq_false,cond_false,a9,cond_true]
   exact .inr ⟨_,_,rfl,rfl,rfl,f1,f2,f3,f4,f5,i,g1,g3,g4,g6,g7,g8,fun t q1 q2=>g9 t q1 (by omega),fun t q1 q2=>g10 t (by omega) q2⟩
  ·rw [g6,g7,show ((i:Int) != (j:Int))=true by simpa using (show ¬ (i:Int)=(j:Int) by omega),cond_true]
   by_cases hgt:j < i
   ·rw [decide_eq_true (show (i:Int) > (j:Int) by omega),cond_true]
    obtain ⟨D',q1,q2,q3⟩:=BW h y.data (m - i) m j (by omega) (by omega) (by omega)
    have e0:fC y = .out .ret ⟨D',((m - i:Nat):Int),(m:Int),(j:Int),h⟩:=by
     unfold fC
     rw [f2,g6,g7,f4,Bv (by omega) (by omega)]
     exact q1
    rw [e0]
    simp only [a9,cond_true,aJ.kk,aJ.kK,fR,q2]
    refine .inl ⟨_,rfl,by omega,f1,f2,f3,rfl,by rw [q2]; exact f5,i - j,j,by omega,g2,by omega,g4,by omega,Bv (by omega) (by omega),rfl,fun t ht=>?_,fun t t1 t2=>?_,fun t t1 t2=>?_⟩
    ·rw [q3]
     by_cases zu:m - i≤t∧t < m - i+j
     ·rw [Au,if_pos zu,g9 t zu.1 zu.2]; congr 1; omega
     ·rw [Au,if_neg zu,if_neg (by omega)]; exact g8 t (by omega)
    ·rw [q3,Au,if_neg (by omega),if_pos (by omega),g10 t (by omega) (by omega)]; congr 1; omega
    ·rw [q3,Au,if_neg (by omega),if_neg (by omega),g10 t (by omega) (by omega)]
   ·rw [decide_eq_false (show ¬ (i:Int) > (j:Int) by omega),cond_false]
    obtain ⟨D',q1,q2,q3⟩:=BW h y.data (m - i) (m+j - i) i (by omega) (by omega) (by omega)
    have e0:fD y = .out .ret ⟨D',((m - i:Nat):Int),((m+j - i:Nat):Int),(i:Int),h⟩:=by
     unfold fD
     rw [f2,g6,g7,f4,Bv (by omega) (by omega),aaB (by omega),Bv (by omega) (by omega)]
     exact q1
    rw [e0]
    simp only [a9,cond_true,aJ.kk,aJ.kK,fR,q2]
    refine .inl ⟨_,rfl,by omega,f1,f2,f3,rfl,by rw [q2]; exact f5,i,j - i,g1,by omega,g3,by omega,by omega,rfl,Bv (by omega) (by omega),fun t ht=>?_,fun t t1 t2=>?_,fun t t1 t2=>?_⟩
    ·rw [q3]
     by_cases zu:m+j - i≤t∧t < m+j - i+i
     ·rw [Au,if_neg (by omega),if_pos zu,g10 t (by omega) (by omega)]; congr 1; omega
     ·rw [Au,if_neg (by omega),if_neg zu]; exact g8 t (by omega)
    ·rw [q3,Au,if_neg (by omega),if_neg (by omega),g9 t (by omega) (by omega)]
    ·rw [q3,Au,if_pos (by omega),g9 t (by omega) (by omega)]; congr 1; omega
 ·refine ⟨rfl,rfl,rfl,rfl,rfl,m - a,b - m,by omega,by omega,by omega,by omega,by omega,rfl,rfl,fun t ht=>?_,fun t t1 t2=>?_,fun t t1 t2=>?_⟩
  ·rw [G0 (by omega) (by omega) (by omega)]
  ·rw [Ml (by omega) (by omega)]
  ·rw [IE (by omega) (by omega)]
theorem aaE (h:aB) (D:Sl aZ) (a m b:Nat) (h1:a < m) (h2:m < b) (h4:b≤D.n) (h3:D.n≤10000000000) :
  ∃ D',dZ ⟨D,(a:Int),(m:Int),(b:Int),h⟩ = .out .ret ⟨D',(a:Int),(m:Int),(b:Int),h⟩∧D'.n=D.n∧∀ t,D'.get t=Cw D.get a m b t:=by
 obtain ⟨e,y,hy,rfl,y1,y2,y3,y4,y5,i,i1,i2,i3,i4,i5,i6,i7,i8⟩:=aaD h D a m b h1 h2 h4 h3
 have e0:bB ⟨D,(a:Int),(m:Int),(b:Int),h⟩ = .out (.exit 0) y:=by
  unfold bB
  rw [Bv (by omega) (by omega),Bv (by omega) (by omega)]
  exact hy
 obtain ⟨D',q1,q2,q3⟩:=BW h y.data (m - i) m i (by omega) (by omega) (by omega)
 have e1:gE ⟨D,(a:Int),(m:Int),(b:Int),h⟩ = .out .ret ⟨D',((m - i:Nat):Int),(m:Int),(i:Int),h⟩:=by
  unfold gE
  rw [e0]
  simp only [aJ.kK,y2,i4,y4]
  rw [Bv (by omega) (by omega)]
  exact q1
 refine ⟨D',?_,q2.trans y5,fun t=>?_⟩
 ·unfold dZ ko
  rw [e0,e1]
  simp only [a9,cond_true,aJ.kk,aJ.kK,fR,Nat.beq_refl,y1,y2,y3,q2]
 ·rw [q3]
  by_cases c1:m - i≤t∧t < m - i+i
  ·rw [Au,if_pos c1,i7 t (by omega) (by omega)]; congr 1; omega
  ·by_cases c2:m≤t∧t < m+i
   ·rw [Au,if_neg c1,if_pos c2,i8 t c2.1 c2.2]; congr 1; omega
   ·rw [Au,if_neg c1,if_neg c2]; exact i6 t (by omega)
def cg (h:aB) (d:aZ):Int:=(h.cX.items.get (Int.toNat d.item)).look.bin
def hX (h:aB) (d:aZ):Bool:=(decide ((0:Int)≤d.item))&&(decide (d.item < ((h.cX.items.n:Nat):Int)))
theorem aaF (h:aB) (D:Sl aZ) (a b i:Nat) (h1:a≤i) (h2:i < D.n) (h3:D.n≤10000000000) (ch:∀ t,t < D.n→hX h (D.get t)=true) :
  ∃ e y,goN cp ⟨D,(a:Int),(b:Int),(i:Int),(i:Int),h⟩ = .out e y∧(e = .exit 2∧y.a=(a:Int)∧y.b=(b:Int)∧y.i=(i:Int)∧y.dR=h∧y.data.n=D.n∧∃ j:Nat,a≤j∧j≤i∧(∀ t,y.data.get t=ins D.get j i t)∧(∀ t,j≤t→t < i→cg h (D.get i) < cg h (D.get t))∧(j=a∨¬ cg h (D.get i) < cg h (D.get (j - 1)))):=by
 refine dx (step:=cp) (fun k y=>y.a=(a:Int)∧y.b=(b:Int)∧y.i=(i:Int)∧y.dR=h∧y.data.n=D.n∧a+k≤i∧y.j=((i - k:Nat):Int)∧(∀ t,y.data.get t=ins D.get (i - k) i t)∧∀ t,i - k≤t→t < i→cg h (D.get i) < cg h (D.get t)) _ (i - a) (by have:mm=1000000000000:=rfl; omega) (fun k y hk ⟨f1,f2,f3,f4,f5,f6,f7,f8,f9⟩=>?_) ⟨rfl,rfl,rfl,rfl,rfl,by omega,by simp,fun t=>by rw [Nat.sub_zero,acq],fun t t1 t2=>by omega⟩
 unfold cp
 by_cases bX:a < i - k
 ·have g1:y.data.get (0+Int.toNat ((i - k:Nat):Int))=D.get i:=by rw [Int.toNat_natCast,Nat.zero_add,f8,ED]
  have g2:y.data.get (0+Int.toNat ((i - k - 1:Nat):Int))=D.get (i - k - 1):=by rw [Int.toNat_natCast,Nat.zero_add,f8,xg (by omega)]
  obtain ⟨r,r1,r2⟩:=Mn (cg h (D.get i)) (cg h (D.get (i - k - 1)))
  have e0:gx y=some r:=by
   unfold gx
   rw [f7,aaC (by omega) (by omega),g1,g2,f4]
   exact r1
  have o1:((decide ((0:Int)≤(D.get i).item))&&(decide ((D.get i).item < ((h.cX.items.n:Nat):Int))))=true:=ch i h2
  have o2:((decide ((0:Int)≤(D.get (i - k - 1)).item))&&(decide ((D.get (i - k - 1)).item < ((h.cX.items.n:Nat):Int))))=true:=ch _ (by omega)
  rw [f7,f1,decide_eq_true (show ((i - k:Nat):Int) > (a:Int) by omega),cond_true,f5,SC (by omega),cond_true,aaC (by omega) (by omega),SC (by omega),cond_true,g1,g2,f4,o1,o2,e0]
  simp only [cond_true,Option.isSome_some,Option.getD_some,a9,r2]
  by_cases hc:cg h (D.get i) < cg h (D.get (i - k - 1))
  ·rw [decide_eq_true hc,cond_true]
   refine .inl ⟨_,rfl,by omega,rfl,f2,f3,rfl,by rw [ahM]; exact f5,by omega,by rw [show i - (k+1)=i - k - 1 by omega],fun t=>?_,fun t t1 t2=>?_⟩
   ·rw [Mm,show i - (k+1)=i - k - 1 by omega,acs (by omega) (by omega),Int.toNat_natCast,Int.toNat_natCast,ED,xg (by omega),f8]
   ·by_cases e:t=i - k - 1
    ·rw [e]; exact hc
    ·exact f9 t (by omega) t2
  ·rw [decide_eq_false hc,cond_false]
   exact .inr ⟨_,_,rfl,rfl,rfl,f1,f2,f3,f4,f5,i - k,by omega,by omega,f8,f9,.inr hc⟩
 ·rw [f7,f1,decide_eq_false (show ¬ ((i - k:Nat):Int) > (a:Int) by omega),cond_false,a9,cond_true]
  exact .inr ⟨_,_,rfl,rfl,rfl,f1,f2,f3,f4,f5,i - k,by omega,by omega,f8,f9,.inl (by omega)⟩
def bP (h:aB) (ga:aZ→aZ→Prop):wi.Ord aZ:=⟨cg h,ga⟩
theorem G7 (h:aB) (ga:aZ→aZ→Prop) (D:Sl aZ) (a b:Nat) (h1:a≤b) (h2:b≤D.n) (h3:D.n≤10000000000) (ch:∀ t,t < D.n→hX h (D.get t)=true) (hr:∀ s t,a≤s→s < t→t < b→ga (D.get s) (D.get t)) :
  ∃ D',eQ ⟨D,(a:Int),(b:Int),h⟩ = .out .ret ⟨D',(a:Int),(b:Int),h⟩∧D'.n=D.n∧Perm D.get D'.get a b∧gm (bP h ga) D'.get a b:=by
 have al8:∃ e y,goN cH ⟨D,(a:Int),(b:Int),((a+1:Nat):Int),h⟩ = .out e y∧(e = .exit 0∧y.a=(a:Int)∧y.b=(b:Int)∧y.dR=h∧y.data.n=D.n∧Perm D.get y.data.get a b∧gm (bP h ga) y.data.get a b):=by
  refine dx (step:=cH) (fun k y=>y.a=(a:Int)∧y.b=(b:Int)∧y.i=((a+1+k:Nat):Int)∧y.dR=h∧y.data.n=D.n∧(k=0∨a+1+k≤b)∧Perm D.get y.data.get a (a+1+k)∧gm (bP h ga) y.data.get a (a+1+k)) _ (b - a) (by have:mm=1000000000000:=rfl; omega) (fun k y hk ⟨f1,f2,f3,f4,f5,f6,f7,f8⟩=>?_) ⟨rfl,rfl,rfl,rfl,rfl,.inl rfl,.refl _ _ _,.one (by omega)⟩
  unfold cH
  by_cases bX:a+1+k < b
  ·have Vr:∀ t,t < y.data.n→hX h (y.data.get t)=true:=fun t ht=>by
    rw [f5] at ht
    by_cases zu:a≤t∧t < a+1+k
    ·obtain ⟨j,j1,j2,e⟩:=f7.mem zu.1 zu.2
     rw [e]; exact ch j (by omega)
    ·rw [f7.2 t (by omega)]; exact ch t ht
   obtain ⟨e,z,hz,rfl,z1,z2,z3,z4,z5,j,j1,j2,j3,j4,j5⟩:=aaF h y.data a b (a+1+k) (by omega) (by omega) (by omega) Vr
   have e0:bR y = .out (.exit 2) z:=by
    unfold bR
    rw [f1,f2,f3,f4]
    exact hz
   rw [f3,f2,decide_eq_true (show ((a+1+k:Nat):Int) < (b:Int) by omega),cond_true,e0]
   simp only [a9,cond_true,aJ.kk,aJ.kK,fR,Nat.beq_refl]
   have alB:z.data.get=ins y.data.get j (a+1+k):=funext j3
   refine .inl ⟨_,rfl,by omega,z1,z2,(by show ak (z.i+1)=_; rw [z3,Px (by omega)]; rfl),z4,by rw [z5]; exact f5,.inr (by omega),?_,?_⟩
   ·rw [alB]
    exact (f7.wide (Nat.le_refl _) (by omega) (by omega)).trans ((acr (a:=a) j1 j2).wide (Nat.le_refl _) (by omega) (by omega))
   ·rw [alB]
    refine VY f8 (fun s t s1 s2 t1 t2=>?_) j1 j2 (fun s s1 s2=>?_) j4
    ·have:t=a+1+k:=by omega
     subst this
     obtain ⟨s',p1,p2,e⟩:=f7.mem s1 s2
     rw [e,f7.2 (a+1+k) (by omega)]
     exact hr s' _ p1 p2 bX
    ·rcases j5 with rfl | j5
     ·omega
     ·have:=f8.key (i:=s) (j:=j - 1) s1 (by omega) (by omega)
      have h5 : ¬ (bP h ga).key (y.data.get (a+1+k)) < (bP h ga).key (y.data.get (j - 1)):=j5
      omega
  ·rw [f3,f2,decide_eq_false (show ¬ ((a+1+k:Nat):Int) < (b:Int) by omega),cond_false,a9,cond_true]
   refine .inr ⟨_,_,rfl,rfl,rfl,f1,f2,f4,f5,?_,?_⟩
   ·rcases f6 with rfl | f6
    ·by_cases e:a=b
     ·subst e
      refine ⟨fun p=>by rw [Nat.sub_self]; rfl,fun i _=>?_⟩
      by_cases hi:i=a
      ·subst hi
       have:=f7.1
       obtain ⟨j,p1,p2,e⟩:=f7.mem (i:=i) (by omega) (by omega)
       rw [e]; congr 1; omega
      ·exact f7.2 i (by omega)
     ·rw [show b=a+1+0 by omega]; exact f7
    ·rw [show b=a+1+k by omega]; exact f7
   ·exact fun s t s1 s2 t1=>f8 s t s1 s2 (by omega)
 obtain ⟨e,y,hy,rfl,y1,y2,y3,y4,y5,y6⟩:=al8
 have e0:cE ⟨D,(a:Int),(b:Int),h⟩ = .out (.exit 0) y:=by
  unfold cE
  rw [Px (by omega)]
  exact hy
 refine ⟨y.data,?_,y4,y5,y6⟩
 unfold eQ hQ
 rw [e0]
 simp only [a9,cond_true,aJ.kk,aJ.kK,fR,Nat.beq_refl,y1,y2,y3]
end Go.Proofs.Ytahhdndhkgbcjaa.b
end
section
namespace Go.Proofs.Ytahhdndhkgbcjaa.b
open Go.K Go.K.wi
open Go.aG (aw)
theorem akw {n:Int} (h:0≤n) (h' : n < 18446744073709551616):mG n=n:=by
 show Go.IntKind.wrap .u64 n=n
 unfold Go.IntKind.wrap
 simp only [Go.IntKind.signed,Go.IntKind.bits]
 first | omega | (simp; omega)
theorem adL {i j:Nat} (h:i+j≤100000000000):ak (Int.fdiv (mG (ak ((i:Int)+(j:Int)))) (2:Int))=(((i+j) / 2:Nat):Int):=by
 rw [aaB h,akw (by omega) (by omega),show Int.fdiv ((i+j:Nat):Int) (2:Int)=(((i+j) / 2:Nat):Int) from ?_,zf (by omega) (by omega)]
 rw [Int.fdiv_eq_ediv_of_nonneg _ (by omega)]
 omega
end Go.Proofs.Ytahhdndhkgbcjaa.b
end
section
namespace Go.Proofs.Ytahhdndhkgbcjaa.b
open Go.K Go.K.wi
open Go.aG (aw)
theorem adM (h:aB) (D:Sl aZ) (ga:aZ→aZ→Prop) (a m b:Nat) (h1:a+1=m) (h2:m≤b) (h4:b≤D.n) (h3:D.n≤10000000000) (ch:∀ t,t < D.n→hX h (D.get t)=true) (hs:gm (bP h ga) D.get m b) :
  ∃ i:Nat,goN db ⟨D,(a:Int),(m:Int),(b:Int),(m:Int),(b:Int),h⟩ = .out (.exit 0) ⟨D,(a:Int),(m:Int),(b:Int),(i:Int),(i:Int),h⟩∧m≤i∧i≤b∧(∀ t,m≤t→t < i→cg h (D.get t) < cg h (D.get a))∧∀ t,i≤t→t < b→cg h (D.get a)≤cg h (D.get t):=by
 refine Exists.elim (dx (step:=db) (x:=⟨D,(a:Int),(m:Int),(b:Int),(m:Int),(b:Int),h⟩) (fun k y=>∃ i j:Nat,y=⟨D,(a:Int),(m:Int),(b:Int),(i:Int),(j:Int),h⟩∧m≤i∧i≤j∧j≤b∧j - i+k≤b - m∧(∀ t,m≤t→t < i→cg h (D.get t) < cg h (D.get a))∧∀ t,j≤t→t < b→cg h (D.get a)≤cg h (D.get t)) (fun e y=>e = .exit 0∧∃ i:Nat,y=⟨D,(a:Int),(m:Int),(b:Int),(i:Int),(i:Int),h⟩∧m≤i∧i≤b∧(∀ t,m≤t→t < i→cg h (D.get t) < cg h (D.get a))∧∀ t,i≤t→t < b→cg h (D.get a)≤cg h (D.get t)) (b - m) (by have:mm=1000000000000:=rfl; omega) (fun k y hk ⟨i,j,hy,g1,g2,g3,g4,g5,g6⟩=>?_) ⟨m,b,rfl,Nat.le_refl _,h2,Nat.le_refl _,by omega,fun t t1 t2=>by omega,fun t t1 t2=>by omega⟩) fun e ⟨y,hy,he,i,hi,q⟩=>⟨i,by rw [hy,he,hi],q⟩
 ·subst hy
  unfold db
  by_cases bX:i < j
  ·have hh:=adL (i:=i) (j:=j) (by omega)
   obtain ⟨r,r1,r2⟩:=Mn (cg h (D.get ((i+j) / 2))) (cg h (D.get a))
   have e0:iK ⟨D,(a:Int),(m:Int),(b:Int),(i:Int),(j:Int),h⟩=some r:=by
    unfold iK
    simp only [hh,Int.toNat_natCast,Nat.zero_add]
    exact r1
   have o1:((decide ((0:Int)≤(D.get ((i+j) / 2)).item))&&(decide ((D.get ((i+j) / 2)).item < ((h.cX.items.n:Nat):Int))))=true:=ch _ (by omega)
   have o2:((decide ((0:Int)≤(D.get a).item))&&(decide ((D.get a).item < ((h.cX.items.n:Nat):Int))))=true:=ch _ (by omega)
   simp only [hh,e0,decide_eq_true (show (i:Int) < (j:Int) by omega),cond_true,SC (show (i+j) / 2 < D.n by omega),SC (show a < D.n by omega),Int.toNat_natCast,Nat.zero_add,o1,o2,Option.isSome_some,Option.getD_some,a9,r2]
   by_cases hc:cg h (D.get ((i+j) / 2)) < cg h (D.get a)
   ·rw [decide_eq_true hc,cond_true,Px (by omega)]
    refine .inl ⟨_,rfl,by omega,(i+j) / 2+1,j,rfl,by omega,by omega,g3,by omega,fun t t1 t2=>?_,g6⟩
    have:=hs.key (i:=t) (j:=(i+j) / 2) t1 (by omega) (by omega)
    exact Int.lt_of_le_of_lt this hc
   ·rw [decide_eq_false hc,cond_false]
    refine .inl ⟨_,rfl,by omega,i,(i+j) / 2,rfl,g1,by omega,by omega,by omega,g5,fun t t1 t2=>?_⟩
    have:=hs.key (i:=(i+j) / 2) (j:=t) (by omega) t1 t2
    exact Int.le_trans (Int.not_lt.1 hc) this
  ·simp only [decide_eq_false (show ¬ (i:Int) < (j:Int) by omega),cond_false,a9,cond_true]
   have:j=i:=by omega
   subst this
   exact .inr ⟨_,_,rfl,rfl,rfl,j,rfl,g1,g3,g5,g6⟩
theorem adN (h:aB) (D:Sl aZ) (ga:aZ→aZ→Prop) (a m b:Nat) (h2:a≤m) (h4:m < D.n) (h3:D.n≤10000000000) (ch:∀ t,t < D.n→hX h (D.get t)=true) (hs:gm (bP h ga) D.get a m) :
  ∃ i:Nat,goN dc ⟨D,(a:Int),(m:Int),(b:Int),(a:Int),(m:Int),h⟩ = .out (.exit 4) ⟨D,(a:Int),(m:Int),(b:Int),(i:Int),(i:Int),h⟩∧a≤i∧i≤m∧(∀ t,a≤t→t < i→cg h (D.get t)≤cg h (D.get m))∧∀ t,i≤t→t < m→cg h (D.get m) < cg h (D.get t):=by
 refine Exists.elim (dx (step:=dc) (x:=⟨D,(a:Int),(m:Int),(b:Int),(a:Int),(m:Int),h⟩) (fun k y=>∃ i j:Nat,y=⟨D,(a:Int),(m:Int),(b:Int),(i:Int),(j:Int),h⟩∧a≤i∧i≤j∧j≤m∧j - i+k≤m - a∧(∀ t,a≤t→t < i→cg h (D.get t)≤cg h (D.get m))∧∀ t,j≤t→t < m→cg h (D.get m) < cg h (D.get t)) (fun e y=>e = .exit 4∧∃ i:Nat,y=⟨D,(a:Int),(m:Int),(b:Int),(i:Int),(i:Int),h⟩∧a≤i∧i≤m∧(∀ t,a≤t→t < i→cg h (D.get t)≤cg h (D.get m))∧∀ t,i≤t→t < m→cg h (D.get m) < cg h (D.get t)) (m - a) (by have:mm=1000000000000:=rfl; omega) (fun k y hk ⟨i,j,hy,g1,g2,g3,g4,g5,g6⟩=>?_) ⟨a,m,rfl,Nat.le_refl _,h2,Nat.le_refl _,by omega,fun t t1 t2=>by omega,fun t t1 t2=>by omega⟩) fun e ⟨y,hy,he,i,hi,q⟩=>⟨i,by rw [hy,he,hi],q⟩
 ·subst hy
  unfold dc
  by_cases bX:i < j
  ·have hh:=adL (i:=i) (j:=j) (by omega)
   obtain ⟨r,r1,r2⟩:=Mn (cg h (D.get m)) (cg h (D.get ((i+j) / 2)))
   have e0:iL ⟨D,(a:Int),(m:Int),(b:Int),(i:Int),(j:Int),h⟩=some r:=by
    unfold iL
    simp only [hh,Int.toNat_natCast,Nat.zero_add]
    exact r1
   have o1:((decide ((0:Int)≤(D.get ((i+j) / 2)).item))&&(decide ((D.get ((i+j) / 2)).item < ((h.cX.items.n:Nat):Int))))=true:=ch _ (by omega)
   have o2:((decide ((0:Int)≤(D.get m).item))&&(decide ((D.get m).item < ((h.cX.items.n:Nat):Int))))=true:=ch _ (by omega)
   simp only [hh,e0,decide_eq_true (show (i:Int) < (j:Int) by omega),cond_true,SC (show (i+j) / 2 < D.n by omega),SC h4,Int.toNat_natCast,Nat.zero_add,o1,o2,Option.isSome_some,Option.getD_some,a9,r2]
   by_cases hc:cg h (D.get m) < cg h (D.get ((i+j) / 2))
   ·rw [decide_eq_true hc,Bool.not_true,cond_false]
    refine .inl ⟨_,rfl,by omega,i,(i+j) / 2,rfl,g1,by omega,by omega,by omega,g5,fun t t1 t2=>?_⟩
    have:=hs.key (i:=(i+j) / 2) (j:=t) (by omega) t1 t2
    exact Int.lt_of_lt_of_le hc this
   ·rw [decide_eq_false hc,Bool.not_false,cond_true,Px (by omega)]
    refine .inl ⟨_,rfl,by omega,(i+j) / 2+1,j,rfl,by omega,by omega,g3,by omega,fun t t1 t2=>?_,g6⟩
    have:=hs.key (i:=t) (j:=(i+j) / 2) t1 (by omega) (by omega)
    exact Int.le_trans this (Int.not_lt.1 hc)
  ·simp only [decide_eq_false (show ¬ (i:Int) < (j:Int) by omega),cond_false,a9,cond_true]
   have:j=i:=by omega
   subst this
   exact .inr ⟨_,_,rfl,rfl,rfl,j,rfl,g1,g3,g5,g6⟩
theorem SD (h:aB) (D:Sl aZ) (a m b cl s0 r0:Nat) (h1:s0≤r0) (h2:r0≤m) (h5:r0≤cl) (h6:cl+m≤b+s0) (h7:m≤b) (h4:b≤D.n) (h3:D.n≤10000000000) (h8:1≤m) (ch:∀ t,t < D.n→hX h (D.get t)=true) :
  ∃ s:Nat,goN ct ⟨D,(a:Int),(m:Int),(b:Int),(cl:Int),((cl+m:Nat):Int),(s0:Int),(r0:Int),((cl+m - 1:Nat):Int),h⟩ = .out (.exit 8) ⟨D,(a:Int),(m:Int),(b:Int),(cl:Int),((cl+m:Nat):Int),(s:Int),(s:Int),((cl+m - 1:Nat):Int),h⟩∧s0≤s∧s≤r0∧
   (s=s0∨(s0 < s∧cg h (D.get (s - 1))≤cg h (D.get (cl+m - s))))∧(s=r0∨(s < r0∧cg h (D.get (cl+m - 1 - s)) < cg h (D.get s))):=by
 refine Exists.elim (dx (step:=ct) (x:=⟨D,(a:Int),(m:Int),(b:Int),(cl:Int),((cl+m:Nat):Int),(s0:Int),(r0:Int),((cl+m - 1:Nat):Int),h⟩) (fun k y=>∃ i j:Nat,y=⟨D,(a:Int),(m:Int),(b:Int),(cl:Int),((cl+m:Nat):Int),(i:Int),(j:Int),((cl+m - 1:Nat):Int),h⟩∧s0≤i∧i≤j∧j≤r0∧j - i+k≤r0 - s0∧(i=s0∨(s0 < i∧cg h (D.get (i - 1))≤cg h (D.get (cl+m - i))))∧(j=r0∨(j < r0∧cg h (D.get (cl+m - 1 - j)) < cg h (D.get j)))) (fun e y=>e = .exit 8∧∃ i:Nat,y=⟨D,(a:Int),(m:Int),(b:Int),(cl:Int),((cl+m:Nat):Int),(i:Int),(i:Int),((cl+m - 1:Nat):Int),h⟩∧s0≤i∧i≤r0∧(i=s0∨(s0 < i∧cg h (D.get (i - 1))≤cg h (D.get (cl+m - i))))∧(i=r0∨(i < r0∧cg h (D.get (cl+m - 1 - i)) < cg h (D.get i)))) (r0 - s0) (by have:mm=1000000000000:=rfl; omega) (fun k y hk ⟨i,j,hy,g1,g2,g3,g4,g5,g6⟩=>?_) ⟨s0,r0,rfl,Nat.le_refl _,h1,Nat.le_refl _,by omega,.inl rfl,.inl rfl⟩) fun e ⟨y,hy,he,i,hi,q⟩=>⟨i,by rw [hy,he,hi],q⟩
 ·subst hy
  unfold ct
  by_cases bX:i < j
  ·have hh:=adL (i:=i) (j:=j) (by omega)
   have hp:=Bv (i:=cl+m - 1) (j:=(i+j) / 2) (by omega) (by omega)
   obtain ⟨r,r1,r2⟩:=Mn (cg h (D.get (cl+m - 1 - (i+j) / 2))) (cg h (D.get ((i+j) / 2)))
   have e0:ir ⟨D,(a:Int),(m:Int),(b:Int),(cl:Int),((cl+m:Nat):Int),(i:Int),(j:Int),((cl+m - 1:Nat):Int),h⟩=some r:=by
    unfold ir
    simp only [hh,hp,Int.toNat_natCast,Nat.zero_add]
    exact r1
   have o1:((decide ((0:Int)≤(D.get ((i+j) / 2)).item))&&(decide ((D.get ((i+j) / 2)).item < ((h.cX.items.n:Nat):Int))))=true:=ch _ (by omega)
   have o2:((decide ((0:Int)≤(D.get (cl+m - 1 - (i+j) / 2)).item))&&(decide ((D.get (cl+m - 1 - (i+j) / 2)).item < ((h.cX.items.n:Nat):Int))))=true:=ch _ (by omega)
   simp only [hh,hp,e0,decide_eq_true (show (i:Int) < (j:Int) by omega),cond_true,SC (show (i+j) / 2 < D.n by omega),SC (show cl+m - 1 - (i+j) / 2 < D.n by omega),Int.toNat_natCast,Nat.zero_add,o1,o2,Option.isSome_some,Option.getD_some,a9,r2]
   by_cases hc:cg h (D.get (cl+m - 1 - (i+j) / 2)) < cg h (D.get ((i+j) / 2))
   ·rw [decide_eq_true hc,Bool.not_true,cond_false]
    exact .inl ⟨_,rfl,by omega,i,(i+j) / 2,rfl,g1,by omega,by omega,by omega,g5,.inr ⟨by omega,hc⟩⟩
   ·rw [decide_eq_false hc,Bool.not_false,cond_true,Px (by omega)]
    refine .inl ⟨_,rfl,by omega,(i+j) / 2+1,j,rfl,by omega,by omega,g3,by omega,.inr ⟨by omega,?_⟩,g6⟩
    rw [show cl+m - ((i+j) / 2+1)=cl+m - 1 - (i+j) / 2 by omega,Nat.add_sub_cancel]
    exact Int.not_lt.1 hc
  ·simp only [decide_eq_false (show ¬ (i:Int) < (j:Int) by omega),cond_false,a9,cond_true]
   have:j=i:=by omega
   subst this
   exact .inr ⟨_,_,rfl,rfl,rfl,j,rfl,g1,g3,g5,g6⟩
theorem adO (h:aB) (D:Sl aZ) (a m b i:Nat) (h1:a+1≤i) (h4:i≤D.n) (h3:D.n≤10000000000) :
  ∃ D',∃ k:Int,goN de ⟨D,(a:Int),(m:Int),(b:Int),(i:Int),(a:Int),h⟩ = .out (.exit 2) ⟨D',(a:Int),(m:Int),(b:Int),(i:Int),k,h⟩∧D'.n=D.n∧∀ t,D'.get t=GZ D.get a (i - 1) t:=by
 refine Exists.elim (dx (step:=de) (x:=⟨D,(a:Int),(m:Int),(b:Int),(i:Int),(a:Int),h⟩) (fun k y=>∃ D',y=⟨D',(a:Int),(m:Int),(b:Int),(i:Int),((a+k:Nat):Int),h⟩∧a+k≤i - 1∧D'.n=D.n∧∀ t,D'.get t=GZ D.get a (a+k) t) (fun e y=>e = .exit 2∧∃ D',∃ k:Int,y=⟨D',(a:Int),(m:Int),(b:Int),(i:Int),k,h⟩∧D'.n=D.n∧∀ t,D'.get t=GZ D.get a (i - 1) t) (i - 1 - a) (by have:mm=1000000000000:=rfl; omega) (fun k y hk ⟨D',hy,g1,g2,g3⟩=>?_) ⟨D,rfl,by omega,rfl,fun t=>by rw [Nat.add_zero,aiE]⟩) fun e ⟨y,hy,he,D',k,hi,q⟩=>⟨D',k,by rw [hy,he,hi],q⟩
 ·subst hy
  unfold de
  have hi:=aaC (i:=i) (by omega) (by omega)
  by_cases bX:a+k < i - 1
  ·have FJ:=Px (i:=a+k) (by omega)
   simp only [hi,FJ,decide_eq_true (show ((a+k:Nat):Int) < ((i - 1:Nat):Int) by omega),cond_true,SC (show a+k < D'.n by omega),SC (show a+k+1 < D'.n by omega),a9]
   refine .inl ⟨_,rfl,by omega,_,rfl,by omega,g2,fun t=>?_⟩
   rw [Mm,Int.toNat_natCast,Int.toNat_natCast,Nat.zero_add,Nat.zero_add,show a+(k+1)=a+k+1 by omega,aiG (by omega),g3,g3,g3]
   by_cases e1:t=a+k+1
   ·subst e1; rw [if_pos rfl,if_neg (by omega),if_pos rfl]
   ·rw [if_neg e1]
    by_cases e2:t=a+k
    ·subst e2; rw [if_pos rfl,if_pos rfl]
    ·rw [if_neg e2,if_neg e2,if_neg e1]
  ·simp only [hi,decide_eq_false (show ¬ ((a+k:Nat):Int) < ((i - 1:Nat):Int) by omega),cond_false,a9,cond_true]
   exact .inr ⟨_,_,rfl,rfl,rfl,D',_,rfl,g2,fun t=>by rw [g3,show a+k=i - 1 by omega]⟩
theorem adP (h:aB) (D:Sl aZ) (a m b i:Nat) (h1:i≤m) (h4:m < D.n) (h3:D.n≤10000000000) :
  ∃ D',∃ k:Int,goN cU ⟨D,(a:Int),(m:Int),(b:Int),(i:Int),(m:Int),h⟩ = .out (.exit 6) ⟨D',(a:Int),(m:Int),(b:Int),(i:Int),k,h⟩∧D'.n=D.n∧∀ t,D'.get t=ins D.get i m t:=by
 refine Exists.elim (dx (step:=cU) (x:=⟨D,(a:Int),(m:Int),(b:Int),(i:Int),(m:Int),h⟩) (fun k y=>∃ D',y=⟨D',(a:Int),(m:Int),(b:Int),(i:Int),((m - k:Nat):Int),h⟩∧i+k≤m∧D'.n=D.n∧∀ t,D'.get t=ins D.get (m - k) m t) (fun e y=>e = .exit 6∧∃ D',∃ k:Int,y=⟨D',(a:Int),(m:Int),(b:Int),(i:Int),k,h⟩∧D'.n=D.n∧∀ t,D'.get t=ins D.get i m t) (m - i) (by have:mm=1000000000000:=rfl; omega) (fun k y hk ⟨D',hy,g1,g2,g3⟩=>?_) ⟨D,rfl,by omega,rfl,fun t=>by rw [Nat.sub_zero,acq]⟩) fun e ⟨y,hy,he,D',k,hi,q⟩=>⟨D',k,by rw [hy,he,hi],q⟩
 ·subst hy
  unfold cU
  by_cases bX:i < m - k
  ·have FJ:=aaC (i:=m - k) (by omega) (by omega)
   simp only [FJ,decide_eq_true (show ((m - k:Nat):Int) > (i:Int) by omega),cond_true,SC (show m - k < D'.n by omega),SC (show m - k - 1 < D'.n by omega),a9]
   refine .inl ⟨_,rfl,by omega,_,rfl,by omega,g2,fun t=>?_⟩
   rw [Mm,Int.toNat_natCast,Int.toNat_natCast,Nat.zero_add,Nat.zero_add,show m - (k+1)=m - k - 1 by omega,acs (by omega) (by omega),g3,g3,g3]
  ·simp only [decide_eq_false (show ¬ ((m - k:Nat):Int) > (i:Int) by omega),cond_false,a9,cond_true]
   exact .inr ⟨_,_,rfl,rfl,rfl,D',_,rfl,g2,fun t=>by rw [g3,show m - k=i by omega]⟩
end Go.Proofs.Ytahhdndhkgbcjaa.b
end
section
namespace Go.Proofs.Ytahhdndhkgbcjaa.b
open Go.K Go.K.wi
open Go.aG (aw)
def CH (rc:ah→aJ ah) (z:a7) (D:Sl aZ) (h:aB):aJ ah:=
 cond (decide (z.cl < ak (z.n - z.start)))
  (cond (decide (ak (z.n - z.start) < z.b))
   (cond (au D.n z.data.n) (cond ((rc ⟨D,z.cl,ak (z.n - z.start),z.b,h⟩).by .ret) (cond (au (rc ⟨D,z.cl,ak (z.n - z.start),z.b,h⟩).st.data.n z.data.n) (.out .ret ⟨(rc ⟨D,z.cl,ak (z.n - z.start),z.b,h⟩).st.data,z.a,z.m,z.b,(rc ⟨D,z.cl,ak (z.n - z.start),z.b,h⟩).st.held⟩) .fail) .fail) .fail)
   (cond (au D.n z.data.n) (.out .ret ⟨D,z.a,z.m,z.b,h⟩) .fail))
  (cond (au D.n z.data.n) (.out .ret ⟨D,z.a,z.m,z.b,h⟩) .fail)
def G8 (rc:ah→aJ ah) (z:a7) (D:Sl aZ) (h:aB):aJ ah:=
 cond (decide (z.a < z.start))
  (cond (decide (z.start < z.cl))
   (cond (au D.n z.data.n) (cond ((rc ⟨D,z.a,z.start,z.cl,h⟩).by .ret) (CH rc z (rc ⟨D,z.a,z.start,z.cl,h⟩).st.data (rc ⟨D,z.a,z.start,z.cl,h⟩).st.held) .fail) .fail)
   (CH rc z D h))
  (CH rc z D h)
def Mo (rc:ah→aJ ah) (z:a7):aJ ah:=
 cond (decide (z.start < z.m))
  (cond (decide (z.m < ak (z.n - z.start)))
   (cond (au z.data.n z.data.n) (cond ((dZ ⟨z.data,z.start,z.m,ak (z.n - z.start),z.eK⟩).by .ret) (G8 rc z (dZ ⟨z.data,z.start,z.m,ak (z.n - z.start),z.eK⟩).st.data (dZ ⟨z.data,z.start,z.m,ak (z.n - z.start),z.eK⟩).st.held) .fail) .fail)
   (G8 rc z z.data z.eK))
  (G8 rc z z.data z.eK)
theorem aaG (rc:ah→aJ ah) (x:ah) (h1:((ak (x.m - x.a))==(1:Int))=false) (h2:((ak (x.b - x.m))==(1:Int))=false) :
  dH rc x=cond (decide (x.m > (ak (Int.fdiv (mG (ak (x.a+x.b))) (2:Int)))))
   (cond (au x.data.n x.data.n) (cond ((ae rc x).by (.exit 8)) (Mo rc (ae rc x).st) .fail) .fail)
   (cond (au x.data.n x.data.n) (cond ((aa rc x).by (.exit 8)) (Mo rc (aa rc x).st) .fail) .fail):=by
 unfold dH
 rw [h1,h2]
 rfl
def sP (h:aB) (ga:aZ→aZ→Prop) (D D' : Sl aZ) (a b:Nat):Prop:=D'.n=D.n∧Perm D.get D'.get a b∧gm (bP h ga) D'.get a b
def vG (h:aB) (ga:aZ→aZ→Prop) (rc:ah→aJ ah) (L:Nat):Prop:=∀ (D:Sl aZ) (a m b:Nat),a < m→m < b→b≤D.n→D.n≤10000000000→(∀ t,t < D.n→hX h (D.get t)=true)→b - a≤L→gm (bP h ga) D.get a m→gm (bP h ga) D.get m b→DD (bP h ga) D.get a m b→
 ∃ D',rc ⟨D,(a:Int),(m:Int),(b:Int),h⟩ = .out .ret ⟨D',(a:Int),(m:Int),(b:Int),h⟩∧sP h ga D D' a b
theorem rV {h:aB} {D D' : Sl aZ} {a b:Nat} (hn:D'.n=D.n) (hb:b≤D.n) (hp:Perm D.get D'.get a b) (ch:∀ t,t < D.n→hX h (D.get t)=true):∀ t,t < D'.n→hX h (D'.get t)=true:=fun t ht=>by
 rw [hn] at ht
 by_cases zu:a≤t∧t < b
 ·obtain ⟨j,j1,j2,e⟩:=hp.mem zu.1 zu.2
  rw [e]; exact ch j (by omega)
 ·rw [hp.2 t (by omega)]; exact ch t ht
section
variable {h:aB} {ga:aZ→aZ→Prop} {rc:ah→aJ ah} {L:Nat}
theorem aaH (hrc:vG h ga rc L) (Z D:Sl aZ) (a m b cl s e:Nat) (p:Int) (hm:m≤D.n) (hn:D.n=Z.n) (h3:D.n≤10000000000) (hb:b≤D.n) (hs:e+s=cl+m) (q1:cl≤e) (q2:e≤b) (ch:∀ t,t < D.n→hX h (D.get t)=true) (hL:b - cl≤L) (r1:gm (bP h ga) D.get cl e) (r2:gm (bP h ga) D.get e b) (r0:DD (bP h ga) D.get cl e b) :
  ∃ D',CH rc ⟨Z,(a:Int),(m:Int),(b:Int),(cl:Int),((cl+m:Nat):Int),(s:Int),(s:Int),p,h⟩ D h = .out .ret ⟨D',(a:Int),(m:Int),(b:Int),h⟩∧sP h ga D D' cl b:=by
 have he:ak (((cl+m:Nat):Int) - (s:Int))=(e:Int):=by rw [Bv (by omega) (by omega)]; congr 1; omega
 unfold CH
 simp only [he,hn,a9,cond_true]
 by_cases c1:cl < e
 ·rw [decide_eq_true (show (cl:Int) < (e:Int) by omega),cond_true]
  by_cases c2:e < b
  ·rw [decide_eq_true (show (e:Int) < (b:Int) by omega),cond_true]
   obtain ⟨D',k1,k2,k3,k4⟩:=hrc D cl e b c1 c2 hb h3 ch hL r1 r2 r0
   rw [k1]
   simp only [aJ.kk,aJ.kK,fR,cond_true,k2,hn,a9]
   exact ⟨D',rfl,k2,k3,k4⟩
  ·rw [decide_eq_false (show ¬ (e:Int) < (b:Int) by omega),cond_false]
   have:e=b:=by omega
   subst this
   exact ⟨D,rfl,rfl,.refl _ _ _,r1⟩
 ·rw [decide_eq_false (show ¬ (cl:Int) < (e:Int) by omega),cond_false]
  have:cl=e:=by omega
  subst this
  exact ⟨D,rfl,rfl,.refl _ _ _,r2⟩
theorem abk (hrc:vG h ga rc L) (Z D:Sl aZ) (a m b cl s e:Nat) (p:Int) (hm:m≤D.n) (hn:D.n=Z.n) (h3:D.n≤10000000000) (hb:b≤D.n) (hs:e+s=cl+m) (q0:a≤s) (q3:s≤cl) (q1:cl≤e) (q2:e≤b) (ch:∀ t,t < D.n→hX h (D.get t)=true) (hL1:cl - a≤L) (hL:b - cl≤L) (uR:Split (bP h ga) D.get a s cl e b) :
  ∃ D',G8 rc ⟨Z,(a:Int),(m:Int),(b:Int),(cl:Int),((cl+m:Nat):Int),(s:Int),(s:Int),p,h⟩ D h = .out .ret ⟨D',(a:Int),(m:Int),(b:Int),h⟩∧sP h ga D D' a b:=by
 have rest:∀ D2:Sl aZ,sP h ga D D2 a cl→∃ D',CH rc ⟨Z,(a:Int),(m:Int),(b:Int),(cl:Int),((cl+m:Nat):Int),(s:Int),(s:Int),p,h⟩ D2 h = .out .ret ⟨D',(a:Int),(m:Int),(b:Int),h⟩∧sP h ga D D' a b:=fun D2 ⟨m1,m2,m3⟩=>by
  have same:∀ i,cl≤i→D2.get i=D.get i:=fun i hi=>m2.2 i (.inr hi)
  obtain ⟨D',k1,k2,k3,k4⟩:=aaH hrc Z D2 a m b cl s e p (by omega) (m1.trans hn) (by omega) (by omega) hs q1 q2 (rV m1 (by omega) m2 ch) hL (uR.r1.congr fun i i1 _=>same i i1) (uR.r2.congr fun i i1 _=>same i (by omega)) (fun i j i1 i2 j1 j2=>by rw [same i i1,same j (by omega)]; exact uR.r0 i j i1 i2 j1 j2)
  exact ⟨D',k1,k2.trans m1,(m2.wide (Nat.le_refl _) (by omega) (by omega)).trans (k3.wide (by omega) (by omega) (Nat.le_refl _)),adK uR.lr m2 m3 k3 k4⟩
 unfold G8
 simp only [hn,a9,cond_true]
 by_cases c1:a < s
 ·rw [decide_eq_true (show (a:Int) < (s:Int) by omega),cond_true]
  by_cases c2:s < cl
  ·rw [decide_eq_true (show (s:Int) < (cl:Int) by omega),cond_true]
   obtain ⟨D2,k1,k2⟩:=hrc D a s cl c1 c2 (by omega) h3 ch hL1 uR.l1 uR.l2 uR.l0
   rw [k1]
   simp only [aJ.kk,aJ.kK,fR,cond_true]
   exact rest D2 k2
  ·rw [decide_eq_false (show ¬ (s:Int) < (cl:Int) by omega),cond_false]
   have:s=cl:=by omega
   exact rest D ⟨rfl,.refl _ _ _,by rw [← this]; exact uR.l1⟩
 ·rw [decide_eq_false (show ¬ (a:Int) < (s:Int) by omega),cond_false]
  have:a=s:=by omega
  exact rest D ⟨rfl,.refl _ _ _,by rw [this]; exact uR.l2⟩
theorem LG (hrc:vG h ga rc L) (D:Sl aZ) (a m b cl s e:Nat) (p:Int) (h3:D.n≤10000000000) (hb:b≤D.n) (hs:e+s=cl+m) (q0:a≤s) (q3:s≤cl) (q4:s≤m) (q1:cl≤e) (q5:m≤e) (q2:e≤b) (ch:∀ t,t < D.n→hX h (D.get t)=true) (hL1:cl - a≤L) (hL:b - cl≤L) (s1:gm (bP h ga) D.get a m) (s2:gm (bP h ga) D.get m b) (s0:DD (bP h ga) D.get a m b) (w1:∀ i j,a≤i→i < s→e≤j→j < b→(bP h ga).key (D.get i)≤(bP h ga).key (D.get j)) (w2:∀ i j,s≤i→i < m→m≤j→j < e→(bP h ga).key (D.get j) < (bP h ga).key (D.get i)) :
  ∃ D',Mo rc ⟨D,(a:Int),(m:Int),(b:Int),(cl:Int),((cl+m:Nat):Int),(s:Int),(s:Int),p,h⟩ = .out .ret ⟨D',(a:Int),(m:Int),(b:Int),h⟩∧sP h ga D D' a b:=by
 have he:ak (((cl+m:Nat):Int) - (s:Int))=(e:Int):=by rw [Bv (by omega) (by omega)]; congr 1; omega
 have uR:=agT (o:=bP h ga) s1 s2 s0 q0 q4 q5 q2 hs w1 w2
 have rest:∀ D1:Sl aZ,D1.n=D.n→(∀ t,D1.get t=Cw D.get s m e t)→∃ D',G8 rc ⟨D,(a:Int),(m:Int),(b:Int),(cl:Int),((cl+m:Nat):Int),(s:Int),(s:Int),p,h⟩ D1 h = .out .ret ⟨D',(a:Int),(m:Int),(b:Int),h⟩∧sP h ga D D' a b:=fun D1 n1 g1=>by
  have hf:D1.get=Cw D.get s m e:=funext g1
  have hp:Perm D.get D1.get s e:=by rw [hf]; exact aiH q4 q5
  obtain ⟨D',k1,k2,k3,k4⟩:=abk hrc D D1 a m b cl s e p (by omega) n1 (by omega) (by omega) hs q0 q3 q1 q2 (rV n1 (by omega) hp ch) hL1 hL (by rw [hf]; exact uR)
  exact ⟨D',k1,k2.trans n1,(hp.wide q0 (by omega) q2).trans k3,k4⟩
 unfold Mo
 simp only [he,a9,cond_true]
 by_cases c1:s < m
 ·rw [decide_eq_true (show (s:Int) < (m:Int) by omega),cond_true]
  by_cases c2:m < e
  ·rw [decide_eq_true (show (m:Int) < (e:Int) by omega),cond_true]
   obtain ⟨D1,k1,k2,k3⟩:=aaE h D s m e c1 c2 (by omega) h3
   rw [k1]
   simp only [aJ.kk,aJ.kK,fR,cond_true]
   exact rest D1 k2 k3
  ·rw [decide_eq_false (show ¬ (m:Int) < (e:Int) by omega),cond_false]
   refine rest D rfl fun t=>?_
   by_cases ht:t < s∨e≤t
   ·rw [G0 q4 q5 ht]
   ·rw [IE (by omega) (by omega)]; congr 1; omega
 ·rw [decide_eq_false (show ¬ (s:Int) < (m:Int) by omega),cond_false]
  refine rest D rfl fun t=>?_
  by_cases ht:t < s∨e≤t
  ·rw [G0 q4 q5 ht]
  ·rw [Ml (by omega) (by omega)]; congr 1; omega
theorem W6 (hrc:vG h ga rc L):vG h ga (dH rc) (2 * L):=by
 intro D a m b h1 h2 h4 h3 ch hL s1 s2 s0
 by_cases c1:m - a=1
 ·obtain ⟨i,k1,k2,k3,k4,k5⟩:=adM h D ga a m b (by omega) (by omega) h4 h3 ch s2
  obtain ⟨D',k,j1,j2,j3⟩:=adO h D a m b i (by omega) (by omega) h3
  have e0:cu rc ⟨D,(a:Int),(m:Int),(b:Int),h⟩=_:=k1
  have e1:cQ rc ⟨D,(a:Int),(m:Int),(b:Int),h⟩ = .out (.exit 2) ⟨D',(a:Int),(m:Int),(b:Int),(i:Int),k,h⟩:=by
   unfold cQ
   rw [e0]
   exact j1
  have hf:D'.get=GZ D.get a (i - 1):=funext j3
  refine ⟨D',?_,j2,?_,?_⟩
  ·unfold dH
   simp only [Bv (i:=m) (j:=a) (by omega) (by omega),c1,e0,e1]
   simp only [a9,cond_true,aJ.kk,aJ.kK,fR,Nat.beq_refl,show (((1:Nat):Int)==(1:Int))=true from rfl]
  ·rw [hf]
   exact (aiF (d:=D.get) (a:=a) (k:=i - 1) (by omega)).wide (Nat.le_refl _) (by omega) (by omega)
  ·rw [hf]
   have hm:m=a+1:=by omega
   subst hm
   exact afM (o:=bP h ga) s2 s0 k2 k3 k4 k5
 ·by_cases c2:b - m=1
  ·obtain ⟨i,k1,k2,k3,k4,k5⟩:=adN h D ga a m b (by omega) (by omega) h3 ch s1
   obtain ⟨D',k,j1,j2,j3⟩:=adP h D a m b i k3 (by omega) h3
   have e0:cv rc ⟨D,(a:Int),(m:Int),(b:Int),h⟩=_:=k1
   have e1:cR rc ⟨D,(a:Int),(m:Int),(b:Int),h⟩ = .out (.exit 6) ⟨D',(a:Int),(m:Int),(b:Int),(i:Int),k,h⟩:=by
    unfold cR
    rw [e0]
    exact j1
   have hf:D'.get=ins D.get i m:=funext j3
   have hb:b=m+1:=by omega
   refine ⟨D',?_,j2,?_,?_⟩
   ·unfold dH
    simp only [Bv (i:=m) (j:=a) (by omega) (by omega),Bv (i:=b) (j:=m) (by omega) (by omega),c2,e0,e1,show (((m - a:Nat):Int)==(1:Int))=false by simpa using (show ¬ ((m - a:Nat):Int)=1 by omega),cond_false]
    simp only [a9,cond_true,aJ.kk,aJ.kK,fR,Nat.beq_refl,show (((1:Nat):Int)==(1:Int))=true from rfl]
   ·rw [hf,hb]
    exact (acr (d:=D.get) (a:=a) k2 k3)
   ·rw [hf,hb]
    rw [hb] at s0
    exact VY s1 s0 k2 k3 k4 k5
  ·have akx:=adL (i:=a) (j:=b) (by omega)
   have hn:=aaB (i:=(a+b) / 2) (j:=m) (by omega)
   have hp:=aaC (i:=(a+b) / 2+m) (by omega) (by omega)
   have g1:((ak ((m:Int) - (a:Int)))==(1:Int))=false:=by
    rw [Bv (by omega) (by omega)]
    simpa using (show ¬ ((m - a:Nat):Int)=1 by omega)
   have g2:((ak ((b:Int) - (m:Int)))==(1:Int))=false:=by
    rw [Bv (by omega) (by omega)]
    simpa using (show ¬ ((b - m:Nat):Int)=1 by omega)
   rw [aaG rc _ g1 g2]
   simp only [akx,a9,cond_true]
   by_cases c3:(a+b) / 2 < m
   ·rw [decide_eq_true (show (m:Int) > (((a+b) / 2:Nat):Int) by omega),cond_true]
    have iX:=Bv (i:=(a+b) / 2+m) (j:=b) (by omega) (by omega)
    obtain ⟨s,k1,k2,k3,k4,k5⟩:=SD h D a m b ((a+b) / 2) ((a+b) / 2+m - b) ((a+b) / 2) (by omega) (by omega) (Nat.le_refl _) (by omega) (by omega) h4 h3 (by omega) ch
    have e4:ae rc ⟨D,(a:Int),(m:Int),(b:Int),h⟩ = .out (.exit 8) ⟨D,(a:Int),(m:Int),(b:Int),(((a+b) / 2:Nat):Int),(((a+b) / 2+m:Nat):Int),(s:Int),(s:Int),(((a+b) / 2+m - 1:Nat):Int),h⟩:=by
     unfold ae
     simp only [akx,hn,hp,iX]
     exact k1
    rw [e4]
    simp only [aJ.kk,aJ.kK,fR,Nat.beq_refl,cond_true]
    obtain ⟨w1,w2⟩:=NX (o:=bP h ga) (s:=s) (s0:=(a+b) / 2+m - b) (r0:=(a+b) / 2) (cl:=(a+b) / 2) s1 s2 (by omega) (by omega) (by omega) (by omega) (k4.imp (fun e=>⟨e,.inr (by omega)⟩) fun ⟨q1,q2⟩=>⟨by omega,by omega,q2⟩) (k5.imp (fun e=>⟨e,.inr rfl⟩) fun ⟨q1,q2⟩=>⟨by omega,q1,q2⟩)
    exact LG hrc D a m b ((a+b) / 2) s ((a+b) / 2+m - s) _ h3 h4 (by omega) (by omega) (by omega) (by omega) (by omega) (by omega) (by omega) ch (by omega) (by omega) s1 s2 s0 w1 w2
   ·rw [decide_eq_false (show ¬ (m:Int) > (((a+b) / 2:Nat):Int) by omega),cond_false]
    obtain ⟨s,k1,k2,k3,k4,k5⟩:=SD h D a m b ((a+b) / 2) a m (by omega) (Nat.le_refl _) (by omega) (by omega) (by omega) h4 h3 (by omega) ch
    have e4:aa rc ⟨D,(a:Int),(m:Int),(b:Int),h⟩ = .out (.exit 8) ⟨D,(a:Int),(m:Int),(b:Int),(((a+b) / 2:Nat):Int),(((a+b) / 2+m:Nat):Int),(s:Int),(s:Int),(((a+b) / 2+m - 1:Nat):Int),h⟩:=by
     unfold aa
     simp only [akx,hn,hp]
     exact k1
    rw [e4]
    simp only [aJ.kk,aJ.kK,fR,Nat.beq_refl,cond_true]
    obtain ⟨w1,w2⟩:=NX (o:=bP h ga) (s:=s) (s0:=a) (r0:=m) (cl:=(a+b) / 2) s1 s2 (by omega) (by omega) (by omega) (by omega) (k4.imp (fun e=>⟨e,.inl rfl⟩) fun ⟨q1,q2⟩=>⟨q1,by omega,q2⟩) (k5.imp (fun e=>⟨e,.inl rfl⟩) fun ⟨q1,q2⟩=>⟨q1,by omega,q2⟩)
    exact LG hrc D a m b ((a+b) / 2) s ((a+b) / 2+m - s) _ h3 h4 (by omega) (by omega) (by omega) (by omega) (by omega) (by omega) (by omega) ch (by omega) (by omega) s1 s2 s0 w1 w2
end
theorem Av (h:aB) (ga:aZ→aZ→Prop):∀ n:Nat,vG h ga (gF n) (2 ^ n)
 | 0=>fun D a m b h1 h2 _ _ _ hL=>by simp at hL; omega
 | n+1=>by
  have:=W6 (Av h ga n)
  rw [Nat.pow_succ,Nat.mul_comm]
  exact this
end Go.Proofs.Ytahhdndhkgbcjaa.b
end
section
namespace Go.Proofs.Ytahhdndhkgbcjaa.b
open Go.K Go.K.wi
open Go.aG (aw)
section
variable {h:Show} {ga:aaf→aaf→Prop} {rc:nA→aJ nA} {L:Nat}
end
end Go.Proofs.Ytahhdndhkgbcjaa.b
end
section
namespace Go.K.wi
variable {α:Type} {o:Ord α}
def Bl (o:Ord α) (g d:Nat→α) (l r:Nat):Prop:=gm o d l r∧∀ p:α→Bool,sm p d l (r - l)=sm p g l (r - l)
theorem Bl.congr {g d d' : Nat→α} {l r:Nat} (h:Bl o g d l r) (e:∀ i,l≤i→i < r→d' i=d i):Bl o g d' l r:=
 ⟨h.1.congr e,fun p=>by rw [px (d:=d') (d':=d) (a:=l) (b:=l) fun i hi=>e _ (by omega) (by omega)]; exact h.2 p⟩
theorem Bl.join {g d d' : Nat→α} {a m b:Nat} (h1:Bl o g d a m) (h2:Bl o g d m b) (q1:a≤m) (q2:m≤b) (hp:Perm d d' a b) (hs:gm o d' a b):Bl o g d' a b:=by
 refine ⟨hs,fun p=>(hp.1 p).trans ?_⟩
 rw [show b - a=(m - a)+(b - m) by omega,py,py,show a+(m - a)=m by omega,h1.2,h2.2]
theorem Bw {M l a:Nat} (h1:M ∣ l) (h2:M ∣ a) (h:l < a):l+M≤a:=by
 have:=Nat.le_of_dvd (by omega) (Nat.dvd_sub h2 h1)
 omega
def Bls (o:Ord α) (g d:Nat→α) (B n:Nat):Prop:=∀ l,B ∣ l→l < n→Bl o g d l (min (l+B) n)
end Go.K.wi
namespace Go.Proofs.Ytahhdndhkgbcjaa.b
open Go.K Go.K.wi
open Go.aG (aw)
section
variable (h:Show) (ga:aaf→aaf→Prop) (G:Sl aaf)
end
end Go.Proofs.Ytahhdndhkgbcjaa.b
end
section
namespace Go.Proofs.Ytahhdndhkgbcjaa.b
open Go.K Go.K.wi
open Go.aG (aw)
section
variable (h:aB) (ga:aZ→aZ→Prop) (G:Sl aZ)
theorem adQ (h3:G.n≤10000000000) (ch:∀ t,t < G.n→hX h (G.get t)=true) (hr:acu (bP h ga) G.get G.n) :
  ∃ D:Sl aZ,∃ a:Nat,∃ b:Int,goN dA ⟨G,(G.n:Int),(20:Int),(0:Int),(20:Int),h⟩ = .out (.exit 0) ⟨D,(G.n:Int),(20:Int),(a:Int),b,h⟩∧D.n=G.n∧20 ∣ a∧a≤G.n∧G.n < a+20∧(∀ l,20 ∣ l→l < a→Bl (bP h ga) G.get D.get l (l+20))∧(∀ i,a≤i→D.get i=G.get i)∧∀ t,t < D.n→hX h (D.get t)=true:=by
 refine Exists.elim (dx (step:=dA) (x:=⟨G,(G.n:Int),(20:Int),(0:Int),(20:Int),h⟩) (fun k y=>∃ D:Sl aZ,∃ a:Nat,y=⟨D,(G.n:Int),(20:Int),(a:Int),((a+20:Nat):Int),h⟩∧k≤a∧D.n=G.n∧20 ∣ a∧a≤G.n∧(∀ l,20 ∣ l→l < a→Bl (bP h ga) G.get D.get l (l+20))∧(∀ i,a≤i→D.get i=G.get i)∧∀ t,t < D.n→hX h (D.get t)=true) (fun e y=>e = .exit 0∧∃ D:Sl aZ,∃ a:Nat,∃ b:Int,y=⟨D,(G.n:Int),(20:Int),(a:Int),b,h⟩∧D.n=G.n∧20 ∣ a∧a≤G.n∧G.n < a+20∧(∀ l,20 ∣ l→l < a→Bl (bP h ga) G.get D.get l (l+20))∧(∀ i,a≤i→D.get i=G.get i)∧∀ t,t < D.n→hX h (D.get t)=true) G.n (by have:mm=1000000000000:=rfl; omega) (fun k y hk ⟨D,a,hy,g0,g1,g2,g3,g4,g5,g6⟩=>?_) ⟨G,0,rfl,Nat.le_refl _,rfl,Nat.dvd_zero _,Nat.zero_le _,fun l _ hl=>by omega,fun _ _=>rfl,ch⟩) fun e ⟨y,hy,he,D,a,b,hi,q⟩=>⟨D,a,b,by rw [hy,he,hi],q⟩
 subst hy
 unfold dA
 by_cases hle:a+20≤G.n
 ·obtain ⟨D',k1,k2,k3,k4⟩:=G7 h ga D a (a+20) (by omega) (by omega) (by omega) g6 (fun s t s1 s2 t1=>by rw [g5 s s1,g5 t (by omega)]; exact hr s t s2 (by omega))
  have e0:gW ⟨D,(G.n:Int),(20:Int),(a:Int),((a+20:Nat):Int),h⟩=_:=k1
  have e1:ak (((a+20:Nat):Int)+(20:Int))=((a+20+20:Nat):Int):=by rw [zf (by omega) (by omega)]; omega
  simp only [decide_eq_true (show ((a+20:Nat):Int)≤(G.n:Int) by omega),cond_true,e0,e1,a9,aJ.kk,aJ.kK,fR,k2]
  refine .inl ⟨_,rfl,by omega,D',a+20,rfl,by omega,k2.trans g1,Nat.dvd_add g2 (Nat.dvd_refl _),hle,fun l l1 l2=>?_,fun i hi=>?_,rV k2 (by omega) k3 g6⟩
  ·by_cases hl:l < a
   ·have:=Bw l1 g2 hl
    exact (g4 l l1 hl).congr fun i i1 i2=>k3.2 i (.inl (by omega))
   ·have:l=a:=by
     by_cases e:a=l
     ·exact e.symm
     ·have:=Bw g2 l1 (by omega); omega
    subst this
    refine ⟨k4,fun p=>(k3.1 p).trans (px fun i hi=>g5 _ (by omega))⟩
  ·rw [k3.2 i (.inr hi)]; exact g5 i (by omega)
 ·simp only [decide_eq_false (show ¬ ((a+20:Nat):Int)≤(G.n:Int) by omega),cond_false,a9,cond_true]
  exact .inr ⟨_,_,rfl,rfl,rfl,D,a,_,rfl,g1,g2,g3,by omega,g4,g5,g6⟩
theorem afN (E:Sl aZ) (B:Nat) (h3:G.n≤10000000000) (hB:1≤B) (hB2:B < G.n) (hr:acu (bP h ga) G.get G.n) (hn:E.n=G.n) (ch:∀ t,t < E.n→hX h (E.get t)=true) (hb:Bls (bP h ga) G.get E.get B G.n) :
  ∃ D:Sl aZ,∃ a:Nat,∃ b:Int,goN dk ⟨E,(G.n:Int),(B:Int),(0:Int),((2 * B:Nat):Int),h⟩ = .out (.exit 4) ⟨D,(G.n:Int),(B:Int),(a:Int),b,h⟩∧D.n=G.n∧2 * B ∣ a∧a≤G.n∧G.n < a+2 * B∧(∀ l,2 * B ∣ l→l < a→Bl (bP h ga) G.get D.get l (l+2 * B))∧(∀ l,B ∣ l→a≤l→l < G.n→Bl (bP h ga) G.get D.get l (min (l+B) G.n))∧∀ t,t < D.n→hX h (D.get t)=true:=by
 refine Exists.elim (dx (step:=dk) (x:=⟨E,(G.n:Int),(B:Int),(0:Int),((2 * B:Nat):Int),h⟩) (fun k y=>∃ D:Sl aZ,∃ a:Nat,y=⟨D,(G.n:Int),(B:Int),(a:Int),((a+2 * B:Nat):Int),h⟩∧k≤a∧D.n=G.n∧2 * B ∣ a∧a≤G.n∧(∀ l,2 * B ∣ l→l < a→Bl (bP h ga) G.get D.get l (l+2 * B))∧(∀ l,B ∣ l→a≤l→l < G.n→Bl (bP h ga) G.get D.get l (min (l+B) G.n))∧∀ t,t < D.n→hX h (D.get t)=true) (fun e y=>e = .exit 4∧∃ D:Sl aZ,∃ a:Nat,∃ b:Int,y=⟨D,(G.n:Int),(B:Int),(a:Int),b,h⟩∧D.n=G.n∧2 * B ∣ a∧a≤G.n∧G.n < a+2 * B∧(∀ l,2 * B ∣ l→l < a→Bl (bP h ga) G.get D.get l (l+2 * B))∧(∀ l,B ∣ l→a≤l→l < G.n→Bl (bP h ga) G.get D.get l (min (l+B) G.n))∧∀ t,t < D.n→hX h (D.get t)=true) G.n (by have:mm=1000000000000:=rfl; omega) (fun k y hk ⟨D,a,hy,g0,g1,g2,g3,g4,g5,g6⟩=>?_) ⟨E,0,by rw [Nat.zero_add]; rfl,Nat.le_refl _,hn,Nat.dvd_zero _,Nat.zero_le _,fun l _ hl=>by omega,fun l l1 _ l3=>hb l l1 l3,ch⟩) fun e ⟨y,hy,he,D,a,b,hi,q⟩=>⟨D,a,b,by rw [hy,he,hi],q⟩
 subst hy
 unfold dk
 have hBa:B ∣ a:=Nat.dvd_trans (Nat.dvd_mul_left B 2) g2
 by_cases hle:a+2 * B≤G.n
 ·have b1:Bl (bP h ga) G.get D.get a (a+B):=by have:=g5 a hBa (Nat.le_refl _) (by omega); rwa [Nat.min_eq_left (by omega)] at this
  have b2:Bl (bP h ga) G.get D.get (a+B) (a+2 * B):=by have:=g5 (a+B) (Nat.dvd_add hBa (Nat.dvd_refl _)) (by omega) (by omega); rwa [Nat.min_eq_left (by omega),show a+B+B=a+2 * B by omega] at this
  have hc:DD (bP h ga) D.get a (a+B) (a+2 * B):=acv hr hle (by omega) (by omega) b1.2 b2.2
  obtain ⟨D',k1,k2,k3,k4⟩:=Av h ga 64 D a (a+B) (a+2 * B) (by omega) (by omega) (by omega) (by omega) g6 (Nat.le_trans (show _≤10000000000 by omega) (by decide)) b1.1 b2.1 hc
  have e2:ak ((a:Int)+(B:Int))=((a+B:Nat):Int):=aaB (by omega)
  have e0:eT ⟨D,(G.n:Int),(B:Int),(a:Int),((a+2 * B:Nat):Int),h⟩ = .out .ret ⟨D',(a:Int),((a+B:Nat):Int),((a+2 * B:Nat):Int),h⟩:=by
   unfold eT
   simp only [e2]
   exact k1
  have e1:ak (((a+2 * B:Nat):Int)+ak ((2:Int) * (B:Int)))=((a+2 * B+2 * B:Nat):Int):=by rw [zf (n:=(2:Int) * (B:Int)) (by omega) (by omega),zf (by omega) (by omega)]; omega
  simp only [decide_eq_true (show ((a+2 * B:Nat):Int)≤(G.n:Int) by omega),cond_true,e0,e1,a9,aJ.kk,aJ.kK,fR,k2]
  refine .inl ⟨_,rfl,by omega,D',a+2 * B,rfl,by omega,k2.trans g1,Nat.dvd_add g2 (Nat.dvd_refl _),hle,fun l l1 l2=>?_,fun l l1 l2 l3=>?_,rV k2 (by omega) k3 g6⟩
  ·by_cases hl:l < a
   ·have:=Bw l1 g2 hl
    exact (g4 l l1 hl).congr fun i i1 i2=>k3.2 i (.inl (by omega))
   ·have:l=a:=by
     by_cases e:a=l
     ·exact e.symm
     ·have:=Bw g2 l1 (by omega); omega
    subst this
    exact b1.join b2 (by omega) (by omega) k3 k4
  ·exact (g5 l l1 (by omega) l3).congr fun i i1 i2=>k3.2 i (.inr (by omega))
 ·simp only [decide_eq_false (show ¬ ((a+2 * B:Nat):Int)≤(G.n:Int) by omega),cond_false,a9,cond_true]
  exact .inr ⟨_,_,rfl,rfl,rfl,D,a,_,rfl,g1,g2,g3,by omega,g4,g5,g6⟩
theorem abl (E:Sl aZ) (h3:G.n≤10000000000) (hr:acu (bP h ga) G.get G.n) (hn:E.n=G.n) (ch:∀ t,t < E.n→hX h (E.get t)=true) (hb:Bls (bP h ga) G.get E.get 20 G.n) :
  ∃ D:Sl aZ,∃ B:Nat,goN dB ⟨E,(G.n:Int),(20:Int),h⟩ = .out (.exit 2) ⟨D,(G.n:Int),(B:Int),h⟩∧D.n=G.n∧G.n≤B∧Bls (bP h ga) G.get D.get B G.n:=by
 refine Exists.elim (dx (step:=dB) (x:=⟨E,(G.n:Int),(20:Int),h⟩) (fun k y=>∃ D:Sl aZ,∃ B:Nat,y=⟨D,(G.n:Int),(B:Int),h⟩∧k+1≤B∧D.n=G.n∧Bls (bP h ga) G.get D.get B G.n∧∀ t,t < D.n→hX h (D.get t)=true) (fun e y=>e = .exit 2∧∃ D:Sl aZ,∃ B:Nat,y=⟨D,(G.n:Int),(B:Int),h⟩∧D.n=G.n∧G.n≤B∧Bls (bP h ga) G.get D.get B G.n) G.n (by have:mm=1000000000000:=rfl; omega) (fun k y hk ⟨D,B,hy,g0,g1,g2,g3⟩=>?_) ⟨E,20,rfl,by omega,hn,hb,ch⟩) fun e ⟨y,hy,he,D,B,hi,q⟩=>⟨D,B,by rw [hy,he,hi],q⟩
 subst hy
 unfold dB
 by_cases bX:B < G.n
 ·obtain ⟨D1,a,b,k1,k2,k3,k4,k5,k6,k7,k8⟩:=afN h ga G D B h3 (by omega) bX hr g1 g3 g2
  have e2:ak ((2:Int) * (B:Int))=((2 * B:Nat):Int):=by rw [zf (by omega) (by omega)]; omega
  have e3:ak ((B:Int) * (2:Int))=((2 * B:Nat):Int):=by rw [zf (by omega) (by omega)]; omega
  have e4:ak ((a:Int)+(B:Int))=((a+B:Nat):Int):=aaB (by omega)
  have e0:aI ⟨D,(G.n:Int),(B:Int),h⟩ = .out (.exit 4) ⟨D1,(G.n:Int),(B:Int),(a:Int),b,h⟩:=by
   unfold aI
   simp only [e2]
   exact k1
  have hBa:B ∣ a:=Nat.dvd_trans (Nat.dvd_mul_left B 2) k3
  have fin:∀ D' : Sl aZ,(∀ i,i < a→D'.get i=D1.get i)→(a < G.n→Bl (bP h ga) G.get D'.get a G.n)→Bls (bP h ga) G.get D'.get (2 * B) G.n:=fun D' q1 q2 l l1 l2=>by
   by_cases hl:l < a
   ·have:=Bw l1 k3 hl
    rw [Nat.min_eq_left (by omega)]
    exact (k6 l l1 hl).congr fun i i1 i2=>q1 i (by omega)
   ·have:l=a:=by
     by_cases e:a=l
     ·exact e.symm
     ·have:=Bw k3 l1 (by omega); omega
    subst this
    rw [Nat.min_eq_right (by omega)]
    exact q2 l2
  simp only [decide_eq_true (show (B:Int) < (G.n:Int) by omega),cond_true,e0,a9,aJ.kk,aJ.kK,fR,Nat.beq_refl,e3,e4]
  by_cases hm:a+B < G.n
  ·have b1:Bl (bP h ga) G.get D1.get a (a+B):=by have:=k7 a hBa (Nat.le_refl _) (by omega); rwa [Nat.min_eq_left (by omega)] at this
   have b2:Bl (bP h ga) G.get D1.get (a+B) G.n:=by have:=k7 (a+B) (Nat.dvd_add hBa (Nat.dvd_refl _)) (by omega) hm; rwa [Nat.min_eq_right (by omega)] at this
   have hc:DD (bP h ga) D1.get a (a+B) G.n:=acv hr (Nat.le_refl _) (by omega) (by omega) b1.2 b2.2
   obtain ⟨D',j1,j2,j3,j4⟩:=Av h ga 64 D1 a (a+B) G.n (by omega) hm (by omega) (by omega) k8 (Nat.le_trans (show _≤10000000000 by omega) (by decide)) b1.1 b2.1 hc
   have e1:fF ⟨D,(G.n:Int),(B:Int),h⟩ = .out .ret ⟨D',(a:Int),((a+B:Nat):Int),(G.n:Int),h⟩:=by
    unfold fF
    rw [e0]
    simp only [aJ.kK,e4]
    exact j1
   simp only [decide_eq_true (show ((a+B:Nat):Int) < (G.n:Int) by omega),cond_true,e1,a9,aJ.kk,aJ.kK,fR,j2]
   exact .inl ⟨_,rfl,by omega,D',2 * B,rfl,by omega,j2.trans k2,fin D' (fun i hi=>j3.2 i (.inl hi)) (fun _=>b1.join b2 (by omega) (by omega) j3 j4),rV j2 (by omega) j3 k8⟩
  ·simp only [decide_eq_false (show ¬ ((a+B:Nat):Int) < (G.n:Int) by omega),cond_false]
   exact .inl ⟨_,rfl,by omega,D1,2 * B,rfl,by omega,k2,fin D1 (fun _ _=>rfl) (fun ha=>by have:=k7 a hBa (Nat.le_refl _) ha; rwa [Nat.min_eq_right (by omega)] at this),k8⟩
 ·simp only [decide_eq_false (show ¬ (B:Int) < (G.n:Int) by omega),cond_false,a9,cond_true]
  exact .inr ⟨_,_,rfl,rfl,rfl,D,B,rfl,g1,by omega,g2⟩
theorem SE (h3:G.n≤10000000000) (ch:∀ t,t < G.n→hX h (G.get t)=true) (hr:acu (bP h ga) G.get G.n) :
  ∃ D:Sl aZ,jI ⟨G,(G.n:Int),h⟩ = .out .ret ⟨D,(G.n:Int),h⟩∧D.n=G.n∧gm (bP h ga) D.get 0 G.n∧∀ p:aZ→Bool,sm p D.get 0 G.n=sm p G.get 0 G.n:=by
 obtain ⟨D0,a,b,k1,k2,k3,k4,k5,k6,k7,k8⟩:=adQ h ga G h3 ch hr
 have e0:cP ⟨G,(G.n:Int),h⟩=_:=k1
 obtain ⟨D1,j1,j2,j3,j4⟩:=G7 h ga D0 a G.n k4 (by omega) (by omega) k8 (fun s t s1 s2 t1=>by rw [k7 s s1,k7 t (by omega)]; exact hr s t s2 t1)
 have e1:gG ⟨G,(G.n:Int),h⟩ = .out .ret ⟨D1,(a:Int),(G.n:Int),h⟩:=by
  unfold gG
  rw [e0]
  exact j1
 have hb:Bls (bP h ga) G.get D1.get 20 G.n:=fun l l1 l2=>by
  by_cases hl:l < a
  ·have:=Bw l1 k3 hl
   rw [Nat.min_eq_left (by omega)]
   exact (k6 l l1 hl).congr fun i i1 i2=>j3.2 i (.inl (by omega))
  ·have:l=a:=by
    by_cases e:a=l
    ·exact e.symm
    ·have:=Bw k3 l1 (by omega); omega
   subst this
   rw [Nat.min_eq_right (by omega)]
   exact ⟨j4,fun p=>(j3.1 p).trans (px fun i hi=>k7 _ (by omega))⟩
 obtain ⟨D2,B,q1,q2,q3,q4⟩:=abl h ga G D1 h3 hr (j2.trans k2) (rV j2 (by omega) j3 k8) hb
 have e2:ek ⟨G,(G.n:Int),h⟩ = .out (.exit 2) ⟨D2,(G.n:Int),(B:Int),h⟩:=by
  unfold ek
  rw [e0,e1]
  exact q1
 refine ⟨D2,?_,q2,?_⟩
 ·unfold jI kq
  rw [e0,e1,e2]
  simp only [a9,cond_true,aJ.kk,aJ.kK,fR,Nat.beq_refl,j2]
 ·by_cases hz:G.n=0
  ·rw [hz]
   exact ⟨fun i j _ _ hj=>by omega,fun p=>rfl⟩
  ·have:=q4 0 (Nat.dvd_zero _) (by omega)
   rw [Nat.zero_add,Nat.min_eq_right q3] at this
   exact ⟨this.1,fun p=>by have:=this.2 p; rwa [Nat.sub_zero] at this⟩
end
end Go.Proofs.Ytahhdndhkgbcjaa.b
end
section
namespace Go.Proofs.Ytahhdndhkgbcjaa.b
open Go.K Go.K.wi
open Go.aG (aw)
theorem aaI {α:Type} (p:α→Bool) (d:Nat→α):∀ k,sm p d 0 k=((List.range k).map d).countP p
 | 0=>rfl
 | k+1=>by
  rw [sm,aaI p d k,List.range_succ,List.map_append,List.countP_append,Nat.zero_add]
  have e:b2 (p (d k)) = [d k].countP p:=by
   rw [List.countP_singleton]
   cases p (d k) <;> rfl
  rw [e]
  rfl
theorem afO {α:Type} {D G:List α} (h:∀ p:α→Bool,D.countP p=G.countP p) {v:α} (hv:v∈D):v∈G:=by
 have hp:0 < G.countP (fun a=>@decide (a=v) (Classical.propDecidable _)):=by
  rw [← h]
  exact List.countP_pos_iff.2 ⟨v,hv,by simp⟩
 obtain ⟨a,h1,h2⟩:=List.countP_pos_iff.1 hp
 have:a=v:=by simpa using h2
 exact this ▸ h1
def wj (s:Show) (b:aZ×Bool) (f:aZ):Bool:=fQ s f&&(!b.2||decide (f.d > b.1.d))
theorem aky {n:Nat} (h:n≤98304):((Nat.ble (((n+1)+512) * 48) 17592186044416)&&(Nat.ble (n+1) 17592186044416))=true:=by
 rw [Bool.and_eq_true]
 exact ⟨Nat.ble_eq_true_of_le (by omega),Nat.ble_eq_true_of_le (by omega)⟩
theorem adR {α:Type} {p:α→Bool} {l:List α} {f:α} : (l++[f]).filter p=l.filter p++cond (p f) [f] []:=by
 rw [List.filter_append,List.filter_cons,List.filter_nil]
 cases p f <;> rfl
theorem agU (s:Show) (b:aZ×Bool) (x:aD) (hs:x.dR.cX=s) (zU:x.pP=b.2) (rl:x.oO=b.1) (hi:∀ j,j < x.t14.n→0≤(x.t14.get j).da.item∧(x.t14.get j).da.item < (s.items.n:Int)) (hn:x.t14.n≤98304) (h15:x.t15=(x.t14.n:Int)) (h16:x.t16=0) (h0:x.fU.n=0) :
  ∃ e y,goN bL x = .out e y∧(e = .exit 0∧y.dR=x.dR∧y.fU.n≤98304∧eV y.fU=(pt x.x x.y (eV x.t14)).filter (wj s b)):=by
 refine dx (step:=bL) (fun j y=>y.t14=x.t14∧y.t15=(x.t14.n:Int)∧y.t16=(j:Int)∧y.x=x.x∧y.y=x.y∧j≤x.t14.n∧y.dR=x.dR∧y.pP=b.2∧y.oO=b.1∧y.fU.n≤j∧eV y.fU=(pt x.x x.y ((eV x.t14).take j)).filter (wj s b)) _ x.t14.n (by have:mm=1000000000000:=rfl; omega) (fun j y hj ⟨f1,f2,f3,f4,f5,f6,f7,f8,f9,f10,f11⟩=>?_) ⟨rfl,h15,h16,rfl,rfl,Nat.zero_le _,rfl,zU,rl,by omega,List.length_eq_zero_iff.1 (by rw [oI,h0])⟩
 have w1:ak (y.t16+1)=y.t16+1:=bz (by omega) (by omega)
 unfold bL
 by_cases h:y.t16 < y.t15
 ·have lX:j < x.t14.n:=by omega
  have hg:y.t14.get (Int.toNat y.t16)=x.t14.get j:=by rw [f1,f3,Int.toNat_natCast]
  obtain ⟨sp,e,hp⟩:=Lz (x.t14.get j).t x.x x.y
  have e0:bd y=some (sp,e):=by
   unfold bd
   rw [hg,f4,f5]
   exact hp
  obtain ⟨i1,i2⟩:=hi j lX
  have tk:=UN (x:=x.x) (y:=x.y) x.t14 j lX
  have po:=aky (n:=y.fU.n) (by omega)
  simp only [e0,hg,w1,po,a9,cond_true,Bool.and_self,Option.isSome_some,Option.getD_some,decide_eq_true h,decide_eq_true (show (0:Int)≤y.t16 by omega),decide_eq_true (show y.t16 < ((y.t14.n:Nat):Int) by rw [f1]; omega),decide_eq_true i1,decide_eq_true (show (x.t14.get j).da.item < ((y.dR.cX.items.n:Nat):Int) by rw [f7,hs]; exact i2)]
  have IW:∀ {y' : aD},y'.t14=y.t14→y'.t15=y.t15→y'.t16=y.t16+1→y'.x=y.x→y'.y=y.y→y'.dR=y.dR→y'.pP=y.pP→y'.oO=y.oO→y'.fU.n≤j+1→eV y'.fU=(pt x.x x.y ((eV x.t14).take (j+1))).filter (wj s b)→
    (∃ x',(aJ.next y' : aJ aD) = .next x'∧j < x.t14.n∧x'.t14=x.t14∧x'.t15=(x.t14.n:Int)∧x'.t16=((j+1:Nat):Int)∧x'.x=x.x∧x'.y=x.y∧j+1≤x.t14.n∧x'.dR=x.dR∧x'.pP=b.2∧x'.oO=b.1∧x'.fU.n≤j+1∧eV x'.fU=(pt x.x x.y ((eV x.t14).take (j+1))).filter (wj s b)):=fun {y'} q1 q2 q3 q4 q5 q6 q7 q8 q9 q10=>
   ⟨y',rfl,lX,q1.trans f1,q2.trans f2,by omega,q4.trans f4,q5.trans f5,by omega,q6.trans f7,q7.trans f8,q8.trans f9,q9,q10⟩
  cases he:(e==(0:Int)) with
  | false=>
   have DF:qA x.x x.y (x.t14.get j)=none:=by
    unfold qA
    rw [hp]
    simp only [he,cond_false]
   rw [cond_false]
   exact .inl (IW rfl rfl rfl rfl rfl rfl rfl rfl (by show y.fU.n≤_; omega) (by show eV y.fU=_; rw [tk,DF,f11]; simp))
  | true=>
   have DF:qA x.x x.y (x.t14.get j)=some ⟨ak ((x.t14.get j).da.d+sp.d),(x.t14.get j).da.item,(x.t14.get j).da.cV,(x.t14.get j).da.part,sp.u,sp.v⟩:=by
    unfold qA
    rw [hp]
    simp only [he,cond_true]
   have SQ:(y.dR.cX.items.get (Int.toNat (x.t14.get j).da.item)).look.Ik=fQ s ⟨ak ((x.t14.get j).da.d+sp.d),(x.t14.get j).da.item,(x.t14.get j).da.cV,(x.t14.get j).da.part,sp.u,sp.v⟩:=by
    rw [f7,hs]
    rfl
   rw [cond_true,SQ]
   generalize hf:(⟨ak ((x.t14.get j).da.d+sp.d),(x.t14.get j).da.item,(x.t14.get j).da.cV,(x.t14.get j).da.part,sp.u,sp.v⟩:aZ)=f at *
   have hd:ak ((x.t14.get j).da.d+sp.d)=f.d:=by rw [← hf]
   rw [hd,f8,f9]
   have mR:(pt x.x x.y ((eV x.t14).take (j+1))).filter (wj s b)=eV y.fU++cond (wj s b f) [f] []:=by
    rw [tk,DF,f11]
    exact adR
   have yes:wj s b f=true→∃ x',(aJ.next (⟨y.x,y.y,y.t14,y.t15,y.t16+1,y.dR,b.2,b.1,y.fU.push f⟩:aD)) = .next x'∧j < x.t14.n∧x'.t14=x.t14∧x'.t15=(x.t14.n:Int)∧x'.t16=((j+1:Nat):Int)∧x'.x=x.x∧x'.y=x.y∧j+1≤x.t14.n∧x'.dR=x.dR∧x'.pP=b.2∧x'.oO=b.1∧x'.fU.n≤j+1∧eV x'.fU=(pt x.x x.y ((eV x.t14).take (j+1))).filter (wj s b):=fun ho=>
    IW rfl rfl rfl rfl rfl rfl f8.symm f9.symm (by show y.fU.n+1≤_; omega) (by show eV (Sl.push _ _)=_; rw [UG,mR,ho]; rfl)
   have no:wj s b f=false→∃ x',(aJ.next (⟨y.x,y.y,y.t14,y.t15,y.t16+1,y.dR,b.2,b.1,y.fU⟩:aD)) = .next x'∧j < x.t14.n∧x'.t14=x.t14∧x'.t15=(x.t14.n:Int)∧x'.t16=((j+1:Nat):Int)∧x'.x=x.x∧x'.y=x.y∧j+1≤x.t14.n∧x'.dR=x.dR∧x'.pP=b.2∧x'.oO=b.1∧x'.fU.n≤j+1∧eV x'.fU=(pt x.x x.y ((eV x.t14).take (j+1))).filter (wj s b):=fun ho=>
    IW rfl rfl rfl rfl rfl rfl f8.symm f9.symm (by show y.fU.n≤_; omega) (by show eV y.fU=_; rw [mR,ho]; exact (List.append_nil _).symm)
   have ho:wj s b f=(fQ s f&&(!b.2||decide (f.d > b.1.d))):=rfl
   cases hb:fQ s f with
   | false=>
    rw [cond_false]
    exact .inl (no (by rw [ho,hb]; rfl))
   | true=>
    rw [cond_true]
    cases hc:(!b.2) with
    | true=>
     rw [cond_true]
     exact .inl (yes (by rw [ho,hb,hc]; rfl))
    | false=>
     rw [cond_false]
     cases hd:decide (f.d > b.1.d) with
     | true=>
      rw [cond_true]
      exact .inl (yes (by rw [ho,hb,hc,hd]; rfl))
     | false=>
      rw [cond_false]
      exact .inl (no (by rw [ho,hb,hc,hd]; rfl))
 ·simp only [a9,cond_true,cond_false,decide_eq_false h]
  refine .inr ⟨_,_,rfl,rfl,rfl,f7,by omega,?_⟩
  rw [f11,show j=x.t14.n by omega,List.take_of_length_le (by rw [oI]; exact Nat.le_refl _)]
def Bx (s:Show) (f:aZ):Color:=((pw (s.items.get (Int.toNat f.item)).look s.aR f.u f.v).getD default).fst
def lay (p g:Color):Color:=(A4 p g).getD default
def U4 (s:Show) (g:Color) (l:List aZ):Color:=l.foldl (fun g f=>lay (Bx s f) g) g
def G9 (s:Show):Prop:=gj s.aR=some 0∧∀ i,i < s.items.n→fG (s.items.get i).look (s.aR.n:Int)=some 0
theorem aiJ {s:Show} (h:kX s=some 0):G9 s:=by
 obtain ⟨_,_,h3,h4⟩:=(agR s).1 h
 exact ⟨h3,fun i hi=>aiD (h4 i hi)⟩
theorem V0 {s:Show} {r:aB} {f:aZ} (hl:G9 s) (h1:r.cX=s) (hf:0≤f.item∧f.item < (s.items.n:Int)):j6 r f=some (Bx s f):=by
 subst h1
 obtain ⟨c,e,h2,_⟩:=afL (u:=f.u) (v:=f.v) hl.1 (hl.2 (Int.toNat f.item) (by omega))
 have e0:sM r f=some (c,e):=h2
 unfold j6 Bx
 simp only [e0,h2,Option.isSome_some,Option.getD_some,cond_true,decide_eq_true hf.1,decide_eq_true hf.2,Bool.and_self]
theorem aaJ (s:Show) (hl:G9 s) (x:cw) (hs:x.s.cX=s) (hi:∀ j,j < x.t33.n→0≤(x.t33.get j).item∧(x.t33.get j).item < (s.items.n:Int)) (hn:x.t33.n≤98304) (h34:x.t34=(x.t33.n:Int)) (h35:x.t35=0) :
  ∃ e y,goN dP x = .out e y∧(e = .exit 0∧y.ground=U4 s x.ground (eV x.t33)):=by
 refine dx (step:=dP) (fun j y=>y.t33=x.t33∧y.t34=(x.t33.n:Int)∧y.t35=(j:Int)∧j≤x.t33.n∧y.s=x.s∧y.ground=U4 s x.ground ((eV x.t33).take j)) _ x.t33.n (by have:mm=1000000000000:=rfl; omega) (fun j y hj ⟨f1,f2,f3,f4,f5,f6⟩=>?_) ⟨rfl,h34,h35,Nat.zero_le _,rfl,rfl⟩
 have w1:ak (y.t35+1)=y.t35+1:=bz (by omega) (by omega)
 unfold dP
 by_cases h:y.t35 < y.t34
 ·have lX:j < x.t33.n:=by omega
  have e0:bZ y=some (Bx s (x.t33.get j)):=by
   unfold bZ
   rw [f1,f3,f5,Int.toNat_natCast,Nat.zero_add]
   exact V0 hl hs (hi j lX)
  simp only [e0,w1,a9,cond_true,Bool.and_self,Option.isSome_some,Option.getD_some,decide_eq_true h,decide_eq_true (show (0:Int)≤y.t35 by omega),decide_eq_true (show y.t35 < ((y.t33.n:Nat):Int) by rw [f1]; omega)]
  refine .inl ⟨_,rfl,lX,f1,f2,by show y.t35+1=_; omega,by omega,f5,?_⟩
  show lay (Bx s (x.t33.get j)) y.ground=_
  rw [UH x.t33 j lX,f6]
  unfold U4
  rw [List.foldl_append]
  rfl
 ·simp only [a9,cond_true,cond_false,decide_eq_false h]
  refine .inr ⟨_,_,rfl,rfl,rfl,?_⟩
  rw [f6,show j=x.t33.n by omega,List.take_of_length_le (by rw [oI]; exact Nat.le_refl _)]
theorem afP (s:Show) (c:aU) (r:aB) (ground:Color) (x y:Int) (ga:aZ→aZ→Prop) (hl:G9 s) (h1:r.cX=s) (h2:eV r.parts=mT s c) (h3:r.parts.n≤98304)
  (hr:∀ G:Sl aZ,eV G=(pt x y (mT s c)).filter (wj s (Cv s (pt x y (mT s c))))→acu (bP r ga) G.get G.n) :
  ∃ D:Sl aZ,fZ r ground x y=some (U4 s (cond (Cv s (pt x y (mT s c))).2 (Bx s (Cv s (pt x y (mT s c))).1) ground) (eV D))∧gm (bP r ga) D.get 0 D.n∧∀ p:aZ→Bool,(eV D).countP p=((pt x y (mT s c)).filter (wj s (Cv s (pt x y (mT s c))))).countP p:=by
 have hw:=Sj s c r x y h1 h2 h3
 have hwp:=acp s (pt x y (mT s c))
 generalize hb:Cv s (pt x y (mT s c))=b at *
 have e0:kr r ground x y=some b:=hw
 have hit:∀ j,j < r.parts.n→0≤(r.parts.get j).da.item∧(r.parts.get j).da.item < (s.items.n:Int):=fun j hj=>by
  have hm:r.parts.get j∈eV r.parts:=Ly hj
  rw [h2] at hm
  obtain ⟨i,k,n,i1,i2,i3,e⟩:=UO hm
  rw [e]
  show 0≤(i:Int)∧(i:Int) < (s.items.n:Int)
  omega
 obtain ⟨e,z,hz,rfl,z1,z2,z3⟩:∃ e z,cf r ground x y = .out e z∧(e = .exit 0∧z.dR=r∧z.fU.n≤98304∧eV z.fU=(pt x y (eV r.parts)).filter (wj s b)):=by
  unfold cf
  exact agU s b _ h1 (by rw [e0]; rfl) (by rw [e0]; rfl) hit h3 rfl rfl rfl
 rw [h2] at z3
 have b1:(cf r ground x y).by (.exit 0)=true:=by rw [hz]; rfl
 have b2:(cf r ground x y).st=z:=by rw [hz]; rfl
 have inG:∀ v∈eV z.fU,0≤v.item∧v.item < (s.items.n:Int):=fun v hv=>by
  rw [z3] at hv
  exact UR (List.mem_filter.1 hv).1
 obtain ⟨D,hD,d1,d2,d3⟩:=SE r ga z.fU (by omega) (fun t ht=>by
  have:=inG _ (Ly ht)
  unfold hX
  rw [h1,decide_eq_true this.1,decide_eq_true this.2]
  rfl) (hr z.fU z3)
 have hD' : dQ r ground x y = .out .ret ⟨D,(z.fU.n:Int),r⟩:=by
  unfold dQ
  rw [b2,z1]
  exact hD
 have b3:(dQ r ground x y).by .ret=true:=by rw [hD']; rfl
 have b4:(dQ r ground x y).st=⟨D,(z.fU.n:Int),r⟩:=by rw [hD']; rfl
 have alC:∀ p:aZ→Bool,(eV D).countP p=(eV z.fU).countP p:=fun p=>by
  have:=d3 p
  rw [aaI,aaI,← d1] at this
  rw [d1] at this
  show ((List.range D.n).map D.get).countP p=((List.range z.fU.n).map z.fU.get).countP p
  rw [d1]
  exact this
 have inD:∀ j,j < D.n→0≤(D.get j).item∧(D.get j).item < (s.items.n:Int):=fun j hj=>inG _ (afO alC (Ly hj))
 refine ⟨D,?_,by rw [d1]; exact d2,fun p=>by rw [alC p,z3]⟩
 unfold fZ
 simp only [e0,b1,b2,b3,b4,d1,a9,Option.isSome_some,Option.getD_some,cond_true]
 cases rl:b.2 with
 | true=>
  have lJ:b.1∈pt x y (mT s c):=by
   rcases hwp with ⟨q,_⟩ | ⟨_,q,_⟩
   ·rw [rl] at q; simp at q
   ·exact q
  have e1:ow r ground x y=some (Bx s b.1):=by
   unfold ow
   rw [e0]
   exact V0 hl h1 (UR lJ)
  obtain ⟨e,u,hu,rfl,u1⟩:∃ e u,ku r ground x y = .out e u∧(e = .exit 0∧u.ground=U4 s (Bx s b.1) (eV D)):=by
   unfold ku
   rw [b2,b4,e1]
   exact aaJ s hl _ h1 inD (by show D.n≤98304; omega) (by show (z.fU.n:Int)=(D.n:Int); rw [d1]) rfl
  have b5:(ku r ground x y).by (.exit 0)=true:=by rw [hu]; rfl
  have b6:(ku r ground x y).st=u:=by rw [hu]; rfl
  simp only [e1,b5,b6,Option.isSome_some,cond_true]
  rw [u1]
 | false=>
  obtain ⟨e,u,hu,rfl,u1⟩:∃ e u,kv r ground x y = .out e u∧(e = .exit 0∧u.ground=U4 s ground (eV D)):=by
   unfold kv
   rw [b2,b4]
   exact aaJ s hl _ h1 inD (by show D.n≤98304; omega) (by show (z.fU.n:Int)=(D.n:Int); rw [d1]) rfl
  have b5:(kv r ground x y).by (.exit 0)=true:=by rw [hu]; rfl
  have b6:(kv r ground x y).st=u:=by rw [hu]; rfl
  simp only [b5,b6,cond_true,cond_false]
  rw [u1]
theorem aiK (s:Show) (c:aU) (r:aB) (ground:Color) (x y:Int) (hl:G9 s) (h1:r.cX=s) (h2:eV r.parts=mT s c) (h3:r.parts.n≤98304):∃ v,fZ r ground x y=some v:=by
 obtain ⟨D,h,_⟩:=afP s c r ground x y (fun a b=>∃ (i j:Nat),i < j∧((pt x y (mT s c)).filter (wj s (Cv s (pt x y (mT s c)))))[i]? = some a∧((pt x y (mT s c)).filter (wj s (Cv s (pt x y (mT s c)))))[j]? = some b) hl h1 h2 h3 (fun G hG i j OU hj=>⟨i,j,OU,by rw [← hG]; exact acm G i (by omega),by rw [← hG]; exact acm G j hj⟩)
 exact ⟨_,h⟩
end Go.Proofs.Ytahhdndhkgbcjaa.b
end
section
namespace Go.Proofs.Ytahhdndhkgbcjaa.b
open Go.K Go.K.wi
open Go.aG (aw)
def ob (s:Show) (c:aU) (x y:Int):aZ×Bool:=Cv s (pt x y (mT s c))
def aaK (r:aB) (ground:Color) (x y:Int):Color:=(fZ r ground x y).getD default
structure zp (s:Show) (c:aU) (r:aB):Prop where
 looks:G9 s
 cX:r.cX=s
 parts:eV r.parts=mT s c
 n:r.parts.n≤98304
theorem zp.Cv {s:Show} {c:aU} {r:aB} (h:zp s c r) (x y:Int):gz r x y=some (ob s c x y):=Sj s c r x y h.cX h.parts h.n
theorem zp.col {s:Show} {c:aU} {r:aB} (h:zp s c r) (ground:Color) (x y:Int):fZ r ground x y=some (aaK r ground x y):=by
 obtain ⟨v,hv⟩:=aiK s c r ground x y h.looks h.cX h.parts h.n
 unfold aaK
 rw [hv]
 rfl
theorem adS {s:Show} {c:aU} (h:iB s c=some 0):kX s=some 0:=by
 obtain ⟨e,h1,_⟩:=Jx s
 obtain ⟨f,h3,_⟩:=tN c
 have e0:rM s c=some e:=h1
 have e1:vm s c=some f:=h3
 unfold iB at h
 simp only [e0,e1,Option.isSome_some,Option.getD_some,cond_true] at h
 cases he:(e != (0:Int)) with
 | true=>
  rw [he,cond_true] at h
  simp at he
  exact absurd (Option.some.inj h) he
 | false=>rw [h1]; simp at he; rw [he]
inductive AtP (s:Show) (c:aU) (ground:Color) (x y:Int):Prop where
 | no (e:Int) (he:e≠0) (h1:∃ l,mu s c x y=some (l,e)) (h2:mI s c x y=some (⟨0,0,0,0,0,0⟩,false,e)) (h3:nG s c ground x y=some (⟨0,0,0,0⟩,e)):AtP s c ground x y
 | yes (r:aB) (l:Sl aZ) (hr:zp s c r) (ho:ny s c=some r) (hs:Ez s) (hc:Iy c) (ha:iB s c=some 0) (hx:0≤x∧x < c.w) (hy:0≤y∧y < c.h)
   (h1:mu s c x y=some (l,0)) (hl:eV l=pt x y (mT s c)) (h2:mI s c x y=some (cond (ob s c x y).2 (ob s c x y).1 ⟨0,0,0,0,0,0⟩,(ob s c x y).2,0)) (h3:nG s c ground x y=some (aaK r ground x y,0)):AtP s c ground x y
theorem atP (s:Show) (c:aU) (ground:Color) (x y:Int):AtP s c ground x y:=by
 obtain ⟨l,e,h1,h2⟩:=adG s c x y
 rcases h2 with ⟨he,r,hr⟩ | ⟨rfl,r,hr,hs,hc,hx,hy,ha,ho,h3,h4,h5,h6⟩
 ·have e0:nN s c x y=some (r,e):=hr
  have e1:oW s c ground x y=some (r,e):=hr
  have hb:(e != (0:Int))=true:=by simpa using he
  refine .no e he ⟨l,h1⟩ ?_ ?_
  ·unfold mI
   simp only [e0,Option.isSome_some,Option.getD_some,cond_true,hb]
  ·unfold nG
   simp only [e1,Option.isSome_some,Option.getD_some,cond_true,hb]
 ·have hk:zp s c r:=⟨aiJ (adS ha),h3,h4,h5⟩
  have e0:nN s c x y=some (r,0):=hr
  have e1:oW s c ground x y=some (r,0):=hr
  have e2:qD s c x y=some (ob s c x y):=by
   unfold qD
   rw [e0]
   exact hk.Cv x y
  have e3:vE s c ground x y=some (aaK r ground x y):=by
   unfold vE
   rw [e1]
   exact hk.col ground x y
  refine .yes r l hk ho hs hc ha hx hy h1 h6 ?_ ?_
  ·unfold mI
   simp only [e0,e2,Option.isSome_some,Option.getD_some,cond_true,bne_self_eq_false,cond_false]
   cases (ob s c x y).2 <;> rfl
  ·unfold nG
   simp only [e1,e3,Option.isSome_some,Option.getD_some,cond_true,bne_self_eq_false,cond_false]
structure SF (s:Show) (c:aU) (r:aB) (ground:Color) (w:Nat) (f:Frame) (n:Nat):Prop where
 nc:f.color.n=n
 nd:f.depth.n=n
 ni:f.item.n=n
 nt:f.cV.n=n
 col:∀ q,q < n→f.color.get q=aaK r ground ((q % w:Nat):Int) ((q / w:Nat):Int)
 dep:∀ q,q < n→f.depth.get q=(ob s c ((q % w:Nat):Int) ((q / w:Nat):Int)).1.d
 it:∀ q,q < n→f.item.get q=(ob s c ((q % w:Nat):Int) ((q / w:Nat):Int)).1.item
 cV:∀ q,q < n→f.cV.get q=(ob s c ((q % w:Nat):Int) ((q / w:Nat):Int)).1.cV
theorem Mp {α:Type} [Inhabited α] {l:Sl α} {n:Nat} {v:α} {g:Nat→α} (hn:l.n=n) (h:∀ q,q < n→l.get q=g q) (hv:v=g n):∀ q,q < n+1→(l.push v).get q=g q:=fun q hq=>by
 by_cases hl:q < n
 ·rw [Sl.acf (by omega)]; exact h q hl
 ·have e:q=l.n:=by omega
  rw [e,Sl.acg,hv,hn]
theorem aiL (s:Show) (c:aU) (r:aB) (ground:Color) (hk:zp s c r) (w yy:Nat) (hw:w≤64) (hy:yy < 64) (x:dY) (ha:x.all=r) (hg:x.ground=ground) (wx:x.y=(yy:Int)) (h36:x.t36=(w:Int)) (h37:x.t37=0) (hf:SF s c r ground w x.f (yy * w)) :
  ∃ e z,goN gH x = .out e z∧(e = .exit 2∧z.t7=x.t7∧z.t31=x.t31∧z.t32=x.t32∧z.c=x.c∧z.ground=x.ground∧z.t6=x.t6∧z.all=x.all∧SF s c r ground w z.f ((yy+1) * w)):=by
 refine dx (step:=gH) (fun j z=>(z.t7=x.t7∧z.t31=x.t31∧z.t32=x.t32∧z.c=x.c∧z.ground=x.ground∧z.t6=x.t6∧z.all=x.all∧z.y=x.y)∧z.t36=(w:Int)∧z.t37=(j:Int)∧j≤w∧SF s c r ground w z.f (yy * w+j)) _ w (by have:mm=1000000000000:=rfl; omega) (fun j z hj ⟨⟨f1,f2,f3,f4,f5,f6,f7,f8⟩,f9,f10,f11,f12⟩=>?_) ⟨⟨rfl,rfl,rfl,rfl,rfl,rfl,rfl,rfl⟩,h36,h37,Nat.zero_le _,hf⟩
 have w1:ak (z.t37+1)=z.t37+1:=bz (by omega) (by omega)
 have hmul:yy * w≤64 * 64:=Nat.mul_le_mul (by omega) hw
 have a1:eo 4 z.f.color.n 1=true:=uK (by omega) (by have:=f12.nc; omega) (by omega)
 have a2:eo 8 z.f.depth.n 1=true:=uK (by omega) (by have:=f12.nd; omega) (by omega)
 have a3:eo 8 z.f.item.n 1=true:=uK (by omega) (by have:=f12.ni; omega) (by omega)
 have a4:eo 8 z.f.cV.n 1=true:=uK (by omega) (by have:=f12.nt; omega) (by omega)
 unfold gH
 by_cases h:z.t37 < z.t36
 ·have lX:j < w:=by omega
  have e0:kx z=some (ob s c (j:Int) (yy:Int)):=by
   unfold kx
   rw [f7,ha,f10,f8,wx]
   exact hk.Cv _ _
  have e1:ox z=some (aaK r ground (j:Int) (yy:Int)):=by
   unfold ox
   rw [f7,ha,f5,hg,f10,f8,wx]
   exact hk.col _ _ _
  have m1:(yy * w+j) % w=j:=by rw [Nat.mul_comm,Nat.mul_add_mod,Nat.mod_eq_of_lt lX]
  have m2:(yy * w+j) / w=yy:=by rw [Nat.mul_comm,Nat.mul_add_div (by omega),Nat.div_eq_of_lt lX,Nat.add_zero]
  simp only [e0,e1,w1,a1,a2,a3,a4,a9,cond_true,Bool.and_self,Option.isSome_some,Option.getD_some,decide_eq_true h]
  obtain ⟨n1,n2,n3,n4,p1,p2,p3,p4⟩:=f12
  refine .inl ⟨_,rfl,lX,⟨f1,f2,f3,f4,f5,f6,f7,f8⟩,f9,by show z.t37+1=_; omega,by omega,⟨by show z.f.color.n+1=_; omega,by show z.f.depth.n+1=_; omega,by show z.f.item.n+1=_; omega,by show z.f.cV.n+1=_; omega,?_,?_,?_,?_⟩⟩
  ·exact Mp (n:=yy * w+j) n1 p1 (by rw [m1,m2])
  ·exact Mp (n:=yy * w+j) n2 p2 (by rw [m1,m2])
  ·exact Mp (n:=yy * w+j) n3 p3 (by rw [m1,m2])
  ·exact Mp (n:=yy * w+j) n4 p4 (by rw [m1,m2])
 ·simp only [a9,cond_true,cond_false,decide_eq_false h]
  refine .inr ⟨_,_,rfl,rfl,rfl,f1,f2,f3,f4,f5,f6,f7,?_⟩
  rw [Nat.add_mul,Nat.one_mul]
  have:j=w:=by omega
  rwa [this] at f12
theorem agV (s:Show) (c:aU) (r:aB) (ground:Color) (hk:zp s c r) (w hh:Nat) (hw:w≤64) (hy:hh≤64) (x:fH) (ha:x.all=r) (hg:x.ground=ground) (hc:x.c=c) (hcw:c.w=(w:Int)) (h31:x.t31=(hh:Int)) (h32:x.t32=0) (hf:SF s c r ground w x.f 0) :
  ∃ e z,goN ic x = .out e z∧(e = .exit 0∧SF s c r ground w z.f (hh * w)):=by
 refine dx (step:=ic) (fun j z=>(z.t31=x.t31∧z.c=x.c∧z.ground=x.ground∧z.all=x.all)∧z.t32=(j:Int)∧j≤hh∧SF s c r ground w z.f (j * w)) _ hh (by have:mm=1000000000000:=rfl; omega) (fun j z hj ⟨⟨f1,f2,f3,f4⟩,f5,f6,f7⟩=>?_) ⟨⟨rfl,rfl,rfl,rfl⟩,h32,Nat.zero_le _,by rwa [Nat.zero_mul]⟩
 unfold ic
 by_cases h:z.t32 < z.t31
 ·have lX:j < hh:=by omega
  obtain ⟨e,u,hu,rfl,g1,g2,g3,g4,g5,g6,g7,g8⟩:∃ e u,bc z = .out e u∧(e = .exit 2∧u.t7=z.t7∧u.t31=z.t31∧u.t32=z.t32∧u.c=z.c∧u.ground=z.ground∧u.t6=z.t6∧u.all=z.all∧SF s c r ground w u.f ((j+1) * w)):=by
   unfold bc
   exact aiL s c r ground hk w j hw (by omega) _ (f4.trans ha) (f3.trans hg) f5 (by show z.c.w=_; rw [f2,hc,hcw]) rfl f7
  have b1:(bc z).by (.exit 2)=true:=by rw [hu]; rfl
  have b2:(bc z).st=u:=by rw [hu]; rfl
  have w1:ak (u.t32+1)=u.t32+1:=bz (by omega) (by omega)
  simp only [b1,b2,w1,a9,cond_true,decide_eq_true h]
  exact .inl ⟨_,rfl,lX,⟨g2.trans f1,g4.trans f2,g5.trans f3,g7.trans f4⟩,by show u.t32+1=_; omega,by omega,g8⟩
 ·simp only [a9,cond_true,cond_false,decide_eq_false h]
  refine .inr ⟨_,_,rfl,rfl,rfl,?_⟩
  have:j=hh:=by omega
  rwa [this] at f7
theorem afQ (s:Show) (c:aU) (r:aB) (ground:Color) (hk:zp s c r) (ho:ny s c=some r) (hc:Iy c) (ha:iB s c=some 0):∃ f,rU s c ground=some (f,0)∧SF s c r ground (Int.toNat c.w) f (Int.toNat c.h * Int.toNat c.w):=by
 obtain ⟨_,_,_,⟨cw1,cw2⟩,ch1,ch2⟩:=hc
 have e0:vF s c ground=some 0:=ha
 have e1:Ar s c ground=some r:=ho
 obtain ⟨e,z,hz,rfl,h1⟩:∃ e z,oX s c ground = .out e z∧(e = .exit 0∧SF s c r ground (Int.toNat c.w) z.f (Int.toNat c.h * Int.toNat c.w)):=by
  unfold oX
  exact agV s c r ground hk (Int.toNat c.w) (Int.toNat c.h) (by omega) (by omega) _ (by rw [e1]; rfl) rfl rfl (by omega) (by show c.h=_; omega) rfl ⟨rfl,rfl,rfl,rfl,fun q hq=>absurd hq (Nat.not_lt_zero _),fun q hq=>absurd hq (Nat.not_lt_zero _),fun q hq=>absurd hq (Nat.not_lt_zero _),fun q hq=>absurd hq (Nat.not_lt_zero _)⟩
 have b1:(oX s c ground).by (.exit 0)=true:=by rw [hz]; rfl
 have b2:(oX s c ground).st=z:=by rw [hz]; rfl
 refine ⟨z.f,?_,h1⟩
 unfold rU
 simp only [e0,e1,b1,b2,Option.isSome_some,Option.getD_some,cond_true,bne_self_eq_false,cond_false]
end Go.Proofs.Ytahhdndhkgbcjaa.b
end
section
namespace Go.Proofs.Ytahhdndhkgbcjaa.b
open Go.K
set_option linter.unusedVariables false
set_option linter.unusedSimpArgs false
noncomputable section
def V1:List (Nat×(List KV→KR KV)):=[]
def V2:List Lp:=[]
theorem abm:aq Try.prog V1:=aq.nil
theorem abn:aA Try.prog V2:=aA.nil
def Py  : Option (Color):=
 (some ((⟨(255:Int),(0:Int),(0:Int),(255:Int)⟩:Color)))
theorem adT  : dn Try.prog (bp Try.prog V1 V2 (fun q=>Nat.beq q 1000041||Nat.beq q 1000176||Nat.beq q 1000050)) 9 9 39 [] = (Py ).map fV:=by
 unfold Py
 kernel_rfl
def Pz:List KV→KR KV:=cr Try.prog 39 (cD fV fun vs=>Py )
theorem abo (w:Nat→KV):cM Try.prog [] w 0 = []:=by kernel_rfl
theorem NY:b9 Try.prog 39 Pz:=aX funcs mixed abm abn (L:=9) (n:=9) fun w=>by
 have e:aK Try.prog 39 = []:=by kernel_rfl
 rw [e,abo]
 exact (adT ).trans (by kernel_rfl)
def LH:List (Nat×(List KV→KR KV)):=[(39,Pz)]
def LI:List Lp:=[]
theorem abp:aq Try.prog LH:=(aq.cons NY aq.nil)
theorem abq:aA Try.prog LI:=aA.nil
def PA  : Option (Show):=(dn Try.prog (bp Try.prog LH LI (fun q=>Nat.beq q 1000041||Nat.beq q 1000176||Nat.beq q 1000050)) 9 9 36 []).map kW
theorem adU  : dn Try.prog (bp Try.prog LH LI (fun q=>Nat.beq q 1000041||Nat.beq q 1000176||Nat.beq q 1000050)) 9 9 36 [] = (PA ).map ov:=by
 unfold PA
 kernel_rfl
def aaL:List KV→KR KV:=cr Try.prog 36 (cD ov fun vs=>PA )
theorem abr (w:Nat→KV):cM Try.prog [] w 0 = []:=by kernel_rfl
theorem abt:b9 Try.prog 36 aaL:=aX funcs mixed abp abq (L:=9) (n:=9) fun w=>by
 have e:aK Try.prog 36 = []:=by kernel_rfl
 rw [e,abr]
 exact (adU ).trans (by kernel_rfl)
end
end Go.Proofs.Ytahhdndhkgbcjaa.b
end
section
namespace Go.Proofs.Ytahhdndhkgbcjaa.b
open Go.K
set_option linter.unusedVariables false
set_option linter.unusedSimpArgs false
noncomputable section
def V3:List (Nat×(List KV→KR KV)):=[]
def V4:List Lp:=[]
theorem abu:aq Try.prog V3:=aq.nil
theorem abv:aA Try.prog V4:=aA.nil
def PB  : Option (aU):=
 (some ((⟨(⟨(0:Int),(0:Int),(0:Int)⟩:eB),(⟨(⟨(256:Int),(0:Int),(0:Int)⟩:fg),(⟨(0:Int),(256:Int),(0:Int)⟩:fg),(⟨(0:Int),(0:Int),(256:Int)⟩:fg)⟩:gP),(64:Int),(256:Int),(4:Int),(4:Int)⟩:aU)))
theorem adV  : dn Try.prog (bp Try.prog V3 V4 (fun _=>false)) 9 9 37 [] = (PB ).map iZ:=by
 unfold PB
 kernel_rfl
def aaM:List KV→KR KV:=cr Try.prog 37 (cD iZ fun vs=>PB )
theorem abw (w:Nat→KV):cM Try.prog [] w 0 = []:=by kernel_rfl
theorem abx:b9 Try.prog 37 aaM:=aX funcs mixed abu abv (L:=9) (n:=9) fun w=>by
 have e:aK Try.prog 37 = []:=by kernel_rfl
 rw [e,abw]
 exact (adV ).trans (by kernel_rfl)
def NZ:List (Nat×(List KV→KR KV)):=[]
def N1:List Lp:=[]
theorem W7:aq Try.prog NZ:=aq.nil
theorem W8:aA Try.prog N1:=aA.nil
def IG  : Option (Color):=
 (some ((⟨(0:Int),(0:Int),(0:Int),(255:Int)⟩:Color)))
theorem aaN  : dn Try.prog (bp Try.prog NZ N1 (fun _=>false)) 9 9 38 [] = (IG ).map fV:=by
 unfold IG
 kernel_rfl
def SG:List KV→KR KV:=cr Try.prog 38 (cD fV fun vs=>IG )
theorem W9 (w:Nat→KV):cM Try.prog [] w 0 = []:=by kernel_rfl
theorem Xa:b9 Try.prog 38 SG:=aX funcs mixed W7 W8 (L:=9) (n:=9) fun w=>by
 have e:aK Try.prog 38 = []:=by kernel_rfl
 rw [e,W9]
 exact (aaN ).trans (by kernel_rfl)
def N3:List (Nat×(List KV→KR KV)):=[(39,Pz),(17,zn),(38,SG),(16,xf),(37,aaM),(36,aaL)]
def N4:List Lp:=[]
theorem Xb:aq Try.prog N3:=(aq.cons NY (aq.cons zo (aq.cons Xa (aq.cons xP (aq.cons abx (aq.cons abt aq.nil))))))
theorem Xc:aA Try.prog N4:=aA.nil
def II  : Option (Bool):=
 (some (true))
theorem aaO  : dn Try.prog (bp Try.prog N3 N4 (fun _=>false)) 9 9 14 [] = (II ).map kB:=by
 unfold II
 kernel_rfl
def IJ:List KV→KR KV:=cr Try.prog 14 (cD kB fun vs=>II )
theorem Xd (w:Nat→KV):cM Try.prog [] w 0 = []:=by kernel_rfl
theorem JG:b9 Try.prog 14 IJ:=aX funcs mixed Xb Xc (L:=9) (n:=9) fun w=>by
 have e:aK Try.prog 14 = []:=by kernel_rfl
 rw [e,Xd]
 exact (aaO ).trans (by kernel_rfl)
end
end Go.Proofs.Ytahhdndhkgbcjaa.b
end
section
namespace Go.Proofs.Ytahhdndhkgbcjaa.b
open Go.K
set_option linter.unusedVariables false
set_option linter.unusedSimpArgs false
noncomputable section
def N5:List (Nat×(List KV→KR KV)):=[]
def N6:List Lp:=[]
theorem Xe:aq Try.prog N5:=aq.nil
theorem Xf:aA Try.prog N6:=aA.nil
def vH (a:aZ) (b:aZ):Option (Bool):=
 (cond (decide (a.d > b.d))
 (some (true))
 (cond (a.d==b.d)
 (cond (decide (a.item < b.item))
 (some (true))
 (cond (a.item==b.item)
 (cond (decide (a.cV < b.cV))
 (some (true))
 (cond (a.cV==b.cV)
 (some ((decide (a.part < b.part))))
 (some (false))))
 (some (false))))
 (some (false))))
theorem aaP (a:aZ) (b:aZ):dn Try.prog (bp Try.prog N5 N6 (fun _=>false)) 9 9 23 [gZ a,gZ b] = (vH a b).map kB:=by
 unfold vH
 try simp only [b7]
 kernel_rfl
def IK:List KV→KR KV:=cr Try.prog 23 (cD kB fun vs=>vH (hH (vs.getD 0 .ax)) (hH (vs.getD 1 .ax)))
theorem Xg (w:Nat→KV):cM Try.prog [58,58] w 0 = [gZ (hH (ay Try.prog (ao Try.prog av) 58 (w 0))),gZ (hH (ay Try.prog (ao Try.prog av) 58 (w 1)))]:=by kernel_rfl
theorem JH:b9 Try.prog 23 IK:=aX funcs mixed Xe Xf (L:=9) (n:=9) fun w=>by
 have e:aK Try.prog 23 = [58,58]:=by kernel_rfl
 rw [e,Xg]
 exact (aaP (hH (ay Try.prog (ao Try.prog av) 58 (w 0))) (hH (ay Try.prog (ao Try.prog av) 58 (w 1)))).trans (by kernel_rfl)
structure cA where
 x:Int
 y:Int
 t10:Bool
 ok:Bool
 l:(Sl aZ)
 Ha:Bool
 g:Int
 there:Bool
 some:Bool
 i:Int
 s:Show
 c:aU
 ground:Color
 f:aZ
instance:Inhabited cA:=⟨⟨default,default,default,default,default,default,default,default,default,default,default,default,default,default⟩⟩
def oy (x:cA):List KV:=[.int .i64 x.x,.int .i64 x.y,.bool x.t10,.bool x.ok,iU 58 gZ x.l,.bool x.Ha,.int .i64 x.g,.bool x.there,.bool x.some,.int .i64 x.i]
def oz (x:cA):List (List KV):=[Pf x.s,Bi x.c,Mf x.ground,ady x.f]
def zq (vs:List KV) (rs:List (List KV)):cA:=⟨intOf (vs.getD 0 .ax),intOf (vs.getD 1 .ax),og (vs.getD 2 .ax),og (vs.getD 3 .ax),iw hH (vs.getD 4 .ax),og (vs.getD 5 .ax),intOf (vs.getD 6 .ax),og (vs.getD 7 .ax),og (vs.getD 8 .ax),intOf (vs.getD 9 .ax),Pg (fun k=>(rs.getD 0 []).getD k .ax),Bj (fun k=>(rs.getD 1 []).getD k .ax),Mg (fun k=>(rs.getD 2 []).getD k .ax),adz (fun k=>(rs.getD 3 []).getD k .ax)⟩
def zP:aQ:=⟨[(3,⟨false,[.k (.int .i64)]⟩),(4,⟨false,[.k (.int .i64)]⟩),(10,⟨false,[.k .bool]⟩),(11,⟨false,[.k .bool]⟩),(12,⟨false,[.k (.slice 58)]⟩),(15,⟨false,[.k .bool]⟩),(16,⟨false,[.k (.int .i64)]⟩),(17,⟨false,[.k .bool]⟩),(18,⟨false,[.k .bool]⟩),(19,⟨false,[.k (.int .i64)]⟩)],[(5,[.k (.slice 45),.k (.slice 108)],1),(6,[.k (.int .i64),.k (.int .i64),.k (.int .i64),.k (.int .i64),.k (.int .i64),.k (.int .i64),.k (.int .i64),.k (.int .i64),.k (.int .i64),.k (.int .i64),.k (.int .i64),.k (.int .i64),.k (.int .i64),.k (.int .i64),.k (.int .i64),.k (.int .i64)],1),(7,[.k (.int .u8),.k (.int .u8),.k (.int .u8),.k (.int .u8)],1),(14,[.k (.int .i64),.k (.int .i64),.k (.int .i64),.k (.int .i64),.k (.int .i64),.k (.int .i64)],1)],[(5,0,0),(6,1,0),(7,2,0),(14,3,0)]⟩
def IL:=jf Try.prog (bp Try.prog [(17,zn),(24,DC),(23,IK),(16,xf),(15,Du),(10,Iu),(14,IJ)] [] (fun _=>false)) 9 9 7 4090 (eX Try.prog 7 4090) zP
def jL (x:cA):(Option Bool):=(vH x.f (x.l.get (Int.toNat x.i)))
def gb (x:cA):aJ cA:=
 (cond (decide (x.i < ((x.l.n:Nat):Int)))
 (cond ((decide ((0:Int)≤x.i))&&(decide (x.i < ((x.l.n:Nat):Int))))
 (cond ((decide ((0:Int)≤(x.l.get (Int.toNat x.i)).item))&&(decide ((x.l.get (Int.toNat x.i)).item < ((x.s.items.n:Nat):Int))))
 (cond (x.s.items.get (Int.toNat (x.l.get (Int.toNat x.i)).item)).look.Ik
 (.next (⟨x.x,x.y,x.t10,x.ok,x.l,x.Ha,x.g,x.there,x.some,(ak (x.i+(1:Int))),x.s,x.c,x.ground,x.f⟩:cA))
 (cond x.there
 (cond ((decide ((0:Int)≤x.i))&&(decide (x.i < ((x.l.n:Nat):Int))))
 (cond (!(((x.l.get (Int.toNat x.i)).d==x.f.d)&&(((x.l.get (Int.toNat x.i)).item==x.f.item)&&(((x.l.get (Int.toNat x.i)).cV==x.f.cV)&&(((x.l.get (Int.toNat x.i)).part==x.f.part)&&(((x.l.get (Int.toNat x.i)).u==x.f.u)&&(((x.l.get (Int.toNat x.i)).v==x.f.v)&&true)))))))
 (cond ((decide ((0:Int)≤x.i))&&(decide (x.i < ((x.l.n:Nat):Int))))
 (cond (jL x).isSome
 (cond (!((jL x).getD default))
 (.out aG.aw.ret (⟨x.x,x.y,false,x.ok,x.l,x.Ha,x.g,true,true,x.i,x.s,x.c,x.ground,x.f⟩:cA))
 (.next (⟨x.x,x.y,x.t10,x.ok,x.l,x.Ha,x.g,true,true,(ak (x.i+(1:Int))),x.s,x.c,x.ground,x.f⟩:cA)))
 .fail)
 .fail)
 (.next (⟨x.x,x.y,x.t10,x.ok,x.l,x.Ha,x.g,true,true,(ak (x.i+(1:Int))),x.s,x.c,x.ground,x.f⟩:cA)))
 .fail)
 (cond ((decide ((0:Int)≤x.i))&&(decide (x.i < ((x.l.n:Nat):Int))))
 (cond ((decide ((0:Int)≤x.i))&&(decide (x.i < ((x.l.n:Nat):Int))))
 (cond (!(((x.l.get (Int.toNat x.i)).d==x.f.d)&&(((x.l.get (Int.toNat x.i)).item==x.f.item)&&(((x.l.get (Int.toNat x.i)).cV==x.f.cV)&&(((x.l.get (Int.toNat x.i)).part==x.f.part)&&(((x.l.get (Int.toNat x.i)).u==x.f.u)&&(((x.l.get (Int.toNat x.i)).v==x.f.v)&&true)))))))
 (cond ((decide ((0:Int)≤x.i))&&(decide (x.i < ((x.l.n:Nat):Int))))
 (cond (jL x).isSome
 (cond (!((jL x).getD default))
 (.out aG.aw.ret (⟨x.x,x.y,false,x.ok,x.l,x.Ha,x.g,(((x.l.get (Int.toNat x.i)).d==x.f.d)&&(((x.l.get (Int.toNat x.i)).item==x.f.item)&&(((x.l.get (Int.toNat x.i)).cV==x.f.cV)&&(((x.l.get (Int.toNat x.i)).part==x.f.part)&&(((x.l.get (Int.toNat x.i)).u==x.f.u)&&(((x.l.get (Int.toNat x.i)).v==x.f.v)&&true)))))),true,x.i,x.s,x.c,x.ground,x.f⟩:cA))
 (.next (⟨x.x,x.y,x.t10,x.ok,x.l,x.Ha,x.g,(((x.l.get (Int.toNat x.i)).d==x.f.d)&&(((x.l.get (Int.toNat x.i)).item==x.f.item)&&(((x.l.get (Int.toNat x.i)).cV==x.f.cV)&&(((x.l.get (Int.toNat x.i)).part==x.f.part)&&(((x.l.get (Int.toNat x.i)).u==x.f.u)&&(((x.l.get (Int.toNat x.i)).v==x.f.v)&&true)))))),true,(ak (x.i+(1:Int))),x.s,x.c,x.ground,x.f⟩:cA)))
 .fail)
 .fail)
 (.next (⟨x.x,x.y,x.t10,x.ok,x.l,x.Ha,x.g,(((x.l.get (Int.toNat x.i)).d==x.f.d)&&(((x.l.get (Int.toNat x.i)).item==x.f.item)&&(((x.l.get (Int.toNat x.i)).cV==x.f.cV)&&(((x.l.get (Int.toNat x.i)).part==x.f.part)&&(((x.l.get (Int.toNat x.i)).u==x.f.u)&&(((x.l.get (Int.toNat x.i)).v==x.f.v)&&true)))))),true,(ak (x.i+(1:Int))),x.s,x.c,x.ground,x.f⟩:cA)))
 .fail)
 .fail)))
 .fail)
 .fail)
 (.out (aG.aw.exit 0) x))
theorem Ft (x:cA):IL (oy x) (oz x)=aJ.enc oy oz (gb x):=by
 unfold gb
 try simp only [aJ.dg]
 kernel_rfl
def pH:Lp:=⟨7,4090,zP,fun vs rs=>dD oy oz (goN gb (zq vs rs)) [aG.aw.exit 0,aG.aw.ret],false⟩
theorem IM:pH.Ok Try.prog:=eF funcs mixed (aq.cons zo (aq.cons EC (aq.cons JH (aq.cons xP (aq.cons Ew (aq.cons Jv (aq.cons JG aq.nil))))))) aA.nil (L:=9) (n:=9) (step:=gb) (ev:=oy) (er:=oz) (pa:=zq) rfl (fun wv wr=>⟨by kernel_rfl,by kernel_rfl⟩) Ft
theorem DK:cz Try.prog pH.f pH.p=true:=by kernel_rfl
def zr:List (Nat×(List KV→KR KV)):=[(17,zn),(24,DC),(23,IK),(16,xf),(15,Du),(10,Iu),(14,IJ)]
def zt:List Lp:=[pH]
theorem MT:aq Try.prog zr:=(aq.cons zo (aq.cons EC (aq.cons JH (aq.cons xP (aq.cons Ew (aq.cons Jv (aq.cons JG aq.nil)))))))
theorem MU:aA Try.prog zt:=(aA.cons IM DK aA.nil)
def xQ (s:Show) (c:aU) (ground:Color) (x:Int) (y:Int):(Option Bool):=(vu s)
def m8 (s:Show) (c:aU) (ground:Color) (x:Int) (y:Int):(Option (Prod (Sl aZ) Int)):=(mu s c x y)
def j7 (s:Show) (c:aU) (ground:Color) (x:Int) (y:Int):(Option (Prod aZ (Prod Bool Int))):=(mI s c x y)
def ai (s:Show) (c:aU) (ground:Color) (x:Int) (y:Int):(aJ cA):=(goN gb (⟨x,y,false,true,((m8 s c ground x y).getD default).fst,((j7 s c ground x y).getD default).snd.fst,((j7 s c ground x y).getD default).snd.snd,false,false,(0:Int),s,c,ground,((j7 s c ground x y).getD default).fst⟩:cA))
def aF (s:Show) (c:aU) (ground:Color) (x:Int) (y:Int):(Option (Prod Frame Int)):=(rU (ai s c ground x y).st.s (ai s c ground x y).st.c (ai s c ground x y).st.ground)
def cG (s:Show) (c:aU) (ground:Color) (x:Int) (y:Int):(Option (Prod Color Int)):=(nG (ai s c ground x y).st.s (ai s c ground x y).st.c (ai s c ground x y).st.ground (ai s c ground x y).st.x (ai s c ground x y).st.y)
def vI (s:Show) (c:aU) (ground:Color) (x:Int) (y:Int):Option (Bool):=
 (cond (xQ s c ground x y).isSome
 (cond ((xQ s c ground x y).getD default)
 (some (true))
 (cond (m8 s c ground x y).isSome
 (cond (j7 s c ground x y).isSome
 (cond (((m8 s c ground x y).getD default).snd != (0:Int))
 (cond (((m8 s c ground x y).getD default).snd==((j7 s c ground x y).getD default).snd.snd)
 (some ((!((j7 s c ground x y).getD default).snd.fst)))
 (some (false)))
 (cond ((ai s c ground x y).by (aG.aw.exit 0))
 (cond (aF s c ground x y).isSome
 (cond (cG s c ground x y).isSome
 (cond ((ai s c ground x y).st.g != (0:Int))
 (some (false))
 (cond (((aF s c ground x y).getD default).snd != (0:Int))
 (some (false))
 (cond (((cG s c ground x y).getD default).snd != (0:Int))
 (some (false))
 (cond (decide ((ak ((ak ((ai s c ground x y).st.y * (ai s c ground x y).st.c.w))+(ai s c ground x y).st.x)) ≥ ((((aF s c ground x y).getD default).fst.item.n:Nat):Int)))
 (some (false))
 (cond (decide ((ak ((ak ((ai s c ground x y).st.y * (ai s c ground x y).st.c.w))+(ai s c ground x y).st.x)) ≥ ((((aF s c ground x y).getD default).fst.depth.n:Nat):Int)))
 (some (false))
 (cond (decide ((ak ((ak ((ai s c ground x y).st.y * (ai s c ground x y).st.c.w))+(ai s c ground x y).st.x)) ≥ ((((aF s c ground x y).getD default).fst.color.n:Nat):Int)))
 (some (false))
 (cond (decide ((ak ((ak ((ai s c ground x y).st.y * (ai s c ground x y).st.c.w))+(ai s c ground x y).st.x)) ≥ ((((aF s c ground x y).getD default).fst.cV.n:Nat):Int)))
 (some (false))
 (cond (!(ai s c ground x y).st.Ha)
 (cond (ai s c ground x y).st.ok
 (cond ((ai s c ground x y).st.Ha==(ai s c ground x y).st.some)
 (cond (ai s c ground x y).st.there
 (cond ((decide ((0:Int)≤(ak ((ak ((ai s c ground x y).st.y * (ai s c ground x y).st.c.w))+(ai s c ground x y).st.x))))&&(decide ((ak ((ak ((ai s c ground x y).st.y * (ai s c ground x y).st.c.w))+(ai s c ground x y).st.x)) < ((((aF s c ground x y).getD default).fst.item.n:Nat):Int))))
 (cond ((((aF s c ground x y).getD default).fst.item.get (Int.toNat (ak ((ak ((ai s c ground x y).st.y * (ai s c ground x y).st.c.w))+(ai s c ground x y).st.x))))==(-(1:Int)))
 (cond ((decide ((0:Int)≤(ak ((ak ((ai s c ground x y).st.y * (ai s c ground x y).st.c.w))+(ai s c ground x y).st.x))))&&(decide ((ak ((ak ((ai s c ground x y).st.y * (ai s c ground x y).st.c.w))+(ai s c ground x y).st.x)) < ((((aF s c ground x y).getD default).fst.cV.n:Nat):Int))))
 (cond ((((aF s c ground x y).getD default).fst.cV.get (Int.toNat (ak ((ak ((ai s c ground x y).st.y * (ai s c ground x y).st.c.w))+(ai s c ground x y).st.x))))==(-(1:Int)))
 (cond ((decide ((0:Int)≤(ak ((ak ((ai s c ground x y).st.y * (ai s c ground x y).st.c.w))+(ai s c ground x y).st.x))))&&(decide ((ak ((ak ((ai s c ground x y).st.y * (ai s c ground x y).st.c.w))+(ai s c ground x y).st.x)) < ((((aF s c ground x y).getD default).fst.depth.n:Nat):Int))))
 (cond ((((aF s c ground x y).getD default).fst.depth.get (Int.toNat (ak ((ak ((ai s c ground x y).st.y * (ai s c ground x y).st.c.w))+(ai s c ground x y).st.x))))==(-(2048:Int)))
 (cond ((decide ((0:Int)≤(ak ((ak ((ai s c ground x y).st.y * (ai s c ground x y).st.c.w))+(ai s c ground x y).st.x))))&&(decide ((ak ((ak ((ai s c ground x y).st.y * (ai s c ground x y).st.c.w))+(ai s c ground x y).st.x)) < ((((aF s c ground x y).getD default).fst.color.n:Nat):Int))))
 (some ((((((aF s c ground x y).getD default).fst.color.get (Int.toNat (ak ((ak ((ai s c ground x y).st.y * (ai s c ground x y).st.c.w))+(ai s c ground x y).st.x)))).e0==((cG s c ground x y).getD default).fst.e0)&&(((((aF s c ground x y).getD default).fst.color.get (Int.toNat (ak ((ak ((ai s c ground x y).st.y * (ai s c ground x y).st.c.w))+(ai s c ground x y).st.x)))).e1==((cG s c ground x y).getD default).fst.e1)&&(((((aF s c ground x y).getD default).fst.color.get (Int.toNat (ak ((ak ((ai s c ground x y).st.y * (ai s c ground x y).st.c.w))+(ai s c ground x y).st.x)))).e2==((cG s c ground x y).getD default).fst.e2)&&(((((aF s c ground x y).getD default).fst.color.get (Int.toNat (ak ((ak ((ai s c ground x y).st.y * (ai s c ground x y).st.c.w))+(ai s c ground x y).st.x)))).e3==((cG s c ground x y).getD default).fst.e3)&&true))))))
 none)
 (some (false)))
 none)
 (some (false)))
 none)
 (some (false)))
 none)
 (cond (!(ai s c ground x y).st.Ha)
 (cond ((decide ((0:Int)≤(ak ((ak ((ai s c ground x y).st.y * (ai s c ground x y).st.c.w))+(ai s c ground x y).st.x))))&&(decide ((ak ((ak ((ai s c ground x y).st.y * (ai s c ground x y).st.c.w))+(ai s c ground x y).st.x)) < ((((aF s c ground x y).getD default).fst.item.n:Nat):Int))))
 (cond ((((aF s c ground x y).getD default).fst.item.get (Int.toNat (ak ((ak ((ai s c ground x y).st.y * (ai s c ground x y).st.c.w))+(ai s c ground x y).st.x))))==(-(1:Int)))
 (cond ((decide ((0:Int)≤(ak ((ak ((ai s c ground x y).st.y * (ai s c ground x y).st.c.w))+(ai s c ground x y).st.x))))&&(decide ((ak ((ak ((ai s c ground x y).st.y * (ai s c ground x y).st.c.w))+(ai s c ground x y).st.x)) < ((((aF s c ground x y).getD default).fst.cV.n:Nat):Int))))
 (cond ((((aF s c ground x y).getD default).fst.cV.get (Int.toNat (ak ((ak ((ai s c ground x y).st.y * (ai s c ground x y).st.c.w))+(ai s c ground x y).st.x))))==(-(1:Int)))
 (cond ((decide ((0:Int)≤(ak ((ak ((ai s c ground x y).st.y * (ai s c ground x y).st.c.w))+(ai s c ground x y).st.x))))&&(decide ((ak ((ak ((ai s c ground x y).st.y * (ai s c ground x y).st.c.w))+(ai s c ground x y).st.x)) < ((((aF s c ground x y).getD default).fst.depth.n:Nat):Int))))
 (cond ((((aF s c ground x y).getD default).fst.depth.get (Int.toNat (ak ((ak ((ai s c ground x y).st.y * (ai s c ground x y).st.c.w))+(ai s c ground x y).st.x))))==(-(2048:Int)))
 (cond ((decide ((0:Int)≤(ak ((ak ((ai s c ground x y).st.y * (ai s c ground x y).st.c.w))+(ai s c ground x y).st.x))))&&(decide ((ak ((ak ((ai s c ground x y).st.y * (ai s c ground x y).st.c.w))+(ai s c ground x y).st.x)) < ((((aF s c ground x y).getD default).fst.color.n:Nat):Int))))
 (some ((((((aF s c ground x y).getD default).fst.color.get (Int.toNat (ak ((ak ((ai s c ground x y).st.y * (ai s c ground x y).st.c.w))+(ai s c ground x y).st.x)))).e0==((cG s c ground x y).getD default).fst.e0)&&(((((aF s c ground x y).getD default).fst.color.get (Int.toNat (ak ((ak ((ai s c ground x y).st.y * (ai s c ground x y).st.c.w))+(ai s c ground x y).st.x)))).e1==((cG s c ground x y).getD default).fst.e1)&&(((((aF s c ground x y).getD default).fst.color.get (Int.toNat (ak ((ak ((ai s c ground x y).st.y * (ai s c ground x y).st.c.w))+(ai s c ground x y).st.x)))).e2==((cG s c ground x y).getD default).fst.e2)&&(((((aF s c ground x y).getD default).fst.color.get (Int.toNat (ak ((ak ((ai s c ground x y).st.y * (ai s c ground x y).st.c.w))+(ai s c ground x y).st.x)))).e3==((cG s c ground x y).getD default).fst.e3)&&true))))))
 none)
 (some (false)))
 none)
 (some (false)))
 none)
 (some (false)))
 none)
 (some (false))))
 (some (false)))
 (some (false)))
 (cond (ai s c ground x y).st.ok
 (cond ((ai s c ground x y).st.Ha==(ai s c ground x y).st.some)
 (cond (ai s c ground x y).st.there
 (cond ((decide ((0:Int)≤(ak ((ak ((ai s c ground x y).st.y * (ai s c ground x y).st.c.w))+(ai s c ground x y).st.x))))&&(decide ((ak ((ak ((ai s c ground x y).st.y * (ai s c ground x y).st.c.w))+(ai s c ground x y).st.x)) < ((((aF s c ground x y).getD default).fst.item.n:Nat):Int))))
 (cond ((((aF s c ground x y).getD default).fst.item.get (Int.toNat (ak ((ak ((ai s c ground x y).st.y * (ai s c ground x y).st.c.w))+(ai s c ground x y).st.x))))==(ai s c ground x y).st.f.item)
 (cond ((decide ((0:Int)≤(ak ((ak ((ai s c ground x y).st.y * (ai s c ground x y).st.c.w))+(ai s c ground x y).st.x))))&&(decide ((ak ((ak ((ai s c ground x y).st.y * (ai s c ground x y).st.c.w))+(ai s c ground x y).st.x)) < ((((aF s c ground x y).getD default).fst.cV.n:Nat):Int))))
 (cond ((((aF s c ground x y).getD default).fst.cV.get (Int.toNat (ak ((ak ((ai s c ground x y).st.y * (ai s c ground x y).st.c.w))+(ai s c ground x y).st.x))))==(ai s c ground x y).st.f.cV)
 (cond ((decide ((0:Int)≤(ak ((ak ((ai s c ground x y).st.y * (ai s c ground x y).st.c.w))+(ai s c ground x y).st.x))))&&(decide ((ak ((ak ((ai s c ground x y).st.y * (ai s c ground x y).st.c.w))+(ai s c ground x y).st.x)) < ((((aF s c ground x y).getD default).fst.depth.n:Nat):Int))))
 (cond ((((aF s c ground x y).getD default).fst.depth.get (Int.toNat (ak ((ak ((ai s c ground x y).st.y * (ai s c ground x y).st.c.w))+(ai s c ground x y).st.x))))==(ai s c ground x y).st.f.d)
 (cond ((decide ((0:Int)≤(ak ((ak ((ai s c ground x y).st.y * (ai s c ground x y).st.c.w))+(ai s c ground x y).st.x))))&&(decide ((ak ((ak ((ai s c ground x y).st.y * (ai s c ground x y).st.c.w))+(ai s c ground x y).st.x)) < ((((aF s c ground x y).getD default).fst.color.n:Nat):Int))))
 (some ((((((aF s c ground x y).getD default).fst.color.get (Int.toNat (ak ((ak ((ai s c ground x y).st.y * (ai s c ground x y).st.c.w))+(ai s c ground x y).st.x)))).e0==((cG s c ground x y).getD default).fst.e0)&&(((((aF s c ground x y).getD default).fst.color.get (Int.toNat (ak ((ak ((ai s c ground x y).st.y * (ai s c ground x y).st.c.w))+(ai s c ground x y).st.x)))).e1==((cG s c ground x y).getD default).fst.e1)&&(((((aF s c ground x y).getD default).fst.color.get (Int.toNat (ak ((ak ((ai s c ground x y).st.y * (ai s c ground x y).st.c.w))+(ai s c ground x y).st.x)))).e2==((cG s c ground x y).getD default).fst.e2)&&(((((aF s c ground x y).getD default).fst.color.get (Int.toNat (ak ((ak ((ai s c ground x y).st.y * (ai s c ground x y).st.c.w))+(ai s c ground x y).st.x)))).e3==((cG s c ground x y).getD default).fst.e3)&&true))))))
 none)
 (some (false)))
 none)
 (some (false)))
 none)
 (some (false)))
 none)
 (cond (!(ai s c ground x y).st.Ha)
 (cond ((decide ((0:Int)≤(ak ((ak ((ai s c ground x y).st.y * (ai s c ground x y).st.c.w))+(ai s c ground x y).st.x))))&&(decide ((ak ((ak ((ai s c ground x y).st.y * (ai s c ground x y).st.c.w))+(ai s c ground x y).st.x)) < ((((aF s c ground x y).getD default).fst.item.n:Nat):Int))))
 (cond ((((aF s c ground x y).getD default).fst.item.get (Int.toNat (ak ((ak ((ai s c ground x y).st.y * (ai s c ground x y).st.c.w))+(ai s c ground x y).st.x))))==(ai s c ground x y).st.f.item)
 (cond ((decide ((0:Int)≤(ak ((ak ((ai s c ground x y).st.y * (ai s c ground x y).st.c.w))+(ai s c ground x y).st.x))))&&(decide ((ak ((ak ((ai s c ground x y).st.y * (ai s c ground x y).st.c.w))+(ai s c ground x y).st.x)) < ((((aF s c ground x y).getD default).fst.cV.n:Nat):Int))))
 (cond ((((aF s c ground x y).getD default).fst.cV.get (Int.toNat (ak ((ak ((ai s c ground x y).st.y * (ai s c ground x y).st.c.w))+(ai s c ground x y).st.x))))==(ai s c ground x y).st.f.cV)
 (cond ((decide ((0:Int)≤(ak ((ak ((ai s c ground x y).st.y * (ai s c ground x y).st.c.w))+(ai s c ground x y).st.x))))&&(decide ((ak ((ak ((ai s c ground x y).st.y * (ai s c ground x y).st.c.w))+(ai s c ground x y).st.x)) < ((((aF s c ground x y).getD default).fst.depth.n:Nat):Int))))
 (cond ((((aF s c ground x y).getD default).fst.depth.get (Int.toNat (ak ((ak ((ai s c ground x y).st.y * (ai s c ground x y).st.c.w))+(ai s c ground x y).st.x))))==(ai s c ground x y).st.f.d)
 (cond ((decide ((0:Int)≤(ak ((ak ((ai s c ground x y).st.y * (ai s c ground x y).st.c.w))+(ai s c ground x y).st.x))))&&(decide ((ak ((ak ((ai s c ground x y).st.y * (ai s c ground x y).st.c.w))+(ai s c ground x y).st.x)) < ((((aF s c ground x y).getD default).fst.color.n:Nat):Int))))
 (some ((((((aF s c ground x y).getD default).fst.color.get (Int.toNat (ak ((ak ((ai s c ground x y).st.y * (ai s c ground x y).st.c.w))+(ai s c ground x y).st.x)))).e0==((cG s c ground x y).getD default).fst.e0)&&(((((aF s c ground x y).getD default).fst.color.get (Int.toNat (ak ((ak ((ai s c ground x y).st.y * (ai s c ground x y).st.c.w))+(ai s c ground x y).st.x)))).e1==((cG s c ground x y).getD default).fst.e1)&&(((((aF s c ground x y).getD default).fst.color.get (Int.toNat (ak ((ak ((ai s c ground x y).st.y * (ai s c ground x y).st.c.w))+(ai s c ground x y).st.x)))).e2==((cG s c ground x y).getD default).fst.e2)&&(((((aF s c ground x y).getD default).fst.color.get (Int.toNat (ak ((ak ((ai s c ground x y).st.y * (ai s c ground x y).st.c.w))+(ai s c ground x y).st.x)))).e3==((cG s c ground x y).getD default).fst.e3)&&true))))))
 none)
 (some (false)))
 none)
 (some (false)))
 none)
 (some (false)))
 none)
 (some (false))))
 (some (false)))
 (some (false)))))))))))
 none)
 none)
 (cond ((ai s c ground x y).by aG.aw.ret)
 (some ((ai s c ground x y).st.t10))
 none)))
 none)
 none))
 none)
theorem PC (s:Show) (c:aU) (ground:Color) (x:Int) (y:Int):dn Try.prog (bp Try.prog zr zt (fun _=>false)) 9 9 7 [ov s,iZ c,fV ground,(kI .i64) x,(kI .i64) y] = (vI s c ground x y).map kB:=by
 unfold vI
 try simp only [b7]
 kernel_rfl
theorem MV (w:Nat→KV):cM Try.prog [25,53,37,3,3] w 0 = [ov (kW (ay Try.prog (ao Try.prog av) 25 (w 0))),iZ (fw (ay Try.prog (ao Try.prog av) 53 (w 1))),fV (kf (ay Try.prog (ao Try.prog av) 37 (w 2))),(kI .i64) (intOf (ay Try.prog (ao Try.prog av) 3 (w 3))),(kI .i64) (intOf (ay Try.prog (ao Try.prog av) 3 (w 4)))]:=by kernel_rfl
end
end Go.Proofs.Ytahhdndhkgbcjaa.b
end
section
namespace Go.Proofs.Ytahhdndhkgbcjaa.b
open Go.K Go.K.wi
open Go.aG (aw)
theorem adW (l:Sl ew):(vq l).isSome=true:=by
 obtain ⟨e,z,hz,rfl⟩:∃ e z,rO l = .out e z∧e = .exit 0:=by
  unfold rO
  refine dx (step:=lG) (fun j y=>y.i=(j:Int)) (fun e _=>e = .exit 0) 100 (by decide) (fun j y hj f1=>?_) rfl
  have w1:ak (y.i+1)=y.i+1:=bz (by omega) (by omega)
  unfold lG
  cases h:decide (y.i < ((y.l.n:Nat):Int)) with
  | false=>exact .inr ⟨_,_,rfl,rfl,rfl⟩
  | true=>
   cases h2:decide (y.i < (100:Int)) with
   | false=>exact .inr ⟨_,_,rfl,rfl,rfl⟩
   | true=>
    have CQ:=of_decide_eq_true h2
    simp only [w1,cond_true,Bool.and_self,decide_eq_true (show (0:Int)≤y.i by omega)]
    exact .inl ⟨_,rfl,by omega,by show y.i+1=_; omega⟩
 have b1:(rO l).by (.exit 0)=true:=by rw [hz]; rfl
 unfold vq
 simp only [b1,cond_true]
 exact ky (fun _=>rfl) (fun _=>rfl)
theorem afR (s:Show):(vu s).isSome=true:=by
 obtain ⟨e,z,hz,rfl⟩:∃ e z,pg s = .out e z∧e = .exit 0:=by
  unfold pg
  refine dx (step:=lH) (fun j y=>y.i=(j:Int)) (fun e _=>e = .exit 0) 300 (by decide) (fun j y hj f1=>?_) rfl
  have w1:ak (y.i+1)=y.i+1:=bz (by omega) (by omega)
  unfold lH
  cases h:decide (y.i < ((y.s.items.n:Nat):Int)) with
  | false=>exact .inr ⟨_,_,rfl,rfl,rfl⟩
  | true=>
   cases h2:decide (y.i < (300:Int)) with
   | false=>exact .inr ⟨_,_,rfl,rfl,rfl⟩
   | true=>
    have CQ:=of_decide_eq_true h2
    simp only [w1,cond_true,Bool.and_self,decide_eq_true (show (0:Int)≤y.i by omega)]
    exact .inl ⟨_,rfl,by omega,by show y.i+1=_; omega⟩
 have b1:(pg s).by (.exit 0)=true:=by rw [hz]; rfl
 have e1:(Dv s).isSome=true:=adW _
 unfold vu
 simp only [b1,e1,cond_true]
 exact ky (fun _=>rfl) (fun _=>ky (fun _=>rfl) (fun _=>rfl))
theorem afS (a b:aZ):vH a b=some (decide (ng a b)):=by
 have yes:ng a b→(some true:Option Bool)=some (decide (ng a b)):=fun h=>by rw [decide_eq_true h]
 have no : ¬ ng a b→(some false:Option Bool)=some (decide (ng a b)):=fun h=>by rw [decide_eq_false h]
 unfold vH
 by_cases h1:a.d > b.d
 ·rw [decide_eq_true h1,cond_true]
  exact yes (by unfold ng; omega)
 rw [decide_eq_false h1,cond_false]
 cases h2:(a.d==b.d) with
 | false=>exact no (by have:a.d≠b.d:=by simpa using h2
                       unfold ng; omega)
 | true=>
  have h2:a.d=b.d:=by simpa using h2
  rw [cond_true]
  by_cases h3:a.item < b.item
  ·rw [decide_eq_true h3,cond_true]
   exact yes (by unfold ng; omega)
  rw [decide_eq_false h3,cond_false]
  cases h4:(a.item==b.item) with
  | false=>exact no (by have:a.item≠b.item:=by simpa using h4
                        unfold ng; omega)
  | true=>
   have h4:a.item=b.item:=by simpa using h4
   rw [cond_true]
   by_cases h5:a.cV < b.cV
   ·rw [decide_eq_true h5,cond_true]
    exact yes (by unfold ng; omega)
   rw [decide_eq_false h5,cond_false]
   cases h6:(a.cV==b.cV) with
   | false=>exact no (by have:a.cV≠b.cV:=by simpa using h6
                         unfold ng; omega)
   | true=>
    have h6:a.cV=b.cV:=by simpa using h6
    rw [cond_true]
    by_cases h7:a.part < b.part
    ·rw [decide_eq_true h7]
     exact yes (by unfold ng; omega)
    ·rw [decide_eq_false h7]
     exact no (by unfold ng; omega)
def PD (g f:aZ):Bool:=(g.d==f.d)&&((g.item==f.item)&&((g.cV==f.cV)&&((g.part==f.part)&&((g.u==f.u)&&((g.v==f.v)&&true)))))
theorem aaQ (g f:aZ):PD g f=true↔g=f:=by
 unfold PD
 simp only [Bool.and_eq_true,beq_iff_eq]
 constructor
 ·rintro ⟨h1,h2,h3,h4,h5,h6,_⟩
  cases g; cases f
  simp_all
 ·rintro rfl
  exact ⟨rfl,rfl,rfl,rfl,rfl,rfl,trivial⟩
theorem acw {α:Type} {p:α→Bool} {l:List α} {f:α} : (l++[f]).any p=(l.any p||p f):=by
 rw [List.any_append]
 simp
theorem agW (s:Show) (c:aU) (ground:Color) (x y:Int) (l:Sl aZ) (Ha:Bool) (f:aZ) (hn:l.n≤98304) (hit:∀ j,j < l.n→0≤(l.get j).item∧(l.get j).item < (s.items.n:Int)) (dT:∀ j,j < l.n→fQ s (l.get j)=false→l.get j=f∨ng f (l.get j)) :
  ∃ i:Int,goN gb ⟨x,y,false,true,l,Ha,0,false,false,0,s,c,ground,f⟩ = .out (.exit 0) ⟨x,y,false,true,l,Ha,0,(eV l).any (fun g=>!fQ s g&&PD g f),(eV l).any (fun g=>!fQ s g),i,s,c,ground,f⟩:=by
 refine Exists.elim (dx (step:=gb) (x:=⟨x,y,false,true,l,Ha,0,false,false,0,s,c,ground,f⟩) (fun j z=>z=⟨x,y,false,true,l,Ha,0,((eV l).take j).any (fun g=>!fQ s g&&PD g f),((eV l).take j).any (fun g=>!fQ s g),(j:Int),s,c,ground,f⟩∧j≤l.n) (fun e z=>e = .exit 0∧∃ i:Int,z=⟨x,y,false,true,l,Ha,0,(eV l).any (fun g=>!fQ s g&&PD g f),(eV l).any (fun g=>!fQ s g),i,s,c,ground,f⟩) l.n (by have:mm=1000000000000:=rfl; omega) (fun j z hj ⟨hz,hjl⟩=>?_) ⟨rfl,Nat.zero_le _⟩) (fun e h=>Exists.elim h fun z ⟨h1,h2,i,h3⟩=>⟨i,by rw [h1,h2,h3]⟩)
 subst hz
 have w1:ak ((j:Int)+1)=((j+1:Nat):Int):=by rw [bz (by omega) (by omega)]; omega
 unfold gb
 by_cases h:(j:Int) < ((l.n:Nat):Int)
 ·have lX:j < l.n:=by omega
  obtain ⟨i1,i2⟩:=hit j lX
  have e0:∀ (t:Bool) (u:Bool),jL ⟨x,y,false,true,l,Ha,0,t,u,(j:Int),s,c,ground,f⟩=some (decide (ng f (l.get j))):=fun t u=>by
   unfold jL
   simp only [Int.toNat_natCast]
   exact afS _ _
  have tk:=UH l j lX
  simp only [e0,w1,Int.toNat_natCast,cond_true,Bool.and_self,Option.isSome_some,Option.getD_some,decide_eq_true h,decide_eq_true (show (0:Int)≤(j:Int) by omega),decide_eq_true i1,decide_eq_true i2]
  have hb:(s.items.get (Int.toNat (l.get j).item)).look.Ik=fQ s (l.get j):=rfl
  have hq:((l.get j).d==f.d&&((l.get j).item==f.item&&((l.get j).cV==f.cV&&((l.get j).part==f.part&&((l.get j).u==f.u&&((l.get j).v==f.v&&true))))))=PD (l.get j) f:=rfl
  rw [hb,hq]
  have n1:((eV l).take (j+1)).any (fun g=>!fQ s g&&PD g f)=(((eV l).take j).any (fun g=>!fQ s g&&PD g f)||(!fQ s (l.get j)&&PD (l.get j) f)):=by rw [tk]; exact acw
  have n2:((eV l).take (j+1)).any (fun g=>!fQ s g)=(((eV l).take j).any (fun g=>!fQ s g)||!fQ s (l.get j)):=by rw [tk]; exact acw
  cases SQ:fQ s (l.get j) with
  | true=>
   rw [SQ] at n1 n2
   rw [cond_true]
   refine .inl ⟨_,rfl,lX,?_,by omega⟩
   rw [n1,n2]
   simp
  | false=>
   rw [SQ] at n1 n2
   rw [cond_false]
   have hor:=dT j lX SQ
   cases ht:((eV l).take j).any (fun g=>!fQ s g&&PD g f) with
   | true=>
    rw [ht] at n1
    rw [cond_true]
    cases he:PD (l.get j) f with
    | true=>
     simp only [Bool.not_true,cond_false]
     refine .inl ⟨_,rfl,lX,?_,by omega⟩
     rw [n1,n2]
     simp
    | false=>
     have hN:ng f (l.get j):=hor.resolve_left fun e=>by rw [(aaQ _ _).2 e] at he; simp at he
     rw [decide_eq_true hN]
     simp only [Bool.not_true,Bool.not_false,cond_true,cond_false]
     refine .inl ⟨_,rfl,lX,?_,by omega⟩
     rw [n1,n2]
     simp
   | false=>
    rw [ht] at n1
    rw [cond_false]
    cases he:PD (l.get j) f with
    | true=>
     rw [he] at n1
     simp only [Bool.not_true,cond_false]
     refine .inl ⟨_,rfl,lX,?_,by omega⟩
     rw [n1,n2]
     simp
    | false=>
     rw [he] at n1
     have hN:ng f (l.get j):=hor.resolve_left fun e=>by rw [(aaQ _ _).2 e] at he; simp at he
     rw [decide_eq_true hN]
     simp only [Bool.not_true,Bool.not_false,cond_true,cond_false]
     refine .inl ⟨_,rfl,lX,?_,by omega⟩
     rw [n1,n2]
     simp
 ·simp only [cond_false,decide_eq_false h]
  refine .inr ⟨_,_,rfl,rfl,rfl,(j:Int),?_⟩
  have:((eV l).take j)=eV l:=List.take_of_length_le (by rw [oI]; omega)
  rw [this]
theorem U5 (s:Show) (c:aU) (ground:Color) (x y:Int):vI s c ground x y=some true:=by
 obtain ⟨gr,Ts⟩:=Pm (afR s)
 have e0:xQ s c ground x y=some gr:=Ts
 unfold vI
 simp only [e0,Option.isSome_some,Option.getD_some,cond_true]
 cases gr with
 | true=>rfl
 | false=>
 rw [cond_false]
 rcases atP s c ground x y with ⟨e,he,⟨l,h1⟩,h2,h3⟩ | ⟨r,l,hr,ho,hs,hc,ha,hx,hy,h1,hl,h2,h3⟩
 ·have e1:m8 s c ground x y=some (l,e):=h1
  have e2:j7 s c ground x y=some (⟨0,0,0,0,0,0⟩,false,e):=h2
  simp only [e1,e2,Option.isSome_some,Option.getD_some,cond_true,show (e != (0:Int))=true by simpa using he,beq_self_eq_true,Bool.not_false]
 ·have e1:m8 s c ground x y=some (l,0):=h1
  have e2:j7 s c ground x y=some (cond (ob s c x y).2 (ob s c x y).1 ⟨0,0,0,0,0,0⟩,(ob s c x y).2,0):=h2
  have hp:aks s (pt x y (mT s c)) (ob s c x y):=acp _ _
  have hln:l.n≤98304:=by
   rw [← oI l,hl]
   refine Nat.le_trans (akq _ _ _) ?_
   rw [← hr.parts,oI]
   exact hr.n
  have inL:∀ j,j < l.n→l.get j∈pt x y (mT s c):=fun j hj=>by rw [← hl]; exact Ly hj
  have dT:∀ j,j < l.n→fQ s (l.get j)=false→l.get j=(cond (ob s c x y).2 (ob s c x y).1 ⟨0,0,0,0,0,0⟩)∨ng (cond (ob s c x y).2 (ob s c x y).1 ⟨0,0,0,0,0,0⟩) (l.get j):=fun j hj hb=>by
   rcases hp with ⟨p1,p2,p3⟩ | ⟨p1,p2,p3,p4⟩
   ·have:=p3 _ (inL j hj)
    rw [hb] at this; simp at this
   ·rw [p1,cond_true]
    by_cases hq:l.get j=(ob s c x y).1
    ·exact .inl hq
    ·exact .inr (afI p2 (inL j hj) (p4 _ (inL j hj) hb) hq)
  obtain ⟨i,hz⟩:=agW s c ground x y l (ob s c x y).2 (cond (ob s c x y).2 (ob s c x y).1 ⟨0,0,0,0,0,0⟩) hln (fun j hj=>UR (inL j hj)) dT
  have e3:ai s c ground x y = .out (.exit 0) ⟨x,y,false,true,l,(ob s c x y).2,0,(eV l).any (fun g=>!fQ s g&&PD g (cond (ob s c x y).2 (ob s c x y).1 ⟨0,0,0,0,0,0⟩)),(eV l).any (fun g=>!fQ s g),i,s,c,ground,(cond (ob s c x y).2 (ob s c x y).1 ⟨0,0,0,0,0,0⟩)⟩:=by
   unfold ai
   rw [e1,e2]
   exact hz
  obtain ⟨fr,hi,hf⟩:=afQ s c r ground hr ho hc ha
  have e4:aF s c ground x y=some (fr,0):=by
   unfold aF
   rw [e3]
   exact hi
  have e5:cG s c ground x y=some (aaK r ground x y,0):=by
   unfold cG
   rw [e3]
   exact h3
  obtain ⟨_,_,_,⟨cw1,cw2⟩,ch1,ch2⟩:=hc
  have q1:Int.toNat y * Int.toNat c.w≤(Int.toNat c.h - 1) * Int.toNat c.w:=Nat.mul_le_mul_right _ (by omega)
  have q2:(Int.toNat c.h - 1) * Int.toNat c.w=Int.toNat c.h * Int.toNat c.w - Int.toNat c.w:=by rw [Nat.sub_mul,Nat.one_mul]
  have q3:Int.toNat c.h * Int.toNat c.w≤64 * 64:=Nat.mul_le_mul (by omega) (by omega)
  have q4:Int.toNat c.w≤Int.toNat c.h * Int.toNat c.w:=Nat.le_mul_of_pos_left _ (by omega)
  have q5:y * c.w=((Int.toNat y * Int.toNat c.w:Nat):Int):=by
   rw [Int.natCast_mul,Int.toNat_of_nonneg (by omega),Int.toNat_of_nonneg (by omega)]
  have hA:ak (ak (y * c.w)+x)=((Int.toNat y * Int.toNat c.w+Int.toNat x:Nat):Int):=by
   rw [q5,bz (n:=((Int.toNat y * Int.toNat c.w:Nat):Int)) (by omega) (by omega),bz (n:=((Int.toNat y * Int.toNat c.w:Nat):Int)+x) (by omega) (by omega)]
   omega
  have hq:Int.toNat y * Int.toNat c.w+Int.toNat x < Int.toNat c.h * Int.toNat c.w:=by omega
  have m1:(Int.toNat y * Int.toNat c.w+Int.toNat x) % Int.toNat c.w=Int.toNat x:=by rw [Nat.mul_comm,Nat.mul_add_mod,Nat.mod_eq_of_lt (by omega)]
  have m2:(Int.toNat y * Int.toNat c.w+Int.toNat x) / Int.toNat c.w=Int.toNat y:=by rw [Nat.mul_comm,Nat.mul_add_div (by omega),Nat.div_eq_of_lt (by omega),Nat.add_zero]
  obtain ⟨n1,n2,n3,n4,p1,p2,p3,p4⟩:=hf
  have r1:=p1 _ hq
  have r2:=p2 _ hq
  have r3:=p3 _ hq
  have r4:=p4 _ hq
  rw [m1,m2,Int.toNat_of_nonneg hx.1,Int.toNat_of_nonneg hy.1] at r1 r2 r3 r4
  clear p1 p2 p3 p4
  generalize Int.toNat y * Int.toNat c.w+Int.toNat x=q at *
  generalize Int.toNat c.h * Int.toNat c.w=m at *
  have s1:(eV l).any (fun g=>!fQ s g)=(ob s c x y).2:=by
   rw [hl]
   rcases hp with ⟨p1,p2,p3⟩ | ⟨p1,p2,p3,p4⟩
   ·rw [p1]
    refine List.any_eq_false.2 fun g hg=>?_
    rw [p3 g hg]; simp
   ·rw [p1]
    refine List.any_eq_true.2 ⟨_,p2,?_⟩
    rw [p3]; rfl
  have s2:(ob s c x y).2=true→(eV l).any (fun g=>!fQ s g&&PD g (ob s c x y).1)=true:=fun h=>by
   rw [hl]
   rcases hp with ⟨p1,p2,p3⟩ | ⟨p1,p2,p3,p4⟩
   ·rw [h] at p1; simp at p1
   ·refine List.any_eq_true.2 ⟨_,p2,?_⟩
    rw [p3,(aaQ _ _).2 rfl]; rfl
  have hno:(ob s c x y).2=false→(ob s c x y).1=XA:=fun h=>by
   rcases hp with ⟨p1,p2,p3⟩ | ⟨p1,p2,p3,p4⟩
   ·exact p2
   ·rw [h] at p1; simp at p1
  simp only [e1,e2,e4,e5,Option.isSome_some,Option.getD_some,cond_true,bne_self_eq_false,cond_false]
  rw [e3,s1]
  simp only [aJ.kk,aJ.kK,fR,Nat.beq_refl,cond_true,cond_false,bne_self_eq_false,hA,n1,n2,n3,n4,decide_eq_false (show ¬ ((q:Nat):Int) ≥ ((m:Nat):Int) by omega),decide_eq_true (show ((q:Nat):Int) < ((m:Nat):Int) by omega),decide_eq_true (show (0:Int)≤((q:Nat):Int) by omega),Int.toNat_natCast,Bool.and_self,r1,r2,r3,r4,beq_self_eq_true]
  cases hb:(ob s c x y).2 with
  | false=>
   have:=hno hb
   simp only [this,Bool.not_false,cond_true,cond_false]
   cases (eV l).any (fun g=>!fQ s g&&PD g ⟨0,0,0,0,0,0⟩) <;> rfl
  | true=>
   simp only [s2 hb,Bool.not_true,cond_true,cond_false,beq_self_eq_true]
end Go.Proofs.Ytahhdndhkgbcjaa.b
end
section
namespace Go.aG
open Go.RowKit Go.WideShapes Go.ChangeShapes
theorem afT {H:Type} {enc:TypeId×Value→H} {P:Program} {f:Func} {s:ChangeSpec} {apart fresh handsOn again:Bool} {W W' : World} {args:Array Value} {v:Value} {ds gs:List (DataW H)} {before pa pv:List MemPlace}
  (whole:DataW.Whole enc P f.params.toList s.vars apart W args.toList ds gs before) (below:Below W.heap.size W W') (XE:before=pa++pv)
  (res:∀ (b:Nat) (sp:Nat→Bool) (hd:Bool),DataW.TrodAll enc P W' b sp hd f.resultTypes.toList (v.resultList f.resultTypes.size) (s.fn H (ds++gs)).results [])
  (arg:∀ sp:Nat→Bool,(∀ p∈before,sp p.block=true)→DataW.TrodAll enc P W' 0 sp true f.params.toList args.toList (s.fn H (ds++gs)).args pa)
  (var:∀ sp:Nat→Bool,(∀ p∈before,sp p.block=true)→DataW.TrodVars enc P W' sp s.vars (s.fn H (ds++gs)).vars pv)
  (wide:∀ (j:Nat) (t:TypeId) (r:Value),f.resultTypes[j]? = some t→(v.resultList f.resultTypes.size)[j]? = some r→Value.okWide P W' .any 0 t r) :
  s.post enc P f apart fresh handsOn again W args v W':=by
 have lt:∀ p∈before,p.block < W.heap.size:=fun p hp=>whole.lt p hp
 have gY:∀ p∈before,(fun b=>decide (b < W.heap.size)) p.block=true:=fun p hp=>by simpa using lt p hp
 refine ⟨ds,gs,before,[],pa,pv,whole,res _ _ _,arg _ gY,var _ gY,World.keptBut_mono (fun p hp=>⟨hp,?_⟩) (below.frame (·∈before)),fun _=>?_⟩
 ·rw [XE,List.mem_append] at hp; exact Or.inr hp
 ·obtain ⟨_,_,_,_,_,fz,nd⟩:=whole
  refine ⟨wide,_,_,([]++pa)++pv,⟨[]++pa,pv,trodAll_append (arg _ (fun _ _=>rfl)) (res _ _ _),var _ (fun _ _=>rfl),rfl,fun b off hp=>?_,fun ha=>?_⟩,fun p hp _=>?_⟩
  ·have here:MemPlace.cell b off∈before:=by rw [XE]; simpa using hp
   rw [below.frozen (lt _ here)]
   exact fz b off here
  ·have:=nd ha
   rw [XE] at this
   simpa using this
  ·rw [XE]; simpa using hp
end Go.aG
end
section
namespace Go.K
open Go Go.aG Go.RowKit Go.WideShapes Go.ChangeShapes
section
variable {H:Type} {enc:TypeId×Value→H} {P:Program} {W W' : World}
theorem SH {base:Nat} {sp:Nat→Bool} {held:Bool} : ∀ {ts:List TypeId} {vs:List Value} {ds:List (DataW H)} {ps:List MemPlace},DataW.TrodAll enc P W base sp held ts vs ds ps→ds.length=ts.length
 | [],_,_,_,h=>by
  obtain ⟨rfl,rfl,rfl⟩:=trodAll_nil h
  rfl
 | t::ts,vs,ds,ps,h=>by
  obtain ⟨v,vs1,d,ds1,a,b,rfl,rfl,rfl,_,h2⟩:=trodAll_cons h
  simp [SH h2]
theorem Hb {α:Type} {n:Nat} {l:List α} (h:l.length=n+1):∃ x xs,l=x::xs:=by
 cases l with
 | nil=>simp at h
 | cons x xs=>exact ⟨x,xs,rfl⟩
theorem LJ (hl:laidOutB P=true) (hb:Below W.heap.size W W') {sp:Nat→Bool} : ∀ {ts:List TypeId} {vs:List Value} {ds:List (DataW H)} {ps:List MemPlace},ts.all (fun t=>P.readableRec t&&Nat.blt t P.types.size)=true→
  DataW.TrodAll enc P W 0 (fun _=>true) true ts vs ds ps→(∀ x∈ps,x.block < W.heap.size)→(∀ x∈ps,sp x.block=true)→DataW.TrodAll enc P W' 0 sp true ts vs ds ps
 | [],_,_,_,_,h,_,_=>by
  obtain ⟨rfl,rfl,rfl⟩:=trodAll_nil h
  exact trodAll_mk0
 | t::ts,vs,ds,ps,ht,h,bX,uR=>by
  obtain ⟨v,vs1,d,ds1,a,b,rfl,rfl,rfl,h1,h2⟩:=trodAll_cons h
  simp only [List.all_cons,Bool.and_eq_true] at ht
  obtain ⟨⟨hr,jD⟩,ht⟩:=ht
  rw [Nat.blt_eq] at jD
  refine ⟨a,b,WideElems.Trod_stays hl hr jD h1 (fun x hx=>hb.same (bX x (by simp [hx]))) (fun x hx=>uR x (by simp [hx])),?_,rfl⟩
  exact LJ hl hb ht h2 (fun x hx=>bX x (by simp [hx])) (fun x hx=>uR x (by simp [hx]))
theorem aiN {s:ChangeSpec} {f:Func} {apart fresh handsOn again:Bool} {args:Array Value} {ds gs:List (DataW H)} {before:List MemPlace} (hl:laidOutB P=true) (hts:f.params.toList.all (fun t=>P.readableRec t&&Nat.blt t P.types.size)=true)
  (akz:s.vars = []) (al9:(s.fn H ds).args=ds) (aeW:(s.fn H ds).results = [.lit (.bool true)]) (hv:(s.fn H ds).vars = []) {t:TypeId} (hrt:f.resultTypes = #[t]) (hb:P.underlying t=some .bool)
  (hW:DataW.Whole enc P f.params.toList s.vars apart W args.toList ds gs before) (hg:Below W.heap.size W W'):s.post enc P f apart fresh handsOn again W args (.bool true) W':=by
 have hW':=hW
 obtain ⟨p,q,hA,hV,alD,_,_⟩:=hW
 rw [akz] at hV
 obtain ⟨rfl,rfl⟩:=trodVars_none hV
 rw [List.append_nil] at alD
 subst alD
 have bX:∀ x∈before,x.block < W.heap.size:=fun x hx=>hW'.lt x (by simpa using hx)
 refine aG.afT (pa:=before) (pv:=[]) hW' hg (by simp) (fun b sp hd=>?_) (fun sp uR=>?_) (fun sp uR=>?_) (ok_one hrt rfl (okWide_bool_mk hb _))
 ·rw [List.append_nil,aeW,hrt]
  exact trodAll_cons_mk (shut_bool hb _) trodAll_mk0
 ·rw [List.append_nil,al9]
  exact LJ hl hg hts hA bX (fun x hx=>uR x (by simpa using hx))
 ·rw [List.append_nil,hv,akz]
  rfl
end
end Go.K
end
