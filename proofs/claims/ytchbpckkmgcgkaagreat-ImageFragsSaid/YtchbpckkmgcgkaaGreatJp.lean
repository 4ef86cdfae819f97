/- Part of the proof of ImageFrags: the machine, shown to be the model's, and plain models. No conditions. -/
import Derived.Test.YtchbpckkmgcgkaaGreatIp
import Derived.Test.YtchbpckkmgcgkaaGreatHp
import Derived.Test.YtchbpckkmgcgkaaGreatGp
set_option linter.unusedSimpArgs false
set_option linter.unusedVariables false
section
namespace Go.Proofs.YtchbpckkmgcgkaaGreat.b
open Go.K Go.K.iK
open Go.aE (aq)
theorem afu (h:aH) (D:Sl aL) (a b n:Nat) (h1:a+n<=b) (h2:b+n<=D.n) (h3:D.n<=10000000000) :
  ∃ e y,goN dx ⟨D,(a:Int),(b:Int),(n:Int),(0:Int),h⟩ = .out e y/\(e = .exit 0/\y.a=(a:Int)/\y.b=(b:Int)/\y.n=(n:Int)/\y.iL=h/\y.data.n=D.n/\∀ t,y.data.get t=Hs D.get a b n t):=by
 refine bt (step:=dx) (fun j y=>y.a=(a:Int)/\y.b=(b:Int)/\y.n=(n:Int)/\y.iL=h/\y.i=(j:Int)/\j<=n/\y.data.n=D.n/\∀ t,y.data.get t=Hs D.get a b j t) (fun e y=>e = .exit 0/\y.a=(a:Int)/\y.b=(b:Int)/\y.n=(n:Int)/\y.iL=h/\y.data.n=D.n/\∀ t,y.data.get t=Hs D.get a b n t) n (by have:gv=1000000000000:=rfl; omega) (fun j y hj ⟨f1,f2,f3,f4,f5,f6,f7,f8⟩=>?_) ⟨rfl,rfl,rfl,rfl,rfl,dq _,rfl,fun t=>by rw [Hs,aB (by omega),aB (by omega)]⟩;unfold dx bh aR;simp only [f1,f2,f3,f5,f7,aI,ai];by_cases bu:j < n
 ·rw [au (show (j:Int) < (n:Int) by omega),ai,aiz (by omega),aiz (by omega),inB (by omega),inB (by omega),ZA (by omega)]
  simp only [ai,bU];refine .inl ⟨_,rfl,bu,rfl,rfl,rfl,f4,rfl,bu,by rw [aqE]; exact f7,fun t=>?_⟩;rw [WX,arF D.get (by omega) t,f8,f8,f8,bk,bk]
 ·rw [ay (show ¬ (j:Int) < (n:Int) by omega),aw]
  have:j=n:=by omega
  subst this;exact .inr ⟨_,_,rfl,rfl,rfl,f1,f2,f3,f4,f7,f8⟩
theorem JL (h:aH) (D:Sl aL) (a b n:Nat) (h1:a+n<=b) (h2:b+n<=D.n) (h3:D.n<=10000000000) :
  ∃ D',gd ⟨D,(a:Int),(b:Int),(n:Int),h⟩ = .out .ret ⟨D',(a:Int),(b:Int),(n:Int),h⟩/\D'.n=D.n/\∀ t,D'.get t=Hs D.get a b n t:=by
 obtain ⟨e,y,hy,rfl,y1,y2,y3,y4,y5,y6⟩:=afu h D a b n h1 h2 h3;have e0:en ⟨D,(a:Int),(b:Int),(n:Int),h⟩ = .out (.exit 0) y:=hy;refine ⟨y.data,?_,y5,y6⟩;unfold gd kT aR;rw [e0];simp only [aI,ai,aK.lF,aK.lU,gq,nA,y1,y2,y3,y4]
theorem aiB (h:aH) (D:Sl aL) (a m b:Nat) (h1:a < m) (h2:m < b) (h4:b<=D.n) (h3:D.n<=10000000000) :
  ∃ e y,goN dU ⟨D,(a:Int),(m:Int),(b:Int),((m - a:Nat):Int),((b - m:Nat):Int),h⟩ = .out e y/\(e = .exit 0/\y.a=(a:Int)/\y.m=(m:Int)/\y.b=(b:Int)/\y.iL=h/\y.data.n=D.n/\
   ∃ i:Nat,1<=i/\a+i<=m/\m+i<=b/\y.i=(i:Int)/\y.j=(i:Int)/\(∀ t,t < m - i\/m+i<=t->y.data.get t=KD D.get a m b t)/\(∀ t,m - i<=t->t < m->KD D.get a m b t=y.data.get (t+i))/\∀ t,m<=t->t < m+i->KD D.get a m b t=y.data.get (t - i)):=by
 refine bt (step:=dU) (fun k y=>y.a=(a:Int)/\y.m=(m:Int)/\y.b=(b:Int)/\y.iL=h/\y.data.n=D.n/\
   ∃ i j:Nat,1<=i/\1<=j/\a+i<=m/\m+j<=b/\i+j+k<=b - a/\y.i=(i:Int)/\y.j=(j:Int)/\(∀ t,t < m - i\/m+j<=t->y.data.get t=KD D.get a m b t)/\(∀ t,m - i<=t->t < m - i+j->KD D.get a m b t=y.data.get (t+i))/\∀ t,m - i+j<=t->t < m+j->KD D.get a m b t=y.data.get (t - j)) _ (b - a) (by have:gv=1000000000000:=rfl; omega) (fun k y hk ⟨f1,f2,f3,f4,f5,i,j,g1,g2,g3,g4,g5,g6,g7,g8,g9,g10⟩=>?_) ?_
 ·unfold dU aR
  by_cases he:i=j
  ·subst he
   rw [g6,g7,hU,aw,aI,ai];exact .inr ⟨_,_,rfl,rfl,rfl,f1,f2,f3,f4,f5,i,g1,g3,g4,g6,g7,g8,fun t q1 q2=>g9 t q1 (by omega),fun t q1 q2=>g10 t (by omega) q2⟩
  ·rw [g6,g7,show ((i:Int) != (j:Int))=true by simpa using (show ¬ (i:Int)=(j:Int) by omega),ai]
   by_cases hgt:j < i
   ·rw [au (show (i:Int) > (j:Int) by omega),ai]
    obtain ⟨D',q1,q2,q3⟩:=JL h y.data (m - i) m j (by omega) (by omega) (by omega);have e0:gN y = .out .ret ⟨D',((m - i:Nat):Int),(m:Int),(j:Int),h⟩:=by
     unfold gN;rw [f2,g6,g7,f4,I1 (by omega) (by omega)];exact q1
    rw [e0];simp only [aI,ai,aK.lF,aK.lU,gq,q2];refine .inl ⟨_,rfl,by omega,f1,f2,f3,rfl,by rw [q2]; exact f5,i - j,j,by omega,g2,by omega,g4,by omega,I1 (by omega) (by omega),rfl,fun t ht=>?_,fun t t1 t2=>?_,fun t t1 t2=>?_⟩
    ·rw [q3]
     by_cases Dz:m - i<=t/\t < m - i+j
     ·rw [Hs,aW Dz,g9 t Dz.1 Dz.2]; congr 1; omega
     ·rw [Hs,aB Dz,aB (by omega)]; exact g8 t (by omega)
    ·rw [q3,Hs,aB (by omega),aW (by omega),g10 t (by omega) (by omega)]; congr 1; omega
    ·rw [q3,Hs,aB (by omega),aB (by omega),g10 t (by omega) (by omega)]
   ·rw [ay (show ¬ (i:Int) > (j:Int) by omega),aw]
    obtain ⟨D',q1,q2,q3⟩:=JL h y.data (m - i) (m+j - i) i (by omega) (by omega) (by omega);have e0:gP y = .out .ret ⟨D',((m - i:Nat):Int),((m+j - i:Nat):Int),(i:Int),h⟩:=by
     unfold gP;rw [f2,g6,g7,f4,I1 (by omega) (by omega),aiz (by omega),I1 (by omega) (by omega)];exact q1
    rw [e0];simp only [aI,ai,aK.lF,aK.lU,gq,q2];refine .inl ⟨_,rfl,by omega,f1,f2,f3,rfl,by rw [q2]; exact f5,i,j - i,g1,by omega,g3,by omega,by omega,rfl,I1 (by omega) (by omega),fun t ht=>?_,fun t t1 t2=>?_,fun t t1 t2=>?_⟩
    ·rw [q3]
     by_cases Dz:m+j - i<=t/\t < m+j - i+i
     ·rw [Hs,aB (by omega),aW Dz,g10 t (by omega) (by omega)]; congr 1; omega
     ·rw [Hs,aB (by omega),aB Dz]; exact g8 t (by omega)
    ·rw [q3,Hs,aB (by omega),aB (by omega),g9 t (by omega) (by omega)]
    ·rw [q3,Hs,aW (by omega),g9 t (by omega) (by omega)]; congr 1; omega
 ·refine ⟨rfl,rfl,rfl,rfl,rfl,m - a,b - m,by omega,by omega,by omega,by omega,by omega,rfl,rfl,fun t ht=>?_,fun t t1 t2=>?_,fun t t1 t2=>?_⟩
  ·rw [Qs (by omega) (by omega) (by omega)]
  ·rw [WT (by omega) (by omega)]
  ·rw [Sn (by omega) (by omega)]
theorem aiC (h:aH) (D:Sl aL) (a m b:Nat) (h1:a < m) (h2:m < b) (h4:b<=D.n) (h3:D.n<=10000000000) :
  ∃ D',eS ⟨D,(a:Int),(m:Int),(b:Int),h⟩ = .out .ret ⟨D',(a:Int),(m:Int),(b:Int),h⟩/\D'.n=D.n/\∀ t,D'.get t=KD D.get a m b t:=by
 obtain ⟨e,y,hy,rfl,y1,y2,y3,y4,y5,i,i1,i2,i3,i4,i5,i6,i7,i8⟩:=aiB h D a m b h1 h2 h4 h3;have e0:bS ⟨D,(a:Int),(m:Int),(b:Int),h⟩ = .out (.exit 0) y:=by
  unfold bS;rw [I1 (by omega) (by omega),I1 (by omega) (by omega)];exact hy
 obtain ⟨D',q1,q2,q3⟩:=JL h y.data (m - i) m i (by omega) (by omega) (by omega);have e1:iv ⟨D,(a:Int),(m:Int),(b:Int),h⟩ = .out .ret ⟨D',((m - i:Nat):Int),(m:Int),(i:Int),h⟩:=by
  unfold iv;rw [e0];simp only [aK.lU,y2,i4,y4];rw [I1 (by omega) (by omega)];exact q1
 refine ⟨D',?_,q2.trans y5,fun t=>?_⟩
 ·unfold eS mZ aR
  rw [e0,e1];simp only [aI,ai,aK.lF,aK.lU,gq,nA,y1,y2,y3,q2]
 ·rw [q3]
  by_cases c1:m - i<=t/\t < m - i+i
  ·rw [Hs,aW c1,i7 t (by omega) (by omega)]; congr 1; omega
  ·by_cases c2:m<=t/\t < m+i
   ·rw [Hs,aB c1,aW c2,i8 t c2.1 c2.2]; congr 1; omega
   ·rw [Hs,aB c1,aB c2]; exact i6 t (by omega)
def bZ (h:aH) (d:aL):Int:=(h.cQ.items.get (Int.toNat d.item)).look.bin
def jm (h:aH) (d:aL):Bool:=(decide ((0:Int)<=d.item))&&(decide (d.item < ((h.cQ.items.n:Nat):Int)))
theorem aiD (h:aH) (D:Sl aL) (a b i:Nat) (h1:a<=i) (h2:i < D.n) (h3:D.n<=10000000000) (cm:∀ t,t < D.n->jm h (D.get t)=true) :
  ∃ e y,goN cA ⟨D,(a:Int),(b:Int),(i:Int),(i:Int),h⟩ = .out e y/\(e = .exit 2/\y.a=(a:Int)/\y.b=(b:Int)/\y.i=(i:Int)/\y.fZ=h/\y.data.n=D.n/\∃ j:Nat,a<=j/\j<=i/\(∀ t,y.data.get t=ins D.get j i t)/\(∀ t,j<=t->t < i->bZ h (D.get i) < bZ h (D.get t))/\(j=a\/¬ bZ h (D.get i) < bZ h (D.get (j - 1)))):=by
 refine bt (step:=cA) (fun k y=>y.a=(a:Int)/\y.b=(b:Int)/\y.i=(i:Int)/\y.fZ=h/\y.data.n=D.n/\a+k<=i/\y.j=((i - k:Nat):Int)/\(∀ t,y.data.get t=ins D.get (i - k) i t)/\∀ t,i - k<=t->t < i->bZ h (D.get i) < bZ h (D.get t)) _ (i - a) (by have:gv=1000000000000:=rfl; omega) (fun k y hk ⟨f1,f2,f3,f4,f5,f6,f7,f8,f9⟩=>?_) ⟨rfl,rfl,rfl,rfl,rfl,by omega,by simp,fun t=>by rw [Nat.sub_zero,akx],fun t t1 t2=>by omega⟩;unfold cA bh aR;by_cases bu:a < i - k
 ·have g1:y.data.get (0+Int.toNat ((i - k:Nat):Int))=D.get i:=by rw [bU,bk,f8,NM]
  have g2:y.data.get (0+Int.toNat ((i - k - 1:Nat):Int))=D.get (i - k - 1):=by rw [bU,bk,f8,Ds (by omega)]
  obtain ⟨r,r1,r2⟩:=WY (bZ h (D.get i)) (bZ h (D.get (i - k - 1)));have e0:iq y=some r:=by
   unfold iq;rw [f7,aiA (by omega) (by omega),g1,g2,f4];exact r1
  have o1:((decide ((0:Int)<=(D.get i).item))&&(decide ((D.get i).item < ((h.cQ.items.n:Nat):Int))))=true:=cm i h2;have o2:((decide ((0:Int)<=(D.get (i - k - 1)).item))&&(decide ((D.get (i - k - 1)).item < ((h.cQ.items.n:Nat):Int))))=true:=cm _ (by omega);rw [f7,f1,au (show ((i - k:Nat):Int) > (a:Int) by omega),ai,f5,inB (by omega),ai,aiA (by omega) (by omega),inB (by omega),ai,g1,g2,f4,o1,o2,e0];simp only [ai,bj,bc,aI,r2];by_cases hc:bZ h (D.get i) < bZ h (D.get (i - k - 1))
  ·rw [au hc,ai]
   refine .inl ⟨_,rfl,by omega,rfl,f2,f3,rfl,by rw [aqE]; exact f5,by omega,by rw [show i - (k+1)=i - k - 1 by omega],fun t=>?_,fun t t1 t2=>?_⟩
   ·rw [WX,show i - (k+1)=i - k - 1 by omega,akz (by omega) (by omega),bU,bU,NM,Ds (by omega),f8]
   ·by_cases e:t=i - k - 1
    ·rw [e]; exact hc
    ·exact f9 t (by omega) t2
  ·rw [ay hc,aw]
   exact .inr ⟨_,_,rfl,rfl,rfl,f1,f2,f3,f4,f5,i - k,by omega,by omega,f8,f9,.inr hc⟩
 ·rw [f7,f1,ay (show ¬ ((i - k:Nat):Int) > (a:Int) by omega),aw,aI,ai]
  exact .inr ⟨_,_,rfl,rfl,rfl,f1,f2,f3,f4,f5,i - k,by omega,by omega,f8,f9,.inl (by omega)⟩
def bR (h:aH) (hZ:aL->aL->Prop):iK.Ord aL:=⟨bZ h,hZ⟩
theorem QM (h:aH) (hZ:aL->aL->Prop) (D:Sl aL) (a b:Nat) (h1:a<=b) (h2:b<=D.n) (h3:D.n<=10000000000) (cm:∀ t,t < D.n->jm h (D.get t)=true) (hr:∀ s t,a<=s->s < t->t < b->hZ (D.get s) (D.get t)) :
  ∃ D',gf ⟨D,(a:Int),(b:Int),h⟩ = .out .ret ⟨D',(a:Int),(b:Int),h⟩/\D'.n=D.n/\Perm D.get D'.get a b/\hX (bR h hZ) D'.get a b:=by
 have av1:∃ e y,goN cF ⟨D,(a:Int),(b:Int),((a+1:Nat):Int),h⟩ = .out e y/\(e = .exit 0/\y.a=(a:Int)/\y.b=(b:Int)/\y.fZ=h/\y.data.n=D.n/\Perm D.get y.data.get a b/\hX (bR h hZ) y.data.get a b):=by
  refine bt (step:=cF) (fun k y=>y.a=(a:Int)/\y.b=(b:Int)/\y.i=((a+1+k:Nat):Int)/\y.fZ=h/\y.data.n=D.n/\(k=0\/a+1+k<=b)/\Perm D.get y.data.get a (a+1+k)/\hX (bR h hZ) y.data.get a (a+1+k)) _ (b - a) (by have:gv=1000000000000:=rfl; omega) (fun k y hk ⟨f1,f2,f3,f4,f5,f6,f7,f8⟩=>?_) ⟨rfl,rfl,rfl,rfl,rfl,.inl rfl,.refl _ _ _,.one (by omega)⟩;unfold cF aR;by_cases bu:a+1+k < b
  ·have ad7:∀ t,t < y.data.n->jm h (y.data.get t)=true:=fun t ht=>by
    rw [f5] at ht;by_cases Dz:a<=t/\t < a+1+k
    ·obtain ⟨j,j1,j2,e⟩:=f7.mem Dz.1 Dz.2
     rw [e]; exact cm j (by omega)
    ·rw [f7.2 t (by omega)]; exact cm t ht
   obtain ⟨e,z,hz,rfl,z1,z2,z3,z4,z5,j,j1,j2,j3,j4,j5⟩:=aiD h y.data a b (a+1+k) (by omega) (by omega) (by omega) ad7;have e0:ct y = .out (.exit 2) z:=by
    unfold ct;rw [f1,f2,f3,f4];exact hz
   rw [f3,f2,au (show ((a+1+k:Nat):Int) < (b:Int) by omega),ai,e0];simp only [aI,ai,aK.lF,aK.lU,gq,nA];have avq:z.data.get=ins y.data.get j (a+1+k):=funext j3;refine .inl ⟨_,rfl,by omega,z1,z2,(by show ak (z.i+1)=_; rw [z3,ZA (by omega)]; rfl),z4,by rw [z5]; exact f5,.inr (by omega),?_,?_⟩
   ·rw [avq]
    exact (f7.wide (aX _) (by omega) (by omega)).trans ((aky (a:=a) j1 j2).wide (aX _) (by omega) (by omega))
   ·rw [avq]
    refine aeF f8 (fun s t s1 s2 t1 t2=>?_) j1 j2 (fun s s1 s2=>?_) j4
    ·have:t=a+1+k:=by omega
     subst this;obtain ⟨s',p1,p2,e⟩:=f7.mem s1 s2;rw [e,f7.2 (a+1+k) (by omega)];exact hr s' _ p1 p2 bu
    ·rcases j5 with rfl | j5
     ·omega
     ·have:=f8.key (i:=s) (j:=j - 1) s1 (by omega) (by omega)
      have h5 : ¬ (bR h hZ).key (y.data.get (a+1+k)) < (bR h hZ).key (y.data.get (j - 1)):=j5;omega
  ·rw [f3,f2,ay (show ¬ ((a+1+k:Nat):Int) < (b:Int) by omega),aw,aI,ai]
   refine .inr ⟨_,_,rfl,rfl,rfl,f1,f2,f4,f5,?_,?_⟩
   ·rcases f6 with rfl | f6
    ·by_cases e:a=b
     ·subst e
      refine ⟨fun p=>by rw [Nat.sub_self]; rfl,fun i _=>?_⟩;by_cases hi:i=a
      ·subst hi
       have:=f7.1;obtain ⟨j,p1,p2,e⟩:=f7.mem (i:=i) (by omega) (by omega);rw [e]; congr 1; omega
      ·exact f7.2 i (by omega)
     ·rw [show b=a+1+0 by omega]; exact f7
    ·rw [show b=a+1+k by omega]; exact f7
   ·exact fun s t s1 s2 t1=>f8 s t s1 s2 (by omega)
 obtain ⟨e,y,hy,rfl,y1,y2,y3,y4,y5,y6⟩:=av1;have e0:dh ⟨D,(a:Int),(b:Int),h⟩ = .out (.exit 0) y:=by
  unfold dh;rw [ZA (by omega)];exact hy
 refine ⟨y.data,?_,y4,y5,y6⟩;unfold gf jl aR;rw [e0];simp only [aI,ai,aK.lF,aK.lU,gq,nA,y1,y2,y3]
theorem atF {n:Int} (h:0<=n) (h' : n < 18446744073709551616):uw n=n:=by
 show Go.IntKind.wrap .u64 n=n;unfold Go.IntKind.wrap;simp only [Go.IntKind.signed,Go.IntKind.bits]
 first | omega | (simp; omega)
theorem alZ {i j:Nat} (h:i+j<=100000000000):ak (Int.fdiv (uw (ak ((i:Int)+(j:Int)))) (2:Int))=(((i+j) / 2:Nat):Int):=by
 rw [aiz h,atF (by omega) (by omega),show Int.fdiv ((i+j:Nat):Int) (2:Int)=(((i+j) / 2:Nat):Int) from ?_,Dr (by omega) (by omega)];rw [Int.fdiv_eq_ediv_of_nonneg _ (by omega)];omega
theorem al0 (h:aH) (D:Sl aL) (hZ:aL->aL->Prop) (a m b:Nat) (h1:a+1=m) (h2:m<=b) (h4:b<=D.n) (h3:D.n<=10000000000) (cm:∀ t,t < D.n->jm h (D.get t)=true) (hs:hX (bR h hZ) D.get m b) :
  ∃ i:Nat,goN di ⟨D,(a:Int),(m:Int),(b:Int),(m:Int),(b:Int),h⟩ = .out (.exit 0) ⟨D,(a:Int),(m:Int),(b:Int),(i:Int),(i:Int),h⟩/\m<=i/\i<=b/\(∀ t,m<=t->t < i->bZ h (D.get t) < bZ h (D.get a))/\∀ t,i<=t->t < b->bZ h (D.get a)<=bZ h (D.get t):=by
 refine Exists.elim (bt (step:=di) (x:=⟨D,(a:Int),(m:Int),(b:Int),(m:Int),(b:Int),h⟩) (fun k y=>∃ i j:Nat,y=⟨D,(a:Int),(m:Int),(b:Int),(i:Int),(j:Int),h⟩/\m<=i/\i<=j/\j<=b/\j - i+k<=b - m/\(∀ t,m<=t->t < i->bZ h (D.get t) < bZ h (D.get a))/\∀ t,j<=t->t < b->bZ h (D.get a)<=bZ h (D.get t)) (fun e y=>e = .exit 0/\∃ i:Nat,y=⟨D,(a:Int),(m:Int),(b:Int),(i:Int),(i:Int),h⟩/\m<=i/\i<=b/\(∀ t,m<=t->t < i->bZ h (D.get t) < bZ h (D.get a))/\∀ t,i<=t->t < b->bZ h (D.get a)<=bZ h (D.get t)) (b - m) (by have:gv=1000000000000:=rfl; omega) (fun k y hk ⟨i,j,hy,g1,g2,g3,g4,g5,g6⟩=>?_) ⟨m,b,rfl,aX _,h2,aX _,by omega,fun t t1 t2=>by omega,fun t t1 t2=>by omega⟩) fun e ⟨y,hy,he,i,hi,q⟩=>⟨i,by rw [hy,he,hi],q⟩
 ·subst hy
  unfold di bh aR;by_cases bu:i < j
  ·have hh:=alZ (i:=i) (j:=j) (by omega)
   obtain ⟨r,r1,r2⟩:=WY (bZ h (D.get ((i+j) / 2))) (bZ h (D.get a));have e0:jU ⟨D,(a:Int),(m:Int),(b:Int),(i:Int),(j:Int),h⟩=some r:=by
    unfold jU;simp only [hh,bU,bk];exact r1
   have o1:((decide ((0:Int)<=(D.get ((i+j) / 2)).item))&&(decide ((D.get ((i+j) / 2)).item < ((h.cQ.items.n:Nat):Int))))=true:=cm _ (by omega);have o2:((decide ((0:Int)<=(D.get a).item))&&(decide ((D.get a).item < ((h.cQ.items.n:Nat):Int))))=true:=cm _ (by omega);simp only [hh,e0,au (show (i:Int) < (j:Int) by omega),ai,inB (show (i+j) / 2 < D.n by omega),inB (show a < D.n by omega),bU,bk,o1,o2,bj,bc,aI,r2];by_cases hc:bZ h (D.get ((i+j) / 2)) < bZ h (D.get a)
   ·rw [au hc,ai,ZA (by omega)]
    refine .inl ⟨_,rfl,by omega,(i+j) / 2+1,j,rfl,by omega,by omega,g3,by omega,fun t t1 t2=>?_,g6⟩;have:=hs.key (i:=t) (j:=(i+j) / 2) t1 (by omega) (by omega);exact Int.lt_of_le_of_lt this hc
   ·rw [ay hc,aw]
    refine .inl ⟨_,rfl,by omega,i,(i+j) / 2,rfl,g1,by omega,by omega,by omega,g5,fun t t1 t2=>?_⟩;have:=hs.key (i:=(i+j) / 2) (j:=t) (by omega) t1 t2;exact Int.le_trans (Int.not_lt.1 hc) this
  ·simp only [ay (show ¬ (i:Int) < (j:Int) by omega),aw,aI,ai]
   have:j=i:=by omega
   subst this;exact .inr ⟨_,_,rfl,rfl,rfl,j,rfl,g1,g3,g5,g6⟩
theorem al1 (h:aH) (D:Sl aL) (hZ:aL->aL->Prop) (a m b:Nat) (h2:a<=m) (h4:m < D.n) (h3:D.n<=10000000000) (cm:∀ t,t < D.n->jm h (D.get t)=true) (hs:hX (bR h hZ) D.get a m) :
  ∃ i:Nat,goN dj ⟨D,(a:Int),(m:Int),(b:Int),(a:Int),(m:Int),h⟩ = .out (.exit 4) ⟨D,(a:Int),(m:Int),(b:Int),(i:Int),(i:Int),h⟩/\a<=i/\i<=m/\(∀ t,a<=t->t < i->bZ h (D.get t)<=bZ h (D.get m))/\∀ t,i<=t->t < m->bZ h (D.get m) < bZ h (D.get t):=by
 refine Exists.elim (bt (step:=dj) (x:=⟨D,(a:Int),(m:Int),(b:Int),(a:Int),(m:Int),h⟩) (fun k y=>∃ i j:Nat,y=⟨D,(a:Int),(m:Int),(b:Int),(i:Int),(j:Int),h⟩/\a<=i/\i<=j/\j<=m/\j - i+k<=m - a/\(∀ t,a<=t->t < i->bZ h (D.get t)<=bZ h (D.get m))/\∀ t,j<=t->t < m->bZ h (D.get m) < bZ h (D.get t)) (fun e y=>e = .exit 4/\∃ i:Nat,y=⟨D,(a:Int),(m:Int),(b:Int),(i:Int),(i:Int),h⟩/\a<=i/\i<=m/\(∀ t,a<=t->t < i->bZ h (D.get t)<=bZ h (D.get m))/\∀ t,i<=t->t < m->bZ h (D.get m) < bZ h (D.get t)) (m - a) (by have:gv=1000000000000:=rfl; omega) (fun k y hk ⟨i,j,hy,g1,g2,g3,g4,g5,g6⟩=>?_) ⟨a,m,rfl,aX _,h2,aX _,by omega,fun t t1 t2=>by omega,fun t t1 t2=>by omega⟩) fun e ⟨y,hy,he,i,hi,q⟩=>⟨i,by rw [hy,he,hi],q⟩
 ·subst hy
  unfold dj bh aR;by_cases bu:i < j
  ·have hh:=alZ (i:=i) (j:=j) (by omega)
   obtain ⟨r,r1,r2⟩:=WY (bZ h (D.get m)) (bZ h (D.get ((i+j) / 2)));have e0:jV ⟨D,(a:Int),(m:Int),(b:Int),(i:Int),(j:Int),h⟩=some r:=by
    unfold jV;simp only [hh,bU,bk];exact r1
   have o1:((decide ((0:Int)<=(D.get ((i+j) / 2)).item))&&(decide ((D.get ((i+j) / 2)).item < ((h.cQ.items.n:Nat):Int))))=true:=cm _ (by omega);have o2:((decide ((0:Int)<=(D.get m).item))&&(decide ((D.get m).item < ((h.cQ.items.n:Nat):Int))))=true:=cm _ (by omega);simp only [hh,e0,au (show (i:Int) < (j:Int) by omega),ai,inB (show (i+j) / 2 < D.n by omega),inB h4,bU,bk,o1,o2,bj,bc,aI,r2];by_cases hc:bZ h (D.get m) < bZ h (D.get ((i+j) / 2))
   ·rw [au hc,iR,aw]
    refine .inl ⟨_,rfl,by omega,i,(i+j) / 2,rfl,g1,by omega,by omega,by omega,g5,fun t t1 t2=>?_⟩;have:=hs.key (i:=(i+j) / 2) (j:=t) (by omega) t1 t2;exact Int.lt_of_lt_of_le hc this
   ·rw [ay hc,sE,ai,ZA (by omega)]
    refine .inl ⟨_,rfl,by omega,(i+j) / 2+1,j,rfl,by omega,by omega,g3,by omega,fun t t1 t2=>?_,g6⟩;have:=hs.key (i:=t) (j:=(i+j) / 2) t1 (by omega) (by omega);exact Int.le_trans this (Int.not_lt.1 hc)
  ·simp only [ay (show ¬ (i:Int) < (j:Int) by omega),aw,aI,ai]
   have:j=i:=by omega
   subst this;exact .inr ⟨_,_,rfl,rfl,rfl,j,rfl,g1,g3,g5,g6⟩
theorem abD (h:aH) (D:Sl aL) (a m b cI s0 r0:Nat) (h1:s0<=r0) (h2:r0<=m) (h5:r0<=cI) (h6:cI+m<=b+s0) (h7:m<=b) (h4:b<=D.n) (h3:D.n<=10000000000) (h8:1<=m) (cm:∀ t,t < D.n->jm h (D.get t)=true) :
  ∃ s:Nat,goN cC ⟨D,(a:Int),(m:Int),(b:Int),(cI:Int),((cI+m:Nat):Int),(s0:Int),(r0:Int),((cI+m - 1:Nat):Int),h⟩ = .out (.exit 8) ⟨D,(a:Int),(m:Int),(b:Int),(cI:Int),((cI+m:Nat):Int),(s:Int),(s:Int),((cI+m - 1:Nat):Int),h⟩/\s0<=s/\s<=r0/\
   (s=s0\/(s0 < s/\bZ h (D.get (s - 1))<=bZ h (D.get (cI+m - s))))/\(s=r0\/(s < r0/\bZ h (D.get (cI+m - 1 - s)) < bZ h (D.get s))):=by
 refine Exists.elim (bt (step:=cC) (x:=⟨D,(a:Int),(m:Int),(b:Int),(cI:Int),((cI+m:Nat):Int),(s0:Int),(r0:Int),((cI+m - 1:Nat):Int),h⟩) (fun k y=>∃ i j:Nat,y=⟨D,(a:Int),(m:Int),(b:Int),(cI:Int),((cI+m:Nat):Int),(i:Int),(j:Int),((cI+m - 1:Nat):Int),h⟩/\s0<=i/\i<=j/\j<=r0/\j - i+k<=r0 - s0/\(i=s0\/(s0 < i/\bZ h (D.get (i - 1))<=bZ h (D.get (cI+m - i))))/\(j=r0\/(j < r0/\bZ h (D.get (cI+m - 1 - j)) < bZ h (D.get j)))) (fun e y=>e = .exit 8/\∃ i:Nat,y=⟨D,(a:Int),(m:Int),(b:Int),(cI:Int),((cI+m:Nat):Int),(i:Int),(i:Int),((cI+m - 1:Nat):Int),h⟩/\s0<=i/\i<=r0/\(i=s0\/(s0 < i/\bZ h (D.get (i - 1))<=bZ h (D.get (cI+m - i))))/\(i=r0\/(i < r0/\bZ h (D.get (cI+m - 1 - i)) < bZ h (D.get i)))) (r0 - s0) (by have:gv=1000000000000:=rfl; omega) (fun k y hk ⟨i,j,hy,g1,g2,g3,g4,g5,g6⟩=>?_) ⟨s0,r0,rfl,aX _,h1,aX _,by omega,.inl rfl,.inl rfl⟩) fun e ⟨y,hy,he,i,hi,q⟩=>⟨i,by rw [hy,he,hi],q⟩
 ·subst hy
  unfold cC bh aR;by_cases bu:i < j
  ·have hh:=alZ (i:=i) (j:=j) (by omega)
   have hp:=I1 (i:=cI+m - 1) (j:=(i+j) / 2) (by omega) (by omega);obtain ⟨r,r1,r2⟩:=WY (bZ h (D.get (cI+m - 1 - (i+j) / 2))) (bZ h (D.get ((i+j) / 2)));have e0:jy ⟨D,(a:Int),(m:Int),(b:Int),(cI:Int),((cI+m:Nat):Int),(i:Int),(j:Int),((cI+m - 1:Nat):Int),h⟩=some r:=by
    unfold jy;simp only [hh,hp,bU,bk];exact r1
   have o1:((decide ((0:Int)<=(D.get ((i+j) / 2)).item))&&(decide ((D.get ((i+j) / 2)).item < ((h.cQ.items.n:Nat):Int))))=true:=cm _ (by omega);have o2:((decide ((0:Int)<=(D.get (cI+m - 1 - (i+j) / 2)).item))&&(decide ((D.get (cI+m - 1 - (i+j) / 2)).item < ((h.cQ.items.n:Nat):Int))))=true:=cm _ (by omega);simp only [hh,hp,e0,au (show (i:Int) < (j:Int) by omega),ai,inB (show (i+j) / 2 < D.n by omega),inB (show cI+m - 1 - (i+j) / 2 < D.n by omega),bU,bk,o1,o2,bj,bc,aI,r2];by_cases hc:bZ h (D.get (cI+m - 1 - (i+j) / 2)) < bZ h (D.get ((i+j) / 2))
   ·rw [au hc,iR,aw]
    exact .inl ⟨_,rfl,by omega,i,(i+j) / 2,rfl,g1,by omega,by omega,by omega,g5,.inr ⟨by omega,hc⟩⟩
   ·rw [ay hc,sE,ai,ZA (by omega)]
    refine .inl ⟨_,rfl,by omega,(i+j) / 2+1,j,rfl,by omega,by omega,g3,by omega,.inr ⟨by omega,?_⟩,g6⟩;rw [show cI+m - ((i+j) / 2+1)=cI+m - 1 - (i+j) / 2 by omega,Nat.add_sub_cancel];exact Int.not_lt.1 hc
  ·simp only [ay (show ¬ (i:Int) < (j:Int) by omega),aw,aI,ai]
   have:j=i:=by omega
   subst this;exact .inr ⟨_,_,rfl,rfl,rfl,j,rfl,g1,g3,g5,g6⟩
theorem al2 (h:aH) (D:Sl aL) (a m b i:Nat) (h1:a+1<=i) (h4:i<=D.n) (h3:D.n<=10000000000) :
  ∃ D',∃ k:Int,goN dk ⟨D,(a:Int),(m:Int),(b:Int),(i:Int),(a:Int),h⟩ = .out (.exit 2) ⟨D',(a:Int),(m:Int),(b:Int),(i:Int),k,h⟩/\D'.n=D.n/\∀ t,D'.get t=Qr D.get a (i - 1) t:=by
 refine Exists.elim (bt (step:=dk) (x:=⟨D,(a:Int),(m:Int),(b:Int),(i:Int),(a:Int),h⟩) (fun k y=>∃ D',y=⟨D',(a:Int),(m:Int),(b:Int),(i:Int),((a+k:Nat):Int),h⟩/\a+k<=i - 1/\D'.n=D.n/\∀ t,D'.get t=Qr D.get a (a+k) t) (fun e y=>e = .exit 2/\∃ D',∃ k:Int,y=⟨D',(a:Int),(m:Int),(b:Int),(i:Int),k,h⟩/\D'.n=D.n/\∀ t,D'.get t=Qr D.get a (i - 1) t) (i - 1 - a) (by have:gv=1000000000000:=rfl; omega) (fun k y hk ⟨D',hy,g1,g2,g3⟩=>?_) ⟨D,rfl,by omega,rfl,fun t=>by rw [Db,arv]⟩) fun e ⟨y,hy,he,D',k,hi,q⟩=>⟨D',k,by rw [hy,he,hi],q⟩
 ·subst hy
  unfold dk bh aR;have hi:=aiA (i:=i) (by omega) (by omega);by_cases bu:a+k < i - 1
  ·have Pt:=ZA (i:=a+k) (by omega)
   simp only [hi,Pt,au (show ((a+k:Nat):Int) < ((i - 1:Nat):Int) by omega),ai,inB (show a+k < D'.n by omega),inB (show a+k+1 < D'.n by omega),aI];refine .inl ⟨_,rfl,by omega,_,rfl,by omega,g2,fun t=>?_⟩;rw [WX,bU,bU,bk,bk,show a+(k+1)=a+k+1 by omega,arx (by omega),g3,g3,g3];by_cases e1:t=a+k+1
   ·subst e1; rw [aW rfl,aB (by omega),aW rfl]
   ·rw [aB e1]
    by_cases e2:t=a+k
    ·subst e2; rw [aW rfl,aW rfl]
    ·rw [aB e2,aB e2,aB e1]
  ·simp only [hi,ay (show ¬ ((a+k:Nat):Int) < ((i - 1:Nat):Int) by omega),aw,aI,ai]
   exact .inr ⟨_,_,rfl,rfl,rfl,D',_,rfl,g2,fun t=>by rw [g3,show a+k=i - 1 by omega]⟩
theorem al3 (h:aH) (D:Sl aL) (a m b i:Nat) (h1:i<=m) (h4:m < D.n) (h3:D.n<=10000000000) :
  ∃ D',∃ k:Int,goN cV ⟨D,(a:Int),(m:Int),(b:Int),(i:Int),(m:Int),h⟩ = .out (.exit 6) ⟨D',(a:Int),(m:Int),(b:Int),(i:Int),k,h⟩/\D'.n=D.n/\∀ t,D'.get t=ins D.get i m t:=by
 refine Exists.elim (bt (step:=cV) (x:=⟨D,(a:Int),(m:Int),(b:Int),(i:Int),(m:Int),h⟩) (fun k y=>∃ D',y=⟨D',(a:Int),(m:Int),(b:Int),(i:Int),((m - k:Nat):Int),h⟩/\i+k<=m/\D'.n=D.n/\∀ t,D'.get t=ins D.get (m - k) m t) (fun e y=>e = .exit 6/\∃ D',∃ k:Int,y=⟨D',(a:Int),(m:Int),(b:Int),(i:Int),k,h⟩/\D'.n=D.n/\∀ t,D'.get t=ins D.get i m t) (m - i) (by have:gv=1000000000000:=rfl; omega) (fun k y hk ⟨D',hy,g1,g2,g3⟩=>?_) ⟨D,rfl,by omega,rfl,fun t=>by rw [Nat.sub_zero,akx]⟩) fun e ⟨y,hy,he,D',k,hi,q⟩=>⟨D',k,by rw [hy,he,hi],q⟩
 ·subst hy
  unfold cV bh aR;by_cases bu:i < m - k
  ·have Pt:=aiA (i:=m - k) (by omega) (by omega)
   simp only [Pt,au (show ((m - k:Nat):Int) > (i:Int) by omega),ai,inB (show m - k < D'.n by omega),inB (show m - k - 1 < D'.n by omega),aI];refine .inl ⟨_,rfl,by omega,_,rfl,by omega,g2,fun t=>?_⟩;rw [WX,bU,bU,bk,bk,show m - (k+1)=m - k - 1 by omega,akz (by omega) (by omega),g3,g3,g3]
  ·simp only [ay (show ¬ ((m - k:Nat):Int) > (i:Int) by omega),aw,aI,ai]
   exact .inr ⟨_,_,rfl,rfl,rfl,D',_,rfl,g2,fun t=>by rw [g3,show m - k=i by omega]⟩
end Go.Proofs.YtchbpckkmgcgkaaGreat.b
end
section
namespace Go.Proofs.YtchbpckkmgcgkaaGreat.b
open Go.K Go.K.iK
open Go.aE (aq)
def K5 (rc:aa->aK aa) (z:cg) (D:Sl aL) (h:aH):aK aa:=
 cond (decide (z.cI < ak (z.n - z.start)))
  (cond (decide (ak (z.n - z.start) < z.b))
   (cond (ic D.n z.data.n) (cond ((rc ⟨D,z.cI,ak (z.n - z.start),z.b,h⟩).by .ret) (cond (ic (rc ⟨D,z.cI,ak (z.n - z.start),z.b,h⟩).st.data.n z.data.n) (.out .ret ⟨(rc ⟨D,z.cI,ak (z.n - z.start),z.b,h⟩).st.data,z.a,z.m,z.b,(rc ⟨D,z.cI,ak (z.n - z.start),z.b,h⟩).st.held⟩) .fail) .fail) .fail)
   (cond (ic D.n z.data.n) (.out .ret ⟨D,z.a,z.m,z.b,h⟩) .fail))
  (cond (ic D.n z.data.n) (.out .ret ⟨D,z.a,z.m,z.b,h⟩) .fail)
def QN (rc:aa->aK aa) (z:cg) (D:Sl aL) (h:aH):aK aa:=
 cond (decide (z.a < z.start))
  (cond (decide (z.start < z.cI))
   (cond (ic D.n z.data.n) (cond ((rc ⟨D,z.a,z.start,z.cI,h⟩).by .ret) (K5 rc z (rc ⟨D,z.a,z.start,z.cI,h⟩).st.data (rc ⟨D,z.a,z.start,z.cI,h⟩).st.held) .fail) .fail)
   (K5 rc z D h))
  (K5 rc z D h)
def WZ (rc:aa->aK aa) (z:cg):aK aa:=
 cond (decide (z.start < z.m))
  (cond (decide (z.m < ak (z.n - z.start)))
   (cond (ic z.data.n z.data.n) (cond ((eS ⟨z.data,z.start,z.m,ak (z.n - z.start),z.iL⟩).by .ret) (QN rc z (eS ⟨z.data,z.start,z.m,ak (z.n - z.start),z.iL⟩).st.data (eS ⟨z.data,z.start,z.m,ak (z.n - z.start),z.iL⟩).st.held) .fail) .fail)
   (QN rc z z.data z.iL))
  (QN rc z z.data z.iL)
theorem aiE (rc:aa->aK aa) (x:aa) (h1:((ak (x.m - x.a))==(1:Int))=false) (h2:((ak (x.b - x.m))==(1:Int))=false) :
  eo rc x=cond (decide (x.m > (ak (Int.fdiv (uw (ak (x.a+x.b))) (2:Int)))))
   (cond (ic x.data.n x.data.n) (cond ((ah rc x).by (.exit 8)) (WZ rc (ah rc x).st) .fail) .fail)
   (cond (ic x.data.n x.data.n) (cond ((ae rc x).by (.exit 8)) (WZ rc (ae rc x).st) .fail) .fail):=by
 unfold eo fU fT fS fR fQ fP fO fN fM fL fC fB fA fy aR;rw [h1,h2];rfl
def yq (h:aH) (hZ:aL->aL->Prop) (D D' : Sl aL) (a b:Nat):Prop:=D'.n=D.n/\Perm D.get D'.get a b/\hX (bR h hZ) D'.get a b
def BN (h:aH) (hZ:aL->aL->Prop) (rc:aa->aK aa) (L:Nat):Prop:=∀ (D:Sl aL) (a m b:Nat),a < m->m < b->b<=D.n->D.n<=10000000000->(∀ t,t < D.n->jm h (D.get t)=true)->b - a<=L->hX (bR h hZ) D.get a m->hX (bR h hZ) D.get m b->Mb (bR h hZ) D.get a m b->
 ∃ D',rc ⟨D,(a:Int),(m:Int),(b:Int),h⟩ = .out .ret ⟨D',(a:Int),(m:Int),(b:Int),h⟩/\yq h hZ D D' a b
theorem xu {h:aH} {D D' : Sl aL} {a b:Nat} (hn:D'.n=D.n) (hb:b<=D.n) (hp:Perm D.get D'.get a b) (cm:∀ t,t < D.n->jm h (D.get t)=true):∀ t,t < D'.n->jm h (D'.get t)=true:=fun t ht=>by
 rw [hn] at ht;by_cases Dz:a<=t/\t < b
 ·obtain ⟨j,j1,j2,e⟩:=hp.mem Dz.1 Dz.2
  rw [e]; exact cm j (by omega)
 ·rw [hp.2 t (by omega)]; exact cm t ht
section
variable {h:aH} {hZ:aL->aL->Prop} {rc:aa->aK aa} {L:Nat}
theorem aiF (hrc:BN h hZ rc L) (Z D:Sl aL) (a m b cI s e:Nat) (p:Int) (hm:m<=D.n) (hn:D.n=Z.n) (h3:D.n<=10000000000) (hb:b<=D.n) (hs:e+s=cI+m) (q1:cI<=e) (q2:e<=b) (cm:∀ t,t < D.n->jm h (D.get t)=true) (hL:b - cI<=L) (r1:hX (bR h hZ) D.get cI e) (r2:hX (bR h hZ) D.get e b) (r0:Mb (bR h hZ) D.get cI e b) :
  ∃ D',K5 rc ⟨Z,(a:Int),(m:Int),(b:Int),(cI:Int),((cI+m:Nat):Int),(s:Int),(s:Int),p,h⟩ D h = .out .ret ⟨D',(a:Int),(m:Int),(b:Int),h⟩/\yq h hZ D D' cI b:=by
 have he:ak (((cI+m:Nat):Int) - (s:Int))=(e:Int):=by rw [I1 (by omega) (by omega)]; congr 1; omega
 unfold K5;simp only [he,hn,aI,ai];by_cases c1:cI < e
 ·rw [au (show (cI:Int) < (e:Int) by omega),ai]
  by_cases c2:e < b
  ·rw [au (show (e:Int) < (b:Int) by omega),ai]
   obtain ⟨D',k1,k2,k3,k4⟩:=hrc D cI e b c1 c2 hb h3 cm hL r1 r2 r0;rw [k1];simp only [aK.lF,aK.lU,gq,ai,k2,hn,aI];exact ⟨D',rfl,k2,k3,k4⟩
  ·rw [ay (show ¬ (e:Int) < (b:Int) by omega),aw]
   have:e=b:=by omega
   subst this;exact ⟨D,rfl,rfl,.refl _ _ _,r1⟩
 ·rw [ay (show ¬ (cI:Int) < (e:Int) by omega),aw]
  have:cI=e:=by omega
  subst this;exact ⟨D,rfl,rfl,.refl _ _ _,r2⟩
theorem ajB (hrc:BN h hZ rc L) (Z D:Sl aL) (a m b cI s e:Nat) (p:Int) (hm:m<=D.n) (hn:D.n=Z.n) (h3:D.n<=10000000000) (hb:b<=D.n) (hs:e+s=cI+m) (q0:a<=s) (q3:s<=cI) (q1:cI<=e) (q2:e<=b) (cm:∀ t,t < D.n->jm h (D.get t)=true) (hL1:cI - a<=L) (hL:b - cI<=L) (Bb:Split (bR h hZ) D.get a s cI e b) :
  ∃ D',QN rc ⟨Z,(a:Int),(m:Int),(b:Int),(cI:Int),((cI+m:Nat):Int),(s:Int),(s:Int),p,h⟩ D h = .out .ret ⟨D',(a:Int),(m:Int),(b:Int),h⟩/\yq h hZ D D' a b:=by
 have rest:∀ D2:Sl aL,yq h hZ D D2 a cI->∃ D',K5 rc ⟨Z,(a:Int),(m:Int),(b:Int),(cI:Int),((cI+m:Nat):Int),(s:Int),(s:Int),p,h⟩ D2 h = .out .ret ⟨D',(a:Int),(m:Int),(b:Int),h⟩/\yq h hZ D D' a b:=fun D2 ⟨m1,m2,m3⟩=>by
  have same:∀ i,cI<=i->D2.get i=D.get i:=fun i hi=>m2.2 i (.inr hi);obtain ⟨D',k1,k2,k3,k4⟩:=aiF hrc Z D2 a m b cI s e p (by omega) (m1.trans hn) (by omega) (by omega) hs q1 q2 (xu m1 (by omega) m2 cm) hL (Bb.r1.congr fun i i1 _=>same i i1) (Bb.r2.congr fun i i1 _=>same i (by omega)) (fun i j i1 i2 j1 j2=>by rw [same i i1,same j (by omega)]; exact Bb.r0 i j i1 i2 j1 j2);exact ⟨D',k1,k2.trans m1,(m2.wide (aX _) (by omega) (by omega)).trans (k3.wide (by omega) (by omega) (aX _)),alG Bb.lr m2 m3 k3 k4⟩
 unfold QN;simp only [hn,aI,ai];by_cases c1:a < s
 ·rw [au (show (a:Int) < (s:Int) by omega),ai]
  by_cases c2:s < cI
  ·rw [au (show (s:Int) < (cI:Int) by omega),ai]
   obtain ⟨D2,k1,k2⟩:=hrc D a s cI c1 c2 (by omega) h3 cm hL1 Bb.l1 Bb.l2 Bb.l0;rw [k1];simp only [aK.lF,aK.lU,gq,ai];exact rest D2 k2
  ·rw [ay (show ¬ (s:Int) < (cI:Int) by omega),aw]
   have:s=cI:=by omega
   exact rest D ⟨rfl,.refl _ _ _,by rw [<- this]; exact Bb.l1⟩
 ·rw [ay (show ¬ (a:Int) < (s:Int) by omega),aw]
  have:a=s:=by omega
  exact rest D ⟨rfl,.refl _ _ _,by rw [this]; exact Bb.l2⟩
theorem VV (hrc:BN h hZ rc L) (D:Sl aL) (a m b cI s e:Nat) (p:Int) (h3:D.n<=10000000000) (hb:b<=D.n) (hs:e+s=cI+m) (q0:a<=s) (q3:s<=cI) (q4:s<=m) (q1:cI<=e) (q5:m<=e) (q2:e<=b) (cm:∀ t,t < D.n->jm h (D.get t)=true) (hL1:cI - a<=L) (hL:b - cI<=L) (s1:hX (bR h hZ) D.get a m) (s2:hX (bR h hZ) D.get m b) (s0:Mb (bR h hZ) D.get a m b) (w1:∀ i j,a<=i->i < s->e<=j->j < b->(bR h hZ).key (D.get i)<=(bR h hZ).key (D.get j)) (w2:∀ i j,s<=i->i < m->m<=j->j < e->(bR h hZ).key (D.get j) < (bR h hZ).key (D.get i)) :
  ∃ D',WZ rc ⟨D,(a:Int),(m:Int),(b:Int),(cI:Int),((cI+m:Nat):Int),(s:Int),(s:Int),p,h⟩ = .out .ret ⟨D',(a:Int),(m:Int),(b:Int),h⟩/\yq h hZ D D' a b:=by
 have he:ak (((cI+m:Nat):Int) - (s:Int))=(e:Int):=by rw [I1 (by omega) (by omega)]; congr 1; omega
 have Bb:=aph (o:=bR h hZ) s1 s2 s0 q0 q4 q5 q2 hs w1 w2;have rest:∀ D1:Sl aL,D1.n=D.n->(∀ t,D1.get t=KD D.get s m e t)->∃ D',QN rc ⟨D,(a:Int),(m:Int),(b:Int),(cI:Int),((cI+m:Nat):Int),(s:Int),(s:Int),p,h⟩ D1 h = .out .ret ⟨D',(a:Int),(m:Int),(b:Int),h⟩/\yq h hZ D D' a b:=fun D1 n1 g1=>by
  have hf:D1.get=KD D.get s m e:=funext g1;have hp:Perm D.get D1.get s e:=by rw [hf]; exact ary q4 q5
  obtain ⟨D',k1,k2,k3,k4⟩:=ajB hrc D D1 a m b cI s e p (by omega) n1 (by omega) (by omega) hs q0 q3 q1 q2 (xu n1 (by omega) hp cm) hL1 hL (by rw [hf]; exact Bb);exact ⟨D',k1,k2.trans n1,(hp.wide q0 (by omega) q2).trans k3,k4⟩
 unfold WZ;simp only [he,aI,ai];by_cases c1:s < m
 ·rw [au (show (s:Int) < (m:Int) by omega),ai]
  by_cases c2:m < e
  ·rw [au (show (m:Int) < (e:Int) by omega),ai]
   obtain ⟨D1,k1,k2,k3⟩:=aiC h D s m e c1 c2 (by omega) h3;rw [k1];simp only [aK.lF,aK.lU,gq,ai];exact rest D1 k2 k3
  ·rw [ay (show ¬ (m:Int) < (e:Int) by omega),aw]
   refine rest D rfl fun t=>?_;by_cases ht:t < s\/e<=t
   ·rw [Qs q4 q5 ht]
   ·rw [Sn (by omega) (by omega)]; congr 1; omega
 ·rw [ay (show ¬ (s:Int) < (m:Int) by omega),aw]
  refine rest D rfl fun t=>?_;by_cases ht:t < s\/e<=t
  ·rw [Qs q4 q5 ht]
  ·rw [WT (by omega) (by omega)]; congr 1; omega
theorem afv (hrc:BN h hZ rc L):BN h hZ (eo rc) (2 * L):=by
 intro D a m b h1 h2 h4 h3 cm hL s1 s2 s0;by_cases c1:m - a=1
 ·obtain ⟨i,k1,k2,k3,k4,k5⟩:=al0 h D hZ a m b (by omega) (by omega) h4 h3 cm s2
  obtain ⟨D',k,j1,j2,j3⟩:=al2 h D a m b i (by omega) (by omega) h3;have e0:cS rc ⟨D,(a:Int),(m:Int),(b:Int),h⟩=_:=k1;have e1:dG rc ⟨D,(a:Int),(m:Int),(b:Int),h⟩ = .out (.exit 2) ⟨D',(a:Int),(m:Int),(b:Int),(i:Int),k,h⟩:=by
   unfold dG;rw [e0];exact j1
  have hf:D'.get=Qr D.get a (i - 1):=funext j3;refine ⟨D',?_,j2,?_,?_⟩
  ·unfold eo fU fT fS fR fQ fP fO fN fM fL fC fB fA fy aR
   simp only [I1 (i:=m) (j:=a) (by omega) (by omega),c1,e0,e1];simp only [aI,ai,aK.lF,aK.lU,gq,nA,show (((1:Nat):Int)==(1:Int))=true from rfl]
  ·rw [hf]
   exact (arw (d:=D.get) (a:=a) (k:=i - 1) (by omega)).wide (aX _) (by omega) (by omega)
  ·rw [hf]
   have hm:m=a+1:=by omega
   subst hm;exact anW (o:=bR h hZ) s2 s0 k2 k3 k4 k5
 ·by_cases c2:b - m=1
  ·obtain ⟨i,k1,k2,k3,k4,k5⟩:=al1 h D hZ a m b (by omega) (by omega) h3 cm s1
   obtain ⟨D',k,j1,j2,j3⟩:=al3 h D a m b i k3 (by omega) h3;have e0:cT rc ⟨D,(a:Int),(m:Int),(b:Int),h⟩=_:=k1;have e1:dH rc ⟨D,(a:Int),(m:Int),(b:Int),h⟩ = .out (.exit 6) ⟨D',(a:Int),(m:Int),(b:Int),(i:Int),k,h⟩:=by
    unfold dH;rw [e0];exact j1
   have hf:D'.get=ins D.get i m:=funext j3;have hb:b=m+1:=by omega
   refine ⟨D',?_,j2,?_,?_⟩
   ·unfold eo fU fT fS fR fQ fP fO fN fM fL fC fB fA fy aR
    simp only [I1 (i:=m) (j:=a) (by omega) (by omega),I1 (i:=b) (j:=m) (by omega) (by omega),c2,e0,e1,show (((m - a:Nat):Int)==(1:Int))=false by simpa using (show ¬ ((m - a:Nat):Int)=1 by omega),aw];simp only [aI,ai,aK.lF,aK.lU,gq,nA,show (((1:Nat):Int)==(1:Int))=true from rfl]
   ·rw [hf,hb]
    exact (aky (d:=D.get) (a:=a) k2 k3)
   ·rw [hf,hb]
    rw [hb] at s0;exact aeF s1 s0 k2 k3 k4 k5
  ·have atG:=alZ (i:=a) (j:=b) (by omega)
   have hn:=aiz (i:=(a+b) / 2) (j:=m) (by omega);have hp:=aiA (i:=(a+b) / 2+m) (by omega) (by omega);have g1:((ak ((m:Int) - (a:Int)))==(1:Int))=false:=by
    rw [I1 (by omega) (by omega)];simpa using (show ¬ ((m - a:Nat):Int)=1 by omega)
   have g2:((ak ((b:Int) - (m:Int)))==(1:Int))=false:=by
    rw [I1 (by omega) (by omega)];simpa using (show ¬ ((b - m:Nat):Int)=1 by omega)
   rw [aiE rc _ g1 g2];simp only [atG,aI,ai];by_cases c3:(a+b) / 2 < m
   ·rw [au (show (m:Int) > (((a+b) / 2:Nat):Int) by omega),ai]
    have jL:=I1 (i:=(a+b) / 2+m) (j:=b) (by omega) (by omega);obtain ⟨s,k1,k2,k3,k4,k5⟩:=abD h D a m b ((a+b) / 2) ((a+b) / 2+m - b) ((a+b) / 2) (by omega) (by omega) (aX _) (by omega) (by omega) h4 h3 (by omega) cm;have e4:ah rc ⟨D,(a:Int),(m:Int),(b:Int),h⟩ = .out (.exit 8) ⟨D,(a:Int),(m:Int),(b:Int),(((a+b) / 2:Nat):Int),(((a+b) / 2+m:Nat):Int),(s:Int),(s:Int),(((a+b) / 2+m - 1:Nat):Int),h⟩:=by
     unfold ah;simp only [atG,hn,hp,jL];exact k1
    rw [e4];simp only [aK.lF,aK.lU,gq,nA,ai];obtain ⟨w1,w2⟩:=Ye (o:=bR h hZ) (s:=s) (s0:=(a+b) / 2+m - b) (r0:=(a+b) / 2) (cI:=(a+b) / 2) s1 s2 (by omega) (by omega) (by omega) (by omega) (k4.imp (fun e=>⟨e,.inr (by omega)⟩) fun ⟨q1,q2⟩=>⟨by omega,by omega,q2⟩) (k5.imp (fun e=>⟨e,.inr rfl⟩) fun ⟨q1,q2⟩=>⟨by omega,q1,q2⟩);exact VV hrc D a m b ((a+b) / 2) s ((a+b) / 2+m - s) _ h3 h4 (by omega) (by omega) (by omega) (by omega) (by omega) (by omega) (by omega) cm (by omega) (by omega) s1 s2 s0 w1 w2
   ·rw [ay (show ¬ (m:Int) > (((a+b) / 2:Nat):Int) by omega),aw]
    obtain ⟨s,k1,k2,k3,k4,k5⟩:=abD h D a m b ((a+b) / 2) a m (by omega) (aX _) (by omega) (by omega) (by omega) h4 h3 (by omega) cm;have e4:ae rc ⟨D,(a:Int),(m:Int),(b:Int),h⟩ = .out (.exit 8) ⟨D,(a:Int),(m:Int),(b:Int),(((a+b) / 2:Nat):Int),(((a+b) / 2+m:Nat):Int),(s:Int),(s:Int),(((a+b) / 2+m - 1:Nat):Int),h⟩:=by
     unfold ae;simp only [atG,hn,hp];exact k1
    rw [e4];simp only [aK.lF,aK.lU,gq,nA,ai];obtain ⟨w1,w2⟩:=Ye (o:=bR h hZ) (s:=s) (s0:=a) (r0:=m) (cI:=(a+b) / 2) s1 s2 (by omega) (by omega) (by omega) (by omega) (k4.imp (fun e=>⟨e,.inl rfl⟩) fun ⟨q1,q2⟩=>⟨q1,by omega,q2⟩) (k5.imp (fun e=>⟨e,.inl rfl⟩) fun ⟨q1,q2⟩=>⟨q1,by omega,q2⟩);exact VV hrc D a m b ((a+b) / 2) s ((a+b) / 2+m - s) _ h3 h4 (by omega) (by omega) (by omega) (by omega) (by omega) (by omega) (by omega) cm (by omega) (by omega) s1 s2 s0 w1 w2
end
theorem Ht (h:aH) (hZ:aL->aL->Prop):∀ n:Nat,BN h hZ (iw n) (2 ^ n)
 | 0=>fun D a m b h1 h2 _ _ _ hL=>by simp at hL; omega
 | n+1=>by
  have:=afv (Ht h hZ n);rw [Nat.pow_succ,Nat.mul_comm];exact this
end Go.Proofs.YtchbpckkmgcgkaaGreat.b
end
section
namespace Go.K.iK
variable {α:Type} {o:Ord α}
def Bl (o:Ord α) (g d:Nat->α) (l r:Nat):Prop:=hX o d l r/\∀ p:α->Bool,xX p d l (r - l)=xX p g l (r - l)
theorem Bl.congr {g d d' : Nat->α} {l r:Nat} (h:Bl o g d l r) (e:∀ i,l<=i->i < r->d' i=d i):Bl o g d' l r:=
 ⟨h.1.congr e,fun p=>by rw [tX (d:=d') (d':=d) (a:=l) (b:=l) fun i hi=>e _ (by omega) (by omega)]; exact h.2 p⟩
theorem Bl.join {g d d' : Nat->α} {a m b:Nat} (h1:Bl o g d a m) (h2:Bl o g d m b) (q1:a<=m) (q2:m<=b) (hp:Perm d d' a b) (hs:hX o d' a b):Bl o g d' a b:=by
 refine ⟨hs,fun p=>(hp.1 p).trans ?_⟩;rw [show b - a=(m - a)+(b - m) by omega,tY,tY,show a+(m - a)=m by omega,h1.2,h2.2]
theorem I2 {M l a:Nat} (h1:M ∣ l) (h2:M ∣ a) (h:l < a):l+M<=a:=by
 have:=Nat.le_of_dvd (by omega) (Nat.dvd_sub h2 h1);omega
def Bls (o:Ord α) (g d:Nat->α) (B n:Nat):Prop:=∀ l,B ∣ l->l < n->Bl o g d l (min (l+B) n)
end Go.K.iK
namespace Go.Proofs.YtchbpckkmgcgkaaGreat.b
open Go.K Go.K.iK
open Go.aE (aq)
end Go.Proofs.YtchbpckkmgcgkaaGreat.b
end
section
namespace Go.Proofs.YtchbpckkmgcgkaaGreat.b
open Go.K Go.K.iK
open Go.aE (aq)
section
variable (h:aH) (hZ:aL->aL->Prop) (G:Sl aL)
theorem al4 (h3:G.n<=10000000000) (cm:∀ t,t < G.n->jm h (G.get t)=true) (hr:akA (bR h hZ) G.get G.n) :
  ∃ D:Sl aL,∃ a:Nat,∃ b:Int,goN dX ⟨G,(G.n:Int),(20:Int),(0:Int),(20:Int),h⟩ = .out (.exit 0) ⟨D,(G.n:Int),(20:Int),(a:Int),b,h⟩/\D.n=G.n/\20 ∣ a/\a<=G.n/\G.n < a+20/\(∀ l,20 ∣ l->l < a->Bl (bR h hZ) G.get D.get l (l+20))/\(∀ i,a<=i->D.get i=G.get i)/\∀ t,t < D.n->jm h (D.get t)=true:=by
 refine Exists.elim (bt (step:=dX) (x:=⟨G,(G.n:Int),(20:Int),(0:Int),(20:Int),h⟩) (fun k y=>∃ D:Sl aL,∃ a:Nat,y=⟨D,(G.n:Int),(20:Int),(a:Int),((a+20:Nat):Int),h⟩/\k<=a/\D.n=G.n/\20 ∣ a/\a<=G.n/\(∀ l,20 ∣ l->l < a->Bl (bR h hZ) G.get D.get l (l+20))/\(∀ i,a<=i->D.get i=G.get i)/\∀ t,t < D.n->jm h (D.get t)=true) (fun e y=>e = .exit 0/\∃ D:Sl aL,∃ a:Nat,∃ b:Int,y=⟨D,(G.n:Int),(20:Int),(a:Int),b,h⟩/\D.n=G.n/\20 ∣ a/\a<=G.n/\G.n < a+20/\(∀ l,20 ∣ l->l < a->Bl (bR h hZ) G.get D.get l (l+20))/\(∀ i,a<=i->D.get i=G.get i)/\∀ t,t < D.n->jm h (D.get t)=true) G.n (by have:gv=1000000000000:=rfl; omega) (fun k y hk ⟨D,a,hy,g0,g1,g2,g3,g4,g5,g6⟩=>?_) ⟨G,0,rfl,aX _,rfl,Nat.dvd_zero _,dq _,fun l _ hl=>by omega,fun _ _=>rfl,cm⟩) fun e ⟨y,hy,he,D,a,b,hi,q⟩=>⟨D,a,b,by rw [hy,he,hi],q⟩
 subst hy;unfold dX aR;by_cases hle:a+20<=G.n
 ·obtain ⟨D',k1,k2,k3,k4⟩:=QM h hZ D a (a+20) (by omega) (by omega) (by omega) g6 (fun s t s1 s2 t1=>by rw [g5 s s1,g5 t (by omega)]; exact hr s t s2 (by omega))
  have e0:iZ ⟨D,(G.n:Int),(20:Int),(a:Int),((a+20:Nat):Int),h⟩=_:=k1;have e1:ak (((a+20:Nat):Int)+(20:Int))=((a+20+20:Nat):Int):=by rw [Dr (by omega) (by omega)]; omega
  simp only [au (show ((a+20:Nat):Int)<=(G.n:Int) by omega),ai,e0,e1,aI,aK.lF,aK.lU,gq,k2];refine .inl ⟨_,rfl,by omega,D',a+20,rfl,by omega,k2.trans g1,Nat.dvd_add g2 (Nat.dvd_refl _),hle,fun l l1 l2=>?_,fun i hi=>?_,xu k2 (by omega) k3 g6⟩
  ·by_cases hl:l < a
   ·have:=I2 l1 g2 hl
    exact (g4 l l1 hl).congr fun i i1 i2=>k3.2 i (.inl (by omega))
   ·have:l=a:=by
     by_cases e:a=l
     ·exact e.symm
     ·have:=I2 g2 l1 (by omega); omega
    subst this;refine ⟨k4,fun p=>(k3.1 p).trans (tX fun i hi=>g5 _ (by omega))⟩
  ·rw [k3.2 i (.inr hi)]; exact g5 i (by omega)
 ·simp only [ay (show ¬ ((a+20:Nat):Int)<=(G.n:Int) by omega),aw,aI,ai]
  exact .inr ⟨_,_,rfl,rfl,rfl,D,a,_,rfl,g1,g2,g3,by omega,g4,g5,g6⟩
theorem an9 (E:Sl aL) (B:Nat) (h3:G.n<=10000000000) (hB:1<=B) (hB2:B < G.n) (hr:akA (bR h hZ) G.get G.n) (hn:E.n=G.n) (cm:∀ t,t < E.n->jm h (E.get t)=true) (hb:Bls (bR h hZ) G.get E.get B G.n) :
  ∃ D:Sl aL,∃ a:Nat,∃ b:Int,goN dy ⟨E,(G.n:Int),(B:Int),(0:Int),((2 * B:Nat):Int),h⟩ = .out (.exit 4) ⟨D,(G.n:Int),(B:Int),(a:Int),b,h⟩/\D.n=G.n/\2 * B ∣ a/\a<=G.n/\G.n < a+2 * B/\(∀ l,2 * B ∣ l->l < a->Bl (bR h hZ) G.get D.get l (l+2 * B))/\(∀ l,B ∣ l->a<=l->l < G.n->Bl (bR h hZ) G.get D.get l (min (l+B) G.n))/\∀ t,t < D.n->jm h (D.get t)=true:=by
 refine Exists.elim (bt (step:=dy) (x:=⟨E,(G.n:Int),(B:Int),(0:Int),((2 * B:Nat):Int),h⟩) (fun k y=>∃ D:Sl aL,∃ a:Nat,y=⟨D,(G.n:Int),(B:Int),(a:Int),((a+2 * B:Nat):Int),h⟩/\k<=a/\D.n=G.n/\2 * B ∣ a/\a<=G.n/\(∀ l,2 * B ∣ l->l < a->Bl (bR h hZ) G.get D.get l (l+2 * B))/\(∀ l,B ∣ l->a<=l->l < G.n->Bl (bR h hZ) G.get D.get l (min (l+B) G.n))/\∀ t,t < D.n->jm h (D.get t)=true) (fun e y=>e = .exit 4/\∃ D:Sl aL,∃ a:Nat,∃ b:Int,y=⟨D,(G.n:Int),(B:Int),(a:Int),b,h⟩/\D.n=G.n/\2 * B ∣ a/\a<=G.n/\G.n < a+2 * B/\(∀ l,2 * B ∣ l->l < a->Bl (bR h hZ) G.get D.get l (l+2 * B))/\(∀ l,B ∣ l->a<=l->l < G.n->Bl (bR h hZ) G.get D.get l (min (l+B) G.n))/\∀ t,t < D.n->jm h (D.get t)=true) G.n (by have:gv=1000000000000:=rfl; omega) (fun k y hk ⟨D,a,hy,g0,g1,g2,g3,g4,g5,g6⟩=>?_) ⟨E,0,by rw [bk]; rfl,aX _,hn,Nat.dvd_zero _,dq _,fun l _ hl=>by omega,fun l l1 _ l3=>hb l l1 l3,cm⟩) fun e ⟨y,hy,he,D,a,b,hi,q⟩=>⟨D,a,b,by rw [hy,he,hi],q⟩
 subst hy;unfold dy aR;have hBa:B ∣ a:=Nat.dvd_trans (Nat.dvd_mul_left B 2) g2;by_cases hle:a+2 * B<=G.n
 ·have b1:Bl (bR h hZ) G.get D.get a (a+B):=by have:=g5 a hBa (aX _) (by omega); rwa [Nat.min_eq_left (by omega)] at this
  have b2:Bl (bR h hZ) G.get D.get (a+B) (a+2 * B):=by have:=g5 (a+B) (Nat.dvd_add hBa (Nat.dvd_refl _)) (by omega) (by omega); rwa [Nat.min_eq_left (by omega),show a+B+B=a+2 * B by omega] at this
  have hc:Mb (bR h hZ) D.get a (a+B) (a+2 * B):=akB hr hle (by omega) (by omega) b1.2 b2.2;obtain ⟨D',k1,k2,k3,k4⟩:=Ht h hZ 64 D a (a+B) (a+2 * B) (by omega) (by omega) (by omega) (by omega) g6 (um (show _<=10000000000 by omega) (by decide)) b1.1 b2.1 hc;have e2:ak ((a:Int)+(B:Int))=((a+B:Nat):Int):=aiz (by omega);have e0:gh ⟨D,(G.n:Int),(B:Int),(a:Int),((a+2 * B:Nat):Int),h⟩ = .out .ret ⟨D',(a:Int),((a+B:Nat):Int),((a+2 * B:Nat):Int),h⟩:=by
   unfold gh;simp only [e2];exact k1
  have e1:ak (((a+2 * B:Nat):Int)+ak ((2:Int) * (B:Int)))=((a+2 * B+2 * B:Nat):Int):=by rw [Dr (n:=(2:Int) * (B:Int)) (by omega) (by omega),Dr (by omega) (by omega)]; omega
  simp only [au (show ((a+2 * B:Nat):Int)<=(G.n:Int) by omega),ai,e0,e1,aI,aK.lF,aK.lU,gq,k2];refine .inl ⟨_,rfl,by omega,D',a+2 * B,rfl,by omega,k2.trans g1,Nat.dvd_add g2 (Nat.dvd_refl _),hle,fun l l1 l2=>?_,fun l l1 l2 l3=>?_,xu k2 (by omega) k3 g6⟩
  ·by_cases hl:l < a
   ·have:=I2 l1 g2 hl
    exact (g4 l l1 hl).congr fun i i1 i2=>k3.2 i (.inl (by omega))
   ·have:l=a:=by
     by_cases e:a=l
     ·exact e.symm
     ·have:=I2 g2 l1 (by omega); omega
    subst this;exact b1.join b2 (by omega) (by omega) k3 k4
  ·exact (g5 l l1 (by omega) l3).congr fun i i1 i2=>k3.2 i (.inr (by omega))
 ·simp only [ay (show ¬ ((a+2 * B:Nat):Int)<=(G.n:Int) by omega),aw,aI,ai]
  exact .inr ⟨_,_,rfl,rfl,rfl,D,a,_,rfl,g1,g2,g3,by omega,g4,g5,g6⟩
theorem ajC (E:Sl aL) (h3:G.n<=10000000000) (hr:akA (bR h hZ) G.get G.n) (hn:E.n=G.n) (cm:∀ t,t < E.n->jm h (E.get t)=true) (hb:Bls (bR h hZ) G.get E.get 20 G.n) :
  ∃ D:Sl aL,∃ B:Nat,goN dY ⟨E,(G.n:Int),(20:Int),h⟩ = .out (.exit 2) ⟨D,(G.n:Int),(B:Int),h⟩/\D.n=G.n/\G.n<=B/\Bls (bR h hZ) G.get D.get B G.n:=by
 refine Exists.elim (bt (step:=dY) (x:=⟨E,(G.n:Int),(20:Int),h⟩) (fun k y=>∃ D:Sl aL,∃ B:Nat,y=⟨D,(G.n:Int),(B:Int),h⟩/\k+1<=B/\D.n=G.n/\Bls (bR h hZ) G.get D.get B G.n/\∀ t,t < D.n->jm h (D.get t)=true) (fun e y=>e = .exit 2/\∃ D:Sl aL,∃ B:Nat,y=⟨D,(G.n:Int),(B:Int),h⟩/\D.n=G.n/\G.n<=B/\Bls (bR h hZ) G.get D.get B G.n) G.n (by have:gv=1000000000000:=rfl; omega) (fun k y hk ⟨D,B,hy,g0,g1,g2,g3⟩=>?_) ⟨E,20,rfl,by omega,hn,hb,cm⟩) fun e ⟨y,hy,he,D,B,hi,q⟩=>⟨D,B,by rw [hy,he,hi],q⟩
 subst hy;unfold dY aR;by_cases bu:B < G.n
 ·obtain ⟨D1,a,b,k1,k2,k3,k4,k5,k6,k7,k8⟩:=an9 h hZ G D B h3 (by omega) bu hr g1 g3 g2
  have e2:ak ((2:Int) * (B:Int))=((2 * B:Nat):Int):=by rw [Dr (by omega) (by omega)]; omega
  have e3:ak ((B:Int) * (2:Int))=((2 * B:Nat):Int):=by rw [Dr (by omega) (by omega)]; omega
  have e4:ak ((a:Int)+(B:Int))=((a+B:Nat):Int):=aiz (by omega);have e0:aY ⟨D,(G.n:Int),(B:Int),h⟩ = .out (.exit 4) ⟨D1,(G.n:Int),(B:Int),(a:Int),b,h⟩:=by
   unfold aY;simp only [e2];exact k1
  have hBa:B ∣ a:=Nat.dvd_trans (Nat.dvd_mul_left B 2) k3;have fin:∀ D' : Sl aL,(∀ i,i < a->D'.get i=D1.get i)->(a < G.n->Bl (bR h hZ) G.get D'.get a G.n)->Bls (bR h hZ) G.get D'.get (2 * B) G.n:=fun D' q1 q2 l l1 l2=>by
   by_cases hl:l < a
   ·have:=I2 l1 k3 hl
    rw [Nat.min_eq_left (by omega)];exact (k6 l l1 hl).congr fun i i1 i2=>q1 i (by omega)
   ·have:l=a:=by
     by_cases e:a=l
     ·exact e.symm
     ·have:=I2 k3 l1 (by omega); omega
    subst this;rw [Nat.min_eq_right (by omega)];exact q2 l2
  simp only [au (show (B:Int) < (G.n:Int) by omega),ai,e0,aI,aK.lF,aK.lU,gq,nA,e3,e4];by_cases hm:a+B < G.n
  ·have b1:Bl (bR h hZ) G.get D1.get a (a+B):=by have:=k7 a hBa (aX _) (by omega); rwa [Nat.min_eq_left (by omega)] at this
   have b2:Bl (bR h hZ) G.get D1.get (a+B) G.n:=by have:=k7 (a+B) (Nat.dvd_add hBa (Nat.dvd_refl _)) (by omega) hm; rwa [Nat.min_eq_right (by omega)] at this
   have hc:Mb (bR h hZ) D1.get a (a+B) G.n:=akB hr (aX _) (by omega) (by omega) b1.2 b2.2;obtain ⟨D',j1,j2,j3,j4⟩:=Ht h hZ 64 D1 a (a+B) G.n (by omega) hm (by omega) (by omega) k8 (um (show _<=10000000000 by omega) (by decide)) b1.1 b2.1 hc;have e1:gQ ⟨D,(G.n:Int),(B:Int),h⟩ = .out .ret ⟨D',(a:Int),((a+B:Nat):Int),(G.n:Int),h⟩:=by
    unfold gQ;rw [e0];simp only [aK.lU,e4];exact j1
   simp only [au (show ((a+B:Nat):Int) < (G.n:Int) by omega),ai,e1,aI,aK.lF,aK.lU,gq,j2];exact .inl ⟨_,rfl,by omega,D',2 * B,rfl,by omega,j2.trans k2,fin D' (fun i hi=>j3.2 i (.inl hi)) (fun _=>b1.join b2 (by omega) (by omega) j3 j4),xu j2 (by omega) j3 k8⟩
  ·simp only [ay (show ¬ ((a+B:Nat):Int) < (G.n:Int) by omega),aw]
   exact .inl ⟨_,rfl,by omega,D1,2 * B,rfl,by omega,k2,fin D1 (fun _ _=>rfl) (fun ha=>by have:=k7 a hBa (aX _) ha; rwa [Nat.min_eq_right (by omega)] at this),k8⟩
 ·simp only [ay (show ¬ (B:Int) < (G.n:Int) by omega),aw,aI,ai]
  exact .inr ⟨_,_,rfl,rfl,rfl,D,B,rfl,g1,by omega,g2⟩
theorem abE (h3:G.n<=10000000000) (cm:∀ t,t < G.n->jm h (G.get t)=true) (hr:akA (bR h hZ) G.get G.n) :
  ∃ D:Sl aL,lM ⟨G,(G.n:Int),h⟩ = .out .ret ⟨D,(G.n:Int),h⟩/\D.n=G.n/\hX (bR h hZ) D.get 0 G.n/\∀ p:aL->Bool,xX p D.get 0 G.n=xX p G.get 0 G.n:=by
 obtain ⟨D0,a,b,k1,k2,k3,k4,k5,k6,k7,k8⟩:=al4 h hZ G h3 cm hr;have e0:dz ⟨G,(G.n:Int),h⟩=_:=k1;obtain ⟨D1,j1,j2,j3,j4⟩:=QM h hZ D0 a G.n k4 (by omega) (by omega) k8 (fun s t s1 s2 t1=>by rw [k7 s s1,k7 t (by omega)]; exact hr s t s2 t1);have e1:iy ⟨G,(G.n:Int),h⟩ = .out .ret ⟨D1,(a:Int),(G.n:Int),h⟩:=by
  unfold iy;rw [e0];exact j1
 have hb:Bls (bR h hZ) G.get D1.get 20 G.n:=fun l l1 l2=>by
  by_cases hl:l < a
  ·have:=I2 l1 k3 hl
   rw [Nat.min_eq_left (by omega)];exact (k6 l l1 hl).congr fun i i1 i2=>j3.2 i (.inl (by omega))
  ·have:l=a:=by
    by_cases e:a=l
    ·exact e.symm
    ·have:=I2 k3 l1 (by omega); omega
   subst this;rw [Nat.min_eq_right (by omega)];exact ⟨j4,fun p=>(j3.1 p).trans (tX fun i hi=>k7 _ (by omega))⟩
 obtain ⟨D2,B,q1,q2,q3,q4⟩:=ajC h hZ G D1 h3 hr (j2.trans k2) (xu j2 (by omega) j3 k8) hb;have e2:gA ⟨G,(G.n:Int),h⟩ = .out (.exit 2) ⟨D2,(G.n:Int),(B:Int),h⟩:=by
  unfold gA;rw [e0,e1];exact q1
 refine ⟨D2,?_,q2,?_⟩
 ·unfold lM na aR
  rw [e0,e1,e2];simp only [aI,ai,aK.lF,aK.lU,gq,nA,j2]
 ·by_cases hz:G.n=0
  ·rw [hz]
   exact ⟨fun i j _ _ hj=>by omega,fun p=>rfl⟩
  ·have:=q4 0 (Nat.dvd_zero _) (by omega)
   rw [bk,Nat.min_eq_right q3] at this;exact ⟨this.1,fun p=>by have:=this.2 p; rwa [Nat.sub_zero] at this⟩
end
end Go.Proofs.YtchbpckkmgcgkaaGreat.b
end
section
namespace Go.Proofs.YtchbpckkmgcgkaaGreat.b
open Go.K Go.K.iK
open Go.aE (aq)
theorem aiG {α:Type} (p:α->Bool) (d:Nat->α):∀ k,xX p d 0 k=((List.range k).map d).countP p
 | 0=>rfl
 | k+1=>by
  rw [xX,aiG p d k,QY,HM,List.countP_append,bk];have e:b2 (p (d k)) = [d k].countP p:=by
   rw [List.countP_singleton];cases p (d k) <;> rfl
  rw [e];rfl
theorem VW {α:Type} {D G:List α} (h:∀ p:α->Bool,D.countP p=G.countP p) {v:α} (hv:v∈D):v∈G:=by
 have hp:0 < G.countP (fun a=>@decide (a=v) (Classical.propDecidable _)):=by
  rw [<- h];exact List.countP_pos_iff.2 ⟨v,hv,by simp⟩
 obtain ⟨a,h1,h2⟩:=List.countP_pos_iff.1 hp;have:a=v:=by simpa using h2
 exact this ▸ h1
def xv (s:Show) (b:aL×Bool) (f:aL):Bool:=pR s f&&(!b.2||decide (f.d > b.1.d))
theorem atH {n:Nat} (h:n<=98304):((Nat.ble (((n+1)+512) * 48) 17592186044416)&&(Nat.ble (n+1) 17592186044416))=true:=by
 rw [aD];exact ⟨Nat.ble_eq_true_of_le (by omega),Nat.ble_eq_true_of_le (by omega)⟩
theorem abF {α:Type} {p:α->Bool} {l:List α} {f:α} : (l++[f]).filter p=l.filter p++cond (p f) [f] []:=by
 rw [List.filter_append,List.filter_cons,List.filter_nil];cases p f <;> rfl
theorem apw (s:Show) (b:aL×Bool) (x:aP) (hs:x.fZ.cQ=s) (EE:x.yK=b.2) (uE:x.xp=b.1) (hi:∀ j,j < x.t14.n->0<=(x.t14.get j).dp.item/\(x.t14.get j).dp.item < (s.items.n:Int)) (hn:x.t14.n<=98304) (h15:x.t15=(x.t14.n:Int)) (h16:x.t16=0) (h0:x.ll.n=0) :
  ∃ e y,goN bT x = .out e y/\(e = .exit 0/\y.fZ=x.fZ/\y.ll.n<=98304/\bB y.ll=(mI x.x x.y (bB x.t14)).filter (xv s b)):=by
 refine bt (step:=bT) (fun j y=>y.t14=x.t14/\y.t15=(x.t14.n:Int)/\y.t16=(j:Int)/\y.x=x.x/\y.y=x.y/\j<=x.t14.n/\y.fZ=x.fZ/\y.yK=b.2/\y.xp=b.1/\y.ll.n<=j/\bB y.ll=(mI x.x x.y ((bB x.t14).take j)).filter (xv s b)) _ x.t14.n (by have:gv=1000000000000:=rfl; omega) (fun j y hj ⟨f1,f2,f3,f4,f5,f6,f7,f8,f9,f10,f11⟩=>?_) ⟨rfl,h15,h16,rfl,rfl,dq _,rfl,EE,uE,by omega,pq.1 (by rw [eP,h0])⟩;have w1:ak (y.t16+1)=y.t16+1:=aj;unfold bT dK fv bh aR;by_cases h:y.t16 < y.t15
 ·have fw:j < x.t14.n:=by omega
  have hg:y.t14.get (Int.toNat y.t16)=x.t14.get j:=by rw [f1,f3,bU]
  obtain ⟨sp,e,hp⟩:=Vr (x.t14.get j).t x.x x.y;have e0:bW y=some (sp,e):=by
   unfold bW;rw [hg,f4,f5];exact hp
  obtain ⟨i1,i2⟩:=hi j fw;have tk:=ac6 (x:=x.x) (y:=x.y) x.t14 j fw;have po:=atH (n:=y.ll.n) (by omega);simp only [e0,hg,w1,po,aI,ai,bC,bj,bc,au h,au (show (0:Int)<=y.t16 by omega),au (show y.t16 < ((y.t14.n:Nat):Int) by rw [f1]; omega),au i1,au (show (x.t14.get j).dp.item < ((y.fZ.cQ.items.n:Nat):Int) by rw [f7,hs]; exact i2)];have S1:∀ {y' : aP},y'.t14=y.t14->y'.t15=y.t15->y'.t16=y.t16+1->y'.x=y.x->y'.y=y.y->y'.fZ=y.fZ->y'.yK=y.yK->y'.xp=y.xp->y'.ll.n<=j+1->bB y'.ll=(mI x.x x.y ((bB x.t14).take (j+1))).filter (xv s b)->
    (∃ x',(aK.next y' : aK aP) = .next x'/\j < x.t14.n/\x'.t14=x.t14/\x'.t15=(x.t14.n:Int)/\x'.t16=((j+1:Nat):Int)/\x'.x=x.x/\x'.y=x.y/\j+1<=x.t14.n/\x'.fZ=x.fZ/\x'.yK=b.2/\x'.xp=b.1/\x'.ll.n<=j+1/\bB x'.ll=(mI x.x x.y ((bB x.t14).take (j+1))).filter (xv s b)):=fun {y'} q1 q2 q3 q4 q5 q6 q7 q8 q9 q10=>
   ⟨y',rfl,fw,q1.trans f1,q2.trans f2,by omega,q4.trans f4,q5.trans f5,by omega,q6.trans f7,q7.trans f8,q8.trans f9,q9,q10⟩
  cases he:(e==(0:Int)) with
  | false=>
   have CO:pf x.x x.y (x.t14.get j)=none:=by
    unfold pf;rw [hp];simp only [he,aw]
   rw [aw];exact .inl (S1 rfl rfl rfl rfl rfl rfl rfl rfl (by show y.ll.n<=_; omega) (by show bB y.ll=_; rw [tk,CO,f11]; simp))
  | true=>
   have CO:pf x.x x.y (x.t14.get j)=some ⟨ak ((x.t14.get j).dp.d+sp.d),(x.t14.get j).dp.item,(x.t14.get j).dp.aZ,(x.t14.get j).dp.part,sp.u,sp.v⟩:=by
    unfold pf;rw [hp];simp only [he,ai]
   have Yz:(y.fZ.cQ.items.get (Int.toNat (x.t14.get j).dp.item)).look.Aj=pR s ⟨ak ((x.t14.get j).dp.d+sp.d),(x.t14.get j).dp.item,(x.t14.get j).dp.aZ,(x.t14.get j).dp.part,sp.u,sp.v⟩:=by
    rw [f7,hs];rfl
   rw [ai,Yz];generalize hf:(⟨ak ((x.t14.get j).dp.d+sp.d),(x.t14.get j).dp.item,(x.t14.get j).dp.aZ,(x.t14.get j).dp.part,sp.u,sp.v⟩:aL)=f at *;have hd:ak ((x.t14.get j).dp.d+sp.d)=f.d:=by rw [<- hf]
   rw [hd,f8,f9];have qv:(mI x.x x.y ((bB x.t14).take (j+1))).filter (xv s b)=bB y.ll++cond (xv s b f) [f] []:=by
    rw [tk,CO,f11];exact abF
   have yes:xv s b f=true->∃ x',(aK.next (⟨y.x,y.y,y.t14,y.t15,y.t16+1,y.fZ,b.2,b.1,y.ll.push f⟩:aP)) = .next x'/\j < x.t14.n/\x'.t14=x.t14/\x'.t15=(x.t14.n:Int)/\x'.t16=((j+1:Nat):Int)/\x'.x=x.x/\x'.y=x.y/\j+1<=x.t14.n/\x'.fZ=x.fZ/\x'.yK=b.2/\x'.xp=b.1/\x'.ll.n<=j+1/\bB x'.ll=(mI x.x x.y ((bB x.t14).take (j+1))).filter (xv s b):=fun ho=>
    S1 rfl rfl rfl rfl rfl rfl f8.symm f9.symm (by show y.ll.n+1<=_; omega) (by show bB (Sl.push _ _)=_; rw [jE,qv,ho]; rfl)
   have no:xv s b f=false->∃ x',(aK.next (⟨y.x,y.y,y.t14,y.t15,y.t16+1,y.fZ,b.2,b.1,y.ll⟩:aP)) = .next x'/\j < x.t14.n/\x'.t14=x.t14/\x'.t15=(x.t14.n:Int)/\x'.t16=((j+1:Nat):Int)/\x'.x=x.x/\x'.y=x.y/\j+1<=x.t14.n/\x'.fZ=x.fZ/\x'.yK=b.2/\x'.xp=b.1/\x'.ll.n<=j+1/\bB x'.ll=(mI x.x x.y ((bB x.t14).take (j+1))).filter (xv s b):=fun ho=>
    S1 rfl rfl rfl rfl rfl rfl f8.symm f9.symm (by show y.ll.n<=_; omega) (by show bB y.ll=_; rw [qv,ho]; exact (pr _).symm)
   have ho:xv s b f=(pR s f&&(!b.2||decide (f.d > b.1.d))):=rfl;cases hb:pR s f with
   | false=>
    rw [aw];exact .inl (no (by rw [ho,hb]; rfl))
   | true=>
    rw [ai];cases hc:(!b.2) with
    | true=>
     rw [ai];exact .inl (yes (by rw [ho,hb,hc]; rfl))
    | false=>
     rw [aw];cases hd:decide (f.d > b.1.d) with
     | true=>
      rw [ai];exact .inl (yes (by rw [ho,hb,hc,hd]; rfl))
     | false=>
      rw [aw];exact .inl (no (by rw [ho,hb,hc,hd]; rfl))
 ·simp only [aI,ai,aw,ay h]
  refine .inr ⟨_,_,rfl,rfl,rfl,f7,by omega,?_⟩;rw [f11,show j=x.t14.n by omega,CH (by rw [eP]; exact aX _)]
def jo (s:Show) (f:aL):Color:=((rI (s.items.get (Int.toNat f.item)).look s.av f.u f.v).getD default).fst
def lay (p g:Color):Color:=(C8 p g).getD default
def ly (s:Show) (g:Color) (l:List aL):Color:=l.foldl (fun g f=>lay (jo s f) g) g
def rJ (s:Show):Prop:=fY s.av=some 0/\∀ i,i < s.items.n->eL (s.items.get i).look (s.av.n:Int)=some 0
theorem adC {s:Show} (h:ij s=some 0):rJ s:=by
 obtain ⟨_,_,h3,h4⟩:=(aij s).1 h;exact ⟨h3,fun i hi=>arA (h4 i hi)⟩
theorem aeR {s:Show} {r:aH} {f:aL} (hl:rJ s) (h1:r.cQ=s) (hf:0<=f.item/\f.item < (s.items.n:Int)):mF r f=some (jo s f):=by
 subst h1;obtain ⟨c,e,h2,_⟩:=an8 (u:=f.u) (v:=f.v) hl.1 (hl.2 (Int.toNat f.item) (by omega));have e0:yp r f=some (c,e):=h2;unfold mF jo bh;simp only [e0,h2,bj,bc,ai,au hf.1,au hf.2,bC]
theorem aiH (s:Show) (hl:rJ s) (x:fV) (hs:x.s.cQ=s) (hi:∀ j,j < x.t33.n->0<=(x.t33.get j).item/\(x.t33.get j).item < (s.items.n:Int)) (hn:x.t33.n<=98304) (h34:x.t34=(x.t33.n:Int)) (h35:x.t35=0) :
  ∃ e y,goN eH x = .out e y/\(e = .exit 0/\y.ground=ly s x.ground (bB x.t33)):=by
 refine bt (step:=eH) (fun j y=>y.t33=x.t33/\y.t34=(x.t33.n:Int)/\y.t35=(j:Int)/\j<=x.t33.n/\y.s=x.s/\y.ground=ly s x.ground ((bB x.t33).take j)) _ x.t33.n (by have:gv=1000000000000:=rfl; omega) (fun j y hj ⟨f1,f2,f3,f4,f5,f6⟩=>?_) ⟨rfl,h34,h35,dq _,rfl,rfl⟩;have w1:ak (y.t35+1)=y.t35+1:=aj;unfold eH bh aR;by_cases h:y.t35 < y.t34
 ·have fw:j < x.t33.n:=by omega
  have e0:cj y=some (jo s (x.t33.get j)):=by
   unfold cj;rw [f1,f3,f5,bU,bk];exact aeR hl hs (hi j fw)
  simp only [e0,w1,aI,ai,bC,bj,bc,au h,au (show (0:Int)<=y.t35 by omega),au (show y.t35 < ((y.t33.n:Nat):Int) by rw [f1]; omega)];refine .inl ⟨_,rfl,fw,f1,f2,by show y.t35+1=_; omega,by omega,f5,?_⟩;show lay (jo s (x.t33.get j)) y.ground=_;rw [K2 x.t33 j fw,f6];unfold ly;rw [List.foldl_append];rfl
 ·simp only [aI,ai,aw,ay h]
  refine .inr ⟨_,_,rfl,rfl,rfl,?_⟩;rw [f6,show j=x.t33.n by omega,CH (by rw [eP]; exact aX _)]
theorem aeS (s:Show) (c:az) (r:aH) (ground:Color) (x y:Int) (hZ:aL->aL->Prop) (hl:rJ s) (h1:r.cQ=s) (h2:bB r.parts=gx s c) (h3:r.parts.n<=98304)
  (hr:∀ G:Sl aL,bB G=(mI x y (gx s c)).filter (xv s (uj s (mI x y (gx s c))))->akA (bR r hZ) G.get G.n) :
  ∃ D:Sl aL,hM r ground x y=some (ly s (cond (uj s (mI x y (gx s c))).2 (jo s (uj s (mI x y (gx s c))).1) ground) (bB D))/\hX (bR r hZ) D.get 0 D.n/\∀ p:aL->Bool,(bB D).countP p=((mI x y (gx s c)).filter (xv s (uj s (mI x y (gx s c))))).countP p:=by
 have hw:=abz s c r x y h1 h2 h3;have hwp:=adx s (mI x y (gx s c));generalize hb:uj s (mI x y (gx s c))=b at *;have e0:nb r ground x y=some b:=hw;have hit:∀ j,j < r.parts.n->0<=(r.parts.get j).dp.item/\(r.parts.get j).dp.item < (s.items.n:Int):=fun j hj=>by
  have hm:r.parts.get j∈bB r.parts:=FO hj;rw [h2] at hm;obtain ⟨i,k,n,i1,i2,i3,e⟩:=WW hm;rw [e];show 0<=(i:Int)/\(i:Int) < (s.items.n:Int);omega
 obtain ⟨e,z,hz,rfl,z1,z2,z3⟩:∃ e z,cR r ground x y = .out e z/\(e = .exit 0/\z.fZ=r/\z.ll.n<=98304/\bB z.ll=(mI x y (bB r.parts)).filter (xv s b)):=by
  unfold cR;exact apw s b _ h1 (by rw [e0]; rfl) (by rw [e0]; rfl) hit h3 rfl rfl rfl
 rw [h2] at z3;have b1:(cR r ground x y).by (.exit 0)=true:=by rw [hz]; rfl
 have b2:(cR r ground x y).st=z:=by rw [hz]; rfl
 have inG:∀ v∈bB z.ll,0<=v.item/\v.item < (s.items.n:Int):=fun v hv=>by
  rw [z3] at hv;exact QH (List.mem_filter.1 hv).1
 obtain ⟨D,hD,d1,d2,d3⟩:=abE r hZ z.ll (by omega) (fun t ht=>by
  have:=inG _ (FO ht);unfold jm;rw [h1,au this.1,au this.2];rfl) (hr z.ll z3)
 have hD' : eI r ground x y = .out .ret ⟨D,(z.ll.n:Int),r⟩:=by
  unfold eI;rw [b2,z1];exact hD
 have b3:(eI r ground x y).by .ret=true:=by rw [hD']; rfl
 have b4:(eI r ground x y).st=⟨D,(z.ll.n:Int),r⟩:=by rw [hD']; rfl
 have avr:∀ p:aL->Bool,(bB D).countP p=(bB z.ll).countP p:=fun p=>by
  have:=d3 p;rw [aiG,aiG,<- d1] at this;rw [d1] at this;show ((List.range D.n).map D.get).countP p=((List.range z.ll.n).map z.ll.get).countP p;rw [d1];exact this
 have inD:∀ j,j < D.n->0<=(D.get j).item/\(D.get j).item < (s.items.n:Int):=fun j hj=>inG _ (VW avr (FO hj));refine ⟨D,?_,by rw [d1]; exact d2,fun p=>by rw [avr p,z3]⟩;unfold hM aR;simp only [e0,b1,b2,b3,b4,d1,aI,bj,bc,ai];cases uE:b.2 with
 | true=>
  have oC:b.1∈mI x y (gx s c):=by
   rcases hwp with ⟨q,_⟩ | ⟨_,q,_⟩
   ·rw [uE] at q; simp at q
   ·exact q
  have e1:sX r ground x y=some (jo s b.1):=by
   unfold sX;rw [e0];exact aeR hl h1 (QH oC)
  obtain ⟨e,u,hu,rfl,u1⟩:∃ e u,nc r ground x y = .out e u/\(e = .exit 0/\u.ground=ly s (jo s b.1) (bB D)):=by
   unfold nc;rw [b2,b4,e1];exact aiH s hl _ h1 inD (by show D.n<=98304; omega) (by show (z.ll.n:Int)=(D.n:Int); rw [d1]) rfl
  have b5:(nc r ground x y).by (.exit 0)=true:=by rw [hu]; rfl
  have b6:(nc r ground x y).st=u:=by rw [hu]; rfl
  simp only [e1,b5,b6,bj,ai];rw [u1]
 | false=>
  obtain ⟨e,u,hu,rfl,u1⟩:∃ e u,nf r ground x y = .out e u/\(e = .exit 0/\u.ground=ly s ground (bB D)):=by
   unfold nf;rw [b2,b4];exact aiH s hl _ h1 inD (by show D.n<=98304; omega) (by show (z.ll.n:Int)=(D.n:Int); rw [d1]) rfl
  have b5:(nf r ground x y).by (.exit 0)=true:=by rw [hu]; rfl
  have b6:(nf r ground x y).st=u:=by rw [hu]; rfl
  simp only [b5,b6,ai,aw];rw [u1]
theorem arG (s:Show) (c:az) (r:aH) (ground:Color) (x y:Int) (hl:rJ s) (h1:r.cQ=s) (h2:bB r.parts=gx s c) (h3:r.parts.n<=98304):∃ v,hM r ground x y=some v:=by
 obtain ⟨D,h,_⟩:=aeS s c r ground x y (fun a b=>∃ (i j:Nat),i < j/\((mI x y (gx s c)).filter (xv s (uj s (mI x y (gx s c)))))[i]? = some a/\((mI x y (gx s c)).filter (xv s (uj s (mI x y (gx s c)))))[j]? = some b) hl h1 h2 h3 (fun G hG i j vK hj=>⟨i,j,vK,by rw [<- hG]; exact Eo G i (by omega),by rw [<- hG]; exact Eo G j hj⟩);exact ⟨_,h⟩
def Ca (s:Show) (c:az) (x y:Int):aL×Bool:=uj s (mI x y (gx s c))
def aeT (r:aH) (ground:Color) (x y:Int):Color:=(hM r ground x y).getD default
structure I3 (s:Show) (c:az) (r:aH):Prop where
 looks:rJ s
 cQ:r.cQ=s
 parts:bB r.parts=gx s c
 n:r.parts.n<=98304
theorem I3.uj {s:Show} {c:az} {r:aH} (h:I3 s c r) (x y:Int):jr r x y=some (Ca s c x y):=abz s c r x y h.cQ h.parts h.n
theorem I3.col {s:Show} {c:az} {r:aH} (h:I3 s c r) (ground:Color) (x y:Int):hM r ground x y=some (aeT r ground x y):=by
 obtain ⟨v,hv⟩:=arG s c r ground x y h.looks h.cQ h.parts h.n;unfold aeT;rw [hv];rfl
inductive AtP (s:Show) (c:az) (ground:Color) (x y:Int):Prop where
 | no (e:Int) (he:e≠0) (h1:∃ l,iY s c x y=some (l,e)) (h2:jA s c x y=some (⟨0,0,0,0,0,0⟩,false,e)) (h3:mG s c ground x y=some (⟨0,0,0,0⟩,e)):AtP s c ground x y
 | yes (r:aH) (l:Sl aL) (hr:I3 s c r) (ho:th s c=some r) (hs:KC s) (hc:OQ c) (ha:cX s c=some 0) (hx:0<=x/\x < c.w) (hy:0<=y/\y < c.h)
   (h1:iY s c x y=some (l,0)) (hl:bB l=mI x y (gx s c)) (h2:jA s c x y=some (cond (Ca s c x y).2 (Ca s c x y).1 ⟨0,0,0,0,0,0⟩,(Ca s c x y).2,0)) (h3:mG s c ground x y=some (aeT r ground x y,0)):AtP s c ground x y
theorem atP (s:Show) (c:az) (ground:Color) (x y:Int):AtP s c ground x y:=by
 obtain ⟨l,e,h1,h2⟩:=alF s c x y;rcases h2 with ⟨he,r,hr⟩ | ⟨rfl,r,hr,hs,hc,hx,hy,ha,ho,h3,h4,h5,h6⟩
 ·have e0:pU s c x y=some (r,e):=hr
  have e1:tH s c ground x y=some (r,e):=hr;have hb:(e != (0:Int))=true:=by simpa using he
  refine .no e he ⟨l,h1⟩ ?_ ?_
  ·unfold jA
   simp only [e0,bj,bc,ai,hb]
  ·unfold mG
   simp only [e1,bj,bc,ai,hb]
 ·have hk:I3 s c r:=⟨adC (KG ha),h3,h4,h5⟩
  have e0:pU s c x y=some (r,0):=hr;have e1:tH s c ground x y=some (r,0):=hr;have e2:rY s c x y=some (Ca s c x y):=by
   unfold rY;rw [e0];exact hk.uj x y
  have e3:BM s c ground x y=some (aeT r ground x y):=by
   unfold BM;rw [e1];exact hk.col ground x y
  refine .yes r l hk ho hs hc ha hx hy h1 h6 ?_ ?_
  ·unfold jA
   simp only [e0,e2,bj,bc,ai,hU,aw];cases (Ca s c x y).2 <;> rfl
  ·unfold mG
   simp only [e1,e3,bj,bc,ai,hU,aw]
theorem al5 (l:Sl bG):(sV l).isSome=true:=by
 obtain ⟨e,z,hz,rfl⟩:∃ e z,nS l = .out e z/\e = .exit 0:=by
  unfold nS;refine bt (step:=mu) (fun j y=>y.i=(j:Int)) (fun e _=>e = .exit 0) 100 (by decide) (fun j y hj f1=>?_) rfl;have w1:ak (y.i+1)=y.i+1:=aj;unfold mu bh;cases h:decide (y.i < ((y.l.n:Nat):Int)) with
  | false=>exact .inr ⟨_,_,rfl,rfl,rfl⟩
  | true=>
   cases h2:decide (y.i < (100:Int)) with
   | false=>exact .inr ⟨_,_,rfl,rfl,rfl⟩
   | true=>
    have Lg:=rh h2;simp only [w1,ai,bC,au (show (0:Int)<=y.i by omega)];exact .inl ⟨_,rfl,by omega,by show y.i+1=_; omega⟩
 have b1:(nS l).by (.exit 0)=true:=by rw [hz]; rfl
 unfold sV;simp only [b1,ai];exact nh (fun _=>rfl) (fun _=>rfl)
theorem aoa (s:Show):(vp s).isSome=true:=by
 obtain ⟨e,z,hz,rfl⟩:∃ e z,mw s = .out e z/\e = .exit 0:=by
  unfold mw;refine bt (step:=mv) (fun j y=>y.i=(j:Int)) (fun e _=>e = .exit 0) 300 (by decide) (fun j y hj f1=>?_) rfl;have w1:ak (y.i+1)=y.i+1:=aj;unfold mv bh;cases h:decide (y.i < ((y.s.items.n:Nat):Int)) with
  | false=>exact .inr ⟨_,_,rfl,rfl,rfl⟩
  | true=>
   cases h2:decide (y.i < (300:Int)) with
   | false=>exact .inr ⟨_,_,rfl,rfl,rfl⟩
   | true=>
    have Lg:=rh h2;simp only [w1,ai,bC,au (show (0:Int)<=y.i by omega)];exact .inl ⟨_,rfl,by omega,by show y.i+1=_; omega⟩
 have b1:(mw s).by (.exit 0)=true:=by rw [hz]; rfl
 have e1:(Aq s).isSome=true:=al5 _;unfold vp;simp only [b1,e1,ai];exact nh (fun _=>rfl) (fun _=>nh (fun _=>rfl) (fun _=>rfl))
def KL (a b:aL):Prop:=a.item < b.item\/a.item=b.item/\(a.aZ < b.aZ\/a.aZ=b.aZ/\a.part < b.part)
theorem apx (s:Show) (c:az):(gx s c).Pairwise (fun p q=>KL p.dp q.dp):=by
 unfold gx;refine List.pairwise_flatMap.2 ⟨fun i _=>?_,List.pairwise_lt_range.imp fun {i j} vK p hp q hq=>?_⟩
 ·unfold Jp
  refine List.pairwise_flatMap.2 ⟨fun k _=>?_,List.pairwise_lt_range.imp fun {k m} ZI p hp q hq=>?_⟩
  ·unfold NL
   refine List.pairwise_map.2 (List.pairwise_lt_range.imp fun {a b} hab=>?_);exact .inr ⟨rfl,.inr ⟨rfl,by show (a:Int) < (b:Int); omega⟩⟩
  ·unfold NL at hp hq
   obtain ⟨a,_,rfl⟩:=HK.1 hp;obtain ⟨b,_,rfl⟩:=HK.1 hq;exact .inr ⟨rfl,.inl (by show (k:Int) < (m:Int); omega)⟩
 ·unfold Jp at hp hq
  obtain ⟨k,_,hp⟩:=QZ.1 hp;obtain ⟨m,_,hq⟩:=QZ.1 hq;unfold NL at hp hq;obtain ⟨a,_,rfl⟩:=HK.1 hp;obtain ⟨b,_,rfl⟩:=HK.1 hq;exact .inl (by show (i:Int) < (j:Int); omega)
theorem arH (s:Show) (c:az) (x y:Int):(mI x y (gx s c)).Pairwise KL:=by
 unfold mI;refine List.pairwise_filterMap.2 ((apx s c).imp fun {p q} h f hf g hg=>?_);obtain ⟨a1,a2,a3⟩:=ady hf;obtain ⟨b1,b2,b3⟩:=ady hg;unfold KL at *;rw [a1,a2,a3,b1,b2,b3];exact h
theorem aiI {α:Type} {lt:α->α->Prop} (aqF:∀ a b,lt a b->lt b a->False):∀ {A B:List α},A.Pairwise lt->B.Pairwise lt->(∀ v,v∈A↔v∈B)->A=B
 | [],[],_,_,_=>rfl
 | [],b::B,_,_,h=>absurd ((h b).2 (Kj ..)) (by simp)
 | a::A,[],_,_,h=>absurd ((h a).1 (Kj ..)) (by simp)
 | a::A,b::B,hA,hB,h=>by
  obtain ⟨ha,hA'⟩:=List.pairwise_cons.1 hA;obtain ⟨hb,hB'⟩:=List.pairwise_cons.1 hB;have hab:a=b:=by
   rcases ff.1 ((h a).1 (Kj ..)) with e | e
   ·exact e
   ·rcases ff.1 ((h b).2 (Kj ..)) with e' | e'
    ·exact e'.symm
    ·exact (aqF _ _ (ha b e') (hb a e)).elim
  subst hab;rw [aiI aqF hA' hB' fun v=>⟨fun hv=>by
   rcases ff.1 ((h v).1 (wh _ hv)) with e | e
   ·subst e; exact (aqF _ _ (ha v hv) (ha v hv)).elim
   ·exact e,fun hv=>by
   rcases ff.1 ((h v).2 (wh _ hv)) with e | e
   ·subst e; exact (aqF _ _ (hb v hv) (hb v hv)).elim
   ·exact e⟩]
theorem arI {α:Type} {R:α->α->Prop} {G:Sl α} (h:(bB G).Pairwise R):∀ i j,i < j->j < G.n->R (G.get i) (G.get j):=fun i j vK hj=>by
 have:=List.pairwise_iff_getElem.1 h i j (by rw [eP]; omega) (by rw [eP]; omega) vK;have e1:=Eo G i (by omega);have e2:=Eo G j (by omega);rw [dD (by rw [eP]; omega)] at e1 e2;rw [pb e1,pb e2] at this;exact this
theorem arJ {α:Type} {R:α->α->Prop} {G:Sl α} (h:∀ i j,i < j->j < G.n->R (G.get i) (G.get j)):(bB G).Pairwise R:=by
 unfold bB;refine List.pairwise_map.2 (List.pairwise_iff_getElem.2 fun i j hi hj vK=>?_);rw [List.getElem_range,List.getElem_range];exact h i j vK (by simpa using hj)
def Hu (s:Show) (f:aL):Int:=(s.items.get (Int.toNat f.item)).look.bin
def zF (s:Show) (w:aL×Bool) (b:Int) (f:aL):Bool:=xv s w f&&(Hu s f==b)
def sj (s:Show) (w:aL×Bool) (l:List aL) (n:Nat):List aL:=(List.range n).flatMap fun (b:Nat)=>l.filter (zF s w (b:Int))
theorem aob (s:Show) (c:az) (r:aH) (ground:Color) (x y:Int) (hk:I3 s c r):aeT r ground x y=ly s (cond (Ca s c x y).2 (jo s (Ca s c x y).1) ground) (sj s (Ca s c x y) (mI x y (gx s c)) 16):=by
 have atI:=arH s c x y;obtain ⟨D,h1,h2,h3⟩:=aeS s c r ground x y KL hk.looks hk.cQ hk.parts hk.n (fun G hG=>fun i j vK hj=>by
  have:(bB G).Pairwise KL:=by rw [hG]; exact atI.filter _
  exact arI this i j vK hj)
 have e:bB D=sj s (Ca s c x y) (mI x y (gx s c)) 16:=by
  refine aiI (lt:=(bR r KL).lt) (fun a b h h'=>?_) (arJ fun i j vK hj=>h2 i j (dq _) vK hj) ?_ (fun v=>?_)
  ·unfold Ord.lt bR KL at h h'
   simp only at h h';generalize bZ r a=ka at *;generalize bZ r b=kb at *;omega
  ·unfold sj
   have key:∀ v b,zF s (Ca s c x y) b v=true->bZ r v=b:=fun v b hv=>by
    unfold zF at hv;rw [aD] at hv;have:Hu s v=b:=by simpa using hv.2
    rw [<- this,<- hk.cQ];rfl
   refine List.pairwise_flatMap.2 ⟨fun b _=>?_,List.pairwise_lt_range.imp fun {a b} hab p hp q hq=>?_⟩
   ·refine List.Pairwise.imp_of_mem (R:=KL) (fun {p q} hp hq h=>?_) (atI.filter _)
    have kp:=key _ _ (List.mem_filter.1 hp).2;have kq:=key _ _ (List.mem_filter.1 hq).2;exact .inr ⟨kp.trans kq.symm,h⟩
   ·have kp:=key _ _ (List.mem_filter.1 hp).2
    have kq:=key _ _ (List.mem_filter.1 hq).2;refine .inl ?_;show bZ r p < bZ r q;rw [kp,kq];omega
  ·have m1:v∈bB D↔v∈(mI x y (gx s c)).filter (xv s (Ca s c x y)):=⟨fun h=>VW h3 h,fun h=>VW (fun p=>(h3 p).symm) h⟩
   rw [m1];unfold sj;constructor
   ·intro h
    obtain ⟨h4,h5⟩:=List.mem_filter.1 h;obtain ⟨i1,i2⟩:=QH h4;have hl:=Qt (hk.looks.2 (Int.toNat v.item) (by omega));have hb0:0<=Hu s v/\Hu s v<=15:=⟨hl.n0,hl.n1⟩
    refine QZ.2 ⟨Int.toNat (Hu s v),A6.2 (by omega),List.mem_filter.2 ⟨h4,?_⟩⟩;unfold zF;rw [h5,ZH hb0.1];simp
   ·intro h
    obtain ⟨b,_,h4⟩:=QZ.1 h;obtain ⟨h5,h6⟩:=List.mem_filter.1 h4;unfold zF at h6;rw [aD] at h6;exact List.mem_filter.2 ⟨h5,h6.1⟩
 have h1' : hM r ground x y=some (ly s (cond (Ca s c x y).2 (jo s (Ca s c x y).1) ground) (bB D)):=h1;unfold aeT;rw [h1',e];rfl
theorem aoc (s:Show) (g:Color) (l:List aL) (f:aL):ly s g (l++[f])=lay (jo s f) (ly s g l):=by
 unfold ly;rw [List.foldl_append];rfl
theorem ajD (s:Show) (g:Color) (l m:List aL):ly s g (l++m)=ly s (ly s g l) m:=by
 unfold ly;rw [List.foldl_append]
end Go.Proofs.YtchbpckkmgcgkaaGreat.b
end
section
namespace Go.Proofs.YtchbpckkmgcgkaaGreat.b
open Go.K
noncomputable section
def y7 (a:aL) (b:aL):Option (Bool):=(cond (a.d != b.d) (some ((decide (a.d > b.d)))) (cond (a.item != b.item) (some ((decide (a.item < b.item)))) (cond (a.aZ != b.aZ) (some ((decide (a.aZ < b.aZ)))) (some ((decide (a.part < b.part)))))))
theorem afw (a:aL) (b:aL):gw [] [] 115 [fH a,fH b] = (y7 a b).map kB:=by
 unfold y7
 try simp only [aV]
 kernel_rfl
def O6:List KV->KR KV:=a8 PG 115 (bb kB fun vs=>y7 (gn (v9 vs 0)) (gn (v9 vs 1)))
theorem QO:a7 PG 115 O6:=bH ao.nil aJ.nil fun w=>afw (gn (g0 48 (w 0))) (gn (g0 48 (w 1)))
structure nW where
 l:(Sl aL)
 t5:Bool
 nX:Bool
 i:Int
 s:Show
 t4:aL
 C9:aL
instance:Inhabited nW:=⟨by constructor<;>exact default⟩
def JM (x:nW):List KV:=[eZ 48 fH x.l,.bool x.t5,.bool x.nX,.int .i64 x.i]
def JN (x:nW):List (List KV):=[sS x.s,Zf x.t4,Zf x.C9]
def TC (vs:List KV) (rs:List (List KV)):nW:=⟨fg gn (v9 vs 0),kO (v9 vs 1),kO (v9 vs 2),intOf (v9 vs 3),sT (r9 rs 0),Zg (r9 rs 1),Zg (r9 rs 2)⟩
def VX:aU:=⟨[(1,w9 (n9 48)),(5,w9 b9),(7,w9 b9),(8,w9 i9)],[(2,[n9 111,n9 114],1),(4,[i9,i9,i9,i9,i9,i9],1),(6,[i9,i9,i9,i9,i9,i9],1)],[(2,0,0),(4,1,0),(6,2,0)]⟩
def afx:=vL [(115,O6)] [] 58 58 VX
def BO (x:nW):=y7 (x.l.get (Int.toNat x.i)) x.C9
def vz (x:nW):aK nW:=(cond (bh x.i x.l.n) (.next ⟨x.l,x.t5,true,(ak (x.i+1)),x.s,x.t4,(x.l.get (Int.toNat x.i))⟩) .fail)
def rZ (x:nW):aK nW:=(cond (decide (x.i < (x.l.n:Int))) (cond (bh x.i x.l.n) (cond (bh (x.l.get (Int.toNat x.i)).item x.s.items.n) (cond (!(x.s.items.get (Int.toNat (x.l.get (Int.toNat x.i)).item)).look.Aj) (cond (!x.nX)
    (vz x) (cond (bh x.i x.l.n) (cond (BO x).isSome (cond ((BO x).getD default)
     (vz x) (.next ⟨x.l,x.t5,x.nX,(ak (x.i+1)),x.s,x.t4,x.C9⟩)) .fail) .fail)) (.next ⟨x.l,x.t5,x.nX,(ak (x.i+1)),x.s,x.t4,x.C9⟩)) .fail) .fail) (.out (aE.aq.exit 0) x))
theorem abG (x:nW):afx (JM x) (JN x)=aK.enc JM JN (rZ x):=by
 unfold rZ vz bh
 try simp only [aK.bI]
 kernel_rfl
def VY:Lp:=⟨58,58,VX,fun vs rs=>cc JM JN (goN rZ (TC vs rs)) [aE.aq.exit 0],false⟩
theorem afy:VY.Ok PG:=uJ (ao.cons QO ao.nil) aJ.nil (pa:=TC) abG
def vU (s:Show) (l:(Sl aL)):=goN rZ ⟨l,false,false,0,s,⟨0,0,0,0,0,0⟩,⟨0,0,0,0,0,0⟩⟩
def AQ (s:Show) (l:(Sl aL)):Option (aL×Bool):=(cond ((vU s l).by (aE.aq.exit 0)) (some ((vU s l).st.C9,(vU s l).st.nX)) none)
theorem ajE (s:Show) (l:(Sl aL)):gw [(115,O6)] [VY] 58 [ph s,(eZ 48 fH) l] = (AQ s l).map (fun (r:aL×Bool)=>KV.jd [fH r.1,kB r.2]):=by
 unfold AQ
 try simp only [aV]
 kernel_rfl
def I4:List KV->KR KV:=a8 PG 58 (bb (fun (r:aL×Bool)=>KV.jd [fH r.1,kB r.2]) fun vs=>AQ (gm (v9 vs 0)) ((fg gn) (v9 vs 1)))
theorem F7:a7 PG 58 I4:=bH (ao.cons QO ao.nil) (ie afy aJ.nil) fun w=>ajE (gm (g0 25 (w 0))) ((fg gn) (g0 42 (w 1)))
def F8 (s:Show) (c:az):=yo s
def MG (s:Show) (c:az):=BD c
def yr (s:Show) (c:az):Option (Int):=(cond (F8 s c).isSome (cond (((F8 s c).getD default)==0) (cond (MG s c).isSome (some (((MG s c).getD default))) none) (some (((F8 s c).getD default)))) none)
theorem aiJ (s:Show) (c:az):gw [(89,abj),(20,KK)] [] 49 [ph s,kc c] = (yr s c).map (kI .i64):=by
 unfold yr
 try simp only [aV]
 kernel_rfl
def SR:List KV->KR KV:=a8 PG 49 (bb (kI .i64) fun vs=>yr (gm (v9 vs 0)) (dt (v9 vs 1)))
theorem TD:a7 PG 49 SR:=bH (ao.cons afi (ao.cons JD ao.nil)) aJ.nil fun w=>aiJ (gm (g0 25 (w 0))) (dt (g0 31 (w 1)))
def AU (s:Show) (c:az) (x:Int) (y:Int):=yr s c
def BP (s:Show) (c:az) (x:Int) (y:Int):Option (Int):=(cond (AU s c x y).isSome (cond (((AU s c x y).getD default)==0) (cond (decide (x < 0)) (some (2)) (cond (decide (x >= c.w)) (some (2)) (cond (decide (y < 0)) (some (2)) (cond (decide (y >= c.h)) (some (2)) (some (((AU s c x y).getD default))))))) (some (((AU s c x y).getD default)))) none)
theorem aiK (s:Show) (c:az) (x:Int) (y:Int):gw [(49,SR)] [] 54 [ph s,kc c,(kI .i64) x,(kI .i64) y] = (BP s c x y).map (kI .i64):=by
 unfold BP
 try simp only [aV]
 kernel_rfl
def abH:List KV->KR KV:=a8 PG 54 (bb (kI .i64) fun vs=>BP (gm (v9 vs 0)) (dt (v9 vs 1)) (intOf (v9 vs 2)) (intOf (v9 vs 3)))
theorem afz:a7 PG 54 abH:=bH (ao.cons TD ao.nil) aJ.nil fun w=>aiK (gm (g0 25 (w 0))) (dt (g0 31 (w 1))) (intOf (g0 3 (w 2))) (intOf (g0 3 (w 3)))
def BQ (t:bG) (u:Int) (v:Int):Option (Color):=(cond (bh (ak ((ak ((ak (Int.tdiv (ak (v * t.h)) 256)) * t.w))+(ak (Int.tdiv (ak (u * t.w)) 256)))) t.dF.n) (some ((t.dF.get (Int.toNat (ak ((ak ((ak (Int.tdiv (ak (v * t.h)) 256)) * t.w))+(ak (Int.tdiv (ak (u * t.w)) 256)))))))) none)
theorem aiL (t:bG) (u:Int) (v:Int):gw [] [] 194 [iu t,(kI .i64) u,(kI .i64) v] = (BQ t u v).map fh:=by
 unfold BQ bh
 try simp only [aV]
 kernel_rfl
def abI:List KV->KR KV:=a8 PG 194 (bb fh fun vs=>BQ (ej (v9 vs 0)) (intOf (v9 vs 1)) (intOf (v9 vs 2)))
theorem afA:a7 PG 194 abI:=bH ao.nil aJ.nil fun w=>aiL (ej (g0 114 (w 0))) (intOf (g0 3 (w 1))) (intOf (g0 3 (w 2)))
def ZB (a:Color) (b:Color):Option (Color):=(some (⟨(w8 (ak (Int.tdiv (ak ((ak a.e0) * (ak b.e0))) 255))),(w8 (ak (Int.tdiv (ak ((ak a.e1) * (ak b.e1))) 255))),(w8 (ak (Int.tdiv (ak ((ak a.e2) * (ak b.e2))) 255))),(w8 (ak (Int.tdiv (ak ((ak a.e3) * (ak b.e3))) 255)))⟩))
theorem al6 (a:Color) (b:Color):gw [] [] 193 [fh a,fh b] = (ZB a b).map fh:=by
 unfold ZB
 kernel_rfl
def aiM:List KV->KR KV:=a8 PG 193 (bb fh fun vs=>ZB (kQ (v9 vs 0)) (kQ (v9 vs 1)))
theorem ajF:a7 PG 193 aiM:=bH ao.nil aJ.nil fun w=>al6 (kQ (g0 33 (w 0))) (kQ (g0 33 (w 1)))
def qU (l:yD) (av:(Sl bG)) (u:Int) (v:Int):=BQ (av.get (Int.toNat l.iD)) u v
def pV (l:yD) (av:(Sl bG)) (u:Int) (v:Int):Option (Color):=(cond (decide (l.iD < 0)) (some (l.color)) (cond (bh l.iD av.n) (cond (qU l av u v).isSome (some (⟨(w8 (ak (Int.tdiv (ak ((ak l.color.e0) * (ak ((qU l av u v).getD default).e0))) 255))),(w8 (ak (Int.tdiv (ak ((ak l.color.e1) * (ak ((qU l av u v).getD default).e1))) 255))),(w8 (ak (Int.tdiv (ak ((ak l.color.e2) * (ak ((qU l av u v).getD default).e2))) 255))),(w8 (ak (Int.tdiv (ak ((ak l.color.e3) * (ak ((qU l av u v).getD default).e3))) 255)))⟩)) none) none))
theorem adD (l:yD) (av:(Sl bG)) (u:Int) (v:Int):gw [(193,aiM),(194,abI)] [] 155 [alA l,(eZ 114 iu) av,(kI .i64) u,(kI .i64) v] = (pV l av u v).map fh:=by
 unfold pV bh
 try simp only [aV]
 kernel_rfl
def VZ:List KV->KR KV:=a8 PG 155 (bb fh fun vs=>pV (Vk (v9 vs 0)) ((fg ej) (v9 vs 1)) (intOf (v9 vs 2)) (intOf (v9 vs 3)))
theorem abJ:a7 PG 155 VZ:=bH (ao.cons ajF (ao.cons afA ao.nil)) aJ.nil fun w=>adD (Vk (g0 107 (w 0))) ((fg ej) (g0 23 (w 1))) (intOf (g0 3 (w 2))) (intOf (g0 3 (w 3)))
def Ex (top:Color) (under:Color):Option (Color):=(some (⟨(w8 (ak (Int.tdiv (ak ((ak ((ak top.e0) * (ak top.e3)))+(ak ((ak under.e0) * (ak (255 - (ak top.e3))))))) 255))),(w8 (ak (Int.tdiv (ak ((ak ((ak top.e1) * (ak top.e3)))+(ak ((ak under.e1) * (ak (255 - (ak top.e3))))))) 255))),(w8 (ak (Int.tdiv (ak ((ak ((ak top.e2) * (ak top.e3)))+(ak ((ak under.e2) * (ak (255 - (ak top.e3))))))) 255))),(w8 (ak ((ak top.e3)+(ak (Int.tdiv (ak ((ak under.e3) * (ak (255 - (ak top.e3))))) 255)))))⟩))
theorem ajG (top:Color) (under:Color):gw [] [] 122 [fh top,fh under] = (Ex top under).map fh:=by
 unfold Ex
 kernel_rfl
def N7:List KV->KR KV:=a8 PG 122 (bb fh fun vs=>Ex (kQ (v9 vs 0)) (kQ (v9 vs 1)))
theorem MH:a7 PG 122 N7:=bH ao.nil aJ.nil fun w=>ajG (kQ (g0 33 (w 0))) (kQ (g0 33 (w 1)))
def F9 (s:Show) (f:aL):=pV (s.items.get (Int.toNat f.item)).look s.av f.u f.v
def vA (s:Show) (f:aL):Option (Color):=(cond (bh f.item s.items.n) (cond (F9 s f).isSome (some (((F9 s f).getD default))) none) none)
theorem aiN (s:Show) (f:aL):gw [(155,VZ)] [] 121 [ph s,fH f] = (vA s f).map fh:=by
 unfold vA bh
 try simp only [aV]
 kernel_rfl
def KM:List KV->KR KV:=a8 PG 121 (bb fh fun vs=>vA (gm (v9 vs 0)) (gn (v9 vs 1)))
theorem JO:a7 PG 121 KM:=bH (ao.cons abJ ao.nil) aJ.nil fun w=>aiN (gm (g0 25 (w 0))) (gn (g0 48 (w 1)))
structure mH where
 l:(Sl aL)
 nX:Bool
 bin:Int
 s:Show
 t6:Color
 C9:aL
 color:Color
instance:Inhabited mH:=⟨by constructor<;>exact default⟩
def CB (x:mH):List KV:=[eZ 48 fH x.l,.bool x.nX,.int .i64 x.bin]
def CC (x:mH):List (List KV):=[sS x.s,Sd x.t6,Zf x.C9,Sd x.color]
def Kf (vs:List KV) (rs:List (List KV)):mH:=⟨fg gn (v9 vs 0),kO (v9 vs 1),intOf (v9 vs 2),sT (r9 rs 0),Se (r9 rs 1),Zg (r9 rs 2),Se (r9 rs 3)⟩
def MI:aU:=⟨[(1,w9 (n9 48)),(8,w9 b9),(10,w9 i9)],[(3,[n9 111,n9 114],1),(6,[u9,u9,u9,u9],1),(7,[i9,i9,i9,i9,i9,i9],1),(9,[u9,u9,u9,u9],1)],[(3,0,0),(6,1,0),(7,2,0),(9,3,0)]⟩
structure fG where
 l:(Sl aL)
 nX:Bool
 bin:Int
 i:Int
 s:Show
 t6:Color
 C9:aL
 color:Color
instance:Inhabited fG:=⟨by constructor<;>exact default⟩
def zh (x:fG):List KV:=[eZ 48 fH x.l,.bool x.nX,.int .i64 x.bin,.int .i64 x.i]
def zi (x:fG):List (List KV):=[sS x.s,Sd x.t6,Zf x.C9,Sd x.color]
def Gw (vs:List KV) (rs:List (List KV)):fG:=⟨fg gn (v9 vs 0),kO (v9 vs 1),intOf (v9 vs 2),intOf (v9 vs 3),sT (r9 rs 0),Se (r9 rs 1),Zg (r9 rs 2),Se (r9 rs 3)⟩
def I5:aU:=⟨[(1,w9 (n9 48)),(8,w9 b9),(10,w9 i9),(11,w9 i9)],[(3,[n9 111,n9 114],1),(6,[u9,u9,u9,u9],1),(7,[i9,i9,i9,i9,i9,i9],1),(9,[u9,u9,u9,u9],1)],[(3,0,0),(6,1,0),(7,2,0),(9,3,0)]⟩
def TY:=vL [(122,N7),(121,KM),(58,I4)] [] 60 16018 I5
def dw (x:fG):=vA x.s (x.l.get (Int.toNat x.i))
def pW (x:fG):aK fG:=(cond (bh x.i x.l.n) (cond (dw x).isSome (.next ⟨x.l,x.nX,x.bin,(ak (x.i+1)),x.s,x.t6,x.C9,⟨(w8 (ak (Int.tdiv (ak ((ak ((ak ((dw x).getD default).e0) * (ak ((dw x).getD default).e3)))+(ak ((ak x.color.e0) * (ak (255 - (ak ((dw x).getD default).e3))))))) 255))),(w8 (ak (Int.tdiv (ak ((ak ((ak ((dw x).getD default).e1) * (ak ((dw x).getD default).e3)))+(ak ((ak x.color.e1) * (ak (255 - (ak ((dw x).getD default).e3))))))) 255))),(w8 (ak (Int.tdiv (ak ((ak ((ak ((dw x).getD default).e2) * (ak ((dw x).getD default).e3)))+(ak ((ak x.color.e2) * (ak (255 - (ak ((dw x).getD default).e3))))))) 255))),(w8 (ak ((ak ((dw x).getD default).e3)+(ak (Int.tdiv (ak ((ak x.color.e3) * (ak (255 - (ak ((dw x).getD default).e3))))) 255)))))⟩⟩) .fail) .fail)
def jI (x:fG):aK fG:=(cond (decide (x.i < (x.l.n:Int))) (cond (bh x.i x.l.n) (cond (bh (x.l.get (Int.toNat x.i)).item x.s.items.n) (cond (x.s.items.get (Int.toNat (x.l.get (Int.toNat x.i)).item)).look.Aj (cond ((x.s.items.get (Int.toNat (x.l.get (Int.toNat x.i)).item)).look.bin==x.bin) (cond (!x.nX)
    (pW x) (cond (bh x.i x.l.n) (cond (decide ((x.l.get (Int.toNat x.i)).d > x.C9.d))
     (pW x) (.next ⟨x.l,x.nX,x.bin,(ak (x.i+1)),x.s,x.t6,x.C9,x.color⟩)) .fail)) (.next ⟨x.l,x.nX,x.bin,(ak (x.i+1)),x.s,x.t6,x.C9,x.color⟩)) (.next ⟨x.l,x.nX,x.bin,(ak (x.i+1)),x.s,x.t6,x.C9,x.color⟩)) .fail) .fail) (.out (aE.aq.exit 2) x))
theorem QP (x:fG):TY (zh x) (zi x)=aK.enc zh zi (jI x):=by
 unfold jI pW bh
 try simp only [aK.bI]
 kernel_rfl
def AV:Lp:=⟨60,16018,I5,fun vs rs=>cc zh zi (goN jI (Gw vs rs)) [aE.aq.exit 2],false⟩
theorem Gx:AV.Ok PG:=uJ (ao.cons MH (ao.cons JO (ao.cons F7 ao.nil))) aJ.nil (pa:=Gw) QP
def Xr:=vL [(122,N7),(121,KM),(58,I4)] [AV] 60 250 MI
def ja (x:mH):=goN jI ⟨x.l,x.nX,x.bin,0,x.s,x.t6,x.C9,x.color⟩
def js (x:mH):aK mH:=(cond (decide (x.bin<=15)) (cond ((ja x).by (aE.aq.exit 2)) (.next ⟨(ja x).st.l,(ja x).st.nX,(ak ((ja x).st.bin+1)),(ja x).st.s,(ja x).st.t6,(ja x).st.C9,(ja x).st.color⟩) .fail) (.out (aE.aq.exit 0) x))
theorem TZ (x:mH):Xr (CB x) (CC x)=aK.enc CB CC (js x):=by
 unfold js
 try simp only [aK.bI]
 kernel_rfl
def MJ:Lp:=⟨60,250,MI,fun vs rs=>cc CB CC (goN js (Kf vs rs)) [aE.aq.exit 0],false⟩
theorem Xs:MJ.Ok PG:=uJ (ao.cons MH (ao.cons JO (ao.cons F7 ao.nil))) (ie Gx aJ.nil) (pa:=Kf) TZ
def o9 (s:Show) (l:(Sl aL)) (ground:Color):=AQ s l
def BR (s:Show) (l:(Sl aL)) (ground:Color):=vA s ((o9 s l ground).getD default).fst
def BS (s:Show) (l:(Sl aL)) (ground:Color):=goN js ⟨l,((o9 s l ground).getD default).snd,0,s,⟨0,0,0,0⟩,((o9 s l ground).getD default).fst,((BR s l ground).getD default)⟩
def BT (s:Show) (l:(Sl aL)) (ground:Color):=goN js ⟨l,((o9 s l ground).getD default).snd,0,s,⟨0,0,0,0⟩,((o9 s l ground).getD default).fst,ground⟩
def xw (s:Show) (l:(Sl aL)) (ground:Color):Option (Color):=(cond (o9 s l ground).isSome (cond ((o9 s l ground).getD default).snd (cond (BR s l ground).isSome (cond ((BS s l ground).by (aE.aq.exit 0)) (some ((BS s l ground).st.color)) none) none) (cond ((BT s l ground).by (aE.aq.exit 0)) (some ((BT s l ground).st.color)) none)) none)
theorem adE (s:Show) (l:(Sl aL)) (ground:Color):gw [(122,N7),(121,KM),(58,I4)] [AV,MJ] 60 [ph s,(eZ 48 fH) l,fh ground] = (xw s l ground).map fh:=by
 unfold xw
 try simp only [aV]
 kernel_rfl
def V0:List KV->KR KV:=a8 PG 60 (bb fh fun vs=>xw (gm (v9 vs 0)) ((fg gn) (v9 vs 1)) (kQ (v9 vs 2)))
theorem abK:a7 PG 60 V0:=bH (ao.cons MH (ao.cons JO (ao.cons F7 ao.nil))) (ie Gx (ie Xs aJ.nil)) fun w=>adE (gm (g0 25 (w 0))) ((fg gn) (g0 42 (w 1))) (kQ (g0 33 (w 2)))
structure bx where
 t:aF
 item:Int
 aZ:Int
 part:Int
instance:Inhabited bx:=⟨⟨default,default,default,default⟩⟩
def Xt (x:bx):List KV:=[.int .i64 x.t.e0.x,.int .i64 x.t.e0.y,.int .i64 x.t.e0.d,.int .i64 x.t.e0.u,.int .i64 x.t.e0.v,.int .i64 x.t.e1.x,.int .i64 x.t.e1.y,.int .i64 x.t.e1.d,.int .i64 x.t.e1.u,.int .i64 x.t.e1.v,.int .i64 x.t.e2.x,.int .i64 x.t.e2.y,.int .i64 x.t.e2.d,.int .i64 x.t.e2.u,.int .i64 x.t.e2.v,.int .i64 x.item,.int .i64 x.aZ,.int .i64 x.part]
def fD (x:bx):KV:=.agg (Xt x)
def Xu (c:Nat->KV):bx:=⟨⟨⟨intOf (c 0),intOf (c 1),intOf (c 2),intOf (c 3),intOf (c 4)⟩,⟨intOf (c 5),intOf (c 6),intOf (c 7),intOf (c 8),intOf (c 9)⟩,⟨intOf (c 10),intOf (c 11),intOf (c 12),intOf (c 13),intOf (c 14)⟩⟩,intOf (c 15),intOf (c 16),intOf (c 17)⟩
def gj (v:KV):bx:=Xu fun k=>v.cells.getD k .bJ
theorem T9 (x:bx):gj (fD x)=x:=rfl
theorem Ua:gj .bJ=default:=rfl
theorem QQ (s:Sl bx) (v:bx):s.push v=lv gj (s.n+1) (dZ s.n (fun i=>fD (s.get i)) (ri [fD v])):=(Bp T9 Ua s v).symm
structure sY where
 l:(Sl bx)
 x:Int
 y:Int
 t8:(Sl aL)
 out:(Sl aL)
 i:Int
 s:Show
instance:Inhabited sY:=⟨by constructor<;>exact default⟩
def O7 (x:sY):List KV:=[eZ 200 fD x.l,.int .i64 x.x,.int .i64 x.y,eZ 48 fH x.t8,eZ 48 fH x.out,.int .i64 x.i]
def O8 (x:sY):List (List KV):=[sS x.s]
def Yo (vs:List KV) (rs:List (List KV)):sY:=⟨fg gj (v9 vs 0),intOf (v9 vs 1),intOf (v9 vs 2),fg gn (v9 vs 3),fg gn (v9 vs 4),intOf (v9 vs 5),sT (r9 rs 0)⟩
def abL:aU:=⟨[(1,w9 (n9 200)),(2,w9 i9),(3,w9 i9),(8,w9 (n9 48)),(9,⟨false,[.bm 48]⟩),(10,w9 i9)],[(4,[n9 111,n9 114],1)],[(4,0,0)]⟩
def ajH:=vL [(112,adl),(111,Zp)] [] 55 58 abL
def Ga (x:sY):=Hd (x.l.get (Int.toNat x.i)).t x.x x.y
def xx (x:sY):=K4 (x.l.get (Int.toNat x.i)).t x.x x.y
def uX (x:sY):aK sY:=(cond (decide (x.i < (x.l.n:Int))) (cond (bh x.i x.l.n) (cond (Ga x).isSome (cond ((Ga x).getD default) (cond (bh x.i x.l.n) (cond (xx x).isSome (cond (bh x.i x.l.n) (cond (bh (x.l.get (Int.toNat x.i)).item x.s.items.n) (cond (bh x.i x.l.n) (cond (bh x.i x.l.n) (cond (bh x.i x.l.n) (cond (qH 48 x.out.n 1) (cond (aR (x.out.n+1)) (.next ⟨x.l,x.x,x.y,x.t8,(x.out.push ⟨(ak (((xx x).getD default).d+(x.s.items.get (Int.toNat (x.l.get (Int.toNat x.i)).item)).look.FC)),(x.l.get (Int.toNat x.i)).item,(x.l.get (Int.toNat x.i)).aZ,(x.l.get (Int.toNat x.i)).part,((xx x).getD default).u,((xx x).getD default).v⟩),(ak (x.i+1)),x.s⟩) .fail) .fail) .fail) .fail) .fail) .fail) .fail) .fail) .fail) (cond (aR x.out.n) (.next ⟨x.l,x.x,x.y,x.t8,x.out,(ak (x.i+1)),x.s⟩) .fail)) .fail) .fail) (cond (aR x.out.n) (.out (aE.aq.exit 0) x) .fail))
theorem afB (x:sY):ajH (O7 x) (O8 x)=aK.enc O7 O8 (uX x):=by
 unfold uX bh qH aR
 try simp only [aK.bI,Zh]
 kernel_rfl
def abM:Lp:=⟨55,58,abL,fun vs rs=>cc O7 O8 (goN uX (Yo vs rs)) [aE.aq.exit 0],false⟩
theorem ajI:abM.Ok PG:=uJ (ao.cons abh (ao.cons Yg ao.nil)) aJ.nil (pa:=Yo) afB
def Ey (s:Show) (l:(Sl bx)) (x:Int) (y:Int):=goN uX ⟨l,x,y,⟨0,(fun i=>⟨0,0,0,0,0,0⟩)⟩,⟨0,(fun i=>⟨0,0,0,0,0,0⟩)⟩,0,s⟩
def K6 (s:Show) (l:(Sl bx)) (x:Int) (y:Int):Option ((Sl aL)):=(cond ((Ey s l x y).by (aE.aq.exit 0)) (some ((Ey s l x y).st.out)) none)
theorem aod (s:Show) (l:(Sl bx)) (x:Int) (y:Int):gw [(112,adl),(111,Zp)] [abM] 55 [ph s,(eZ 200 fD) l,(kI .i64) x,(kI .i64) y] = (K6 s l x y).map (eZ 48 fH):=by
 unfold K6
 try simp only [aV]
 kernel_rfl
def akH:List KV->KR KV:=a8 PG 55 (bb (eZ 48 fH) fun vs=>K6 (gm (v9 vs 0)) ((fg gj) (v9 vs 1)) (intOf (v9 vs 2)) (intOf (v9 vs 3)))
theorem al7:a7 PG 55 akH:=bH (ao.cons abh (ao.cons Yg ao.nil)) (ie ajI aJ.nil) fun w=>aod (gm (g0 25 (w 0))) ((fg gj) (g0 128 (w 1))) (intOf (g0 3 (w 2))) (intOf (g0 3 (w 3)))
end
end Go.Proofs.YtchbpckkmgcgkaaGreat.b
end
section
namespace Go.Proofs.YtchbpckkmgcgkaaGreat.b
open Go.K Go.K.iK
open Go.aE (aq)
theorem arK (a b:aL):y7 a b=some (decide (AO a b)):=by
 unfold y7;by_cases c1:a.d=b.d
 ·rw [show (a.d != b.d)=false by simpa using c1,aw]
  by_cases c2:a.item=b.item
  ·rw [show (a.item != b.item)=false by simpa using c2,aw]
   by_cases c3:a.aZ=b.aZ
   ·rw [show (a.aZ != b.aZ)=false by simpa using c3,aw]
    exact congrArg some (decide_eq_decide.2 (by unfold AO; omega))
   ·rw [show (a.aZ != b.aZ)=true by simpa using c3,ai]
    exact congrArg some (decide_eq_decide.2 (by unfold AO; omega))
  ·rw [show (a.item != b.item)=true by simpa using c2,ai]
   exact congrArg some (decide_eq_decide.2 (by unfold AO; omega))
 ·rw [show (a.d != b.d)=true by simpa using c1,ai]
  exact congrArg some (decide_eq_decide.2 (by unfold AO; omega))
def auL:aL:=⟨0,0,0,0,0,0⟩
def zed (b:aL×Bool):aL×Bool:=cond b.2 b (auL,false)
theorem arL (s:Show) (b:aL×Bool) (f:aL):zed (Ke s b f)=Ke s (zed b) f:=by
 obtain ⟨g,c⟩:=b;unfold zed Ke;cases pR s f <;> cases c <;> first | rfl | (cases hd:decide (AO f g) <;> simp [hd])
def kK (s:Show) (l:List aL):aL×Bool:=zed (uj s l)
theorem al8 (s:Show) (l:List aL) (f:aL):kK s (l++[f])=Ke s (kK s l) f:=by
 unfold kK;rw [adw,arL]
theorem aiO (s:Show) (l:Sl aL) (hn:l.n<=98304) (hi:∀ j,j < l.n->0<=(l.get j).item/\(l.get j).item < (s.items.n:Int)):AQ s l=some (kK s (bB l)):=by
 obtain ⟨e,z,hz,rfl,hq⟩:∃ e z,vU s l = .out e z/\(e = .exit 0/\(z.C9,z.nX)=kK s (bB l)):=by
  unfold vU;refine bt (step:=rZ) (fun j y=>y.l=l/\y.s=s/\y.i=(j:Int)/\j<=l.n/\(y.C9,y.nX)=kK s ((bB l).take j)) _ l.n (by have:gv=1000000000000:=rfl; omega) (fun j y hj ⟨f1,f2,f3,f4,f5⟩=>?_) ⟨rfl,rfl,rfl,dq _,rfl⟩;have w1:ak (y.i+1)=y.i+1:=aj;unfold rZ vz bh;by_cases bu:y.i < ((y.l.n:Nat):Int)
  ·have fw:j < l.n:=by rw [f1] at bu; omega
   have hg:y.l.get (Int.toNat y.i)=l.get j:=by rw [f1,f3,bU]
   obtain ⟨i1,i2⟩:=hi j fw;have e0:BO y=some (decide (AO (l.get j) y.C9)):=by
    unfold BO;rw [hg]; exact arK _ _
   have t:=K2 l j fw;have k:kK s ((bB l).take (j+1))=Ke s (y.C9,y.nX) (l.get j):=by rw [t,al8,f5]
   have kb:pR s (l.get j)=(s.items.get (Int.toNat (l.get j).item)).look.Aj:=rfl;unfold Ke at k;rw [kb] at k;simp only [hg,f2,e0,w1,ai,bC,bj,bc,au bu,au (show (0:Int)<=y.i by omega),au i1,au i2];cases hb:(s.items.get (Int.toNat (l.get j).item)).look.Aj with
   | true=>
    rw [hb] at k;exact .inl ⟨_,rfl,fw,f1,rfl,by show y.i+1=_; omega,by omega,k.symm⟩
   | false=>
    rw [hb] at k;simp only [sE,ai];cases hy:y.nX with
    | false=>
     rw [hy] at k;simp only [sE,ai];exact .inl ⟨_,rfl,fw,f1,rfl,by show y.i+1=_; omega,by omega,k.symm⟩
    | true=>
     rw [hy] at k;simp only [iR,aw];cases hd:decide (AO (l.get j) y.C9) with
     | true=>
      simp only [sE,iR,ai,aw,hd] at k;exact .inl ⟨_,rfl,fw,f1,rfl,by show y.i+1=_; omega,by omega,k.symm⟩
     | false=>
      simp only [sE,iR,ai,aw,hd] at k;exact .inl ⟨_,rfl,fw,f1,rfl,by show y.i+1=_; omega,by omega,k.symm⟩
  ·simp only [aw,ay bu]
   refine .inr ⟨_,_,rfl,rfl,rfl,?_⟩;rw [f5,show j=l.n by rw [f1] at bu; omega,CH (by rw [eP]; exact aX _)]
 have b1:(vU s l).by (.exit 0)=true:=by rw [hz]; rfl
 have b2:(vU s l).st=z:=by rw [hz]; rfl
 unfold AQ;rw [b1,b2,ai,hq]
end Go.Proofs.YtchbpckkmgcgkaaGreat.b
end
section
namespace Go.Proofs.YtchbpckkmgcgkaaGreat.b
open Go.K
theorem V7 {P:Program} : ∀ {l:List KV},Bo P l->∀ v∈l,GY P v
 | [],_,v,hv=>by simp at hv
 | x::l,h,v,hv=>by
  simp only [Bo] at h;rcases ff.1 hv with rfl | hv
  ·exact h.1
  ·exact V7 h.2 v hv
theorem yM {P:Program} {ks:List CK} {v:KV} (h:cG ⟨true,ks⟩ v=true) (hw:W8 v) (hd:GY P v) {j:Nat} {c:CK} (hj:ks[j]? = some c):K.kindOk c (v.cells.getD j .bJ)=true/\W8 (v.cells.getD j .bJ)/\GY P (v.cells.getD j .bJ):=by
 obtain ⟨cs,rfl,hk⟩:=ard h;obtain ⟨u,h1,h2⟩:=Fa hk hj;have e:(KV.agg cs).cells.getD j .bJ=u:=by
  show cs.getD j .bJ=u;rw [iQ,h1];rfl
 have hm:=ji h1;rw [e];have hd' : Bo P cs:=by simpa [GY] using hd
 have hw' : Fj cs:=by simpa [W8] using hw
 exact ⟨h2,acC hw' u hm,V7 hd' u hm⟩
theorem apy {P:Program} {v:KV} {T:TypeId} (h:K.kindOk (.slice T) v=true) (hw:W8 v) (hd:GY P v) {i:Nat} (hi:i < lenOf v):cG (bw P T) (vG v i)=true/\W8 (vG v i)/\GY P (vG v i):=by
 cases v with
 | ts t m n es acc=>
  have ht:T=t:=by
   cases m <;> simp [K.kindOk] at h;exact h
  subst ht;simp only [GY] at hd;simp only [W8] at hw;obtain ⟨apz,awX⟩:=hd;have hi:i < n:=hi;have hl:i < es.length:=by rw [<- apz.len]; exact hi
  have e:acc i=es.getD i .bJ:=apz.acc i hi;have e2:es.getD i .bJ=es[i]:=by rw [iQ,dD hl]; rfl
  show cG (bw P T) (acc i)=true/\W8 (acc i)/\GY P (acc i);rw [e,e2];exact ⟨lD apz.typed (dD hl),acC hw.2 _ (Wm hl),V7 awX _ (Wm hl)⟩
 | _=>simp [K.kindOk] at h
theorem Hv {v:KV} (h:K.kindOk (.int .u8) v=true) (hw:W8 v):0<=intOf v/\intOf v<=255:=by
 cases v with
 | int k n=>
  have hk:k = .u8:=by
   have:decide (IntKind.u8=k)=true:=h;exact (rh this).symm
  subst hk;have h:(Lit.int .u8 n).wf=true:=hw;simp only [Lit.wf,aD,lz] at h;show 0<=n/\n<=255;exact h
 | _=>simp [K.kindOk] at h
structure U8 (c:Color):Prop where
 e0:0<=c.e0/\c.e0<=255
 e1:0<=c.e1/\c.e1<=255
 e2:0<=c.e2/\c.e2<=255
 e3:0<=c.e3/\c.e3<=255
structure S8 (s:Show):Prop where
 col:∀ i,i < s.items.n->U8 (s.items.get i).look.color
 cw:∀ i,i < s.items.n->0<=(s.items.get i).look.cw/\(s.items.get i).look.cw<=255
 tex:∀ i,i < s.av.n->∀ k,k < (s.av.get i).dF.n->U8 ((s.av.get i).dF.get k)
noncomputable abbrev KN (a:KV):Show:=gm (vH Tryz.prog (eG Tryz.prog iV) 25 a)
theorem av2:bw Tryz.prog 25=⟨true,[.slice 111,.slice 114]⟩:=by kernel_rfl
theorem auM:∃ ks,bw Tryz.prog 111=⟨true,ks⟩/\ks[3]? = some (.int .u8)/\ks[4]? = some (.int .u8)/\ks[5]? = some (.int .u8)/\ks[6]? = some (.int .u8)/\ks[8]? = some (.int .u8):=⟨(bw Tryz.prog 111).ks,by kernel_rfl,by kernel_rfl,by kernel_rfl,by kernel_rfl,by kernel_rfl,by kernel_rfl⟩
theorem auN:∃ ks,bw Tryz.prog 114=⟨true,ks⟩/\ks[2]? = some (.slice 33):=⟨(bw Tryz.prog 114).ks,by kernel_rfl,by kernel_rfl⟩
theorem atJ:bw Tryz.prog 33=⟨true,[.int .u8,.int .u8,.int .u8,.int .u8]⟩:=by kernel_rfl
theorem avk (a:KV):(KN a).items.n=lenOf (a.cells.getD 0 .bJ):=by kernel_rfl
theorem awY (a:KV):(KN a).av.n=lenOf (a.cells.getD 1 .bJ):=by kernel_rfl
theorem atK (a:KV) (i:Nat):((KN a).items.get i).look.color=⟨intOf ((vG (a.cells.getD 0 .bJ) i).cells.getD 3 .bJ),intOf ((vG (a.cells.getD 0 .bJ) i).cells.getD 4 .bJ),intOf ((vG (a.cells.getD 0 .bJ) i).cells.getD 5 .bJ),intOf ((vG (a.cells.getD 0 .bJ) i).cells.getD 6 .bJ)⟩:=by kernel_rfl
theorem atL (a:KV) (i:Nat):((KN a).items.get i).look.cw=intOf ((vG (a.cells.getD 0 .bJ) i).cells.getD 8 .bJ):=by kernel_rfl
theorem auO (a:KV) (i:Nat):((KN a).av.get i).dF.n=lenOf ((vG (a.cells.getD 1 .bJ) i).cells.getD 2 .bJ):=by kernel_rfl
theorem auP (a:KV) (i k:Nat):((KN a).av.get i).dF.get k=⟨intOf ((vG ((vG (a.cells.getD 1 .bJ) i).cells.getD 2 .bJ) k).cells.getD 0 .bJ),intOf ((vG ((vG (a.cells.getD 1 .bJ) i).cells.getD 2 .bJ) k).cells.getD 1 .bJ),intOf ((vG ((vG (a.cells.getD 1 .bJ) i).cells.getD 2 .bJ) k).cells.getD 2 .bJ),intOf ((vG ((vG (a.cells.getD 1 .bJ) i).cells.getD 2 .bJ) k).cells.getD 3 .bJ)⟩:=by kernel_rfl
theorem atM {a:KV} (h:cG (bw Tryz.prog 25) a=true) (hw:W8 a) (hd:GY Tryz.prog a):S8 (KN a):=by
 rw [av2] at h;obtain ⟨i1,i2,i3⟩:=yM h hw hd (j:=0) rfl;obtain ⟨t1,t2,t3⟩:=yM h hw hd (j:=1) rfl;obtain ⟨ks,l0,l3,l4,l5,l6,l8⟩:=auM;obtain ⟨kt,m0,m2⟩:=auN;have item:∀ i,i < (KN a).items.n->∀ j c,ks[j]? = some c->K.kindOk c ((vG (a.cells.getD 0 .bJ) i).cells.getD j .bJ)=true/\W8 ((vG (a.cells.getD 0 .bJ) i).cells.getD j .bJ):=fun i hi j c hj=>by
  rw [avk] at hi;obtain ⟨q1,q2,q3⟩:=apy i1 i2 i3 hi;rw [l0] at q1;obtain ⟨r1,r2,_⟩:=yM q1 q2 q3 hj;exact ⟨r1,r2⟩
 refine ⟨fun i hi=>?_,fun i hi=>?_,fun i hi k hk=>?_⟩
 ·rw [atK]
  exact ⟨Hv (item i hi 3 _ l3).1 (item i hi 3 _ l3).2,Hv (item i hi 4 _ l4).1 (item i hi 4 _ l4).2,Hv (item i hi 5 _ l5).1 (item i hi 5 _ l5).2,Hv (item i hi 6 _ l6).1 (item i hi 6 _ l6).2⟩
 ·rw [atL]
  exact Hv (item i hi 8 _ l8).1 (item i hi 8 _ l8).2
 ·rw [awY] at hi
  obtain ⟨q1,q2,q3⟩:=apy t1 t2 t3 hi;rw [m0] at q1;obtain ⟨r1,r2,r3⟩:=yM q1 q2 q3 m2;rw [auO] at hk;obtain ⟨c1,c2,c3⟩:=apy r1 r2 r3 hk;rw [atJ] at c1;rw [auP];obtain ⟨x0,y0,_⟩:=yM c1 c2 c3 (j:=0) rfl;obtain ⟨x1,y1,_⟩:=yM c1 c2 c3 (j:=1) rfl;obtain ⟨x2,y2,_⟩:=yM c1 c2 c3 (j:=2) rfl;obtain ⟨x3,y3,_⟩:=yM c1 c2 c3 (j:=3) rfl;exact ⟨Hv x0 y0,Hv x1 y1,Hv x2 y2,Hv x3 y3⟩
noncomputable abbrev aiP (a:KV):Color:=kQ (vH Tryz.prog (eG Tryz.prog iV) 33 a)
theorem arM (a:KV):aiP a=⟨intOf (a.cells.getD 0 .bJ),intOf (a.cells.getD 1 .bJ),intOf (a.cells.getD 2 .bJ),intOf (a.cells.getD 3 .bJ)⟩:=by kernel_rfl
theorem arN {a:KV} (h:cG (bw Tryz.prog 33) a=true) (hw:W8 a) (hd:GY Tryz.prog a):U8 (aiP a):=by
 rw [atJ] at h;rw [arM];obtain ⟨x0,y0,_⟩:=yM h hw hd (j:=0) rfl;obtain ⟨x1,y1,_⟩:=yM h hw hd (j:=1) rfl;obtain ⟨x2,y2,_⟩:=yM h hw hd (j:=2) rfl;obtain ⟨x3,y3,_⟩:=yM h hw hd (j:=3) rfl;exact ⟨Hv x0 y0,Hv x1 y1,Hv x2 y2,Hv x3 y3⟩
theorem ZC {P:Program} : ∀ {ts:List TypeId} {xs:List KV} {i:Nat} {t:TypeId},pe P ts xs=true->Fj xs->Bo P xs->ts[i]? = some t->cG (bw P t) (xs.getD i .bJ)=true/\W8 (xs.getD i .bJ)/\GY P (xs.getD i .bJ)
 | [],_,_,_,_,_,_,h=>by simp at h
 | _::_,[],_,_,h,_,_,_=>by simp [pe] at h
 | t::ts,v::vs,i,u,h,hw,hd,ht=>by
  simp only [pe,aD] at h;cases i with
  | zero=>
   rw [List.getElem?_cons_zero] at ht;rw [<- pb ht];exact ⟨h.1,hw.1,hd.1⟩
  | succ i=>
   rw [Wl] at ht;have:=ZC (ts:=ts) (xs:=vs) (i:=i) h.2 hw.2 hd.2 ht;rw [List.getD_cons_succ];exact this
theorem arO {ts:List TypeId} {xs:List KV} (i:Nat) (ht:ts[i]? = some 25) (h:pe Tryz.prog ts xs=true) (hw:Fj xs) (hd:Bo Tryz.prog xs):S8 (KN (xs.getD i .bJ)):=by
 obtain ⟨h1,h2,h3⟩:=ZC h hw hd ht;exact atM h1 h2 h3
theorem apA {ts:List TypeId} {xs:List KV} (i:Nat) (ht:ts[i]? = some 33) (h:pe Tryz.prog ts xs=true) (hw:Fj xs) (hd:Bo Tryz.prog xs):U8 (aiP (xs.getD i .bJ)):=by
 obtain ⟨h1,h2,h3⟩:=ZC h hw hd ht;exact arN h1 h2 h3
end Go.Proofs.YtchbpckkmgcgkaaGreat.b
end
section
namespace Go.Proofs.YtchbpckkmgcgkaaGreat.b
open Go.K Go.K.iK
open Go.aE (aq)
theorem auQ (n:Int):w8 n=n % 256:=by
 show IntKind.wrap .u8 n=_;unfold IntKind.wrap;have hb:(2 ^ IntKind.u8.bits:Int)=256:=rfl;have hs:IntKind.u8.signed=false:=rfl;simp only [hb,hs,wi,xM,if_false]
theorem JP (n:Int):0<=w8 n/\w8 n<=255:=by
 rw [auQ];omega
theorem apB {p g:Color} (hp:U8 p) (hg:U8 g):Ex p g=some (lay p g)/\U8 (lay p g):=by
 refine ⟨?_,⟨JP _,JP _,JP _,JP _⟩⟩;unfold Ex lay C8;obtain ⟨_,_,_,a1,a2⟩:=hp;obtain ⟨_,_,_,b1,b2⟩:=hg;have m1:0<=g.e3 * (255 - p.e3):=wy b1 (by omega);have m2:g.e3 * (255 - p.e3)<=255 * 255:=CG b2 (by omega) (by omega) (by omega);have h:w8 (ak ((ak p.e3)+(ak (Int.tdiv (ak ((ak g.e3) * (ak ((255:Int) - (ak p.e3))))) (255:Int)))))=w8 (ak (Int.tdiv (ak ((ak ((255:Int) * (ak p.e3)))+(ak ((ak g.e3) * (ak ((255:Int) - (ak p.e3))))))) (255:Int))):=by
  rw [aj (n:=p.e3),aj (n:=g.e3),aj (n:=255 - p.e3),aj (n:=255 * p.e3)];generalize g.e3 * (255 - p.e3)=q at *;rw [aj (n:=q),aj (n:=255 * p.e3+q),Pd (by omega),Pd (by omega)];rw [aj (n:=q / 255),aj (by omega) (by omega),aj (by omega) (by omega)];congr 1;omega
 rw [h];rfl
theorem aoe {t:bG} {u v:Int} (h:eO t=some 0) (hu:0<=u/\u<=255) (hv:0<=v/\v<=255) (h8:∀ k,k < t.dF.n->U8 (t.dF.get k)):∃ c,tt t u v=some (c,0)/\BQ t u v=some c/\U8 c:=by
 obtain ⟨⟨w0,w1⟩,⟨h0,h1⟩,hn⟩:=aqC h;have e0:yL t u v=some 0:=h;have p1:0<=v * t.h/\v * t.h<=255 * 16:=⟨wy (by omega) (by omega),CG hv.2 h1 (by omega) (by omega)⟩
 have p2:0<=u * t.w/\u * t.w<=255 * 16:=⟨wy (by omega) (by omega),CG hu.2 w1 (by omega) (by omega)⟩
 have p3:v * t.h<=255 * t.h:=Int.mul_le_mul_of_nonneg_right hv.2 (by omega);have p4:u * t.w<=255 * t.w:=Int.mul_le_mul_of_nonneg_right hu.2 (by omega);have d1:Int.fdiv (v * t.h) 256=v * t.h / 256:=Int.fdiv_eq_ediv_of_nonneg _ (by decide);have d2:Int.fdiv (u * t.w) 256=u * t.w / 256:=Int.fdiv_eq_ediv_of_nonneg _ (by decide);have d3:Int.tdiv (v * t.h) 256=v * t.h / 256:=Pd p1.1;have d4:Int.tdiv (u * t.w) 256=u * t.w / 256:=Pd p2.1;have q1:0<=v * t.h / 256/\v * t.h / 256<=t.h - 1:=by omega
 have q2:0<=u * t.w / 256/\u * t.w / 256<=t.w - 1:=by omega
 have q3:0<=v * t.h / 256 * t.w/\v * t.h / 256 * t.w<=(t.h - 1) * t.w:=⟨wy q1.1 (by omega),Int.mul_le_mul_of_nonneg_right q1.2 (by omega)⟩
 have q4:(t.h - 1) * t.w=t.w * t.h - t.w:=by rw [Int.sub_mul,Int.one_mul,Int.mul_comm]
 have q5:t.w * t.h<=16 * 16:=CG w1 h1 (by omega) (by omega);refine ⟨t.dF.get (Int.toNat (v * t.h / 256 * t.w+u * t.w / 256)),?_,?_,h8 _ (by omega)⟩
 ·unfold tt bh
  rw [aj (n:=v * t.h),aj (n:=u * t.w),d1,d2,aj (n:=v * t.h / 256 * t.w),aj (n:=v * t.h / 256 * t.w+u * t.w / 256)];simp only [e0,bj,bc,ai,hU,aw,ay (show ¬ min u v < 0 by omega),ay (show ¬ max u v > 255 by omega),au (show 0<=v * t.h / 256 * t.w+u * t.w / 256 by omega),au (show v * t.h / 256 * t.w+u * t.w / 256 < ((t.dF.n:Nat):Int) by omega),bC]
 ·unfold BQ bh
  rw [aj (n:=v * t.h),aj (n:=u * t.w),d3,d4,aj (n:=v * t.h / 256),aj (n:=u * t.w / 256),aj (n:=v * t.h / 256 * t.w),aj (n:=v * t.h / 256 * t.w+u * t.w / 256)];simp only [ai,au (show 0<=v * t.h / 256 * t.w+u * t.w / 256 by omega),au (show v * t.h / 256 * t.w+u * t.w / 256 < ((t.dF.n:Nat):Int) by omega),bC]
theorem abN {s:Show} {f:aL} (hl:rJ s) (h8:S8 s) (hi:0<=f.item/\f.item < (s.items.n:Int)) (hu:0<=f.u/\f.u<=255) (hv:0<=f.v/\f.v<=255):vA s f=some (jo s f)/\U8 (jo s f):=by
 have hc:=h8.col (Int.toNat f.item) (by omega);have hk:=hl.2 (Int.toNat f.item) (by omega);have ht:∀ i,i < s.av.n->∀ k,k < (s.av.get i).dF.n->U8 ((s.av.get i).dF.get k):=h8.tex;have key:pV (s.items.get (Int.toNat f.item)).look s.av f.u f.v=some (jo s f)/\U8 (jo s f):=by
  unfold jo;generalize (s.items.get (Int.toNat f.item)).look=l at *;have e0:xq l s.av f.u f.v=some 0:=hl.1;have e1:xr l s.av f.u f.v=some 0:=hk;have hi:=(Qt hk).hi;unfold rI pV bh;simp only [e0,e1,bj,bc,ai,hU,aw,ay (show ¬ min f.u f.v < 0 by omega),ay (show ¬ max f.u f.v > 255 by omega)];by_cases c3:l.iD < 0
  ·rw [au c3]; exact ⟨rfl,hc⟩
  ·obtain ⟨c,h1,h2,h3⟩:=aoe (u:=f.u) (v:=f.v) (Mc hl.1 (Int.toNat l.iD) (by omega)) hu hv (ht _ (by omega))
   have e2:o7 l s.av f.u f.v=some (c,0):=h1;have e3:qU l s.av f.u f.v=some c:=h2;simp only [e2,e3,bj,bc,ai,aw,ay c3,au (show 0<=l.iD by omega),au (show l.iD < ((s.av.n:Nat):Int) by omega),bC];exact ⟨trivial,⟨JP _,JP _,JP _,JP _⟩⟩
 have e0:F9 s f=some (jo s f):=key.1;unfold vA bh;simp only [e0,ai,bj,bc,au hi.1,au hi.2,bC];exact ⟨trivial,key.2⟩
theorem arP (s:Show) (w:aL×Bool) (b:Int):zF s (zed w) b=zF s w b:=by
 funext f;obtain ⟨g,c⟩:=w;unfold zF xv zed;cases c <;> rfl
theorem apC (s:Show) (w:aL×Bool) (l:List aL) (n:Nat):sj s (zed w) l n=sj s w l n:=by
 unfold sj;simp only [arP]
structure abO (s:Show) (l:Sl aL):Prop where
 n:l.n<=98304
 it:∀ j,j < l.n->0<=(l.get j).item/\(l.get j).item < (s.items.n:Int)
 uv:∀ j,j < l.n->(0<=(l.get j).u/\(l.get j).u<=255)/\0<=(l.get j).v/\(l.get j).v<=255
theorem aof {s:Show} : ∀ (l:List aL) (g:Color),U8 g->U8 (ly s g l):=fun l=>by
 induction l with
 | nil=>exact fun g h=>h
 | cons f l ih=>exact fun g h=>ih _ ⟨JP _,JP _,JP _,JP _⟩
theorem atN (s:Show) (l:Sl aL) (hl:rJ s) (h8:S8 s) (hk:abO s l) (nX:Bool) (bin:Int) (f:aL) (t6 want:Color) (hw:U8 want) :
  ∃ i:Int,goN jI ⟨l,nX,bin,0,s,t6,f,want⟩ = .out (.exit 2) ⟨l,nX,bin,i,s,t6,f,ly s want ((bB l).filter (zF s (f,nX) bin))⟩:=by
 have hn:=hk.n;refine Exists.elim (bt (step:=jI) (x:=⟨l,nX,bin,0,s,t6,f,want⟩) (fun j z=>z=⟨l,nX,bin,(j:Int),s,t6,f,ly s want (((bB l).take j).filter (zF s (f,nX) bin))⟩/\j<=l.n) (fun e z=>e = .exit 2/\∃ i:Int,z=⟨l,nX,bin,i,s,t6,f,ly s want ((bB l).filter (zF s (f,nX) bin))⟩) l.n (by have:gv=1000000000000:=rfl; omega) (fun j z hj ⟨hz,hjl⟩=>?_) ⟨rfl,dq _⟩) (fun e h=>Exists.elim h fun z ⟨h1,h2,i,h3⟩=>⟨i,by rw [h1,h2,h3]⟩);subst hz;have w1:ak ((j:Int)+1)=((j+1:Nat):Int):=by rw [aj (by omega) (by omega)]; omega
 have hc8:U8 (ly s want (((bB l).take j).filter (zF s (f,nX) bin))):=aof _ _ hw;unfold jI pW bh;by_cases bu:(j:Int) < ((l.n:Nat):Int)
 ·have fw:j < l.n:=by omega
  obtain ⟨i1,i2⟩:=hk.it j fw;obtain ⟨u1,u2⟩:=hk.uv j fw;obtain ⟨p1,p2⟩:=abN (f:=l.get j) hl h8 ⟨i1,i2⟩ u1 u2;have e0:∀ (w:Color),dw ⟨l,nX,bin,(j:Int),s,t6,f,w⟩=some (jo s (l.get j)):=fun w=>by
   unfold dw;simp only [bU];exact p1
  have tk:((bB l).take (j+1)).filter (zF s (f,nX) bin)=((bB l).take j).filter (zF s (f,nX) bin)++cond (zF s (f,nX) bin (l.get j)) [l.get j] []:=by rw [K2 l j fw]; exact abF
  generalize hcd:ly s want (((bB l).take j).filter (zF s (f,nX) bin))=cd at *;have ov:=(apB p2 hc8).1;unfold Ex at ov;have ov:=pb ov;simp only [e0,ov,w1,bU,ai,bC,bj,bc,au bu,au (show (0:Int)<=(j:Int) by omega),au i1,au i2];have hb:(s.items.get (Int.toNat (l.get j).item)).look.Aj=pR s (l.get j):=rfl;have W4:(s.items.get (Int.toNat (l.get j).item)).look.bin=Hu s (l.get j):=rfl;rw [hb,W4];have hP:zF s (f,nX) bin (l.get j)=((pR s (l.get j)&&(!nX||decide ((l.get j).d > f.d)))&&(Hu s (l.get j)==bin)):=rfl;have no:zF s (f,nX) bin (l.get j)=false->(∃ x',(aK.next (⟨l,nX,bin,((j+1:Nat):Int),s,t6,f,cd⟩:fG)) = .next x'/\j < l.n/\x' = ⟨l,nX,bin,((j+1:Nat):Int),s,t6,f,ly s want (((bB l).take (j+1)).filter (zF s (f,nX) bin))⟩/\j+1<=l.n):=fun hf=>
   ⟨_,rfl,fw,by rw [tk,hf,aw,pr,hcd],by omega⟩
  have yes:zF s (f,nX) bin (l.get j)=true->(∃ x',(aK.next (⟨l,nX,bin,((j+1:Nat):Int),s,t6,f,lay (jo s (l.get j)) cd⟩:fG)) = .next x'/\j < l.n/\x' = ⟨l,nX,bin,((j+1:Nat):Int),s,t6,f,ly s want (((bB l).take (j+1)).filter (zF s (f,nX) bin))⟩/\j+1<=l.n):=fun hf=>
   ⟨_,rfl,fw,by rw [tk,hf,ai,aoc,hcd],by omega⟩
  cases Yz:pR s (l.get j) with
  | false=>
   rw [aw];exact .inl (no (by rw [hP,Yz]; rfl))
  | true=>
   rw [ai];by_cases hq:Hu s (l.get j)=bin
   ·have hq' : (Hu s (l.get j)==bin)=true:=by simpa using hq
    rw [hq',ai];cases nX with
    | false=>
     rw [sE,ai];exact .inl (yes (by rw [hP,Yz,hq']; rfl))
    | true=>
     rw [iR,aw];by_cases hd:(l.get j).d > f.d
     ·rw [au hd,ai]
      exact .inl (yes (by rw [hP,Yz,hq',au hd]; rfl))
     ·rw [ay hd,aw]
      exact .inl (no (by rw [hP,Yz,hq',ay hd]; rfl))
   ·have hq' : (Hu s (l.get j)==bin)=false:=by simpa using hq
    rw [hq',aw];exact .inl (no (by rw [hP,hq',wj]))
 ·simp only [aw,ay bu]
  refine .inr ⟨_,_,rfl,rfl,rfl,(j:Int),?_⟩;have:((bB l).take j)=bB l:=CH (by rw [eP]; omega);rw [this]
theorem aog (s:Show) (l:Sl aL) (hl:rJ s) (h8:S8 s) (hk:abO s l) (nX:Bool) (f:aL) (t6 want:Color) (hw:U8 want) :
  goN js ⟨l,nX,0,s,t6,f,want⟩ = .out (.exit 0) ⟨l,nX,16,s,t6,f,ly s want (sj s (f,nX) (bB l) 16)⟩:=by
 refine Exists.elim (bt (step:=js) (x:=⟨l,nX,0,s,t6,f,want⟩) (fun b z=>z=⟨l,nX,(b:Int),s,t6,f,ly s want (sj s (f,nX) (bB l) b)⟩/\b<=16) (fun e z=>e = .exit 0/\z=⟨l,nX,16,s,t6,f,ly s want (sj s (f,nX) (bB l) 16)⟩) 16 (by decide) (fun b z hb ⟨hz,Yz⟩=>?_) ⟨rfl,dq _⟩) (fun e h=>Exists.elim h fun z ⟨h1,h2,h3⟩=>by rw [h1,h2,h3]);subst hz;have w1:ak ((b:Int)+1)=((b+1:Nat):Int):=by rw [aj (by omega) (by omega)]; omega
 unfold js;by_cases bu:(b:Int)<=15
 ·obtain ⟨i,hi⟩:=atN s l hl h8 hk nX (b:Int) f t6 (ly s want (sj s (f,nX) (bB l) b)) (aof _ _ hw)
  have e0:ja ⟨l,nX,(b:Int),s,t6,f,ly s want (sj s (f,nX) (bB l) b)⟩ = .out (.exit 2) ⟨l,nX,(b:Int),i,s,t6,f,ly s (ly s want (sj s (f,nX) (bB l) b)) ((bB l).filter (zF s (f,nX) (b:Int)))⟩:=hi;rw [e0];simp only [aK.lF,aK.lU,gq,nA,ai,w1,au bu];refine .inl ⟨_,rfl,by omega,?_,by omega⟩;have:sj s (f,nX) (bB l) (b+1)=sj s (f,nX) (bB l) b++(bB l).filter (zF s (f,nX) (b:Int)):=by
   unfold sj;exact IP _ b
  rw [this,ajD]
 ·simp only [aw,ay bu]
  have:b=16:=by omega
  subst this;exact .inr ⟨_,_,rfl,rfl,rfl,rfl⟩
def vV (s:Show) (L:List aL) (g:Color):Color:=ly s (cond (uj s L).2 (jo s (uj s L).1) g) (sj s (uj s L) L 16)
theorem apD (s:Show) (l:Sl aL) (g:Color) (hl:rJ s) (h8:S8 s) (hk:abO s l) (hg:U8 g):xw s l g=some (vV s (bB l) g):=by
 have hb:o9 s l g=some (kK s (bB l)):=aiO s l hk.n hk.it;unfold xw vV;have hz:∀ L n,sj s (uj s L) L n=sj s (kK s L) L n:=fun L n=>(apC _ _ _ _).symm;rw [hb,hz];simp only [bj,bc,ai];have hw:(kK s (bB l)).2=(uj s (bB l)).2:=by
  unfold kK zed;cases h:(uj s (bB l)).2
  ·rfl
  ·exact h
 cases h:(uj s (bB l)).2 with
 | false=>
  rw [hw,h,aw,aw];have e3:BT s l g = .out (.exit 0) ⟨l,(kK s (bB l)).2,16,s,⟨0,0,0,0⟩,(kK s (bB l)).1,ly s g (sj s ((kK s (bB l)).1,(kK s (bB l)).2) (bB l) 16)⟩:=by
   unfold BT;rw [hb];exact aog s l hl h8 hk (kK s (bB l)).2 (kK s (bB l)).1 ⟨0,0,0,0⟩ g hg
  rw [e3];rfl
 | true=>
  have Pr:kK s (bB l)=uj s (bB l):=by unfold kK zed; rw [h]; rfl
  have hm:(uj s (bB l)).1∈bB l:=by
   rcases adx s (bB l) with ⟨h1,_⟩ | ⟨_,h2,_⟩
   ·rw [h1] at h; simp at h
   ·exact h2
  obtain ⟨j,hj,hjg⟩:=att hm;obtain ⟨u1,u2⟩:=hk.uv j hj;have hit:=hk.it j hj;rw [hjg] at u1 u2 hit;obtain ⟨p1,p2⟩:=abN hl h8 hit u1 u2;have e1:BR s l g=some (jo s (uj s (bB l)).1):=by
   unfold BR;rw [hb,Pr];exact p1
  have e2:BS s l g = .out (.exit 0) ⟨l,(kK s (bB l)).2,16,s,⟨0,0,0,0⟩,(kK s (bB l)).1,ly s (jo s (uj s (bB l)).1) (sj s ((kK s (bB l)).1,(kK s (bB l)).2) (bB l) 16)⟩:=by
   unfold BS;rw [hb,e1];exact aog s l hl h8 hk (kK s (bB l)).2 (kK s (bB l)).1 ⟨0,0,0,0⟩ _ p2
  rw [Pr,h,e1,e2,Pr];rfl
theorem MK (a b:Int) (hb:1<=b/\b<=1152921504606846976) (ha : -1152921504606846976 * 2<=a/\a<=1152921504606846976 * 2):nC a b=some (a / b):=by
 have h1:=Int.mul_ediv_add_emod a b;have h2:=Int.emod_nonneg a (show b≠0 by omega);have h3:=Int.emod_lt_of_pos a (show 0 < b by omega);have l1 : -2305843009213693952<=a / b:=Int.le_ediv_of_mul_le (by omega) (by omega);have l2:a / b<=2305843009213693952:=Int.ediv_le_of_le_mul (by omega) (by omega);have ht:Int.tdiv a b=a / b\/Int.tdiv a b=a / b+1:=by
  rw [Int.tdiv_eq_ediv];split
  ·exact .inl (by omega)
  ·exact .inr (by rw [Int.sign_eq_one_of_pos (by omega)])
 unfold nC;rw [ay (show ¬ b=0 by omega),sE,ai];generalize a / b=q at *;generalize a % b=r at *;rcases ht with ht | ht
 ·rw [ht,aj (n:=q),Int.mul_comm q b,aj (n:=b * q),ay (show ¬ b * q > a by omega),aw]
 ·have e:(q+1) * b=b * q+b:=by rw [Int.add_mul,Int.one_mul,Int.mul_comm]
  rw [ht,aj (n:=q+1),e,aj (n:=b * q+b),au (show b * q+b > a by omega),ai,aj (n:=q+1 - 1)];congr 1;omega
theorem BU {a b:oK} {x y:Int} (ha:KB a) (hb:KB b) (hp:Pix x y):jP a b x y=some ((b.x - a.x) * (8 * y+4 - a.y) - (8 * x+4 - a.x) * (b.y - a.y)):=by
 obtain ⟨⟨p1,p2⟩,p3,p4⟩:=hp;obtain ⟨x1,y1,_⟩:=ha;obtain ⟨x2,y2,_⟩:=hb;unfold jP;rw [aj (n:=8 * y),aj (n:=8 * x),aj (n:=8 * y+4),aj (n:=8 * x+4),alB x1 y1 x2 y2 (by omega) (by omega)]
theorem ZD (a b:oK):∃ o,xJ a b=some o/\(o=true↔aqD a b):=by
 unfold xJ aqD;by_cases h1:b.y < a.y
 ·rw [au h1]
  exact ⟨true,rfl,fun _=>.inl h1,fun _=>rfl⟩
 ·rw [ay h1,aw]
  by_cases h2:b.y=a.y
  ·rw [show (b.y==a.y)=true by simpa using h2,ai]
   exact ⟨_,rfl,fun h=>.inr ⟨h2,rh h⟩,fun h=>au (by omega)⟩
  ·rw [show (b.y==a.y)=false by simpa using h2,aw]
   exact ⟨false,rfl,fun h=>by simp at h,fun h=>by omega⟩
def AW (P:Prop) (r:Option Bool):Prop:=∃ b,r=some b/\(b=true↔P)
theorem AW.ite {P:Prop} {c:Prop} [Decidable c] {a b:Option Bool} (h1:c->AW P a) (h2 : ¬ c->AW P b):AW P (if c then a else b):=by
 by_cases h:c
 ·rw [aW h]; exact h1 h
 ·rw [aB h]; exact h2 h
theorem arQ {t:aF} {x y:Int} (hf:DT t) (hp:Pix x y):AW (Vs t x y) (Hd t x y):=by
 obtain ⟨h0,h1,h2⟩:=hf.1;have e0:Ss t x y=some (W0 t (8 * x+4) (8 * y+4)):=BU h1 h2 hp;have e2:Sv t x y=some (W1 t (8 * x+4) (8 * y+4)):=BU h2 h0 hp;have e4:Sy t x y=some (W2 t (8 * x+4) (8 * y+4)):=BU h0 h1 hp;obtain ⟨o1,k1,q1⟩:=ZD t.e1 t.e2;obtain ⟨o2,k2,q2⟩:=ZD t.e2 t.e0;obtain ⟨o3,k3,q3⟩:=ZD t.e0 t.e1;have e1:Su t x y=some o1:=k1;have e3:Sx t x y=some o2:=k2;have e5:Sz t x y=some o3:=k3;unfold Hd Ie Ic Vs FT;rw [e0,e1,e2,e3,e4,e5];simp only [bj,ai,bc,<- q1,<- q2,<- q3];generalize W0 t (8 * x+4) (8 * y+4)=u;generalize W1 t (8 * x+4) (8 * y+4)=v;generalize W2 t (8 * x+4) (8 * y+4)=w;cases o1 <;> cases o2 <;> cases o3 <;>
  (simp only [iR,sE,ai,aw,xM,and_false,or_false,eq_self,and_true]
   simp only [Bool.cond_eq_ite,lz,beq_iff_eq]
   repeat' (refine AW.ite (fun _=>?_) (fun _=>?_))
   all_goals first | exact ⟨false,rfl,fun h=>by simp at h,fun h=>by omega⟩ | exact ⟨true,rfl,fun _=>by omega,fun _=>rfl⟩)
theorem apE {t:aF} {x y:Int} (hf:DT t) (hp:Pix x y) (hh:Vs t x y):K4 t x y=some (TV t x y):=by
 obtain ⟨h0,h1,h2⟩:=hf.1;have e0:AA t x y=some (W0 t (8 * x+4) (8 * y+4)):=BU h1 h2 hp;have e1:AB t x y=some (W1 t (8 * x+4) (8 * y+4)):=BU h2 h0 hp;have e2:AD t x y=some (W2 t (8 * x+4) (8 * y+4)):=BU h0 h1 hp;obtain ⟨s0,s1,s2⟩:=id hh;have g0:0<=W0 t (8 * x+4) (8 * y+4):=by unfold FT at s0; omega
 have g1:0<=W1 t (8 * x+4) (8 * y+4):=by unfold FT at s1; omega
 have g2:0<=W2 t (8 * x+4) (8 * y+4):=by unfold FT at s2; omega
 obtain ⟨a1,a2,a3⟩:=aeL hf (8 * x+4) (8 * y+4);obtain ⟨⟨⟨x0,y0,d0,u0,v0⟩,⟨x1,y1,d1,u1,v1⟩,x2,y2,d2,u2,v2⟩,api⟩:=hf;have E3:NS t x y=some (TV t x y).d:=by
  unfold NS TV J5;rw [e0,e1,e2];simp only [bc];generalize W0 t (8 * x+4) (8 * y+4)=p at *;generalize W1 t (8 * x+4) (8 * y+4)=q at *;generalize W2 t (8 * x+4) (8 * y+4)=r at *;have m0:=qM ⟨g0,by omega⟩ d0;have m1:=qM ⟨g1,by omega⟩ d1;have m2:=qM ⟨g2,by omega⟩ d2;generalize p * t.e0.d=A0 at *;generalize q * t.e1.d=A1 at *;generalize r * t.e2.d=A2 at *;rw [aj (n:=A0),aj (n:=A1),aj (n:=A2),aj (n:=0+A0),aj (n:=0+A0+A1),aj (n:=0+A0+A1+A2),aj (n:=0+p),aj (n:=0+p+q),aj (n:=0+p+q+r),MK _ _ (by omega) (by omega),Ik,Ik]
 have avs:∀ (b0 b1 b2:Int),(0<=b0/\b0<=255)->(0<=b1/\b1<=255)->(0<=b2/\b2<=255)->nC (ak ((ak ((ak ((0:Int)+(ak ((ak (W0 t (8 * x+4) (8 * y+4) * t.e0.d)) * b0))))+(ak ((ak (W1 t (8 * x+4) (8 * y+4) * t.e1.d)) * b1))))+(ak ((ak (W2 t (8 * x+4) (8 * y+4) * t.e2.d)) * b2)))) (ak ((ak ((ak ((0:Int)+(ak (W0 t (8 * x+4) (8 * y+4) * t.e0.d))))+(ak (W1 t (8 * x+4) (8 * y+4) * t.e1.d))))+(ak (W2 t (8 * x+4) (8 * y+4) * t.e2.d))))=some (J5 (W0 t (8 * x+4) (8 * y+4) * t.e0.d) (W1 t (8 * x+4) (8 * y+4) * t.e1.d) (W2 t (8 * x+4) (8 * y+4) * t.e2.d) b0 b1 b2 / J5 (W0 t (8 * x+4) (8 * y+4)) (W1 t (8 * x+4) (8 * y+4)) (W2 t (8 * x+4) (8 * y+4)) t.e0.d t.e1.d t.e2.d):=by
  intro b0 b1 b2 k0 k1 k2;unfold J5;generalize W0 t (8 * x+4) (8 * y+4)=p at *;generalize W1 t (8 * x+4) (8 * y+4)=q at *;generalize W2 t (8 * x+4) (8 * y+4)=r at *;have m0:=qM ⟨g0,by omega⟩ d0;have m1:=qM ⟨g1,by omega⟩ d1;have m2:=qM ⟨g2,by omega⟩ d2;have n0:=KF (show 0<=p * t.e0.d by omega) k0;have n1:=KF (show 0<=q * t.e1.d by omega) k1;have n2:=KF (show 0<=r * t.e2.d by omega) k2;generalize p * t.e0.d=A0 at *;generalize q * t.e1.d=A1 at *;generalize r * t.e2.d=A2 at *;rw [aj (n:=A0),aj (n:=A1),aj (n:=A2)];generalize A0 * b0=B0 at *;generalize A1 * b1=B1 at *;generalize A2 * b2=B2 at *;rw [aj (n:=B0),aj (n:=B1),aj (n:=B2),aj (n:=0+B0),aj (n:=0+B0+B1),aj (n:=0+B0+B1+B2),aj (n:=0+A0),aj (n:=0+A0+A1),aj (n:=0+A0+A1+A2),MK _ _ (by omega) (by omega),Ik,Ik]
 have E4:NT t x y=some (TV t x y).u:=by
  unfold NT;rw [e0,e1,e2];exact avs _ _ _ u0 u1 u2
 have E5:NU t x y=some (TV t x y).v:=by
  unfold NU;rw [e0,e1,e2];exact avs _ _ _ v0 v1 v2
 obtain ⟨⟨p1,p2⟩,p3,p4⟩:=hp;unfold K4;simp only [E3,E4,E5,bj,ai,bc];rw [aj (n:=8 * x),aj (n:=8 * y),aj (n:=8 * x+4),aj (n:=8 * y+4)];rfl
theorem apF (s:oK):AW (KB s) (AE s):=by
 unfold AE KB;simp only [Bool.cond_eq_ite,lz]
 repeat' (refine AW.ite (fun _=>?_) (fun _=>?_))
 all_goals first | exact ⟨false,rfl,fun h=>by simp at h,fun h=>by omega⟩ | exact ⟨_,rfl,fun h=>by have:=rh h; omega,fun h=>au (by omega)⟩
theorem av3 (t:aF):AW (Sh t) (Hf t):=by
 obtain ⟨b0,h0,q0⟩:=apF t.e0;obtain ⟨b1,h1,q1⟩:=apF t.e1;obtain ⟨b2,h2,q2⟩:=apF t.e2;have e0:SA t=some b0:=h0;have e1:SB t=some b1:=h1;have e2:SC t=some b2:=h2;unfold Hf Sh AW;rw [e0,e1,e2,<- q0,<- q1,<- q2];cases b0 <;> cases b1 <;> cases b2 <;> simp
theorem aoh {t:aF} (h:Sh t):yj t=some (su t):=by
 obtain ⟨⟨x0,y0,_⟩,⟨x1,y1,_⟩,x2,y2,_⟩:=h;unfold yj su;have m1:=mq (a:=t.e1.x - t.e0.x) (b:=t.e2.y - t.e0.y) (c:=262144) (d:=262144) (by omega) (by omega) (by omega);have m2:=mq (a:=t.e2.x - t.e0.x) (b:=t.e1.y - t.e0.y) (c:=262144) (d:=262144) (by omega) (by omega) (by omega);rw [aj (n:=t.e1.x - t.e0.x),aj (n:=t.e2.y - t.e0.y),aj (n:=t.e2.x - t.e0.x),aj (n:=t.e1.y - t.e0.y),aj (n:=(t.e1.x - t.e0.x) * (t.e2.y - t.e0.y)),aj (n:=(t.e2.x - t.e0.x) * (t.e1.y - t.e0.y)),aj (by omega) (by omega)]
theorem atO (t:aF) {cw:Int} (hc:0<=cw):∃ e,BC t cw=some (rQ t cw,e):=by
 obtain ⟨b,h1,q⟩:=av3 t;have e0:Mh t cw=some b:=h1;unfold BC Dt;simp only [e0,bj,ai,bc];have iff:=Zm t cw;cases b with
 | false=>
  have:rQ t cw=false:=by
   cases hs:rQ t cw with
   | false=>rfl
   | true=>have:=q.2 (iff.1 hs).1; simp at this
  rw [this];exact ⟨8,rfl⟩
 | true=>
  have ht:=q.1 rfl;have e1:Mi t cw=some (su t):=aoh ht;simp only [e1,bc,iR,aw];have key:∀ (b:Bool),(b=true↔rQ t cw=true)->b=rQ t cw:=fun b h=>Bool.eq_iff_iff.2 h;by_cases c1:cw > 2
  ·rw [au c1,ai]
   exact ⟨2,by rw [key false ⟨fun h=>by simp at h,fun h=>by have:=(iff.1 h).2; omega⟩]⟩
  ·rw [ay c1,aw]
   by_cases c2:su t > 0
   ·rw [au c2,ai]
    by_cases c3:cw=2
    ·rw [show (cw != (2:Int))=false by simpa using c3,aw,ay (show ¬ su t < 0 by omega),aw]
     exact ⟨0,by rw [key false ⟨fun h=>by simp at h,fun h=>by have:=(iff.1 h).2; omega⟩]⟩
    ·rw [show (cw != (2:Int))=true by simpa using c3,ai]
     exact ⟨0,by rw [key true ⟨fun _=>iff.2 ⟨ht,by omega⟩,fun _=>rfl⟩]⟩
   ·rw [ay c2,aw]
    by_cases c4:su t < 0
    ·rw [au c4,ai]
     by_cases c5:cw=1
     ·rw [show (cw != (1:Int))=false by simpa using c5]
      exact ⟨0,by rw [key false ⟨fun h=>by simp at h,fun h=>by have:=(iff.1 h).2; omega⟩]⟩
     ·rw [show (cw != (1:Int))=true by simpa using c5]
      exact ⟨0,by rw [key true ⟨fun _=>iff.2 ⟨ht,by omega⟩,fun _=>rfl⟩]⟩
    ·rw [ay c4,aw]
     exact ⟨0,by rw [key false ⟨fun h=>by simp at h,fun h=>by have:=(iff.1 h).2; omega⟩]⟩
theorem apG {t:aF} (h:Sh t):xg t=some (Av t):=by
 have e0:Qu t=some (su t):=aoh h;unfold xg Av;rw [e0];simp only [bc];cases decide (su t < 0) <;> rfl
theorem adF {c:az} {p:bM} (hc:mz c) (hp:mA p) (hz:c.ax<=p.p.z):ti c p=some (tE c p):=by
 obtain ⟨⟨_,hf,hn,hw,hh⟩,_⟩:=id hc;obtain ⟨hx,hy,⟨z1,z2⟩,_,_⟩:=id hp;have go:∀ v,In v 32768->nC (ak ((ak ((8:Int) * c.sR)) * v)) p.p.z=some ((8 * c.sR * v) / p.p.z)/\In ((8 * c.sR * v) / p.p.z) 16777216:=fun v hv=>by
  have hi:=(Sq hf hv (z:=p.p.z) (by omega)).2;unfold In at hv;have h:=mq (a:=8 * c.sR) (b:=v) (c:=512) (d:=32768) (by omega) (by omega) hv;rw [aj (n:=8 * c.sR),aj (n:=8 * c.sR * v),MK _ _ (by omega) (by omega)];exact ⟨rfl,hi⟩
 obtain ⟨g1,i1,i2⟩:=go _ hx;obtain ⟨g2,i3,i4⟩:=go _ hy;have a0:Jq c p.p.x p.p.z=some ((8 * c.sR * p.p.x) / p.p.z):=g1;have d0:OT c p.p.y p.p.z=some ((8 * c.sR * p.p.y) / p.p.z):=g2;have e0:Du c p=some ((8 * c.sR * p.p.x) / p.p.z+4 * c.w):=by
  unfold Du C1;simp only [a0,bj,ai,bc];rw [aj (n:=4 * c.w),aj (by omega) (by omega)]
 have e1:Dv c p=some (4 * c.h - (8 * c.sR * p.p.y) / p.p.z):=by
  unfold Dv IV;simp only [d0,bj,ai,bc];rw [aj (n:=4 * c.h),aj (by omega) (by omega)]
 have ht:Int.tdiv 16777216 p.p.z=16777216 / p.p.z:=Pd (by decide);have t1:0<=(16777216:Int) / p.p.z:=Int.ediv_nonneg (by decide) (by omega);have t2:(16777216:Int) / p.p.z<=16777216:=Int.ediv_le_self _ (by decide);unfold ti tE;simp only [e0,e1,bj,bc,ai,ay (show ¬ p.p.z=0 by omega),sE];rw [aj (n:=Int.tdiv 16777216 p.p.z)]
theorem atQ {r:jw} {x y z:Int} (h:ac7 r 256) (hx:In x 8192) (hy:In y 8192) (hz:In z 8192):Er r ⟨x,y,z⟩=some (aeH r x y z / 256):=by
 obtain ⟨a,b,c⟩:=aqz h hx hy hz;unfold In at *;unfold Er Vt aeH;simp only;generalize r.e0 * x=p at *;generalize r.e1 * y=q at *;generalize r.e2 * z=u at *;rw [aj (n:=p),aj (n:=q),aj (n:=u),aj (n:=p+q),aj (n:=p+q+u),MK _ _ (by omega) (by omega)];rfl
theorem al9 {c:az} {v:iP} (hc:mz c) (hv:zg v):xK c v=some (mT c v):=by
 obtain ⟨⟨⟨p1,p2,p3,p4,p5,p6⟩,_⟩,m0,m1,m2⟩:=id hc;obtain ⟨v1,v2,v3,v4,v5,v6⟩:=id hv;have hx:In (v.x - c.pos.x) 8192:=by unfold In; omega
 have hy:In (v.y - c.pos.y) 8192:=by unfold In; omega
 have hz:In (v.z - c.pos.z) 8192:=by unfold In; omega
 have e0:Ig c v=some (mT c v):=by
  unfold Ig C2;rw [aj (n:=v.x - c.pos.x),aj (n:=v.y - c.pos.y),aj (n:=v.z - c.pos.z)];have q0:Jr c.m ⟨v.x - c.pos.x,v.y - c.pos.y,v.z - c.pos.z⟩=some (mT c v).x:=atQ m0 hx hy hz;have q1:Js c.m ⟨v.x - c.pos.x,v.y - c.pos.y,v.z - c.pos.z⟩=some (mT c v).y:=atQ m1 hx hy hz;have q2:Jt c.m ⟨v.x - c.pos.x,v.y - c.pos.y,v.z - c.pos.z⟩=some (mT c v).z:=atQ m2 hx hy hz;simp only [q0,q1,q2,bj,bc,ai]
 unfold xK;simp only [e0,bj,bc,ai]
theorem TE (n:Int) {m:Int} (hm:0<=m/\m<=1000000):AW (In n m) (oY n m):=by
 unfold oY In;rw [aj (n:=0 - m)];by_cases h:n >= 0 - m
 ·rw [au h,ai]
  exact ⟨_,rfl,fun q=>by have:=rh q; omega,fun q=>au q.2⟩
 ·rw [ay h,aw]
  exact ⟨false,rfl,fun q=>by simp at q,fun q=>by omega⟩
theorem atS (v:iP):AW (zg v) (DX v 4096):=by
 obtain ⟨b0,h0,q0⟩:=TE v.x (m:=4096) (by decide);obtain ⟨b1,h1,q1⟩:=TE v.y (m:=4096) (by decide);obtain ⟨b2,h2,q2⟩:=TE v.z (m:=4096) (by decide);have e0:SF v 4096=some b0:=h0;have e1:SG v 4096=some b1:=h1;have e2:SH v 4096=some b2:=h2;have iff:zg v↔b0=true/\b1=true/\b2=true:=by
  rw [q0,q1,q2];unfold zg In;omega
 unfold DX AW;rw [e0,e1,e2,iff];cases b0 <;> cases b1 <;> cases b2 <;> simp
theorem auR (m:cJ):AW (MIn m 256) (Es m 256):=by
 obtain ⟨b0,h0,q0⟩:=TE m.e0.e0 (m:=256) (by decide);obtain ⟨b1,h1,q1⟩:=TE m.e0.e1 (m:=256) (by decide);obtain ⟨b2,h2,q2⟩:=TE m.e0.e2 (m:=256) (by decide);obtain ⟨b3,h3,q3⟩:=TE m.e1.e0 (m:=256) (by decide);obtain ⟨b4,h4,q4⟩:=TE m.e1.e1 (m:=256) (by decide);obtain ⟨b5,h5,q5⟩:=TE m.e1.e2 (m:=256) (by decide);obtain ⟨b6,h6,q6⟩:=TE m.e2.e0 (m:=256) (by decide);obtain ⟨b7,h7,q7⟩:=TE m.e2.e1 (m:=256) (by decide);obtain ⟨b8,h8,q8⟩:=TE m.e2.e2 (m:=256) (by decide);have e0:OV m 256=some b0:=h0;have e1:OW m 256=some b1:=h1;have e2:OX m 256=some b2:=h2;have e3:OY m 256=some b3:=h3;have e4:OZ m 256=some b4:=h4;have e5:O0 m 256=some b5:=h5;have e6:O1 m 256=some b6:=h6;have e7:O2 m 256=some b7:=h7;have e8:O3 m 256=some b8:=h8;have key:∀ (b:Bool) (r:Option Bool),(b=false->¬ MIn m 256)->(b=true->AW (MIn m 256) r)->AW (MIn m 256) (_root_.cond (!b) (some false) r):=fun b r h1 h2=>by
  cases b with
  | false=>exact ⟨false,rfl,fun q=>by simp at q,fun q=>absurd q (h1 rfl)⟩
  | true=>exact h2 rfl
 have no:∀ {b:Bool} {P:Prop},(b=true↔P)->(MIn m 256->P)->b=false->¬ MIn m 256:=fun {b P} h1 h2 h3 h4=>by have:=h1.2 (h2 h4); rw [h3] at this; simp at this
 unfold Es;simp only [e0,e1,e2,e3,e4,e5,e6,e7,e8,bj,bc,ai];refine key _ _ (no q0 fun h=>h.1.1) fun t0=>key _ _ (no q1 fun h=>h.1.2.1) fun t1=>key _ _ (no q2 fun h=>h.1.2.2) fun t2=>key _ _ (no q3 fun h=>h.2.1.1) fun t3=>key _ _ (no q4 fun h=>h.2.1.2.1) fun t4=>key _ _ (no q5 fun h=>h.2.1.2.2) fun t5=>key _ _ (no q6 fun h=>h.2.2.1) fun t6=>key _ _ (no q7 fun h=>h.2.2.2.1) fun t7=>key _ _ (no q8 fun h=>h.2.2.2.2) fun t8=>?_;exact ⟨true,rfl,fun _=>⟨⟨q0.1 t0,q1.1 t1,q2.1 t2⟩,⟨q3.1 t3,q4.1 t4,q5.1 t5⟩,q6.1 t6,q7.1 t7,q8.1 t8⟩,fun _=>rfl⟩
theorem atT (c:az):∃ e,BD c=some e/\(e=0\/e=150)/\(e=0↔mz c):=by
 obtain ⟨b0,h0,q0⟩:=atS c.pos;obtain ⟨b1,h1,q1⟩:=auR c.m;have e0:Mm c=some b0:=h0;have e1:Mn c=some b1:=h1;have no:∀ {P:Prop},¬ mz c->∃ e,(some (150:Int):Option Int)=some e/\(e=0\/e=150)/\(e=0↔mz c):=fun h=>⟨150,rfl,.inr rfl,fun q=>by omega,fun q=>absurd q h⟩
 unfold BD;simp only [e0,e1,bj,bc,ai];cases b0 with
 | false=>exact no (P:=True) fun h=>by have:=q0.2 h.1.1; simp at this
 | true=>
 cases b1 with
 | false=>exact no (P:=True) fun h=>by have:=q1.2 h.2; simp at this
 | true=>
  simp only [iR,aw];simp only [Bool.cond_eq_ite,lz];have hp:=q0.1 rfl;have hm:=q1.1 rfl;have aeU:∀ {P:Prop} [Decidable P] {r:Option Int},(P->¬ mz c)->(¬ P->∃ e,r=some e/\(e=0\/e=150)/\(e=0↔mz c))->∃ e,(if P then some (150:Int) else r)=some e/\(e=0\/e=150)/\(e=0↔mz c):=fun {P _ r} h1 h2=>by
   by_cases h:P
   ·rw [aW h]; exact no (P:=True) (h1 h)
   ·rw [aB h]; exact h2 h
  refine aeU (fun q h=>by have:=h.1.2; omega) fun t1=>aeU (fun q h=>by have:=h.1.2; omega) fun t2=>aeU (fun q h=>by have:=h.1.2; omega) fun t3=>aeU (fun q h=>by have:=h.1.2; omega) fun t4=>aeU (fun q h=>by have:=h.1.2; omega) fun t5=>aeU (fun q h=>by have:=h.1.2; omega) fun t6=>aeU (fun q h=>by have:=h.1.2; omega) fun t7=>aeU (fun q h=>by have:=h.1.2; omega) fun t8=>?_;exact ⟨0,rfl,.inl rfl,fun _=>⟨⟨hp,by omega,by omega,by omega,by omega,by omega⟩,hm⟩,fun _=>rfl⟩
def Dw (p:eF):bx:=⟨p.t,p.dp.item,p.dp.aZ,p.dp.part⟩
theorem arR (x y:Int) (l:List eF) (p:eF):mI x y (l++[p])=mI x y l++(pf x y p).toList:=by
 unfold mI;rw [List.filterMap_append];congr 1
theorem awZ (s:Show) (c:az) (x y:Int) (F:Sl bx) (h:cX s c=some 0) (hp:Pix x y) (hn:F.n<=98304) (hF:bB F=(gx s c).map Dw):∃ r,K6 s F x y=some r/\bB r=mI x y (gx s c):=by
 have hlen:(gx s c).length=F.n:=by
  have:=congrArg List.length hF;rw [eP,List.length_map] at this;exact this.symm
 obtain ⟨e,z,hz,rfl,hq⟩:∃ e z,Ey s F x y = .out e z/\(e = .exit 0/\bB z.out=mI x y (gx s c)):=by
  unfold Ey;refine bt (step:=uX) (fun j z=>z.l=F/\z.s=s/\z.i=(j:Int)/\z.x=x/\z.y=y/\j<=F.n/\z.out.n<=j/\bB z.out=mI x y ((gx s c).take j)) _ F.n (by have:gv=1000000000000:=rfl; omega) (fun j z hj ⟨f1,f2,f3,f4,f5,f6,f7,f8⟩=>?_) ⟨rfl,rfl,rfl,rfl,rfl,dq _,aX _,rfl⟩;have w1:ak (z.i+1)=z.i+1:=aj;have a1:j6 48 z.out.n 1=true:=sU (by omega) (by omega) (by omega) (.inl (by omega));unfold uX bh qH aR;by_cases bu:z.i < ((z.l.n:Nat):Int)
  ·have fw:j < F.n:=by rw [f1] at bu; omega
   have hjl:j < (gx s c).length:=by omega
   have hg:z.l.get (Int.toNat z.i)=Dw ((gx s c)[j]):=by
    have h1:=Eo F j fw;rw [hF,A5,dD hjl] at h1;rw [f1,f3,bU];exact (pb h1).symm
   have tk:mI x y ((gx s c).take (j+1))=mI x y ((gx s c).take j)++(pf x y (gx s c)[j]).toList:=by
    rw [List.take_succ_eq_append_getElem hjl,arR]
   obtain ⟨i,k,n,q1,q2,q3,q4⟩:=WW (Wm hjl);rw [q4] at hg tk;have hf:=aik h q1 q2 q3;obtain ⟨b,hb,hbi⟩:=arQ hf hp;have e0:Ga z=some b:=by
    unfold Ga;rw [hg,f4,f5];exact hb
   have i1:(Dw (partAt s c i k n)).item=(i:Int):=rfl;simp only [hg,f2,e0,w1,a1,i1,aI,ai,bC,bj,bc,au bu,au (show (0:Int)<=z.i by omega),au (show (0:Int)<=(i:Int) by omega),au (show (i:Int) < ((s.items.n:Nat):Int) by omega)];rcases ajp h hp q1 q2 q3 with ⟨h1,h2⟩ | ⟨h1,h2⟩
   ·have hbt:b=true:=hbi.2 h1
    subst hbt;have e1:xx z=some (TV ((CZ s c i k).get n) x y):=by
     unfold xx;rw [hg,f4,f5];exact apE hf hp h1
    rw [e1];simp only [ai,bj,bc];have hl:=Qt ((Ay h).2 i q1).look;have hb0:=hl.b0;have EE:=hl.b1;have hd:0<=(TV ((CZ s c i k).get n) x y).d/\(TV ((CZ s c i k).get n) x y).d<=65536:=by
     rcases abe hf hp with ⟨_,_,g3,g4⟩ | ⟨g1,_⟩
     ·exact ⟨g3,g4⟩
     ·exact absurd h1 g1
    refine .inl ⟨_,rfl,fw,f1,rfl,by show z.i+1=_; omega,f4,f5,by omega,by show z.out.n+1<=_; omega,?_⟩;show bB (Sl.push _ _)=_;rw [jE,f8,tk,h2,aj (by rw [bU]; omega) (by rw [bU]; omega)];rfl
   ·have PL:b=false:=by
     cases hb' : b with
     | false=>rfl
     | true=>exact absurd (hbi.1 hb') h1
    subst PL;simp only [aw];refine .inl ⟨_,rfl,fw,f1,rfl,by show z.i+1=_; omega,f4,f5,by omega,by show z.out.n<=_; omega,?_⟩;show bB z.out=_;rw [f8,tk,h2];simp
  ·simp only [aI,ai,aw,ay bu]
   refine .inr ⟨_,_,rfl,rfl,rfl,?_⟩;rw [f8,CH (by rw [f1] at bu; omega)]
 have b1:(Ey s F x y).by (.exit 0)=true:=by rw [hz]; rfl
 have b2:(Ey s F x y).st=z:=by rw [hz]; rfl
 refine ⟨z.out,?_,hq⟩;unfold K6;rw [b1,b2,ai]
theorem auS (t:bG):AW (ade t) (Hh t):=by
 unfold Hh ade;by_cases h1:1<=t.w/\t.w<=16
 ·rw [au (show t.w >= 1 from h1.1),au h1.2,ai,ai]
  by_cases h2:1<=t.h/\t.h<=16
  ·rw [au (show t.h >= 1 from h2.1),au h2.2,ai,ai]
   have h3:0<=t.w * t.h/\t.w * t.h<=16 * 16:=⟨wy (by omega) (by omega),CG h1.2 h2.2 (by omega) (by omega)⟩
   rw [aj (by omega) (by omega)];exact ⟨_,rfl,fun h=>⟨h1,h2,by simpa using h⟩,fun h=>by simpa using h.2.2⟩
  ·have no:AW (((1<=t.w/\t.w<=16)/\(1<=t.h/\t.h<=16)/\((t.dF.n:Nat):Int)=t.w * t.h)) (some false):=⟨false,rfl,fun h=>by simp at h,fun h=>absurd h.2.1 h2⟩
   by_cases h3:t.h >= 1
   ·rw [au h3,ay (show ¬ t.h<=16 by omega)]; exact no
   ·rw [ay h3]; exact no
 ·have no:AW (((1<=t.w/\t.w<=16)/\(1<=t.h/\t.h<=16)/\((t.dF.n:Nat):Int)=t.w * t.h)) (some false):=⟨false,rfl,fun h=>by simp at h,fun h=>absurd h.1 h1⟩
  by_cases h3:t.w >= 1
  ·rw [au h3,ay (show ¬ t.w<=16 by omega)]; exact no
  ·rw [ay h3]; exact no
theorem av4 (l:Sl bG) (hn:l.n<=16):∃ e,yX l=some e/\(e=0↔WV l):=by
 obtain ⟨e,z,hz,hq⟩:∃ e z,oe l = .out e z/\(e = .ret/\z.t2=8/\¬ WV l\/e = .exit 0/\WV l):=by
  unfold oe;refine bt (step:=p8) (fun j y=>y.l=l/\y.i=(j:Int)/\j<=l.n/\∀ i,i < j->ade (l.get i)) _ l.n (by have:gv=1000000000000:=rfl; omega) (fun j y hj ⟨f1,f2,f3,f4⟩=>?_) ⟨rfl,rfl,dq _,fun i hi=>absurd hi (xL _)⟩;have w1:ak (y.i+1)=y.i+1:=aj;obtain ⟨b,hb,hbi⟩:=auS (l.get j);have e0:yl y=some b:=by unfold yl; rw [f1,f2,bU]; exact hb
  unfold p8 bh;by_cases h:y.i < ((y.l.n:Nat):Int)
  ·have fw:j < l.n:=by rw [f1] at h; omega
   simp only [e0,w1,bj,bc,ai,bC,au h,au (show (0:Int)<=y.i by omega)];cases b with
   | false=>exact .inr ⟨_,_,rfl,rfl,.inl ⟨rfl,rfl,fun qw=>by have:=hbi.2 (qw j fw); simp at this⟩⟩
   | true=>
    refine .inl ⟨_,rfl,fw,f1,by show y.i+1=_; omega,by omega,fun i hi=>?_⟩;by_cases vK:i < j
    ·exact f4 i vK
    ·have:i=j:=by omega
     subst this;exact hbi.1 rfl
  ·simp only [aw,ay h]
   exact .inr ⟨_,_,rfl,rfl,.inr ⟨rfl,fun i hi=>f4 i (by rw [f1] at h; omega)⟩⟩
 unfold yX;rw [ay (show ¬ ((l.n:Nat):Int) > 16 by omega),aw];rcases hq with ⟨rfl,h1,h2⟩ | ⟨rfl,h1⟩
 ·have b1:(oe l).by (.exit 0)=false:=by rw [hz]; rfl
  have b2:(oe l).by .ret=true:=by rw [hz]; rfl
  have b3:(oe l).st=z:=by rw [hz]; rfl
  rw [b1,b2,b3,h1];exact ⟨8,rfl,fun h=>by omega,fun h=>absurd h h2⟩
 ·have b1:(oe l).by (.exit 0)=true:=by rw [hz]; rfl
  rw [b1];exact ⟨0,rfl,fun _=>h1,fun _=>rfl⟩
def ama (l:yD) (t:Int):Prop:=-1<=l.iD/\l.iD < t/\l.cw<=2/\-1024<=l.FC/\l.FC<=1024/\0<=l.bin/\l.bin<=15
theorem aeV (l:yD) {t:Int} (ht:0<=t/\t<=16):eL l t=some 0↔ama l t:=by
 unfold eL ama;simp only [Bool.cond_eq_ite,lz];have key:∀ {c:Prop} [Decidable c] {k:Int} {r:Option Int} {P:Prop},k≠0->(c->¬ P)->(¬ c->(r=some 0↔P))->((if c then some k else r)=some 0↔P):=fun {c _ k r P} hk h1 h2=>by
  by_cases h:c
  ·rw [aW h]; exact ⟨fun q=>absurd (pb q) hk,fun q=>absurd q (h1 h)⟩
  ·rw [aB h]; exact h2 h
 refine key (by decide) (fun q=>by omega) fun _=>key (by decide) (fun q=>by omega) fun _=>key (by decide) (fun q=>by omega) fun _=>key (by decide) (fun q=>by omega) fun _=>key (by decide) (fun q=>by omega) fun _=>key (by decide) (fun q=>by omega) fun _=>key (by decide) (fun q=>by omega) fun _=>key (by decide) (fun q=>by omega) fun _=>key (by decide) (fun q=>by omega) fun _=>?_;exact ⟨fun _=>by omega,fun _=>rfl⟩
theorem av5 (l:yD) (t:Int):AW (ama l t) (Hi l t):=by
 unfold Hi ama;simp only [Bool.cond_eq_ite,lz]
 repeat' (refine AW.ite (fun _=>?_) (fun _=>?_))
 all_goals first | exact ⟨false,rfl,fun h=>by simp at h,fun h=>by omega⟩ | exact ⟨_,rfl,fun h=>by have:=rh h; omega,fun h=>au (by omega)⟩
theorem atU {l:Sl iP} (h0:0 < l.n) (hn:l.n<=64):ym l=some (yi l (l.n - 1)):=by
 obtain ⟨e,z,hz,rfl,h1⟩:∃ e z,xi l = .out e z/\(e = .exit 0/\z.b=yi l (l.n - 1)):=by
  unfold xi;refine bt (step:=qO) (fun j y=>y.l=l/\y.i=((j+1:Nat):Int)/\j+1<=l.n/\y.b=yi l j) _ l.n (by have:gv=1000000000000:=rfl; omega) (fun j y hj ⟨f1,f2,f3,f4⟩=>?_) ⟨rfl,rfl,h0,rfl⟩;have w1:ak (y.i+1)=y.i+1:=aj;unfold qO bh;by_cases h:y.i < ((y.l.n:Nat):Int)
  ·have hg:y.l.get (Int.toNat y.i)=l.get (j+1):=by rw [f1,f2,bU]
   simp only [w1,hg,ai,bC,au h,au (show (0:Int)<=y.i by omega)];refine .inl ⟨_,rfl,by omega,f1,by show y.i+1=_; omega,by rw [f1] at h; omega,?_⟩;show apm y.b (l.get (j+1))=_;rw [f4];rfl
  ·simp only [aw,ay h]
   refine .inr ⟨_,_,rfl,rfl,rfl,?_⟩;rw [f1] at h;rw [f4,show j=l.n - 1 by omega]
 have b1:(xi l).by (.exit 0)=true:=by rw [hz]; rfl
 have b2:(xi l).st=z:=by rw [hz]; rfl
 unfold ym;rw [au (show (0:Int) < ((l.n:Nat):Int) by omega),b1,b2,h1];rfl
def ML (x:Item) (j:Nat):Prop:=zg (x.aG.get j)/\(0<=(x.uV.get j).e0/\(x.uV.get j).e0<=255)/\0<=(x.uV.get j).e1/\(x.uV.get j).e1<=255
theorem auT (x:Item) (t:Int) (hn:x.aG.n<=64) (hu:x.uV.n=x.aG.n):∃ e z,mX x t = .out e z/\((e = .ret/\z.t4=false/\∃ j,j < x.aG.n/\¬ ML x j)\/e = .exit 0/\z=⟨false,(x.aG.n:Int),z.i,x⟩/\∀ j,j < x.aG.n->ML x j):=by
 unfold mX;refine bt (step:=rV) (fun j y=>y=⟨false,(x.aG.n:Int),(j:Int),x⟩/\j<=x.aG.n/\∀ i,i < j->ML x i) _ x.aG.n (by have:gv=1000000000000:=rfl; omega) (fun j y hj ⟨hy,f6,f8⟩=>?_) ⟨rfl,dq _,fun i hi=>absurd hi (xL _)⟩;subst hy;have w1:ak ((j:Int)+1)=((j+1:Nat):Int):=by rw [aj (by omega) (by omega)]; omega
 unfold rV bh;by_cases h:(j:Int) < (x.aG.n:Int)
 ·have fw:j < x.aG.n:=by omega
  obtain ⟨b,h1,h2⟩:=atS (x.aG.get j);have e0:BF ⟨false,(x.aG.n:Int),(j:Int),x⟩=some b:=by unfold BF; simp only [bU]; exact h1
  simp only [e0,w1,bU,bj,bc,ai,bC,au h,au (show (0:Int)<=(j:Int) by omega),au (show (j:Int) < ((x.uV.n:Nat):Int) by omega)];have no : ¬ ML x j->∀ {i:Int},(∃ x' : mC,(aK.out aq.ret (⟨false,(x.aG.n:Int),i,x⟩:mC)) = .next x'/\j < x.aG.n/\x' = ⟨false,(x.aG.n:Int),((j+1:Nat):Int),x⟩/\j+1<=x.aG.n/\∀ i,i < j+1->ML x i)\/∃ e x',(aK.out aq.ret (⟨false,(x.aG.n:Int),i,x⟩:mC)) = .out e x'/\Go.K.yS e=false/\((e = .ret/\x'.t4=false/\∃ j,j < x.aG.n/\¬ ML x j)\/e = .exit 0/\x' = ⟨false,(x.aG.n:Int),x'.i,x⟩/\∀ j,j < x.aG.n->ML x j):=fun hq {i}=>.inr ⟨_,_,rfl,rfl,.inl ⟨rfl,rfl,j,fw,hq⟩⟩;cases b with
  | false=>exact no fun hq=>by have:=h2.2 hq.1; simp at this
  | true=>
   rw [iR,aw];by_cases c1:(x.uV.get j).e0 < 0
   ·rw [au c1,ai]; exact no fun hq=>by unfold ML at hq; omega
   rw [ay c1,aw];by_cases c2:(x.uV.get j).e0 > 255
   ·rw [au c2,ai]; exact no fun hq=>by unfold ML at hq; omega
   rw [ay c2,aw];by_cases c3:(x.uV.get j).e1 < 0
   ·rw [au c3,ai]; exact no fun hq=>by unfold ML at hq; omega
   rw [ay c3,aw];by_cases c4:(x.uV.get j).e1 > 255
   ·rw [au c4,ai]; exact no fun hq=>by unfold ML at hq; omega
   rw [ay c4,aw];refine .inl ⟨_,rfl,fw,rfl,by omega,fun i hi=>?_⟩;by_cases vK:i < j
   ·exact f8 i vK
   ·have:i=j:=by omega
    subst this;exact ⟨h2.1 rfl,by omega,by omega⟩
 ·simp only [aw,ay h]
  exact .inr ⟨_,_,rfl,rfl,.inr ⟨rfl,rfl,fun i hi=>f8 i (by omega)⟩⟩
theorem auU (x:Item) (hn:x.bd.n<=64):∃ e z,goN pO ⟨false,(x.aG.n:Int),0,x⟩ = .out e z/\(e = .ret/\z.t4=false/\(∃ i,i < x.bd.n/\¬ pj x.bd (x.aG.n:Int) i)\/e = .exit 2/\z=⟨false,(x.aG.n:Int),z.i,x⟩/\∀ i,i < x.bd.n->pj x.bd (x.aG.n:Int) i):=by
 refine bt (step:=pO) (fun j y=>y=⟨false,(x.aG.n:Int),(j:Int),x⟩/\j<=x.bd.n/\∀ i,i < j->pj x.bd (x.aG.n:Int) i) _ x.bd.n (by have:gv=1000000000000:=rfl; omega) (fun j y hj ⟨hy,f6,f8⟩=>?_) ⟨rfl,dq _,fun i hi=>absurd hi (xL _)⟩;subst hy;have w1:ak ((j:Int)+1)=((j+1:Nat):Int):=by rw [aj (by omega) (by omega)]; omega
 unfold pO bh;by_cases h:(j:Int) < ((x.bd.n:Nat):Int)
 ·have fw:j < x.bd.n:=by omega
  simp only [w1,bU,ai,bC,au h,au (show (0:Int)<=(j:Int) by omega)];have no : ¬ pj x.bd (x.aG.n:Int) j->∀ {i:Int},(∃ x' : nT,(aK.out aq.ret (⟨false,(x.aG.n:Int),i,x⟩:nT)) = .next x'/\j < x.bd.n/\x' = ⟨false,(x.aG.n:Int),((j+1:Nat):Int),x⟩/\j+1<=x.bd.n/\∀ i,i < j+1->pj x.bd (x.aG.n:Int) i)\/∃ e x',(aK.out aq.ret (⟨false,(x.aG.n:Int),i,x⟩:nT)) = .out e x'/\Go.K.yS e=false/\(e = .ret/\x'.t4=false/\(∃ i,i < x.bd.n/\¬ pj x.bd (x.aG.n:Int) i)\/e = .exit 2/\x' = ⟨false,(x.aG.n:Int),x'.i,x⟩/\∀ i,i < x.bd.n->pj x.bd (x.aG.n:Int) i):=fun hq {i}=>.inr ⟨_,_,rfl,rfl,.inl ⟨rfl,rfl,j,fw,hq⟩⟩;by_cases c1:(x.bd.get j).e0 < 0
  ·rw [au c1,ai]; exact no fun hq=>by unfold pj at hq; omega
  rw [ay c1,aw];by_cases c2:(x.bd.get j).e0 >= (x.aG.n:Int)
  ·rw [au c2,ai]; exact no fun hq=>by unfold pj at hq; omega
  rw [ay c2,aw];by_cases c3:(x.bd.get j).e1 < 0
  ·rw [au c3,ai]; exact no fun hq=>by unfold pj at hq; omega
  rw [ay c3,aw];by_cases c4:(x.bd.get j).e1 >= (x.aG.n:Int)
  ·rw [au c4,ai]; exact no fun hq=>by unfold pj at hq; omega
  rw [ay c4,aw];by_cases c5:(x.bd.get j).e2 < 0
  ·rw [au c5,ai]; exact no fun hq=>by unfold pj at hq; omega
  rw [ay c5,aw];by_cases c6:(x.bd.get j).e2 >= (x.aG.n:Int)
  ·rw [au c6,ai]; exact no fun hq=>by unfold pj at hq; omega
  rw [ay c6,aw];refine .inl ⟨_,rfl,fw,rfl,by omega,fun i hi=>?_⟩;by_cases vK:i < j
  ·exact f8 i vK
  ·have:i=j:=by omega
   subst this;unfold pj;omega
 ·simp only [aw,ay h]
  exact .inr ⟨_,_,rfl,rfl,.inr ⟨rfl,rfl,fun i hi=>f8 i (by omega)⟩⟩
theorem av6 (x:Item) {t:Int} (ht:0<=t/\t<=16):AW (Md x t) (Hl x t):=by
 have no : ¬ Md x t->AW (Md x t) (some false):=fun h=>⟨false,rfl,fun q=>by simp at q,fun q=>absurd q h⟩
 obtain ⟨v,hv,hvi⟩:=av5 x.look t;have e0:SM x t=some v:=hv;unfold Hl;simp only [e0,bj,bc,ai];by_cases g1:((x.aG.n:Nat):Int) > 64
 ·rw [au g1,ai]; exact no fun h=>by have:=h.n64; omega
 rw [ay g1,aw];by_cases g2:x.uV.n=x.aG.n
 case neg=>
  rw [show (((x.uV.n:Nat):Int) != ((x.aG.n:Nat):Int))=true by simpa using by omega,ai];exact no fun h=>g2 h.uvn
 rw [show (((x.uV.n:Nat):Int) != ((x.aG.n:Nat):Int))=false by simpa using by omega,aw];by_cases g3:((x.bd.n:Nat):Int) > 64
 ·rw [au g3,ai]; exact no fun h=>by have:=h.t64; omega
 rw [ay g3,aw];cases v with
 | false=>exact no fun h=>by have:=hvi.2 ((aeV x.look ht).1 h.look); simp at this
 | true=>
 have DH:=(aeV x.look ht).2 (hvi.1 rfl);rw [iR,aw];obtain ⟨e,y,hy,h⟩:=auT x t (by omega) g2;rcases h with ⟨rfl,hf,j,hj,YS⟩ | ⟨rfl,hye,hvs⟩
 ·have b1:(mX x t).by (.exit 0)=false:=by rw [hy]; rfl
  have b2:(mX x t).by .ret=true:=by rw [hy]; rfl
  have b3:(mX x t).st.t4=false:=by rw [hy]; exact hf
  simp only [b1,b2,b3,ai,aw];exact no fun h=>YS (h.v j hj)
 ·have b1:(mX x t).by (.exit 0)=true:=by rw [hy]; rfl
  have s1:(mX x t).st=⟨false,(x.aG.n:Int),y.i,x⟩:=by rw [hy]; exact hye
  obtain ⟨e,z,hz,h⟩:∃ e z,eR x t = .out e z/\(e = .ret/\z.t4=false/\(∃ i,i < x.bd.n/\¬ pj x.bd (x.aG.n:Int) i)\/e = .exit 2/\z=⟨false,(x.aG.n:Int),z.i,x⟩/\∀ i,i < x.bd.n->pj x.bd (x.aG.n:Int) i):=by
   unfold eR;rw [s1];exact auU x (by omega)
  rcases h with ⟨rfl,hf',i,hi,YS⟩ | ⟨rfl,hze,qw⟩
  ·have b2:(eR x t).by (.exit 2)=false:=by rw [hz]; rfl
   have b3:(eR x t).by .ret=true:=by rw [hz]; rfl
   have b4:(eR x t).st.t4=false:=by rw [hz]; exact hf'
   simp only [b1,b2,b3,b4,ai,aw];exact no fun h=>YS (h.aZ i hi)
  ·have b2:(eR x t).by (.exit 2)=true:=by rw [hz]; rfl
   have s2:(eR x t).st=⟨false,(x.aG.n:Int),z.i,x⟩:=by rw [hz]; exact hze
   have ok:FQ x.aG=x.box->Md x t:=fun hb=>⟨by omega,g2,by omega,DH,hvs,qw,hb⟩
   simp only [b1,b2,s2,ai];by_cases GK:x.aG.n=0
   ·have IB:FQ x.aG=Ax:=by unfold FQ; rw [aW GK]
    rw [show (((x.aG.n:Nat):Int)==(0:Int))=true by simpa using by omega,ai];have hq:=WU x.box Ax;refine ⟨_,rfl,fun h=>ok (IB.trans ((hq.1 h).symm)),fun h=>hq.2 (h.box.symm.trans IB)⟩
   ·have IB:FQ x.aG=yi x.aG (x.aG.n - 1):=by unfold FQ; rw [aB GK]
    have e3:sW x t=some (yi x.aG (x.aG.n - 1)):=by
     unfold sW;rw [s2];show ym x.aG=_;exact atU (by omega) (by omega)
    rw [show (((x.aG.n:Nat):Int)==(0:Int))=false by simpa using by omega,aw];simp only [e3,bj,bc,ai];have hq:=WU x.box (yi x.aG (x.aG.n - 1));refine ⟨_,rfl,fun h=>ok (IB.trans ((hq.1 h).symm)),fun h=>hq.2 (h.box.symm.trans IB)⟩
theorem aoi (s:Show):∃ e,yo s=some e/\BB s e:=by
 unfold yo;by_cases g1:((s.items.n:Nat):Int) > 256
 ·rw [au g1,ai]
  exact ⟨_,rfl,.many (.inl (by omega))⟩
 by_cases g2:((s.av.n:Nat):Int) > 16
 ·rw [ay g1,au g2,aw,ai]
  exact ⟨_,rfl,.many (.inr (by omega))⟩
 have hb : ¬ Big s:=by unfold Big; omega
 obtain ⟨v,hv,Oh⟩:=av4 s.av (by omega);have e0:Mw s=some v:=hv;rw [ay g1,ay g2];simp only [e0,ai,aw,bj,bc];by_cases hz:v=0
 ·rw [show (v != (0:Int))=false by simpa using hz,aw]
  obtain ⟨e,x',hx,h⟩:∃ e x',pP s = .out e x'/\(e = .ret/\x'.t2=8/\(∃ i,i < s.items.n/\¬ Md (s.items.get i) (s.av.n:Int))\/e = .exit 0/\∀ i,i < s.items.n->Md (s.items.get i) (s.av.n:Int)):=by
   unfold pP;refine bt (step:=p9) (fun j y=>y.s=s/\y.i=(j:Int)/\j<=s.items.n/\∀ i,i < j->Md (s.items.get i) (s.av.n:Int)) _ s.items.n (by have:gv=1000000000000:=rfl; omega) (fun j y hj ⟨f1,f2,f3,f4⟩=>?_) ⟨rfl,rfl,dq _,fun i hi=>absurd hi (xL _)⟩;have w1:ak (y.i+1)=y.i+1:=aj;obtain ⟨b,hb,hbi⟩:=av6 (s.items.get j) (t:=(s.av.n:Int)) (by omega);have e0:yn y=some b:=by unfold yn; rw [f1,f2,bU]; exact hb
   unfold p9 bh;by_cases h:y.i < ((y.s.items.n:Nat):Int)
   ·have fw:j < s.items.n:=by rw [f1] at h; omega
    simp only [e0,w1,bj,bc,ai,bC,au h,au (show (0:Int)<=y.i by omega)];cases b with
    | false=>exact .inr ⟨_,_,rfl,rfl,.inl ⟨rfl,rfl,j,fw,fun hq=>by have:=hbi.2 hq; simp at this⟩⟩
    | true=>
     refine .inl ⟨_,rfl,fw,f1,by show y.i+1=_; omega,by omega,fun i hi=>?_⟩;by_cases vK:i < j
     ·exact f4 i vK
     ·have:i=j:=by omega
      subst this;exact hbi.1 rfl
   ·simp only [aw,ay h]
    exact .inr ⟨_,_,rfl,rfl,.inr ⟨rfl,fun i hi=>f4 i (by rw [f1] at h; omega)⟩⟩
  rcases h with ⟨rfl,h1,i,hi,h2⟩ | ⟨rfl,h1⟩
  ·have b1:(pP s).by (.exit 0)=false:=by rw [hx]; rfl
   have b2:(pP s).by .ret=true:=by rw [hx]; rfl
   have b3:(pP s).st=x':=by rw [hx]; rfl
   rw [b1,b2,b3,h1];exact ⟨_,rfl,.bad hb fun h=>h2 (h.2 i hi)⟩
  ·have b1:(pP s).by (.exit 0)=true:=by rw [hx]; rfl
   rw [b1];exact ⟨_,rfl,.ok hb ⟨Oh.1 hz,h1⟩⟩
 ·rw [show (v != (0:Int))=true by simpa using hz,ai]
  exact ⟨_,rfl,.bad hb fun h=>hz (Oh.2 h.1)⟩
theorem ux.Aj {s s' : Show} (h:ux s s') {f:aL} (h0:0<=f.item/\f.item < (s.items.n:Int)):pR s' f=pR s f:=by
 unfold pR;rw [h.item h0]
theorem ux.bin {s s' : Show} (h:ux s s') {f:aL} (h0:0<=f.item/\f.item < (s.items.n:Int)):Hu s' f=Hu s f:=by
 unfold Hu;rw [h.item h0]
theorem ux.uj {s s' : Show} (h:ux s s'):∀ (l:List aL) (b:aL×Bool),(∀ f∈l,0<=f.item/\f.item < (s.items.n:Int))->l.foldl (Ke s') b=l.foldl (Ke s) b
 | [],_,_=>rfl
 | f::l,b,hl=>by
  rw [List.foldl_cons,List.foldl_cons];have e:Ke s' b f=Ke s b f:=by
   unfold Ke;rw [h.Aj (hl f (Kj ..))]
  rw [e];exact h.uj l _ fun g hg=>hl g (wh _ hg)
def InW (c:az) (x y:Int):Prop:=(0<=x/\x < c.w)/\0<=y/\y < c.h
inductive MM (s:Show) (c:az) (x y:Int):Int->Prop where
 | bad (a:Int) (h:rR s c a) (ha:a≠0):MM s c x y a
 | out (h:rR s c 0) (h2 : ¬ InW c x y):MM s c x y 2
 | ok (h:rR s c 0) (h2:InW c x y):MM s c x y 0
theorem MM.one {s:Show} {c:az} {x y a b:Int} (h:MM s c x y a) (k:MM s c x y b):a=b:=by
 rcases h with ⟨_,h1,h2⟩ | ⟨h1,h2⟩ | ⟨h1,h2⟩ <;> rcases k with ⟨_,k1,k2⟩ | ⟨k1,k2⟩ | ⟨k1,k2⟩
 ·exact h1.one k1
 ·exact absurd (h1.one k1) h2
 ·exact absurd (h1.one k1) h2
 ·exact absurd (k1.one h1) k2
 ·rfl
 ·exact absurd k2 h2
 ·exact absurd (k1.one h1) k2
 ·exact absurd h2 k2
 ·rfl
theorem ux.pix {s s' : Show} (h:ux s s') {c:az} {x y e:Int} (k:MM s c x y e):MM s' c x y e:=by
 rcases k with ⟨_,k1,k2⟩ | ⟨k1,k2⟩ | ⟨k1,k2⟩
 ·exact .bad _ (h.asked k1) k2
 ·exact .out (h.asked k1) k2
 ·exact .ok (h.asked k1) k2
theorem aoj (s:Show) (c:az):∃ e,yr s c=some e/\rR s c e:=by
 obtain ⟨e,h1,h2⟩:=aoi s;obtain ⟨f,h3,h4,h5⟩:=atT c;have e0:F8 s c=some e:=h1;have e1:MG s c=some f:=h3;unfold yr;simp only [e0,e1,bj,bc,ai];by_cases he:e=0
 ·subst he
  refine ⟨f,rfl,?_⟩;by_cases hf:f=0
  ·subst hf; exact .ok h2 (h5.1 rfl)
  ·have:f=150:=by omega
   subst this;exact .cam h2 fun h=>hf (h5.2 h)
 ·rw [show (e==(0:Int))=false by simpa using he]
  exact ⟨e,rfl,.nF e h2 he⟩
theorem atV (s:Show) (c:az) (x y:Int):∃ e,BP s c x y=some e/\MM s c x y e:=by
 obtain ⟨e,h1,h2⟩:=aoj s c;have e0:AU s c x y=some e:=h1;unfold BP;simp only [e0,bj,bc,ai];by_cases he:e=0
 ·subst he
  rw [Ki,ai];by_cases c1:x < 0
  ·rw [au c1]; exact ⟨_,rfl,.out h2 fun h=>by have:=h.1; omega⟩
  by_cases c2:x >= c.w
  ·rw [ay c1,au c2]; exact ⟨_,rfl,.out h2 fun h=>by have:=h.1; omega⟩
  by_cases c3:y < 0
  ·rw [ay c1,ay c2,au c3]; exact ⟨_,rfl,.out h2 fun h=>by have:=h.2; omega⟩
  by_cases c4:y >= c.h
  ·rw [ay c1,ay c2,ay c3,au c4]; exact ⟨_,rfl,.out h2 fun h=>by have:=h.2; omega⟩
  rw [ay c1,ay c2,ay c3,ay c4];exact ⟨_,rfl,.ok h2 ⟨by omega,by omega⟩⟩
 ·rw [show (e==(0:Int))=false by simpa using he]
  exact ⟨e,rfl,.bad e h2 he⟩
inductive AtX (s:Show) (c:az) (ground:Color) (x y:Int):Prop where
 | no (e:Int) (hv:MM s c x y e) (he:e≠0) (l:Sl aL) (hn:l.n=0) (h1:iY s c x y=some (l,e)) (h2:jA s c x y=some (⟨0,0,0,0,0,0⟩,false,e)) (h3:mG s c ground x y=some (⟨0,0,0,0⟩,e)):AtX s c ground x y
 | yes (hv:MM s c x y 0) (r:aH) (l:Sl aL) (hr:I3 s c r) (ho:th s c=some r) (hs:KC s) (hc:OQ c) (ha:cX s c=some 0) (hx:0<=x/\x < c.w) (hy:0<=y/\y < c.h)
   (h1:iY s c x y=some (l,0)) (hl:bB l=mI x y (gx s c)) (h2:jA s c x y=some (cond (Ca s c x y).2 (Ca s c x y).1 ⟨0,0,0,0,0,0⟩,(Ca s c x y).2,0)) (h3:mG s c ground x y=some (aeT r ground x y,0)):AtX s c ground x y
theorem auV (s:Show) (c:az) (x y:Int):∃ r e,qk s c x y=some (r,e)/\MM s c x y e:=by
 obtain ⟨e,h1,h2⟩:=KH s c;have e0:CY s c x y=some e:=h1;unfold qk tW;simp only [e0,bj,bc,ai];by_cases he:e=0
 ·subst he
  rw [hU,aw];by_cases c1:x < 0
  ·rw [au c1]; exact ⟨_,_,rfl,.out h2 fun h=>by have:=h.1; omega⟩
  by_cases c2:x >= c.w
  ·rw [ay c1,au c2]; exact ⟨_,_,rfl,.out h2 fun h=>by have:=h.1; omega⟩
  by_cases c3:y < 0
  ·rw [ay c1,ay c2,au c3]; exact ⟨_,_,rfl,.out h2 fun h=>by have:=h.2; omega⟩
  by_cases c4:y >= c.h
  ·rw [ay c1,ay c2,ay c3,au c4]; exact ⟨_,_,rfl,.out h2 fun h=>by have:=h.2; omega⟩
  rw [ay c1,ay c2,ay c3,ay c4];obtain ⟨hs,_⟩:=(Vm s c).elim fun e h=>h.2 (pb (h.1.symm.trans h1));obtain ⟨r,hr,_⟩:=akw s c hs;have e1:Ib s c x y=some r:=hr;simp only [aw,e1,bj,bc,ai];exact ⟨_,_,rfl,.ok h2 ⟨by omega,by omega⟩⟩
 ·rw [show (e != (0:Int))=true by simpa using he]
  exact ⟨_,_,rfl,.bad e h2 he⟩
theorem atX (s:Show) (c:az) (ground:Color) (x y:Int):AtX s c ground x y:=by
 obtain ⟨r0,e0,g1,g2⟩:=auV s c x y;have e1:oX s c x y=some (r0,e0):=g1;rcases atP s c ground x y with ⟨e,he,⟨l,h1⟩,h2,h3⟩ | ⟨r,l,hr,ho,hs,hc,ha,hx,hy,h1,hl,h2,h3⟩
 ·have k:=h2
  unfold jA at k;have e2:pU s c x y=some (r0,e0):=g1;simp only [e2,bj,bc,ai] at k;by_cases hz:e0=0
  ·exfalso
   subst hz;rw [hU,aw] at k;cases hw:rY s c x y with
   | none=>rw [hw] at k; simp at k
   | some w=>
    rw [hw] at k;simp only [bj,bc,ai] at k;cases hb:w.2 <;> rw [hb] at k <;> simp at k <;> exact he (by omega)
  ·have hz' : (e0 != (0:Int))=true:=by simpa using hz
   rw [hz',ai] at k;have hee:e0=e:=congrArg (fun q=>q.2.2) (pb k);subst hee;have hf:∃ l:Sl aL,l.n=0/\iY s c x y=some (l,e0):=by
    unfold iY;simp only [e1,bj,bc,ai,show (e0==(0:Int))=false by simpa using hz,aw];exact ⟨_,rfl,rfl⟩
   obtain ⟨l',hn,h1'⟩:=hf;exact .no e0 g2 hz l' hn h1' h2 h3
 ·have hv:MM s c x y 0:=by
   refine .ok ?_ ⟨hx,hy⟩;obtain ⟨e,q1,q2⟩:=KH s c;have:e=0:=pb (q1.symm.trans ha);subst this;exact q2
  exact .yes hv r l hr ho hs hc ha hx hy h1 hl h2 h3
end Go.Proofs.YtchbpckkmgcgkaaGreat.b
end
section
namespace Go.Proofs.YtchbpckkmgcgkaaGreat.b
open Go.K
noncomputable section
def BV (a:Int) (b:Int) (part:Int) (whole:Int):=nC (ak ((ak (b - a)) * part)) whole
def pX (a:Int) (b:Int) (part:Int) (whole:Int):Option (Int):=(cond (BV a b part whole).isSome (some ((ak (a+((BV a b part whole).getD default))))) none)
theorem adG (a:Int) (b:Int) (part:Int) (whole:Int):gw [(172,Ep)] [] 205 [(kI .i64) a,(kI .i64) b,(kI .i64) part,(kI .i64) whole] = (pX a b part whole).map (kI .i64):=by
 unfold pX
 try simp only [aV]
 kernel_rfl
def V8:List KV->KR KV:=a8 PG 205 (bb (kI .i64) fun vs=>pX (intOf (v9 vs 0)) (intOf (v9 vs 1)) (intOf (v9 vs 2)) (intOf (v9 vs 3)))
theorem abP:a7 PG 205 V8:=bH (ao.cons Az ao.nil) aJ.nil fun w=>adG (intOf (g0 3 (w 0))) (intOf (g0 3 (w 1))) (intOf (g0 3 (w 2))) (intOf (g0 3 (w 3)))
def KO (ax:Int) (a:bM) (b:bM):=pX a.p.x b.p.x (ak (ax - a.p.z)) (ak (b.p.z - a.p.z))
def KP (ax:Int) (a:bM) (b:bM):=pX a.p.y b.p.y (ak (ax - a.p.z)) (ak (b.p.z - a.p.z))
def KQ (ax:Int) (a:bM) (b:bM):=pX a.u b.u (ak (ax - a.p.z)) (ak (b.p.z - a.p.z))
def KS (ax:Int) (a:bM) (b:bM):=pX a.v b.v (ak (ax - a.p.z)) (ak (b.p.z - a.p.z))
def pY (ax:Int) (a:bM) (b:bM):Option (bM):=(cond (KO ax a b).isSome (cond (KP ax a b).isSome (cond (KQ ax a b).isSome (cond (KS ax a b).isSome (some (⟨⟨((KO ax a b).getD default),((KP ax a b).getD default),ax⟩,((KQ ax a b).getD default),((KS ax a b).getD default)⟩)) none) none) none) none)
theorem amb (ax:Int) (a:bM) (b:bM):gw [(205,V8)] [] 165 [(kI .i64) ax,pJ a,pJ b] = (pY ax a b).map pJ:=by
 unfold pY
 try simp only [aV]
 kernel_rfl
def SS:List KV->KR KV:=a8 PG 165 (bb pJ fun vs=>pY (intOf (v9 vs 0)) (kP (v9 vs 1)) (kP (v9 vs 2)))
theorem O9:a7 PG 165 SS:=bH (ao.cons abP ao.nil) aJ.nil fun w=>amb (intOf (g0 3 (w 0))) (kP (g0 177 (w 1))) (kP (g0 177 (w 2)))
end
end Go.Proofs.YtchbpckkmgcgkaaGreat.b
end
