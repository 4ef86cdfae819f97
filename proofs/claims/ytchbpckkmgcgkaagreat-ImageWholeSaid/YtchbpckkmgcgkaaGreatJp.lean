/- Part of the proof of ImageWhole: the machine, shown to be the model's, and plain models. No conditions. -/
import Derived.Test.YtchbpckkmgcgkaaGreatHp
import Derived.Test.YtchbpckkmgcgkaaGreatIp
import Derived.Test.YtchbpckkmgcgkaaGreatGp
set_option linter.unusedSimpArgs false
set_option linter.unusedVariables false
section
namespace Go.Proofs.YtchbpckkmgcgkaaGreat.b
open Go.K Go.K.hY
open Go.aF (aq)
theorem afC (h:aI) (D:Sl aU) (a b n:Nat) (h1:a+n<=b) (h2:b+n<=D.n) (h3:D.n<=10000000000) :
  ∃ e y,goN dz ⟨D,(a:Int),(b:Int),(n:Int),(0:Int),h⟩ = .out e y/\(e = .exit 0/\y.a=(a:Int)/\y.b=(b:Int)/\y.n=(n:Int)/\y.iL=h/\y.data.n=D.n/\∀ t,y.data.get t=Ht D.get a b n t):=by
 refine bn (step:=dz) (fun j y=>y.a=(a:Int)/\y.b=(b:Int)/\y.n=(n:Int)/\y.iL=h/\y.i=(j:Int)/\j<=n/\y.data.n=D.n/\∀ t,y.data.get t=Ht D.get a b j t) (fun e y=>e = .exit 0/\y.a=(a:Int)/\y.b=(b:Int)/\y.n=(n:Int)/\y.iL=h/\y.data.n=D.n/\∀ t,y.data.get t=Ht D.get a b n t) n (by have:gd=1000000000000:=rfl; omega) (fun j y hj ⟨f1,f2,f3,f4,f5,f6,f7,f8⟩=>?_) ⟨rfl,rfl,rfl,rfl,rfl,cP _,rfl,fun t=>by rw [Ht,ay (by omega),ay (by omega)]⟩;unfold dz bj aC;simp only [f1,f2,f3,f5,f7,aG,ai];by_cases bt:j < n
 ·rw [av (show (j:Int) < (n:Int) by omega),ai,aiI (by omega),aiI (by omega),inB (by omega),inB (by omega),Zy (by omega)]
  simp only [ai,bU];refine .inl ⟨_,rfl,bt,rfl,rfl,rfl,f4,rfl,bt,by rw [aqI]; exact f7,fun t=>?_⟩;rw [WQ,arK D.get (by omega) t,f8,f8,f8,bh,bh]
 ·rw [az (show ¬ (j:Int) < (n:Int) by omega),aw]
  have:j=n:=by omega
  subst this;exact .inr ⟨_,_,rfl,rfl,rfl,f1,f2,f3,f4,f7,f8⟩
theorem JG (h:aI) (D:Sl aU) (a b n:Nat) (h1:a+n<=b) (h2:b+n<=D.n) (h3:D.n<=10000000000) :
  ∃ D',gk ⟨D,(a:Int),(b:Int),(n:Int),h⟩ = .out .ret ⟨D',(a:Int),(b:Int),(n:Int),h⟩/\D'.n=D.n/\∀ t,D'.get t=Ht D.get a b n t:=by
 obtain ⟨e,y,hy,rfl,y1,y2,y3,y4,y5,y6⟩:=afC h D a b n h1 h2 h3;have e0:eA ⟨D,(a:Int),(b:Int),(n:Int),h⟩ = .out (.exit 0) y:=hy;refine ⟨y.data,?_,y5,y6⟩;unfold gk kS aC;rw [e0];simp only [aG,ai,aJ.kO,aJ.lG,gj,mK,y1,y2,y3,y4]
theorem aiK (h:aI) (D:Sl aU) (a m b:Nat) (h1:a < m) (h2:m < b) (h4:b<=D.n) (h3:D.n<=10000000000) :
  ∃ e y,goN dY ⟨D,(a:Int),(m:Int),(b:Int),((m - a:Nat):Int),((b - m:Nat):Int),h⟩ = .out e y/\(e = .exit 0/\y.a=(a:Int)/\y.m=(m:Int)/\y.b=(b:Int)/\y.iL=h/\y.data.n=D.n/\
   ∃ i:Nat,1<=i/\a+i<=m/\m+i<=b/\y.i=(i:Int)/\y.j=(i:Int)/\(∀ t,t < m - i\/m+i<=t->y.data.get t=Ky D.get a m b t)/\(∀ t,m - i<=t->t < m->Ky D.get a m b t=y.data.get (t+i))/\∀ t,m<=t->t < m+i->Ky D.get a m b t=y.data.get (t - i)):=by
 refine bn (step:=dY) (fun k y=>y.a=(a:Int)/\y.m=(m:Int)/\y.b=(b:Int)/\y.iL=h/\y.data.n=D.n/\
   ∃ i j:Nat,1<=i/\1<=j/\a+i<=m/\m+j<=b/\i+j+k<=b - a/\y.i=(i:Int)/\y.j=(j:Int)/\(∀ t,t < m - i\/m+j<=t->y.data.get t=Ky D.get a m b t)/\(∀ t,m - i<=t->t < m - i+j->Ky D.get a m b t=y.data.get (t+i))/\∀ t,m - i+j<=t->t < m+j->Ky D.get a m b t=y.data.get (t - j)) _ (b - a) (by have:gd=1000000000000:=rfl; omega) (fun k y hk ⟨f1,f2,f3,f4,f5,i,j,g1,g2,g3,g4,g5,g6,g7,g8,g9,g10⟩=>?_) ?_
 ·unfold dY aC
  by_cases he:i=j
  ·subst he
   rw [g6,g7,jO,aw,aG,ai];exact .inr ⟨_,_,rfl,rfl,rfl,f1,f2,f3,f4,f5,i,g1,g3,g4,g6,g7,g8,fun t q1 q2=>g9 t q1 (by omega),fun t q1 q2=>g10 t (by omega) q2⟩
  ·rw [g6,g7,show ((i:Int) != (j:Int))=true by simpa using (show ¬ (i:Int)=(j:Int) by omega),ai]
   by_cases hgt:j < i
   ·rw [av (show (i:Int) > (j:Int) by omega),ai]
    obtain ⟨D',q1,q2,q3⟩:=JG h y.data (m - i) m j (by omega) (by omega) (by omega);have e0:gN y = .out .ret ⟨D',((m - i:Nat):Int),(m:Int),(j:Int),h⟩:=by
     unfold gN;rw [f2,g6,g7,f4,I0 (by omega) (by omega)];exact q1
    rw [e0];simp only [aG,ai,aJ.kO,aJ.lG,gj,q2];refine .inl ⟨_,rfl,by omega,f1,f2,f3,rfl,by rw [q2]; exact f5,i - j,j,by omega,g2,by omega,g4,by omega,I0 (by omega) (by omega),rfl,fun t ht=>?_,fun t t1 t2=>?_,fun t t1 t2=>?_⟩
    ·rw [q3]
     by_cases Gi:m - i<=t/\t < m - i+j
     ·rw [Ht,aV Gi,g9 t Gi.1 Gi.2]; congr 1; omega
     ·rw [Ht,ay Gi,ay (by omega)]; exact g8 t (by omega)
    ·rw [q3,Ht,ay (by omega),aV (by omega),g10 t (by omega) (by omega)]; congr 1; omega
    ·rw [q3,Ht,ay (by omega),ay (by omega),g10 t (by omega) (by omega)]
   ·rw [az (show ¬ (i:Int) > (j:Int) by omega),aw]
    obtain ⟨D',q1,q2,q3⟩:=JG h y.data (m - i) (m+j - i) i (by omega) (by omega) (by omega);have e0:gP y = .out .ret ⟨D',((m - i:Nat):Int),((m+j - i:Nat):Int),(i:Int),h⟩:=by
     unfold gP;rw [f2,g6,g7,f4,I0 (by omega) (by omega),aiI (by omega),I0 (by omega) (by omega)];exact q1
    rw [e0];simp only [aG,ai,aJ.kO,aJ.lG,gj,q2];refine .inl ⟨_,rfl,by omega,f1,f2,f3,rfl,by rw [q2]; exact f5,i,j - i,g1,by omega,g3,by omega,by omega,rfl,I0 (by omega) (by omega),fun t ht=>?_,fun t t1 t2=>?_,fun t t1 t2=>?_⟩
    ·rw [q3]
     by_cases Gi:m+j - i<=t/\t < m+j - i+i
     ·rw [Ht,ay (by omega),aV Gi,g10 t (by omega) (by omega)]; congr 1; omega
     ·rw [Ht,ay (by omega),ay Gi]; exact g8 t (by omega)
    ·rw [q3,Ht,ay (by omega),ay (by omega),g9 t (by omega) (by omega)]
    ·rw [q3,Ht,aV (by omega),g9 t (by omega) (by omega)]; congr 1; omega
 ·refine ⟨rfl,rfl,rfl,rfl,rfl,m - a,b - m,by omega,by omega,by omega,by omega,by omega,rfl,rfl,fun t ht=>?_,fun t t1 t2=>?_,fun t t1 t2=>?_⟩
  ·rw [PQ (by omega) (by omega) (by omega)]
  ·rw [WC (by omega) (by omega)]
  ·rw [RS (by omega) (by omega)]
theorem aiL (h:aI) (D:Sl aU) (a m b:Nat) (h1:a < m) (h2:m < b) (h4:b<=D.n) (h3:D.n<=10000000000) :
  ∃ D',eV ⟨D,(a:Int),(m:Int),(b:Int),h⟩ = .out .ret ⟨D',(a:Int),(m:Int),(b:Int),h⟩/\D'.n=D.n/\∀ t,D'.get t=Ky D.get a m b t:=by
 obtain ⟨e,y,hy,rfl,y1,y2,y3,y4,y5,i,i1,i2,i3,i4,i5,i6,i7,i8⟩:=aiK h D a m b h1 h2 h4 h3;have e0:bR ⟨D,(a:Int),(m:Int),(b:Int),h⟩ = .out (.exit 0) y:=by
  unfold bR;rw [I0 (by omega) (by omega),I0 (by omega) (by omega)];exact hy
 obtain ⟨D',q1,q2,q3⟩:=JG h y.data (m - i) m i (by omega) (by omega) (by omega);have e1:iz ⟨D,(a:Int),(m:Int),(b:Int),h⟩ = .out .ret ⟨D',((m - i:Nat):Int),(m:Int),(i:Int),h⟩:=by
  unfold iz;rw [e0];simp only [aJ.lG,y2,i4,y4];rw [I0 (by omega) (by omega)];exact q1
 refine ⟨D',?_,q2.trans y5,fun t=>?_⟩
 ·unfold eV mW aC
  rw [e0,e1];simp only [aG,ai,aJ.kO,aJ.lG,gj,mK,y1,y2,y3,q2]
 ·rw [q3]
  by_cases c1:m - i<=t/\t < m - i+i
  ·rw [Ht,aV c1,i7 t (by omega) (by omega)]; congr 1; omega
  ·by_cases c2:m<=t/\t < m+i
   ·rw [Ht,ay c1,aV c2,i8 t c2.1 c2.2]; congr 1; omega
   ·rw [Ht,ay c1,ay c2]; exact i6 t (by omega)
def ca (h:aI) (d:aU):Int:=(h.dc.items.get (Int.toNat d.item)).look.bin
def jo (h:aI) (d:aU):Bool:=(decide ((0:Int)<=d.item))&&(decide (d.item < ((h.dc.items.n:Nat):Int)))
theorem aiM (h:aI) (D:Sl aU) (a b i:Nat) (h1:a<=i) (h2:i < D.n) (h3:D.n<=10000000000) (cq:∀ t,t < D.n->jo h (D.get t)=true) :
  ∃ e y,goN cC ⟨D,(a:Int),(b:Int),(i:Int),(i:Int),h⟩ = .out e y/\(e = .exit 2/\y.a=(a:Int)/\y.b=(b:Int)/\y.i=(i:Int)/\y.jG=h/\y.data.n=D.n/\∃ j:Nat,a<=j/\j<=i/\(∀ t,y.data.get t=ins D.get j i t)/\(∀ t,j<=t->t < i->ca h (D.get i) < ca h (D.get t))/\(j=a\/¬ ca h (D.get i) < ca h (D.get (j - 1)))):=by
 refine bn (step:=cC) (fun k y=>y.a=(a:Int)/\y.b=(b:Int)/\y.i=(i:Int)/\y.jG=h/\y.data.n=D.n/\a+k<=i/\y.j=((i - k:Nat):Int)/\(∀ t,y.data.get t=ins D.get (i - k) i t)/\∀ t,i - k<=t->t < i->ca h (D.get i) < ca h (D.get t)) _ (i - a) (by have:gd=1000000000000:=rfl; omega) (fun k y hk ⟨f1,f2,f3,f4,f5,f6,f7,f8,f9⟩=>?_) ⟨rfl,rfl,rfl,rfl,rfl,by omega,by simp,fun t=>by rw [Nat.sub_zero,akt],fun t t1 t2=>by omega⟩;unfold cC bj aC;by_cases bt:a < i - k
 ·have g1:y.data.get (0+Int.toNat ((i - k:Nat):Int))=D.get i:=by rw [bU,bh,f8,Nk]
  have g2:y.data.get (0+Int.toNat ((i - k - 1:Nat):Int))=D.get (i - k - 1):=by rw [bU,bh,f8,Dm (by omega)]
  obtain ⟨r,r1,r2⟩:=WR (ca h (D.get i)) (ca h (D.get (i - k - 1)));have e0:iv y=some r:=by
   unfold iv;rw [f7,aiJ (by omega) (by omega),g1,g2,f4];exact r1
  have o1:((decide ((0:Int)<=(D.get i).item))&&(decide ((D.get i).item < ((h.dc.items.n:Nat):Int))))=true:=cq i h2;have o2:((decide ((0:Int)<=(D.get (i - k - 1)).item))&&(decide ((D.get (i - k - 1)).item < ((h.dc.items.n:Nat):Int))))=true:=cq _ (by omega);rw [f7,f1,av (show ((i - k:Nat):Int) > (a:Int) by omega),ai,f5,inB (by omega),ai,aiJ (by omega) (by omega),inB (by omega),ai,g1,g2,f4,o1,o2,e0];simp only [ai,bx,bq,aG,r2];by_cases hc:ca h (D.get i) < ca h (D.get (i - k - 1))
  ·rw [av hc,ai]
   refine .inl ⟨_,rfl,by omega,rfl,f2,f3,rfl,by rw [aqI]; exact f5,by omega,by rw [show i - (k+1)=i - k - 1 by omega],fun t=>?_,fun t t1 t2=>?_⟩
   ·rw [WQ,show i - (k+1)=i - k - 1 by omega,akv (by omega) (by omega),bU,bU,Nk,Dm (by omega),f8]
   ·by_cases e:t=i - k - 1
    ·rw [e]; exact hc
    ·exact f9 t (by omega) t2
  ·rw [az hc,aw]
   exact .inr ⟨_,_,rfl,rfl,rfl,f1,f2,f3,f4,f5,i - k,by omega,by omega,f8,f9,.inr hc⟩
 ·rw [f7,f1,az (show ¬ ((i - k:Nat):Int) > (a:Int) by omega),aw,aG,ai]
  exact .inr ⟨_,_,rfl,rfl,rfl,f1,f2,f3,f4,f5,i - k,by omega,by omega,f8,f9,.inl (by omega)⟩
def bQ (h:aI) (ic:aU->aU->Prop):hY.Ord aU:=⟨ca h,ic⟩
theorem QB (h:aI) (ic:aU->aU->Prop) (D:Sl aU) (a b:Nat) (h1:a<=b) (h2:b<=D.n) (h3:D.n<=10000000000) (cq:∀ t,t < D.n->jo h (D.get t)=true) (hr:∀ s t,a<=s->s < t->t < b->ic (D.get s) (D.get t)) :
  ∃ D',gm ⟨D,(a:Int),(b:Int),h⟩ = .out .ret ⟨D',(a:Int),(b:Int),h⟩/\D'.n=D.n/\Perm D.get D'.get a b/\ia (bQ h ic) D'.get a b:=by
 have avX:∃ e y,goN cH ⟨D,(a:Int),(b:Int),((a+1:Nat):Int),h⟩ = .out e y/\(e = .exit 0/\y.a=(a:Int)/\y.b=(b:Int)/\y.jG=h/\y.data.n=D.n/\Perm D.get y.data.get a b/\ia (bQ h ic) y.data.get a b):=by
  refine bn (step:=cH) (fun k y=>y.a=(a:Int)/\y.b=(b:Int)/\y.i=((a+1+k:Nat):Int)/\y.jG=h/\y.data.n=D.n/\(k=0\/a+1+k<=b)/\Perm D.get y.data.get a (a+1+k)/\ia (bQ h ic) y.data.get a (a+1+k)) _ (b - a) (by have:gd=1000000000000:=rfl; omega) (fun k y hk ⟨f1,f2,f3,f4,f5,f6,f7,f8⟩=>?_) ⟨rfl,rfl,rfl,rfl,rfl,.inl rfl,.refl _ _ _,.one (by omega)⟩;unfold cH aC;by_cases bt:a+1+k < b
  ·have aea:∀ t,t < y.data.n->jo h (y.data.get t)=true:=fun t ht=>by
    rw [f5] at ht;by_cases Gi:a<=t/\t < a+1+k
    ·obtain ⟨j,j1,j2,e⟩:=f7.mem Gi.1 Gi.2
     rw [e]; exact cq j (by omega)
    ·rw [f7.2 t (by omega)]; exact cq t ht
   obtain ⟨e,z,hz,rfl,z1,z2,z3,z4,z5,j,j1,j2,j3,j4,j5⟩:=aiM h y.data a b (a+1+k) (by omega) (by omega) (by omega) aea;have e0:cv y = .out (.exit 2) z:=by
    unfold cv;rw [f1,f2,f3,f4];exact hz
   rw [f3,f2,av (show ((a+1+k:Nat):Int) < (b:Int) by omega),ai,e0];simp only [aG,ai,aJ.kO,aJ.lG,gj,mK];have avn:z.data.get=ins y.data.get j (a+1+k):=funext j3;refine .inl ⟨_,rfl,by omega,z1,z2,(by show ak (z.i+1)=_; rw [z3,Zy (by omega)]; rfl),z4,by rw [z5]; exact f5,.inr (by omega),?_,?_⟩
   ·rw [avn]
    exact (f7.wide (aW _) (by omega) (by omega)).trans ((aku (a:=a) j1 j2).wide (aW _) (by omega) (by omega))
   ·rw [avn]
    refine aey f8 (fun s t s1 s2 t1 t2=>?_) j1 j2 (fun s s1 s2=>?_) j4
    ·have:t=a+1+k:=by omega
     subst this;obtain ⟨s',p1,p2,e⟩:=f7.mem s1 s2;rw [e,f7.2 (a+1+k) (by omega)];exact hr s' _ p1 p2 bt
    ·rcases j5 with rfl | j5
     ·omega
     ·have:=f8.key (i:=s) (j:=j - 1) s1 (by omega) (by omega)
      have h5 : ¬ (bQ h ic).key (y.data.get (a+1+k)) < (bQ h ic).key (y.data.get (j - 1)):=j5;omega
  ·rw [f3,f2,az (show ¬ ((a+1+k:Nat):Int) < (b:Int) by omega),aw,aG,ai]
   refine .inr ⟨_,_,rfl,rfl,rfl,f1,f2,f4,f5,?_,?_⟩
   ·rcases f6 with rfl | f6
    ·by_cases e:a=b
     ·subst e
      refine ⟨fun p=>by rw [Nat.sub_self]; rfl,fun i _=>?_⟩;by_cases hi:i=a
      ·subst hi
       have:=f7.1;obtain ⟨j,p1,p2,e⟩:=f7.mem (i:=i) (by omega) (by omega);rw [e]; congr 1; omega
      ·exact f7.2 i (by omega)
     ·rw [show b=a+1+0 by omega]; exact f7
    ·rw [show b=a+1+k by omega]; exact f7
   ·exact fun s t s1 s2 t1=>f8 s t s1 s2 (by omega)
 obtain ⟨e,y,hy,rfl,y1,y2,y3,y4,y5,y6⟩:=avX;have e0:dk ⟨D,(a:Int),(b:Int),h⟩ = .out (.exit 0) y:=by
  unfold dk;rw [Zy (by omega)];exact hy
 refine ⟨y.data,?_,y4,y5,y6⟩;unfold gm jn aC;rw [e0];simp only [aG,ai,aJ.kO,aJ.lG,gj,mK,y1,y2,y3]
theorem atN {n:Int} (h:0<=n) (h' : n < 18446744073709551616):uk n=n:=by
 show Go.IntKind.wrap .u64 n=n;unfold Go.IntKind.wrap;simp only [Go.IntKind.signed,Go.IntKind.bits]
 first | omega | (simp; omega)
theorem al3 {i j:Nat} (h:i+j<=100000000000):ak (Int.fdiv (uk (ak ((i:Int)+(j:Int)))) (2:Int))=(((i+j) / 2:Nat):Int):=by
 rw [aiI h,atN (by omega) (by omega),show Int.fdiv ((i+j:Nat):Int) (2:Int)=(((i+j) / 2:Nat):Int) from ?_,Dl (by omega) (by omega)];rw [Int.fdiv_eq_ediv_of_nonneg _ (by omega)];omega
theorem al4 (h:aI) (D:Sl aU) (ic:aU->aU->Prop) (a m b:Nat) (h1:a+1=m) (h2:m<=b) (h4:b<=D.n) (h3:D.n<=10000000000) (cq:∀ t,t < D.n->jo h (D.get t)=true) (hs:ia (bQ h ic) D.get m b) :
  ∃ i:Nat,goN dm ⟨D,(a:Int),(m:Int),(b:Int),(m:Int),(b:Int),h⟩ = .out (.exit 0) ⟨D,(a:Int),(m:Int),(b:Int),(i:Int),(i:Int),h⟩/\m<=i/\i<=b/\(∀ t,m<=t->t < i->ca h (D.get t) < ca h (D.get a))/\∀ t,i<=t->t < b->ca h (D.get a)<=ca h (D.get t):=by
 refine Exists.elim (bn (step:=dm) (x:=⟨D,(a:Int),(m:Int),(b:Int),(m:Int),(b:Int),h⟩) (fun k y=>∃ i j:Nat,y=⟨D,(a:Int),(m:Int),(b:Int),(i:Int),(j:Int),h⟩/\m<=i/\i<=j/\j<=b/\j - i+k<=b - m/\(∀ t,m<=t->t < i->ca h (D.get t) < ca h (D.get a))/\∀ t,j<=t->t < b->ca h (D.get a)<=ca h (D.get t)) (fun e y=>e = .exit 0/\∃ i:Nat,y=⟨D,(a:Int),(m:Int),(b:Int),(i:Int),(i:Int),h⟩/\m<=i/\i<=b/\(∀ t,m<=t->t < i->ca h (D.get t) < ca h (D.get a))/\∀ t,i<=t->t < b->ca h (D.get a)<=ca h (D.get t)) (b - m) (by have:gd=1000000000000:=rfl; omega) (fun k y hk ⟨i,j,hy,g1,g2,g3,g4,g5,g6⟩=>?_) ⟨m,b,rfl,aW _,h2,aW _,by omega,fun t t1 t2=>by omega,fun t t1 t2=>by omega⟩) fun e ⟨y,hy,he,i,hi,q⟩=>⟨i,by rw [hy,he,hi],q⟩
 ·subst hy
  unfold dm bj aC;by_cases bt:i < j
  ·have hh:=al3 (i:=i) (j:=j) (by omega)
   obtain ⟨r,r1,r2⟩:=WR (ca h (D.get ((i+j) / 2))) (ca h (D.get a));have e0:jX ⟨D,(a:Int),(m:Int),(b:Int),(i:Int),(j:Int),h⟩=some r:=by
    unfold jX;simp only [hh,bU,bh];exact r1
   have o1:((decide ((0:Int)<=(D.get ((i+j) / 2)).item))&&(decide ((D.get ((i+j) / 2)).item < ((h.dc.items.n:Nat):Int))))=true:=cq _ (by omega);have o2:((decide ((0:Int)<=(D.get a).item))&&(decide ((D.get a).item < ((h.dc.items.n:Nat):Int))))=true:=cq _ (by omega);simp only [hh,e0,av (show (i:Int) < (j:Int) by omega),ai,inB (show (i+j) / 2 < D.n by omega),inB (show a < D.n by omega),bU,bh,o1,o2,bx,bq,aG,r2];by_cases hc:ca h (D.get ((i+j) / 2)) < ca h (D.get a)
   ·rw [av hc,ai,Zy (by omega)]
    refine .inl ⟨_,rfl,by omega,(i+j) / 2+1,j,rfl,by omega,by omega,g3,by omega,fun t t1 t2=>?_,g6⟩;have:=hs.key (i:=t) (j:=(i+j) / 2) t1 (by omega) (by omega);exact Int.lt_of_le_of_lt this hc
   ·rw [az hc,aw]
    refine .inl ⟨_,rfl,by omega,i,(i+j) / 2,rfl,g1,by omega,by omega,by omega,g5,fun t t1 t2=>?_⟩;have:=hs.key (i:=(i+j) / 2) (j:=t) (by omega) t1 t2;exact Int.le_trans (Int.not_lt.1 hc) this
  ·simp only [az (show ¬ (i:Int) < (j:Int) by omega),aw,aG,ai]
   have:j=i:=by omega
   subst this;exact .inr ⟨_,_,rfl,rfl,rfl,j,rfl,g1,g3,g5,g6⟩
theorem al5 (h:aI) (D:Sl aU) (ic:aU->aU->Prop) (a m b:Nat) (h2:a<=m) (h4:m < D.n) (h3:D.n<=10000000000) (cq:∀ t,t < D.n->jo h (D.get t)=true) (hs:ia (bQ h ic) D.get a m) :
  ∃ i:Nat,goN dp ⟨D,(a:Int),(m:Int),(b:Int),(a:Int),(m:Int),h⟩ = .out (.exit 4) ⟨D,(a:Int),(m:Int),(b:Int),(i:Int),(i:Int),h⟩/\a<=i/\i<=m/\(∀ t,a<=t->t < i->ca h (D.get t)<=ca h (D.get m))/\∀ t,i<=t->t < m->ca h (D.get m) < ca h (D.get t):=by
 refine Exists.elim (bn (step:=dp) (x:=⟨D,(a:Int),(m:Int),(b:Int),(a:Int),(m:Int),h⟩) (fun k y=>∃ i j:Nat,y=⟨D,(a:Int),(m:Int),(b:Int),(i:Int),(j:Int),h⟩/\a<=i/\i<=j/\j<=m/\j - i+k<=m - a/\(∀ t,a<=t->t < i->ca h (D.get t)<=ca h (D.get m))/\∀ t,j<=t->t < m->ca h (D.get m) < ca h (D.get t)) (fun e y=>e = .exit 4/\∃ i:Nat,y=⟨D,(a:Int),(m:Int),(b:Int),(i:Int),(i:Int),h⟩/\a<=i/\i<=m/\(∀ t,a<=t->t < i->ca h (D.get t)<=ca h (D.get m))/\∀ t,i<=t->t < m->ca h (D.get m) < ca h (D.get t)) (m - a) (by have:gd=1000000000000:=rfl; omega) (fun k y hk ⟨i,j,hy,g1,g2,g3,g4,g5,g6⟩=>?_) ⟨a,m,rfl,aW _,h2,aW _,by omega,fun t t1 t2=>by omega,fun t t1 t2=>by omega⟩) fun e ⟨y,hy,he,i,hi,q⟩=>⟨i,by rw [hy,he,hi],q⟩
 ·subst hy
  unfold dp bj aC;by_cases bt:i < j
  ·have hh:=al3 (i:=i) (j:=j) (by omega)
   obtain ⟨r,r1,r2⟩:=WR (ca h (D.get m)) (ca h (D.get ((i+j) / 2)));have e0:jY ⟨D,(a:Int),(m:Int),(b:Int),(i:Int),(j:Int),h⟩=some r:=by
    unfold jY;simp only [hh,bU,bh];exact r1
   have o1:((decide ((0:Int)<=(D.get ((i+j) / 2)).item))&&(decide ((D.get ((i+j) / 2)).item < ((h.dc.items.n:Nat):Int))))=true:=cq _ (by omega);have o2:((decide ((0:Int)<=(D.get m).item))&&(decide ((D.get m).item < ((h.dc.items.n:Nat):Int))))=true:=cq _ (by omega);simp only [hh,e0,av (show (i:Int) < (j:Int) by omega),ai,inB (show (i+j) / 2 < D.n by omega),inB h4,bU,bh,o1,o2,bx,bq,aG,r2];by_cases hc:ca h (D.get m) < ca h (D.get ((i+j) / 2))
   ·rw [av hc,jk,aw]
    refine .inl ⟨_,rfl,by omega,i,(i+j) / 2,rfl,g1,by omega,by omega,by omega,g5,fun t t1 t2=>?_⟩;have:=hs.key (i:=(i+j) / 2) (j:=t) (by omega) t1 t2;exact Int.lt_of_lt_of_le hc this
   ·rw [az hc,rK,ai,Zy (by omega)]
    refine .inl ⟨_,rfl,by omega,(i+j) / 2+1,j,rfl,by omega,by omega,g3,by omega,fun t t1 t2=>?_,g6⟩;have:=hs.key (i:=t) (j:=(i+j) / 2) t1 (by omega) (by omega);exact Int.le_trans this (Int.not_lt.1 hc)
  ·simp only [az (show ¬ (i:Int) < (j:Int) by omega),aw,aG,ai]
   have:j=i:=by omega
   subst this;exact .inr ⟨_,_,rfl,rfl,rfl,j,rfl,g1,g3,g5,g6⟩
theorem abE (h:aI) (D:Sl aU) (a m b cM s0 r0:Nat) (h1:s0<=r0) (h2:r0<=m) (h5:r0<=cM) (h6:cM+m<=b+s0) (h7:m<=b) (h4:b<=D.n) (h3:D.n<=10000000000) (h8:1<=m) (cq:∀ t,t < D.n->jo h (D.get t)=true) :
  ∃ s:Nat,goN cE ⟨D,(a:Int),(m:Int),(b:Int),(cM:Int),((cM+m:Nat):Int),(s0:Int),(r0:Int),((cM+m - 1:Nat):Int),h⟩ = .out (.exit 8) ⟨D,(a:Int),(m:Int),(b:Int),(cM:Int),((cM+m:Nat):Int),(s:Int),(s:Int),((cM+m - 1:Nat):Int),h⟩/\s0<=s/\s<=r0/\
   (s=s0\/(s0 < s/\ca h (D.get (s - 1))<=ca h (D.get (cM+m - s))))/\(s=r0\/(s < r0/\ca h (D.get (cM+m - 1 - s)) < ca h (D.get s))):=by
 refine Exists.elim (bn (step:=cE) (x:=⟨D,(a:Int),(m:Int),(b:Int),(cM:Int),((cM+m:Nat):Int),(s0:Int),(r0:Int),((cM+m - 1:Nat):Int),h⟩) (fun k y=>∃ i j:Nat,y=⟨D,(a:Int),(m:Int),(b:Int),(cM:Int),((cM+m:Nat):Int),(i:Int),(j:Int),((cM+m - 1:Nat):Int),h⟩/\s0<=i/\i<=j/\j<=r0/\j - i+k<=r0 - s0/\(i=s0\/(s0 < i/\ca h (D.get (i - 1))<=ca h (D.get (cM+m - i))))/\(j=r0\/(j < r0/\ca h (D.get (cM+m - 1 - j)) < ca h (D.get j)))) (fun e y=>e = .exit 8/\∃ i:Nat,y=⟨D,(a:Int),(m:Int),(b:Int),(cM:Int),((cM+m:Nat):Int),(i:Int),(i:Int),((cM+m - 1:Nat):Int),h⟩/\s0<=i/\i<=r0/\(i=s0\/(s0 < i/\ca h (D.get (i - 1))<=ca h (D.get (cM+m - i))))/\(i=r0\/(i < r0/\ca h (D.get (cM+m - 1 - i)) < ca h (D.get i)))) (r0 - s0) (by have:gd=1000000000000:=rfl; omega) (fun k y hk ⟨i,j,hy,g1,g2,g3,g4,g5,g6⟩=>?_) ⟨s0,r0,rfl,aW _,h1,aW _,by omega,.inl rfl,.inl rfl⟩) fun e ⟨y,hy,he,i,hi,q⟩=>⟨i,by rw [hy,he,hi],q⟩
 ·subst hy
  unfold cE bj aC;by_cases bt:i < j
  ·have hh:=al3 (i:=i) (j:=j) (by omega)
   have hp:=I0 (i:=cM+m - 1) (j:=(i+j) / 2) (by omega) (by omega);obtain ⟨r,r1,r2⟩:=WR (ca h (D.get (cM+m - 1 - (i+j) / 2))) (ca h (D.get ((i+j) / 2)));have e0:jC ⟨D,(a:Int),(m:Int),(b:Int),(cM:Int),((cM+m:Nat):Int),(i:Int),(j:Int),((cM+m - 1:Nat):Int),h⟩=some r:=by
    unfold jC;simp only [hh,hp,bU,bh];exact r1
   have o1:((decide ((0:Int)<=(D.get ((i+j) / 2)).item))&&(decide ((D.get ((i+j) / 2)).item < ((h.dc.items.n:Nat):Int))))=true:=cq _ (by omega);have o2:((decide ((0:Int)<=(D.get (cM+m - 1 - (i+j) / 2)).item))&&(decide ((D.get (cM+m - 1 - (i+j) / 2)).item < ((h.dc.items.n:Nat):Int))))=true:=cq _ (by omega);simp only [hh,hp,e0,av (show (i:Int) < (j:Int) by omega),ai,inB (show (i+j) / 2 < D.n by omega),inB (show cM+m - 1 - (i+j) / 2 < D.n by omega),bU,bh,o1,o2,bx,bq,aG,r2];by_cases hc:ca h (D.get (cM+m - 1 - (i+j) / 2)) < ca h (D.get ((i+j) / 2))
   ·rw [av hc,jk,aw]
    exact .inl ⟨_,rfl,by omega,i,(i+j) / 2,rfl,g1,by omega,by omega,by omega,g5,.inr ⟨by omega,hc⟩⟩
   ·rw [az hc,rK,ai,Zy (by omega)]
    refine .inl ⟨_,rfl,by omega,(i+j) / 2+1,j,rfl,by omega,by omega,g3,by omega,.inr ⟨by omega,?_⟩,g6⟩;rw [show cM+m - ((i+j) / 2+1)=cM+m - 1 - (i+j) / 2 by omega,Nat.add_sub_cancel];exact Int.not_lt.1 hc
  ·simp only [az (show ¬ (i:Int) < (j:Int) by omega),aw,aG,ai]
   have:j=i:=by omega
   subst this;exact .inr ⟨_,_,rfl,rfl,rfl,j,rfl,g1,g3,g5,g6⟩
theorem al6 (h:aI) (D:Sl aU) (a m b i:Nat) (h1:a+1<=i) (h4:i<=D.n) (h3:D.n<=10000000000) :
  ∃ D',∃ k:Int,goN dq ⟨D,(a:Int),(m:Int),(b:Int),(i:Int),(a:Int),h⟩ = .out (.exit 2) ⟨D',(a:Int),(m:Int),(b:Int),(i:Int),k,h⟩/\D'.n=D.n/\∀ t,D'.get t=PO D.get a (i - 1) t:=by
 refine Exists.elim (bn (step:=dq) (x:=⟨D,(a:Int),(m:Int),(b:Int),(i:Int),(a:Int),h⟩) (fun k y=>∃ D',y=⟨D',(a:Int),(m:Int),(b:Int),(i:Int),((a+k:Nat):Int),h⟩/\a+k<=i - 1/\D'.n=D.n/\∀ t,D'.get t=PO D.get a (a+k) t) (fun e y=>e = .exit 2/\∃ D',∃ k:Int,y=⟨D',(a:Int),(m:Int),(b:Int),(i:Int),k,h⟩/\D'.n=D.n/\∀ t,D'.get t=PO D.get a (i - 1) t) (i - 1 - a) (by have:gd=1000000000000:=rfl; omega) (fun k y hk ⟨D',hy,g1,g2,g3⟩=>?_) ⟨D,rfl,by omega,rfl,fun t=>by rw [zh,aro]⟩) fun e ⟨y,hy,he,D',k,hi,q⟩=>⟨D',k,by rw [hy,he,hi],q⟩
 ·subst hy
  unfold dq bj aC;have hi:=aiJ (i:=i) (by omega) (by omega);by_cases bt:a+k < i - 1
  ·have Pf:=Zy (i:=a+k) (by omega)
   simp only [hi,Pf,av (show ((a+k:Nat):Int) < ((i - 1:Nat):Int) by omega),ai,inB (show a+k < D'.n by omega),inB (show a+k+1 < D'.n by omega),aG];refine .inl ⟨_,rfl,by omega,_,rfl,by omega,g2,fun t=>?_⟩;rw [WQ,bU,bU,bh,bh,show a+(k+1)=a+k+1 by omega,arq (by omega),g3,g3,g3];by_cases e1:t=a+k+1
   ·subst e1; rw [aV rfl,ay (by omega),aV rfl]
   ·rw [ay e1]
    by_cases e2:t=a+k
    ·subst e2; rw [aV rfl,aV rfl]
    ·rw [ay e2,ay e2,ay e1]
  ·simp only [hi,az (show ¬ ((a+k:Nat):Int) < ((i - 1:Nat):Int) by omega),aw,aG,ai]
   exact .inr ⟨_,_,rfl,rfl,rfl,D',_,rfl,g2,fun t=>by rw [g3,show a+k=i - 1 by omega]⟩
theorem al7 (h:aI) (D:Sl aU) (a m b i:Nat) (h1:i<=m) (h4:m < D.n) (h3:D.n<=10000000000) :
  ∃ D',∃ k:Int,goN cZ ⟨D,(a:Int),(m:Int),(b:Int),(i:Int),(m:Int),h⟩ = .out (.exit 6) ⟨D',(a:Int),(m:Int),(b:Int),(i:Int),k,h⟩/\D'.n=D.n/\∀ t,D'.get t=ins D.get i m t:=by
 refine Exists.elim (bn (step:=cZ) (x:=⟨D,(a:Int),(m:Int),(b:Int),(i:Int),(m:Int),h⟩) (fun k y=>∃ D',y=⟨D',(a:Int),(m:Int),(b:Int),(i:Int),((m - k:Nat):Int),h⟩/\i+k<=m/\D'.n=D.n/\∀ t,D'.get t=ins D.get (m - k) m t) (fun e y=>e = .exit 6/\∃ D',∃ k:Int,y=⟨D',(a:Int),(m:Int),(b:Int),(i:Int),k,h⟩/\D'.n=D.n/\∀ t,D'.get t=ins D.get i m t) (m - i) (by have:gd=1000000000000:=rfl; omega) (fun k y hk ⟨D',hy,g1,g2,g3⟩=>?_) ⟨D,rfl,by omega,rfl,fun t=>by rw [Nat.sub_zero,akt]⟩) fun e ⟨y,hy,he,D',k,hi,q⟩=>⟨D',k,by rw [hy,he,hi],q⟩
 ·subst hy
  unfold cZ bj aC;by_cases bt:i < m - k
  ·have Pf:=aiJ (i:=m - k) (by omega) (by omega)
   simp only [Pf,av (show ((m - k:Nat):Int) > (i:Int) by omega),ai,inB (show m - k < D'.n by omega),inB (show m - k - 1 < D'.n by omega),aG];refine .inl ⟨_,rfl,by omega,_,rfl,by omega,g2,fun t=>?_⟩;rw [WQ,bU,bU,bh,bh,show m - (k+1)=m - k - 1 by omega,akv (by omega) (by omega),g3,g3,g3]
  ·simp only [az (show ¬ ((m - k:Nat):Int) > (i:Int) by omega),aw,aG,ai]
   exact .inr ⟨_,_,rfl,rfl,rfl,D',_,rfl,g2,fun t=>by rw [g3,show m - k=i by omega]⟩
end Go.Proofs.YtchbpckkmgcgkaaGreat.b
end
section
namespace Go.Proofs.YtchbpckkmgcgkaaGreat.b
open Go.K Go.K.hY
open Go.aF (aq)
def K3 (rc:aa->aJ aa) (z:ch) (D:Sl aU) (h:aI):aJ aa:=
 cond (decide (z.cM < ak (z.n - z.start)))
  (cond (decide (ak (z.n - z.start) < z.b))
   (cond (ik D.n z.data.n) (cond ((rc ⟨D,z.cM,ak (z.n - z.start),z.b,h⟩).by .ret) (cond (ik (rc ⟨D,z.cM,ak (z.n - z.start),z.b,h⟩).st.data.n z.data.n) (.out .ret ⟨(rc ⟨D,z.cM,ak (z.n - z.start),z.b,h⟩).st.data,z.a,z.m,z.b,(rc ⟨D,z.cM,ak (z.n - z.start),z.b,h⟩).st.held⟩) .fail) .fail) .fail)
   (cond (ik D.n z.data.n) (.out .ret ⟨D,z.a,z.m,z.b,h⟩) .fail))
  (cond (ik D.n z.data.n) (.out .ret ⟨D,z.a,z.m,z.b,h⟩) .fail)
def QC (rc:aa->aJ aa) (z:ch) (D:Sl aU) (h:aI):aJ aa:=
 cond (decide (z.a < z.start))
  (cond (decide (z.start < z.cM))
   (cond (ik D.n z.data.n) (cond ((rc ⟨D,z.a,z.start,z.cM,h⟩).by .ret) (K3 rc z (rc ⟨D,z.a,z.start,z.cM,h⟩).st.data (rc ⟨D,z.a,z.start,z.cM,h⟩).st.held) .fail) .fail)
   (K3 rc z D h))
  (K3 rc z D h)
def WS (rc:aa->aJ aa) (z:ch):aJ aa:=
 cond (decide (z.start < z.m))
  (cond (decide (z.m < ak (z.n - z.start)))
   (cond (ik z.data.n z.data.n) (cond ((eV ⟨z.data,z.start,z.m,ak (z.n - z.start),z.iL⟩).by .ret) (QC rc z (eV ⟨z.data,z.start,z.m,ak (z.n - z.start),z.iL⟩).st.data (eV ⟨z.data,z.start,z.m,ak (z.n - z.start),z.iL⟩).st.held) .fail) .fail)
   (QC rc z z.data z.iL))
  (QC rc z z.data z.iL)
theorem aiN (rc:aa->aJ aa) (x:aa) (h1:((ak (x.m - x.a))==(1:Int))=false) (h2:((ak (x.b - x.m))==(1:Int))=false) :
  eB rc x=cond (decide (x.m > (ak (Int.fdiv (uk (ak (x.a+x.b))) (2:Int)))))
   (cond (ik x.data.n x.data.n) (cond ((ah rc x).by (.exit 8)) (WS rc (ah rc x).st) .fail) .fail)
   (cond (ik x.data.n x.data.n) (cond ((ae rc x).by (.exit 8)) (WS rc (ae rc x).st) .fail) .fail):=by
 unfold eB fY fX fW fV fU fT fS fR fQ fP fG fF fE fD aC;rw [h1,h2];rfl
def ym (h:aI) (ic:aU->aU->Prop) (D D' : Sl aU) (a b:Nat):Prop:=D'.n=D.n/\Perm D.get D'.get a b/\ia (bQ h ic) D'.get a b
def BL (h:aI) (ic:aU->aU->Prop) (rc:aa->aJ aa) (L:Nat):Prop:=∀ (D:Sl aU) (a m b:Nat),a < m->m < b->b<=D.n->D.n<=10000000000->(∀ t,t < D.n->jo h (D.get t)=true)->b - a<=L->ia (bQ h ic) D.get a m->ia (bQ h ic) D.get m b->LH (bQ h ic) D.get a m b->
 ∃ D',rc ⟨D,(a:Int),(m:Int),(b:Int),h⟩ = .out .ret ⟨D',(a:Int),(m:Int),(b:Int),h⟩/\ym h ic D D' a b
theorem xn {h:aI} {D D' : Sl aU} {a b:Nat} (hn:D'.n=D.n) (hb:b<=D.n) (hp:Perm D.get D'.get a b) (cq:∀ t,t < D.n->jo h (D.get t)=true):∀ t,t < D'.n->jo h (D'.get t)=true:=fun t ht=>by
 rw [hn] at ht;by_cases Gi:a<=t/\t < b
 ·obtain ⟨j,j1,j2,e⟩:=hp.mem Gi.1 Gi.2
  rw [e]; exact cq j (by omega)
 ·rw [hp.2 t (by omega)]; exact cq t ht
section
variable {h:aI} {ic:aU->aU->Prop} {rc:aa->aJ aa} {L:Nat}
theorem aiO (hrc:BL h ic rc L) (Z D:Sl aU) (a m b cM s e:Nat) (p:Int) (hm:m<=D.n) (hn:D.n=Z.n) (h3:D.n<=10000000000) (hb:b<=D.n) (hs:e+s=cM+m) (q1:cM<=e) (q2:e<=b) (cq:∀ t,t < D.n->jo h (D.get t)=true) (hL:b - cM<=L) (r1:ia (bQ h ic) D.get cM e) (r2:ia (bQ h ic) D.get e b) (r0:LH (bQ h ic) D.get cM e b) :
  ∃ D',K3 rc ⟨Z,(a:Int),(m:Int),(b:Int),(cM:Int),((cM+m:Nat):Int),(s:Int),(s:Int),p,h⟩ D h = .out .ret ⟨D',(a:Int),(m:Int),(b:Int),h⟩/\ym h ic D D' cM b:=by
 have he:ak (((cM+m:Nat):Int) - (s:Int))=(e:Int):=by rw [I0 (by omega) (by omega)]; congr 1; omega
 unfold K3;simp only [he,hn,aG,ai];by_cases c1:cM < e
 ·rw [av (show (cM:Int) < (e:Int) by omega),ai]
  by_cases c2:e < b
  ·rw [av (show (e:Int) < (b:Int) by omega),ai]
   obtain ⟨D',k1,k2,k3,k4⟩:=hrc D cM e b c1 c2 hb h3 cq hL r1 r2 r0;rw [k1];simp only [aJ.kO,aJ.lG,gj,ai,k2,hn,aG];exact ⟨D',rfl,k2,k3,k4⟩
  ·rw [az (show ¬ (e:Int) < (b:Int) by omega),aw]
   have:e=b:=by omega
   subst this;exact ⟨D,rfl,rfl,.refl _ _ _,r1⟩
 ·rw [az (show ¬ (cM:Int) < (e:Int) by omega),aw]
  have:cM=e:=by omega
  subst this;exact ⟨D,rfl,rfl,.refl _ _ _,r2⟩
theorem ajH (hrc:BL h ic rc L) (Z D:Sl aU) (a m b cM s e:Nat) (p:Int) (hm:m<=D.n) (hn:D.n=Z.n) (h3:D.n<=10000000000) (hb:b<=D.n) (hs:e+s=cM+m) (q0:a<=s) (q3:s<=cM) (q1:cM<=e) (q2:e<=b) (cq:∀ t,t < D.n->jo h (D.get t)=true) (hL1:cM - a<=L) (hL:b - cM<=L) (A9:Split (bQ h ic) D.get a s cM e b) :
  ∃ D',QC rc ⟨Z,(a:Int),(m:Int),(b:Int),(cM:Int),((cM+m:Nat):Int),(s:Int),(s:Int),p,h⟩ D h = .out .ret ⟨D',(a:Int),(m:Int),(b:Int),h⟩/\ym h ic D D' a b:=by
 have rest:∀ D2:Sl aU,ym h ic D D2 a cM->∃ D',K3 rc ⟨Z,(a:Int),(m:Int),(b:Int),(cM:Int),((cM+m:Nat):Int),(s:Int),(s:Int),p,h⟩ D2 h = .out .ret ⟨D',(a:Int),(m:Int),(b:Int),h⟩/\ym h ic D D' a b:=fun D2 ⟨m1,m2,m3⟩=>by
  have same:∀ i,cM<=i->D2.get i=D.get i:=fun i hi=>m2.2 i (.inr hi);obtain ⟨D',k1,k2,k3,k4⟩:=aiO hrc Z D2 a m b cM s e p (by omega) (m1.trans hn) (by omega) (by omega) hs q1 q2 (xn m1 (by omega) m2 cq) hL (A9.r1.congr fun i i1 _=>same i i1) (A9.r2.congr fun i i1 _=>same i (by omega)) (fun i j i1 i2 j1 j2=>by rw [same i i1,same j (by omega)]; exact A9.r0 i j i1 i2 j1 j2);exact ⟨D',k1,k2.trans m1,(m2.wide (aW _) (by omega) (by omega)).trans (k3.wide (by omega) (by omega) (aW _)),alD A9.lr m2 m3 k3 k4⟩
 unfold QC;simp only [hn,aG,ai];by_cases c1:a < s
 ·rw [av (show (a:Int) < (s:Int) by omega),ai]
  by_cases c2:s < cM
  ·rw [av (show (s:Int) < (cM:Int) by omega),ai]
   obtain ⟨D2,k1,k2⟩:=hrc D a s cM c1 c2 (by omega) h3 cq hL1 A9.l1 A9.l2 A9.l0;rw [k1];simp only [aJ.kO,aJ.lG,gj,ai];exact rest D2 k2
  ·rw [az (show ¬ (s:Int) < (cM:Int) by omega),aw]
   have:s=cM:=by omega
   exact rest D ⟨rfl,.refl _ _ _,by rw [<- this]; exact A9.l1⟩
 ·rw [az (show ¬ (a:Int) < (s:Int) by omega),aw]
  have:a=s:=by omega
  exact rest D ⟨rfl,.refl _ _ _,by rw [this]; exact A9.l2⟩
theorem VM (hrc:BL h ic rc L) (D:Sl aU) (a m b cM s e:Nat) (p:Int) (h3:D.n<=10000000000) (hb:b<=D.n) (hs:e+s=cM+m) (q0:a<=s) (q3:s<=cM) (q4:s<=m) (q1:cM<=e) (q5:m<=e) (q2:e<=b) (cq:∀ t,t < D.n->jo h (D.get t)=true) (hL1:cM - a<=L) (hL:b - cM<=L) (s1:ia (bQ h ic) D.get a m) (s2:ia (bQ h ic) D.get m b) (s0:LH (bQ h ic) D.get a m b) (w1:∀ i j,a<=i->i < s->e<=j->j < b->(bQ h ic).key (D.get i)<=(bQ h ic).key (D.get j)) (w2:∀ i j,s<=i->i < m->m<=j->j < e->(bQ h ic).key (D.get j) < (bQ h ic).key (D.get i)) :
  ∃ D',WS rc ⟨D,(a:Int),(m:Int),(b:Int),(cM:Int),((cM+m:Nat):Int),(s:Int),(s:Int),p,h⟩ = .out .ret ⟨D',(a:Int),(m:Int),(b:Int),h⟩/\ym h ic D D' a b:=by
 have he:ak (((cM+m:Nat):Int) - (s:Int))=(e:Int):=by rw [I0 (by omega) (by omega)]; congr 1; omega
 have A9:=aph (o:=bQ h ic) s1 s2 s0 q0 q4 q5 q2 hs w1 w2;have rest:∀ D1:Sl aU,D1.n=D.n->(∀ t,D1.get t=Ky D.get s m e t)->∃ D',QC rc ⟨D,(a:Int),(m:Int),(b:Int),(cM:Int),((cM+m:Nat):Int),(s:Int),(s:Int),p,h⟩ D1 h = .out .ret ⟨D',(a:Int),(m:Int),(b:Int),h⟩/\ym h ic D D' a b:=fun D1 n1 g1=>by
  have hf:D1.get=Ky D.get s m e:=funext g1;have hp:Perm D.get D1.get s e:=by rw [hf]; exact art q4 q5
  obtain ⟨D',k1,k2,k3,k4⟩:=ajH hrc D D1 a m b cM s e p (by omega) n1 (by omega) (by omega) hs q0 q3 q1 q2 (xn n1 (by omega) hp cq) hL1 hL (by rw [hf]; exact A9);exact ⟨D',k1,k2.trans n1,(hp.wide q0 (by omega) q2).trans k3,k4⟩
 unfold WS;simp only [he,aG,ai];by_cases c1:s < m
 ·rw [av (show (s:Int) < (m:Int) by omega),ai]
  by_cases c2:m < e
  ·rw [av (show (m:Int) < (e:Int) by omega),ai]
   obtain ⟨D1,k1,k2,k3⟩:=aiL h D s m e c1 c2 (by omega) h3;rw [k1];simp only [aJ.kO,aJ.lG,gj,ai];exact rest D1 k2 k3
  ·rw [az (show ¬ (m:Int) < (e:Int) by omega),aw]
   refine rest D rfl fun t=>?_;by_cases ht:t < s\/e<=t
   ·rw [PQ q4 q5 ht]
   ·rw [RS (by omega) (by omega)]; congr 1; omega
 ·rw [az (show ¬ (s:Int) < (m:Int) by omega),aw]
  refine rest D rfl fun t=>?_;by_cases ht:t < s\/e<=t
  ·rw [PQ q4 q5 ht]
  ·rw [WC (by omega) (by omega)]; congr 1; omega
theorem afD (hrc:BL h ic rc L):BL h ic (eB rc) (2 * L):=by
 intro D a m b h1 h2 h4 h3 cq hL s1 s2 s0;by_cases c1:m - a=1
 ·obtain ⟨i,k1,k2,k3,k4,k5⟩:=al4 h D ic a m b (by omega) (by omega) h4 h3 cq s2
  obtain ⟨D',k,j1,j2,j3⟩:=al6 h D a m b i (by omega) (by omega) h3;have e0:cW rc ⟨D,(a:Int),(m:Int),(b:Int),h⟩=_:=k1;have e1:dI rc ⟨D,(a:Int),(m:Int),(b:Int),h⟩ = .out (.exit 2) ⟨D',(a:Int),(m:Int),(b:Int),(i:Int),k,h⟩:=by
   unfold dI;rw [e0];exact j1
  have hf:D'.get=PO D.get a (i - 1):=funext j3;refine ⟨D',?_,j2,?_,?_⟩
  ·unfold eB fY fX fW fV fU fT fS fR fQ fP fG fF fE fD aC
   simp only [I0 (i:=m) (j:=a) (by omega) (by omega),c1,e0,e1];simp only [aG,ai,aJ.kO,aJ.lG,gj,mK,show (((1:Nat):Int)==(1:Int))=true from rfl]
  ·rw [hf]
   exact (arp (d:=D.get) (a:=a) (k:=i - 1) (by omega)).wide (aW _) (by omega) (by omega)
  ·rw [hf]
   have hm:m=a+1:=by omega
   subst hm;exact anJ (o:=bQ h ic) s2 s0 k2 k3 k4 k5
 ·by_cases c2:b - m=1
  ·obtain ⟨i,k1,k2,k3,k4,k5⟩:=al5 h D ic a m b (by omega) (by omega) h3 cq s1
   obtain ⟨D',k,j1,j2,j3⟩:=al7 h D a m b i k3 (by omega) h3;have e0:cX rc ⟨D,(a:Int),(m:Int),(b:Int),h⟩=_:=k1;have e1:dJ rc ⟨D,(a:Int),(m:Int),(b:Int),h⟩ = .out (.exit 6) ⟨D',(a:Int),(m:Int),(b:Int),(i:Int),k,h⟩:=by
    unfold dJ;rw [e0];exact j1
   have hf:D'.get=ins D.get i m:=funext j3;have hb:b=m+1:=by omega
   refine ⟨D',?_,j2,?_,?_⟩
   ·unfold eB fY fX fW fV fU fT fS fR fQ fP fG fF fE fD aC
    simp only [I0 (i:=m) (j:=a) (by omega) (by omega),I0 (i:=b) (j:=m) (by omega) (by omega),c2,e0,e1,show (((m - a:Nat):Int)==(1:Int))=false by simpa using (show ¬ ((m - a:Nat):Int)=1 by omega),aw];simp only [aG,ai,aJ.kO,aJ.lG,gj,mK,show (((1:Nat):Int)==(1:Int))=true from rfl]
   ·rw [hf,hb]
    exact (aku (d:=D.get) (a:=a) k2 k3)
   ·rw [hf,hb]
    rw [hb] at s0;exact aey s1 s0 k2 k3 k4 k5
  ·have atO:=al3 (i:=a) (j:=b) (by omega)
   have hn:=aiI (i:=(a+b) / 2) (j:=m) (by omega);have hp:=aiJ (i:=(a+b) / 2+m) (by omega) (by omega);have g1:((ak ((m:Int) - (a:Int)))==(1:Int))=false:=by
    rw [I0 (by omega) (by omega)];simpa using (show ¬ ((m - a:Nat):Int)=1 by omega)
   have g2:((ak ((b:Int) - (m:Int)))==(1:Int))=false:=by
    rw [I0 (by omega) (by omega)];simpa using (show ¬ ((b - m:Nat):Int)=1 by omega)
   rw [aiN rc _ g1 g2];simp only [atO,aG,ai];by_cases c3:(a+b) / 2 < m
   ·rw [av (show (m:Int) > (((a+b) / 2:Nat):Int) by omega),ai]
    have jN:=I0 (i:=(a+b) / 2+m) (j:=b) (by omega) (by omega);obtain ⟨s,k1,k2,k3,k4,k5⟩:=abE h D a m b ((a+b) / 2) ((a+b) / 2+m - b) ((a+b) / 2) (by omega) (by omega) (aW _) (by omega) (by omega) h4 h3 (by omega) cq;have e4:ah rc ⟨D,(a:Int),(m:Int),(b:Int),h⟩ = .out (.exit 8) ⟨D,(a:Int),(m:Int),(b:Int),(((a+b) / 2:Nat):Int),(((a+b) / 2+m:Nat):Int),(s:Int),(s:Int),(((a+b) / 2+m - 1:Nat):Int),h⟩:=by
     unfold ah;simp only [atO,hn,hp,jN];exact k1
    rw [e4];simp only [aJ.kO,aJ.lG,gj,mK,ai];obtain ⟨w1,w2⟩:=XX (o:=bQ h ic) (s:=s) (s0:=(a+b) / 2+m - b) (r0:=(a+b) / 2) (cM:=(a+b) / 2) s1 s2 (by omega) (by omega) (by omega) (by omega) (k4.imp (fun e=>⟨e,.inr (by omega)⟩) fun ⟨q1,q2⟩=>⟨by omega,by omega,q2⟩) (k5.imp (fun e=>⟨e,.inr rfl⟩) fun ⟨q1,q2⟩=>⟨by omega,q1,q2⟩);exact VM hrc D a m b ((a+b) / 2) s ((a+b) / 2+m - s) _ h3 h4 (by omega) (by omega) (by omega) (by omega) (by omega) (by omega) (by omega) cq (by omega) (by omega) s1 s2 s0 w1 w2
   ·rw [az (show ¬ (m:Int) > (((a+b) / 2:Nat):Int) by omega),aw]
    obtain ⟨s,k1,k2,k3,k4,k5⟩:=abE h D a m b ((a+b) / 2) a m (by omega) (aW _) (by omega) (by omega) (by omega) h4 h3 (by omega) cq;have e4:ae rc ⟨D,(a:Int),(m:Int),(b:Int),h⟩ = .out (.exit 8) ⟨D,(a:Int),(m:Int),(b:Int),(((a+b) / 2:Nat):Int),(((a+b) / 2+m:Nat):Int),(s:Int),(s:Int),(((a+b) / 2+m - 1:Nat):Int),h⟩:=by
     unfold ae;simp only [atO,hn,hp];exact k1
    rw [e4];simp only [aJ.kO,aJ.lG,gj,mK,ai];obtain ⟨w1,w2⟩:=XX (o:=bQ h ic) (s:=s) (s0:=a) (r0:=m) (cM:=(a+b) / 2) s1 s2 (by omega) (by omega) (by omega) (by omega) (k4.imp (fun e=>⟨e,.inl rfl⟩) fun ⟨q1,q2⟩=>⟨q1,by omega,q2⟩) (k5.imp (fun e=>⟨e,.inl rfl⟩) fun ⟨q1,q2⟩=>⟨q1,by omega,q2⟩);exact VM hrc D a m b ((a+b) / 2) s ((a+b) / 2+m - s) _ h3 h4 (by omega) (by omega) (by omega) (by omega) (by omega) (by omega) (by omega) cq (by omega) (by omega) s1 s2 s0 w1 w2
end
theorem Hu (h:aI) (ic:aU->aU->Prop):∀ n:Nat,BL h ic (iA n) (2 ^ n)
 | 0=>fun D a m b h1 h2 _ _ _ hL=>by simp at hL; omega
 | n+1=>by
  have:=afD (Hu h ic n);rw [Nat.pow_succ,Nat.mul_comm];exact this
end Go.Proofs.YtchbpckkmgcgkaaGreat.b
end
section
namespace Go.K.hY
variable {α:Type} {o:Ord α}
def Bl (o:Ord α) (g d:Nat->α) (l r:Nat):Prop:=ia o d l r/\∀ p:α->Bool,xT p d l (r - l)=xT p g l (r - l)
theorem Bl.congr {g d d' : Nat->α} {l r:Nat} (h:Bl o g d l r) (e:∀ i,l<=i->i < r->d' i=d i):Bl o g d' l r:=
 ⟨h.1.congr e,fun p=>by rw [tM (d:=d') (d':=d) (a:=l) (b:=l) fun i hi=>e _ (by omega) (by omega)]; exact h.2 p⟩
theorem Bl.join {g d d' : Nat->α} {a m b:Nat} (h1:Bl o g d a m) (h2:Bl o g d m b) (q1:a<=m) (q2:m<=b) (hp:Perm d d' a b) (hs:ia o d' a b):Bl o g d' a b:=by
 refine ⟨hs,fun p=>(hp.1 p).trans ?_⟩;rw [show b - a=(m - a)+(b - m) by omega,tN,tN,show a+(m - a)=m by omega,h1.2,h2.2]
theorem I1 {M l a:Nat} (h1:M ∣ l) (h2:M ∣ a) (h:l < a):l+M<=a:=by
 have:=Nat.le_of_dvd (by omega) (Nat.dvd_sub h2 h1);omega
def Bls (o:Ord α) (g d:Nat->α) (B n:Nat):Prop:=∀ l,B ∣ l->l < n->Bl o g d l (min (l+B) n)
end Go.K.hY
namespace Go.Proofs.YtchbpckkmgcgkaaGreat.b
open Go.K Go.K.hY
open Go.aF (aq)
end Go.Proofs.YtchbpckkmgcgkaaGreat.b
end
section
namespace Go.Proofs.YtchbpckkmgcgkaaGreat.b
open Go.K Go.K.hY
open Go.aF (aq)
section
variable (h:aI) (ic:aU->aU->Prop) (G:Sl aU)
theorem al8 (h3:G.n<=10000000000) (cq:∀ t,t < G.n->jo h (G.get t)=true) (hr:akw (bQ h ic) G.get G.n) :
  ∃ D:Sl aU,∃ a:Nat,∃ b:Int,goN eh ⟨G,(G.n:Int),(20:Int),(0:Int),(20:Int),h⟩ = .out (.exit 0) ⟨D,(G.n:Int),(20:Int),(a:Int),b,h⟩/\D.n=G.n/\20 ∣ a/\a<=G.n/\G.n < a+20/\(∀ l,20 ∣ l->l < a->Bl (bQ h ic) G.get D.get l (l+20))/\(∀ i,a<=i->D.get i=G.get i)/\∀ t,t < D.n->jo h (D.get t)=true:=by
 refine Exists.elim (bn (step:=eh) (x:=⟨G,(G.n:Int),(20:Int),(0:Int),(20:Int),h⟩) (fun k y=>∃ D:Sl aU,∃ a:Nat,y=⟨D,(G.n:Int),(20:Int),(a:Int),((a+20:Nat):Int),h⟩/\k<=a/\D.n=G.n/\20 ∣ a/\a<=G.n/\(∀ l,20 ∣ l->l < a->Bl (bQ h ic) G.get D.get l (l+20))/\(∀ i,a<=i->D.get i=G.get i)/\∀ t,t < D.n->jo h (D.get t)=true) (fun e y=>e = .exit 0/\∃ D:Sl aU,∃ a:Nat,∃ b:Int,y=⟨D,(G.n:Int),(20:Int),(a:Int),b,h⟩/\D.n=G.n/\20 ∣ a/\a<=G.n/\G.n < a+20/\(∀ l,20 ∣ l->l < a->Bl (bQ h ic) G.get D.get l (l+20))/\(∀ i,a<=i->D.get i=G.get i)/\∀ t,t < D.n->jo h (D.get t)=true) G.n (by have:gd=1000000000000:=rfl; omega) (fun k y hk ⟨D,a,hy,g0,g1,g2,g3,g4,g5,g6⟩=>?_) ⟨G,0,rfl,aW _,rfl,Nat.dvd_zero _,cP _,fun l _ hl=>by omega,fun _ _=>rfl,cq⟩) fun e ⟨y,hy,he,D,a,b,hi,q⟩=>⟨D,a,b,by rw [hy,he,hi],q⟩
 subst hy;unfold eh aC;by_cases hle:a+20<=G.n
 ·obtain ⟨D',k1,k2,k3,k4⟩:=QB h ic D a (a+20) (by omega) (by omega) (by omega) g6 (fun s t s1 s2 t1=>by rw [g5 s s1,g5 t (by omega)]; exact hr s t s2 (by omega))
  have e0:iZ ⟨D,(G.n:Int),(20:Int),(a:Int),((a+20:Nat):Int),h⟩=_:=k1;have e1:ak (((a+20:Nat):Int)+(20:Int))=((a+20+20:Nat):Int):=by rw [Dl (by omega) (by omega)]; omega
  simp only [av (show ((a+20:Nat):Int)<=(G.n:Int) by omega),ai,e0,e1,aG,aJ.kO,aJ.lG,gj,k2];refine .inl ⟨_,rfl,by omega,D',a+20,rfl,by omega,k2.trans g1,Nat.dvd_add g2 (Nat.dvd_refl _),hle,fun l l1 l2=>?_,fun i hi=>?_,xn k2 (by omega) k3 g6⟩
  ·by_cases hl:l < a
   ·have:=I1 l1 g2 hl
    exact (g4 l l1 hl).congr fun i i1 i2=>k3.2 i (.inl (by omega))
   ·have:l=a:=by
     by_cases e:a=l
     ·exact e.symm
     ·have:=I1 g2 l1 (by omega); omega
    subst this;refine ⟨k4,fun p=>(k3.1 p).trans (tM fun i hi=>g5 _ (by omega))⟩
  ·rw [k3.2 i (.inr hi)]; exact g5 i (by omega)
 ·simp only [az (show ¬ ((a+20:Nat):Int)<=(G.n:Int) by omega),aw,aG,ai]
  exact .inr ⟨_,_,rfl,rfl,rfl,D,a,_,rfl,g1,g2,g3,by omega,g4,g5,g6⟩
theorem aob (E:Sl aU) (B:Nat) (h3:G.n<=10000000000) (hB:1<=B) (hB2:B < G.n) (hr:akw (bQ h ic) G.get G.n) (hn:E.n=G.n) (cq:∀ t,t < E.n->jo h (E.get t)=true) (hb:Bls (bQ h ic) G.get E.get B G.n) :
  ∃ D:Sl aU,∃ a:Nat,∃ b:Int,goN dA ⟨E,(G.n:Int),(B:Int),(0:Int),((2 * B:Nat):Int),h⟩ = .out (.exit 4) ⟨D,(G.n:Int),(B:Int),(a:Int),b,h⟩/\D.n=G.n/\2 * B ∣ a/\a<=G.n/\G.n < a+2 * B/\(∀ l,2 * B ∣ l->l < a->Bl (bQ h ic) G.get D.get l (l+2 * B))/\(∀ l,B ∣ l->a<=l->l < G.n->Bl (bQ h ic) G.get D.get l (min (l+B) G.n))/\∀ t,t < D.n->jo h (D.get t)=true:=by
 refine Exists.elim (bn (step:=dA) (x:=⟨E,(G.n:Int),(B:Int),(0:Int),((2 * B:Nat):Int),h⟩) (fun k y=>∃ D:Sl aU,∃ a:Nat,y=⟨D,(G.n:Int),(B:Int),(a:Int),((a+2 * B:Nat):Int),h⟩/\k<=a/\D.n=G.n/\2 * B ∣ a/\a<=G.n/\(∀ l,2 * B ∣ l->l < a->Bl (bQ h ic) G.get D.get l (l+2 * B))/\(∀ l,B ∣ l->a<=l->l < G.n->Bl (bQ h ic) G.get D.get l (min (l+B) G.n))/\∀ t,t < D.n->jo h (D.get t)=true) (fun e y=>e = .exit 4/\∃ D:Sl aU,∃ a:Nat,∃ b:Int,y=⟨D,(G.n:Int),(B:Int),(a:Int),b,h⟩/\D.n=G.n/\2 * B ∣ a/\a<=G.n/\G.n < a+2 * B/\(∀ l,2 * B ∣ l->l < a->Bl (bQ h ic) G.get D.get l (l+2 * B))/\(∀ l,B ∣ l->a<=l->l < G.n->Bl (bQ h ic) G.get D.get l (min (l+B) G.n))/\∀ t,t < D.n->jo h (D.get t)=true) G.n (by have:gd=1000000000000:=rfl; omega) (fun k y hk ⟨D,a,hy,g0,g1,g2,g3,g4,g5,g6⟩=>?_) ⟨E,0,by rw [bh]; rfl,aW _,hn,Nat.dvd_zero _,cP _,fun l _ hl=>by omega,fun l l1 _ l3=>hb l l1 l3,cq⟩) fun e ⟨y,hy,he,D,a,b,hi,q⟩=>⟨D,a,b,by rw [hy,he,hi],q⟩
 subst hy;unfold dA aC;have hBa:B ∣ a:=Nat.dvd_trans (Nat.dvd_mul_left B 2) g2;by_cases hle:a+2 * B<=G.n
 ·have b1:Bl (bQ h ic) G.get D.get a (a+B):=by have:=g5 a hBa (aW _) (by omega); rwa [Nat.min_eq_left (by omega)] at this
  have b2:Bl (bQ h ic) G.get D.get (a+B) (a+2 * B):=by have:=g5 (a+B) (Nat.dvd_add hBa (Nat.dvd_refl _)) (by omega) (by omega); rwa [Nat.min_eq_left (by omega),show a+B+B=a+2 * B by omega] at this
  have hc:LH (bQ h ic) D.get a (a+B) (a+2 * B):=akx hr hle (by omega) (by omega) b1.2 b2.2;obtain ⟨D',k1,k2,k3,k4⟩:=Hu h ic 64 D a (a+B) (a+2 * B) (by omega) (by omega) (by omega) (by omega) g6 (uO (show _<=10000000000 by omega) (by decide)) b1.1 b2.1 hc;have e2:ak ((a:Int)+(B:Int))=((a+B:Nat):Int):=aiI (by omega);have e0:gp ⟨D,(G.n:Int),(B:Int),(a:Int),((a+2 * B:Nat):Int),h⟩ = .out .ret ⟨D',(a:Int),((a+B:Nat):Int),((a+2 * B:Nat):Int),h⟩:=by
   unfold gp;simp only [e2];exact k1
  have e1:ak (((a+2 * B:Nat):Int)+ak ((2:Int) * (B:Int)))=((a+2 * B+2 * B:Nat):Int):=by rw [Dl (n:=(2:Int) * (B:Int)) (by omega) (by omega),Dl (by omega) (by omega)]; omega
  simp only [av (show ((a+2 * B:Nat):Int)<=(G.n:Int) by omega),ai,e0,e1,aG,aJ.kO,aJ.lG,gj,k2];refine .inl ⟨_,rfl,by omega,D',a+2 * B,rfl,by omega,k2.trans g1,Nat.dvd_add g2 (Nat.dvd_refl _),hle,fun l l1 l2=>?_,fun l l1 l2 l3=>?_,xn k2 (by omega) k3 g6⟩
  ·by_cases hl:l < a
   ·have:=I1 l1 g2 hl
    exact (g4 l l1 hl).congr fun i i1 i2=>k3.2 i (.inl (by omega))
   ·have:l=a:=by
     by_cases e:a=l
     ·exact e.symm
     ·have:=I1 g2 l1 (by omega); omega
    subst this;exact b1.join b2 (by omega) (by omega) k3 k4
  ·exact (g5 l l1 (by omega) l3).congr fun i i1 i2=>k3.2 i (.inr (by omega))
 ·simp only [az (show ¬ ((a+2 * B:Nat):Int)<=(G.n:Int) by omega),aw,aG,ai]
  exact .inr ⟨_,_,rfl,rfl,rfl,D,a,_,rfl,g1,g2,g3,by omega,g4,g5,g6⟩
theorem ajI (E:Sl aU) (h3:G.n<=10000000000) (hr:akw (bQ h ic) G.get G.n) (hn:E.n=G.n) (cq:∀ t,t < E.n->jo h (E.get t)=true) (hb:Bls (bQ h ic) G.get E.get 20 G.n) :
  ∃ D:Sl aU,∃ B:Nat,goN ei ⟨E,(G.n:Int),(20:Int),h⟩ = .out (.exit 2) ⟨D,(G.n:Int),(B:Int),h⟩/\D.n=G.n/\G.n<=B/\Bls (bQ h ic) G.get D.get B G.n:=by
 refine Exists.elim (bn (step:=ei) (x:=⟨E,(G.n:Int),(20:Int),h⟩) (fun k y=>∃ D:Sl aU,∃ B:Nat,y=⟨D,(G.n:Int),(B:Int),h⟩/\k+1<=B/\D.n=G.n/\Bls (bQ h ic) G.get D.get B G.n/\∀ t,t < D.n->jo h (D.get t)=true) (fun e y=>e = .exit 2/\∃ D:Sl aU,∃ B:Nat,y=⟨D,(G.n:Int),(B:Int),h⟩/\D.n=G.n/\G.n<=B/\Bls (bQ h ic) G.get D.get B G.n) G.n (by have:gd=1000000000000:=rfl; omega) (fun k y hk ⟨D,B,hy,g0,g1,g2,g3⟩=>?_) ⟨E,20,rfl,by omega,hn,hb,cq⟩) fun e ⟨y,hy,he,D,B,hi,q⟩=>⟨D,B,by rw [hy,he,hi],q⟩
 subst hy;unfold ei aC;by_cases bt:B < G.n
 ·obtain ⟨D1,a,b,k1,k2,k3,k4,k5,k6,k7,k8⟩:=aob h ic G D B h3 (by omega) bt hr g1 g3 g2
  have e2:ak ((2:Int) * (B:Int))=((2 * B:Nat):Int):=by rw [Dl (by omega) (by omega)]; omega
  have e3:ak ((B:Int) * (2:Int))=((2 * B:Nat):Int):=by rw [Dl (by omega) (by omega)]; omega
  have e4:ak ((a:Int)+(B:Int))=((a+B:Nat):Int):=aiI (by omega);have e0:aX ⟨D,(G.n:Int),(B:Int),h⟩ = .out (.exit 4) ⟨D1,(G.n:Int),(B:Int),(a:Int),b,h⟩:=by
   unfold aX;simp only [e2];exact k1
  have hBa:B ∣ a:=Nat.dvd_trans (Nat.dvd_mul_left B 2) k3;have fin:∀ D' : Sl aU,(∀ i,i < a->D'.get i=D1.get i)->(a < G.n->Bl (bQ h ic) G.get D'.get a G.n)->Bls (bQ h ic) G.get D'.get (2 * B) G.n:=fun D' q1 q2 l l1 l2=>by
   by_cases hl:l < a
   ·have:=I1 l1 k3 hl
    rw [Nat.min_eq_left (by omega)];exact (k6 l l1 hl).congr fun i i1 i2=>q1 i (by omega)
   ·have:l=a:=by
     by_cases e:a=l
     ·exact e.symm
     ·have:=I1 k3 l1 (by omega); omega
    subst this;rw [Nat.min_eq_right (by omega)];exact q2 l2
  simp only [av (show (B:Int) < (G.n:Int) by omega),ai,e0,aG,aJ.kO,aJ.lG,gj,mK,e3,e4];by_cases hm:a+B < G.n
  ·have b1:Bl (bQ h ic) G.get D1.get a (a+B):=by have:=k7 a hBa (aW _) (by omega); rwa [Nat.min_eq_left (by omega)] at this
   have b2:Bl (bQ h ic) G.get D1.get (a+B) G.n:=by have:=k7 (a+B) (Nat.dvd_add hBa (Nat.dvd_refl _)) (by omega) hm; rwa [Nat.min_eq_right (by omega)] at this
   have hc:LH (bQ h ic) D1.get a (a+B) G.n:=akx hr (aW _) (by omega) (by omega) b1.2 b2.2;obtain ⟨D',j1,j2,j3,j4⟩:=Hu h ic 64 D1 a (a+B) G.n (by omega) hm (by omega) (by omega) k8 (uO (show _<=10000000000 by omega) (by decide)) b1.1 b2.1 hc;have e1:gQ ⟨D,(G.n:Int),(B:Int),h⟩ = .out .ret ⟨D',(a:Int),((a+B:Nat):Int),(G.n:Int),h⟩:=by
    unfold gQ;rw [e0];simp only [aJ.lG,e4];exact j1
   simp only [av (show ((a+B:Nat):Int) < (G.n:Int) by omega),ai,e1,aG,aJ.kO,aJ.lG,gj,j2];exact .inl ⟨_,rfl,by omega,D',2 * B,rfl,by omega,j2.trans k2,fin D' (fun i hi=>j3.2 i (.inl hi)) (fun _=>b1.join b2 (by omega) (by omega) j3 j4),xn j2 (by omega) j3 k8⟩
  ·simp only [az (show ¬ ((a+B:Nat):Int) < (G.n:Int) by omega),aw]
   exact .inl ⟨_,rfl,by omega,D1,2 * B,rfl,by omega,k2,fin D1 (fun _ _=>rfl) (fun ha=>by have:=k7 a hBa (aW _) ha; rwa [Nat.min_eq_right (by omega)] at this),k8⟩
 ·simp only [az (show ¬ (B:Int) < (G.n:Int) by omega),aw,aG,ai]
  exact .inr ⟨_,_,rfl,rfl,rfl,D,B,rfl,g1,by omega,g2⟩
theorem abF (h3:G.n<=10000000000) (cq:∀ t,t < G.n->jo h (G.get t)=true) (hr:akw (bQ h ic) G.get G.n) :
  ∃ D:Sl aU,lN ⟨G,(G.n:Int),h⟩ = .out .ret ⟨D,(G.n:Int),h⟩/\D.n=G.n/\ia (bQ h ic) D.get 0 G.n/\∀ p:aU->Bool,xT p D.get 0 G.n=xT p G.get 0 G.n:=by
 obtain ⟨D0,a,b,k1,k2,k3,k4,k5,k6,k7,k8⟩:=al8 h ic G h3 cq hr;have e0:dB ⟨G,(G.n:Int),h⟩=_:=k1;obtain ⟨D1,j1,j2,j3,j4⟩:=QB h ic D0 a G.n k4 (by omega) (by omega) k8 (fun s t s1 s2 t1=>by rw [k7 s s1,k7 t (by omega)]; exact hr s t s2 t1);have e1:iB ⟨G,(G.n:Int),h⟩ = .out .ret ⟨D1,(a:Int),(G.n:Int),h⟩:=by
  unfold iB;rw [e0];exact j1
 have hb:Bls (bQ h ic) G.get D1.get 20 G.n:=fun l l1 l2=>by
  by_cases hl:l < a
  ·have:=I1 l1 k3 hl
   rw [Nat.min_eq_left (by omega)];exact (k6 l l1 hl).congr fun i i1 i2=>j3.2 i (.inl (by omega))
  ·have:l=a:=by
    by_cases e:a=l
    ·exact e.symm
    ·have:=I1 k3 l1 (by omega); omega
   subst this;rw [Nat.min_eq_right (by omega)];exact ⟨j4,fun p=>(j3.1 p).trans (tM fun i hi=>k7 _ (by omega))⟩
 obtain ⟨D2,B,q1,q2,q3,q4⟩:=ajI h ic G D1 h3 hr (j2.trans k2) (xn j2 (by omega) j3 k8) hb;have e2:gC ⟨G,(G.n:Int),h⟩ = .out (.exit 2) ⟨D2,(G.n:Int),(B:Int),h⟩:=by
  unfold gC;rw [e0,e1];exact q1
 refine ⟨D2,?_,q2,?_⟩
 ·unfold lN mZ aC
  rw [e0,e1,e2];simp only [aG,ai,aJ.kO,aJ.lG,gj,mK,j2]
 ·by_cases hz:G.n=0
  ·rw [hz]
   exact ⟨fun i j _ _ hj=>by omega,fun p=>rfl⟩
  ·have:=q4 0 (Nat.dvd_zero _) (by omega)
   rw [bh,Nat.min_eq_right q3] at this;exact ⟨this.1,fun p=>by have:=this.2 p; rwa [Nat.sub_zero] at this⟩
end
end Go.Proofs.YtchbpckkmgcgkaaGreat.b
end
section
namespace Go.Proofs.YtchbpckkmgcgkaaGreat.b
open Go.K Go.K.hY
open Go.aF (aq)
theorem aiP {α:Type} (p:α->Bool) (d:Nat->α):∀ k,xT p d 0 k=((List.range k).map d).countP p
 | 0=>rfl
 | k+1=>by
  rw [xT,aiP p d k,QP,HM,List.countP_append,bh];have e:b2 (p (d k)) = [d k].countP p:=by
   rw [List.countP_singleton];cases p (d k) <;> rfl
  rw [e];rfl
theorem VN {α:Type} {D G:List α} (h:∀ p:α->Bool,D.countP p=G.countP p) {v:α} (hv:v∈D):v∈G:=by
 have hp:0 < G.countP (fun a=>@decide (a=v) (Classical.propDecidable _)):=by
  rw [<- h];exact List.countP_pos_iff.2 ⟨v,hv,by simp⟩
 obtain ⟨a,h1,h2⟩:=List.countP_pos_iff.1 hp;have:a=v:=by simpa using h2
 exact this ▸ h1
def xo (s:Show) (b:aU×Bool) (f:aU):Bool:=pX s f&&(!b.2||decide (f.d > b.1.d))
theorem atP {n:Nat} (h:n<=98304):((Nat.ble (((n+1)+512) * 48) 17592186044416)&&(Nat.ble (n+1) 17592186044416))=true:=by
 rw [aD];exact ⟨Nat.ble_eq_true_of_le (by omega),Nat.ble_eq_true_of_le (by omega)⟩
theorem abG {α:Type} {p:α->Bool} {l:List α} {f:α} : (l++[f]).filter p=l.filter p++cond (p f) [f] []:=by
 rw [List.filter_append,List.filter_cons,List.filter_nil];cases p f <;> rfl
theorem apz (s:Show) (b:aU×Bool) (x:aP) (hs:x.jG.dc=s) (EE:x.yF=b.2) (vy:x.xg=b.1) (hi:∀ j,j < x.t14.n->0<=(x.t14.get j).dX.item/\(x.t14.get j).dX.item < (s.items.n:Int)) (hn:x.t14.n<=98304) (h15:x.t15=(x.t14.n:Int)) (h16:x.t16=0) (h0:x.lq.n=0) :
  ∃ e y,goN bS x = .out e y/\(e = .exit 0/\y.jG=x.jG/\y.lq.n<=98304/\bH y.lq=(ru x.x x.y (bH x.t14)).filter (xo s b)):=by
 refine bn (step:=bS) (fun j y=>y.t14=x.t14/\y.t15=(x.t14.n:Int)/\y.t16=(j:Int)/\y.x=x.x/\y.y=x.y/\j<=x.t14.n/\y.jG=x.jG/\y.yF=b.2/\y.xg=b.1/\y.lq.n<=j/\bH y.lq=(ru x.x x.y ((bH x.t14).take j)).filter (xo s b)) _ x.t14.n (by have:gd=1000000000000:=rfl; omega) (fun j y hj ⟨f1,f2,f3,f4,f5,f6,f7,f8,f9,f10,f11⟩=>?_) ⟨rfl,h15,h16,rfl,rfl,cP _,rfl,EE,vy,by omega,qv.1 (by rw [gg,h0])⟩;have w1:ak (y.t16+1)=y.t16+1:=aj;unfold bS dM fC bj aC;by_cases h:y.t16 < y.t15
 ·have eH:j < x.t14.n:=by omega
  have hg:y.t14.get (Int.toNat y.t16)=x.t14.get j:=by rw [f1,f3,bU]
  obtain ⟨sp,e,hp⟩:=aeL (x.t14.get j).t x.x x.y;have e0:bW y=some (sp,e):=by
   unfold bW;rw [hg,f4,f5];exact hp
  obtain ⟨i1,i2⟩:=hi j eH;have tk:=akG (x:=x.x) (y:=x.y) x.t14 j eH;have po:=atP (n:=y.lq.n) (by omega);simp only [e0,hg,w1,po,aG,ai,bD,bx,bq,av h,av (show (0:Int)<=y.t16 by omega),av (show y.t16 < ((y.t14.n:Nat):Int) by rw [f1]; omega),av i1,av (show (x.t14.get j).dX.item < ((y.jG.dc.items.n:Nat):Int) by rw [f7,hs]; exact i2)];have SQ:∀ {y' : aP},y'.t14=y.t14->y'.t15=y.t15->y'.t16=y.t16+1->y'.x=y.x->y'.y=y.y->y'.jG=y.jG->y'.yF=y.yF->y'.xg=y.xg->y'.lq.n<=j+1->bH y'.lq=(ru x.x x.y ((bH x.t14).take (j+1))).filter (xo s b)->
    (∃ x',(aJ.next y' : aJ aP) = .next x'/\j < x.t14.n/\x'.t14=x.t14/\x'.t15=(x.t14.n:Int)/\x'.t16=((j+1:Nat):Int)/\x'.x=x.x/\x'.y=x.y/\j+1<=x.t14.n/\x'.jG=x.jG/\x'.yF=b.2/\x'.xg=b.1/\x'.lq.n<=j+1/\bH x'.lq=(ru x.x x.y ((bH x.t14).take (j+1))).filter (xo s b)):=fun {y'} q1 q2 q3 q4 q5 q6 q7 q8 q9 q10=>
   ⟨y',rfl,eH,q1.trans f1,q2.trans f2,by omega,q4.trans f4,q5.trans f5,by omega,q6.trans f7,q7.trans f8,q8.trans f9,q9,q10⟩
  cases he:(e==(0:Int)) with
  | false=>
   have TC:rO x.x x.y (x.t14.get j)=none:=by
    unfold rO;rw [hp];simp only [he,aw]
   rw [aw];exact .inl (SQ rfl rfl rfl rfl rfl rfl rfl rfl (by show y.lq.n<=_; omega) (by show bH y.lq=_; rw [tk,TC,f11]; simp))
  | true=>
   have TC:rO x.x x.y (x.t14.get j)=some ⟨ak ((x.t14.get j).dX.d+sp.d),(x.t14.get j).dX.item,(x.t14.get j).dX.cl,(x.t14.get j).dX.part,sp.u,sp.v⟩:=by
    unfold rO;rw [hp];simp only [he,ai]
   have Yz:(y.jG.dc.items.get (Int.toNat (x.t14.get j).dX.item)).look.Ai=pX s ⟨ak ((x.t14.get j).dX.d+sp.d),(x.t14.get j).dX.item,(x.t14.get j).dX.cl,(x.t14.get j).dX.part,sp.u,sp.v⟩:=by
    rw [f7,hs];rfl
   rw [ai,Yz];generalize hf:(⟨ak ((x.t14.get j).dX.d+sp.d),(x.t14.get j).dX.item,(x.t14.get j).dX.cl,(x.t14.get j).dX.part,sp.u,sp.v⟩:aU)=f at *;have hd:ak ((x.t14.get j).dX.d+sp.d)=f.d:=by rw [<- hf]
   rw [hd,f8,f9];have qC:(ru x.x x.y ((bH x.t14).take (j+1))).filter (xo s b)=bH y.lq++cond (xo s b f) [f] []:=by
    rw [tk,TC,f11];exact abG
   have yes:xo s b f=true->∃ x',(aJ.next (⟨y.x,y.y,y.t14,y.t15,y.t16+1,y.jG,b.2,b.1,y.lq.push f⟩:aP)) = .next x'/\j < x.t14.n/\x'.t14=x.t14/\x'.t15=(x.t14.n:Int)/\x'.t16=((j+1:Nat):Int)/\x'.x=x.x/\x'.y=x.y/\j+1<=x.t14.n/\x'.jG=x.jG/\x'.yF=b.2/\x'.xg=b.1/\x'.lq.n<=j+1/\bH x'.lq=(ru x.x x.y ((bH x.t14).take (j+1))).filter (xo s b):=fun ho=>
    SQ rfl rfl rfl rfl rfl rfl f8.symm f9.symm (by show y.lq.n+1<=_; omega) (by show bH (Sl.push _ _)=_; rw [ki,qC,ho]; rfl)
   have no:xo s b f=false->∃ x',(aJ.next (⟨y.x,y.y,y.t14,y.t15,y.t16+1,y.jG,b.2,b.1,y.lq⟩:aP)) = .next x'/\j < x.t14.n/\x'.t14=x.t14/\x'.t15=(x.t14.n:Int)/\x'.t16=((j+1:Nat):Int)/\x'.x=x.x/\x'.y=x.y/\j+1<=x.t14.n/\x'.jG=x.jG/\x'.yF=b.2/\x'.xg=b.1/\x'.lq.n<=j+1/\bH x'.lq=(ru x.x x.y ((bH x.t14).take (j+1))).filter (xo s b):=fun ho=>
    SQ rfl rfl rfl rfl rfl rfl f8.symm f9.symm (by show y.lq.n<=_; omega) (by show bH y.lq=_; rw [qC,ho]; exact (py _).symm)
   have ho:xo s b f=(pX s f&&(!b.2||decide (f.d > b.1.d))):=rfl;cases hb:pX s f with
   | false=>
    rw [aw];exact .inl (no (by rw [ho,hb]; rfl))
   | true=>
    rw [ai];cases hc:(!b.2) with
    | true=>
     rw [ai];exact .inl (yes (by rw [ho,hb,hc]; rfl))
    | false=>
     rw [aw];cases hd:decide (f.d > b.1.d) with
     | true=>
      rw [ai];exact .inl (yes (by rw [ho,hb,hc,hd]; rfl))
     | false=>
      rw [aw];exact .inl (no (by rw [ho,hb,hc,hd]; rfl))
 ·simp only [aG,ai,aw,az h]
  refine .inr ⟨_,_,rfl,rfl,rfl,f7,by omega,?_⟩;rw [f11,show j=x.t14.n by omega,EO (by rw [gg]; exact aW _)]
def jr (s:Show) (f:aU):Color:=((rH (s.items.get (Int.toNat f.item)).look s.au f.u f.v).getD default).fst
def lay (p g:Color):Color:=(Da p g).getD default
def lz (s:Show) (g:Color) (l:List aU):Color:=l.foldl (fun g f=>lay (jr s f) g) g
def sC (s:Show):Prop:=gf s.au=some 0/\∀ i,i < s.items.n->eO (s.items.get i).look (s.au.n:Int)=some 0
theorem adE {s:Show} (h:iX s=some 0):sC s:=by
 obtain ⟨_,_,h3,h4⟩:=(aiA s).1 h;exact ⟨h3,fun i hi=>arF (h4 i hi)⟩
theorem aeX {s:Show} {r:aI} {f:aU} (hl:sC s) (h1:r.dc=s) (hf:0<=f.item/\f.item < (s.items.n:Int)):mB r f=some (jr s f):=by
 subst h1;obtain ⟨c,e,h2,_⟩:=aoa (u:=f.u) (v:=f.v) hl.1 (hl.2 (Int.toNat f.item) (by omega));have e0:yd r f=some (c,e):=h2;unfold mB jr bj;simp only [e0,h2,bx,bq,ai,av hf.1,av hf.2,bD]
theorem aiQ (s:Show) (hl:sC s) (x:fZ) (hs:x.s.dc=s) (hi:∀ j,j < x.t33.n->0<=(x.t33.get j).item/\(x.t33.get j).item < (s.items.n:Int)) (hn:x.t33.n<=98304) (h34:x.t34=(x.t33.n:Int)) (h35:x.t35=0) :
  ∃ e y,goN eK x = .out e y/\(e = .exit 0/\y.ground=lz s x.ground (bH x.t33)):=by
 refine bn (step:=eK) (fun j y=>y.t33=x.t33/\y.t34=(x.t33.n:Int)/\y.t35=(j:Int)/\j<=x.t33.n/\y.s=x.s/\y.ground=lz s x.ground ((bH x.t33).take j)) _ x.t33.n (by have:gd=1000000000000:=rfl; omega) (fun j y hj ⟨f1,f2,f3,f4,f5,f6⟩=>?_) ⟨rfl,h34,h35,cP _,rfl,rfl⟩;have w1:ak (y.t35+1)=y.t35+1:=aj;unfold eK bj aC;by_cases h:y.t35 < y.t34
 ·have eH:j < x.t33.n:=by omega
  have e0:ck y=some (jr s (x.t33.get j)):=by
   unfold ck;rw [f1,f3,f5,bU,bh];exact aeX hl hs (hi j eH)
  simp only [e0,w1,aG,ai,bD,bx,bq,av h,av (show (0:Int)<=y.t35 by omega),av (show y.t35 < ((y.t33.n:Nat):Int) by rw [f1]; omega)];refine .inl ⟨_,rfl,eH,f1,f2,by show y.t35+1=_; omega,by omega,f5,?_⟩;show lay (jr s (x.t33.get j)) y.ground=_;rw [K0 x.t33 j eH,f6];unfold lz;rw [List.foldl_append];rfl
 ·simp only [aG,ai,aw,az h]
  refine .inr ⟨_,_,rfl,rfl,rfl,?_⟩;rw [f6,show j=x.t33.n by omega,EO (by rw [gg]; exact aW _)]
theorem aeY (s:Show) (c:aE) (r:aI) (ground:Color) (x y:Int) (ic:aU->aU->Prop) (hl:sC s) (h1:r.dc=s) (h2:bH r.parts=jc s c) (h3:r.parts.n<=98304)
  (hr:∀ G:Sl aU,bH G=(ru x y (jc s c)).filter (xo s (uE s (ru x y (jc s c))))->akw (bQ r ic) G.get G.n) :
  ∃ D:Sl aU,hQ r ground x y=some (lz s (cond (uE s (ru x y (jc s c))).2 (jr s (uE s (ru x y (jc s c))).1) ground) (bH D))/\ia (bQ r ic) D.get 0 D.n/\∀ p:aU->Bool,(bH D).countP p=((ru x y (jc s c)).filter (xo s (uE s (ru x y (jc s c))))).countP p:=by
 have hw:=abD s c r x y h1 h2 h3;have hwp:=WO s (ru x y (jc s c));generalize hb:uE s (ru x y (jc s c))=b at *;have e0:m9 r ground x y=some b:=hw;have hit:∀ j,j < r.parts.n->0<=(r.parts.get j).dX.item/\(r.parts.get j).dX.item < (s.items.n:Int):=fun j hj=>by
  have hm:r.parts.get j∈bH r.parts:=FN hj;rw [h2] at hm;obtain ⟨i,k,n,i1,i2,i3,e⟩:=WN hm;rw [e];show 0<=(i:Int)/\(i:Int) < (s.items.n:Int);omega
 obtain ⟨e,z,hz,rfl,z1,z2,z3⟩:∃ e z,cV r ground x y = .out e z/\(e = .exit 0/\z.jG=r/\z.lq.n<=98304/\bH z.lq=(ru x y (bH r.parts)).filter (xo s b)):=by
  unfold cV;exact apz s b _ h1 (by rw [e0]; rfl) (by rw [e0]; rfl) hit h3 rfl rfl rfl
 rw [h2] at z3;have b1:(cV r ground x y).by (.exit 0)=true:=by rw [hz]; rfl
 have b2:(cV r ground x y).st=z:=by rw [hz]; rfl
 have inG:∀ v∈bH z.lq,0<=v.item/\v.item < (s.items.n:Int):=fun v hv=>by
  rw [z3] at hv;exact QA (List.mem_filter.1 hv).1
 obtain ⟨D,hD,d1,d2,d3⟩:=abF r ic z.lq (by omega) (fun t ht=>by
  have:=inG _ (FN ht);unfold jo;rw [h1,av this.1,av this.2];rfl) (hr z.lq z3)
 have hD' : eL r ground x y = .out .ret ⟨D,(z.lq.n:Int),r⟩:=by
  unfold eL;rw [b2,z1];exact hD
 have b3:(eL r ground x y).by .ret=true:=by rw [hD']; rfl
 have b4:(eL r ground x y).st=⟨D,(z.lq.n:Int),r⟩:=by rw [hD']; rfl
 have avo:∀ p:aU->Bool,(bH D).countP p=(bH z.lq).countP p:=fun p=>by
  have:=d3 p;rw [aiP,aiP,<- d1] at this;rw [d1] at this;show ((List.range D.n).map D.get).countP p=((List.range z.lq.n).map z.lq.get).countP p;rw [d1];exact this
 have inD:∀ j,j < D.n->0<=(D.get j).item/\(D.get j).item < (s.items.n:Int):=fun j hj=>inG _ (VN avo (FN hj));refine ⟨D,?_,by rw [d1]; exact d2,fun p=>by rw [avo p,z3]⟩;unfold hQ aC;simp only [e0,b1,b2,b3,b4,d1,aG,bx,bq,ai];cases vy:b.2 with
 | true=>
  have oK:b.1∈ru x y (jc s c):=by
   rcases hwp with ⟨q,_⟩ | ⟨_,q,_⟩
   ·rw [vy] at q; simp at q
   ·exact q
  have e1:sS r ground x y=some (jr s b.1):=by
   unfold sS;rw [e0];exact aeX hl h1 (QA oK)
  obtain ⟨e,u,hu,rfl,u1⟩:∃ e u,na r ground x y = .out e u/\(e = .exit 0/\u.ground=lz s (jr s b.1) (bH D)):=by
   unfold na;rw [b2,b4,e1];exact aiQ s hl _ h1 inD (by show D.n<=98304; omega) (by show (z.lq.n:Int)=(D.n:Int); rw [d1]) rfl
  have b5:(na r ground x y).by (.exit 0)=true:=by rw [hu]; rfl
  have b6:(na r ground x y).st=u:=by rw [hu]; rfl
  simp only [e1,b5,b6,bx,ai];rw [u1]
 | false=>
  obtain ⟨e,u,hu,rfl,u1⟩:∃ e u,nb r ground x y = .out e u/\(e = .exit 0/\u.ground=lz s ground (bH D)):=by
   unfold nb;rw [b2,b4];exact aiQ s hl _ h1 inD (by show D.n<=98304; omega) (by show (z.lq.n:Int)=(D.n:Int); rw [d1]) rfl
  have b5:(nb r ground x y).by (.exit 0)=true:=by rw [hu]; rfl
  have b6:(nb r ground x y).st=u:=by rw [hu]; rfl
  simp only [b5,b6,ai,aw];rw [u1]
theorem arL (s:Show) (c:aE) (r:aI) (ground:Color) (x y:Int) (hl:sC s) (h1:r.dc=s) (h2:bH r.parts=jc s c) (h3:r.parts.n<=98304):∃ v,hQ r ground x y=some v:=by
 obtain ⟨D,h,_⟩:=aeY s c r ground x y (fun a b=>∃ (i j:Nat),i < j/\((ru x y (jc s c)).filter (xo s (uE s (ru x y (jc s c)))))[i]? = some a/\((ru x y (jc s c)).filter (xo s (uE s (ru x y (jc s c)))))[j]? = some b) hl h1 h2 h3 (fun G hG i j vD hj=>⟨i,j,vD,by rw [<- hG]; exact Ep G i (by omega),by rw [<- hG]; exact Ep G j hj⟩);exact ⟨_,h⟩
def xp (s:Show) (c:aE) (x y:Int):aU×Bool:=uE s (ru x y (jc s c))
def aiR (r:aI) (ground:Color) (x y:Int):Color:=(hQ r ground x y).getD default
structure F8 (s:Show) (c:aE) (r:aI):Prop where
 looks:sC s
 dc:r.dc=s
 parts:bH r.parts=jc s c
 n:r.parts.n<=98304
theorem F8.uE {s:Show} {c:aE} {r:aI} (h:F8 s c r) (x y:Int):jt r x y=some (xp s c x y):=abD s c r x y h.dc h.parts h.n
theorem F8.col {s:Show} {c:aE} {r:aI} (h:F8 s c r) (ground:Color) (x y:Int):hQ r ground x y=some (aiR r ground x y):=by
 obtain ⟨v,hv⟩:=arL s c r ground x y h.looks h.dc h.parts h.n;unfold aiR;rw [hv];rfl
structure abH (s:Show) (c:aE) (r:aI) (ground:Color) (w:Nat) (f:Frame) (n:Nat):Prop where
 fw:f.w=c.w
 fh:f.h=c.h
 nc:f.color.n=n
 nd:f.depth.n=n
 ni:f.item.n=n
 nt:f.cl.n=n
 col:∀ q,q < n->f.color.get q=aiR r ground ((q % w:Nat):Int) ((q / w:Nat):Int)
 dep:∀ q,q < n->f.depth.get q=(xp s c ((q % w:Nat):Int) ((q / w:Nat):Int)).1.d
 it:∀ q,q < n->f.item.get q=(xp s c ((q % w:Nat):Int) ((q / w:Nat):Int)).1.item
 cl:∀ q,q < n->f.cl.get q=(xp s c ((q % w:Nat):Int) ((q / w:Nat):Int)).1.cl
theorem Ey {α:Type} [Inhabited α] {l:Sl α} {n:Nat} {v:α} {g:Nat->α} (hn:l.n=n) (h:∀ q,q < n->l.get q=g q) (hv:v=g n):∀ q,q < n+1->(l.push v).get q=g q:=fun q hq=>by
 by_cases hl:q < n
 ·rw [Sl.acI (by omega)]; exact h q hl
 ·have e:q=l.n:=by omega
  rw [e,Sl.acJ,hv,hn]
theorem arM (s:Show) (c:aE) (r:aI) (ground:Color) (hk:F8 s c r) (w yy:Nat) (hw:w<=64) (hy:yy < 64) (x:hU) (ha:x.all=r) (hg:x.ground=ground) (CS:x.y=(yy:Int)) (h36:x.t36=(w:Int)) (h37:x.t37=0) (hf:abH s c r ground w x.f (yy * w)) :
  ∃ e z,goN jK x = .out e z/\(e = .exit 2/\z.t7=x.t7/\z.t31=x.t31/\z.t32=x.t32/\z.c=x.c/\z.ground=x.ground/\z.t6=x.t6/\z.all=x.all/\abH s c r ground w z.f ((yy+1) * w)):=by
 refine bn (step:=jK) (fun j z=>(z.t7=x.t7/\z.t31=x.t31/\z.t32=x.t32/\z.c=x.c/\z.ground=x.ground/\z.t6=x.t6/\z.all=x.all/\z.y=x.y)/\z.t36=(w:Int)/\z.t37=(j:Int)/\j<=w/\abH s c r ground w z.f (yy * w+j)) _ w (by have:gd=1000000000000:=rfl; omega) (fun j z hj ⟨⟨f1,f2,f3,f4,f5,f6,f7,f8⟩,f9,f10,f11,f12⟩=>?_) ⟨⟨rfl,rfl,rfl,rfl,rfl,rfl,rfl,rfl⟩,h36,h37,cP _,hf⟩;have w1:ak (z.t37+1)=z.t37+1:=aj;have hmul:yy * w<=64 * 64:=Nat.mul_le_mul (by omega) hw;have a1:ij 4 z.f.color.n 1=true:=eZ (by omega) (by have:=f12.nc; omega) (by omega);have a2:ij 8 z.f.depth.n 1=true:=eZ (by omega) (by have:=f12.nd; omega) (by omega);have a3:ij 8 z.f.item.n 1=true:=eZ (by omega) (by have:=f12.ni; omega) (by omega);have a4:ij 8 z.f.cl.n 1=true:=eZ (by omega) (by have:=f12.nt; omega) (by omega);unfold jK nm aC;by_cases h:z.t37 < z.t36
 ·have eH:j < w:=by omega
  have e0:nf z=some (xp s c (j:Int) (yy:Int)):=by
   unfold nf;rw [f7,ha,f10,f8,CS];exact hk.uE _ _
  have e1:sT z=some (aiR r ground (j:Int) (yy:Int)):=by
   unfold sT;rw [f7,ha,f5,hg,f10,f8,CS];exact hk.col _ _ _
  have m1:(yy * w+j) % w=j:=by rw [Nat.mul_comm,Nat.mul_add_mod,Nat.mod_eq_of_lt eH]
  have m2:(yy * w+j) / w=yy:=by rw [Nat.mul_comm,Nat.mul_add_div (by omega),Nat.div_eq_of_lt eH,zh]
  simp only [e0,e1,w1,a1,a2,a3,a4,aG,ai,bD,bx,bq,av h];obtain ⟨m3,m4,n1,n2,n3,n4,p1,p2,p3,p4⟩:=f12;refine .inl ⟨_,rfl,eH,⟨f1,f2,f3,f4,f5,f6,f7,f8⟩,f9,by show z.t37+1=_; omega,by omega,⟨m3,m4,by show z.f.color.n+1=_; omega,by show z.f.depth.n+1=_; omega,by show z.f.item.n+1=_; omega,by show z.f.cl.n+1=_; omega,?_,?_,?_,?_⟩⟩
  ·exact Ey (n:=yy * w+j) n1 p1 (by rw [m1,m2])
  ·exact Ey (n:=yy * w+j) n2 p2 (by rw [m1,m2])
  ·exact Ey (n:=yy * w+j) n3 p3 (by rw [m1,m2])
  ·exact Ey (n:=yy * w+j) n4 p4 (by rw [m1,m2])
 ·simp only [aG,ai,aw,az h]
  refine .inr ⟨_,_,rfl,rfl,rfl,f1,f2,f3,f4,f5,f6,f7,?_⟩;rw [Nat.add_mul,Nat.one_mul];have:j=w:=by omega
  rwa [this] at f12
theorem apA (s:Show) (c:aE) (r:aI) (ground:Color) (hk:F8 s c r) (w hh:Nat) (hw:w<=64) (hy:hh<=64) (x:kG) (ha:x.all=r) (hg:x.ground=ground) (hc:x.c=c) (hcw:c.w=(w:Int)) (h31:x.t31=(hh:Int)) (h32:x.t32=0) (hf:abH s c r ground w x.f 0) :
  ∃ e z,goN ly x = .out e z/\(e = .exit 0/\abH s c r ground w z.f (hh * w)):=by
 refine bn (step:=ly) (fun j z=>(z.t31=x.t31/\z.c=x.c/\z.ground=x.ground/\z.all=x.all)/\z.t32=(j:Int)/\j<=hh/\abH s c r ground w z.f (j * w)) _ hh (by have:gd=1000000000000:=rfl; omega) (fun j z hj ⟨⟨f1,f2,f3,f4⟩,f5,f6,f7⟩=>?_) ⟨⟨rfl,rfl,rfl,rfl⟩,h32,cP _,by rwa [Nat.zero_mul]⟩;unfold ly aC;by_cases h:z.t32 < z.t31
 ·have eH:j < hh:=by omega
  obtain ⟨e,u,hu,rfl,g1,g2,g3,g4,g5,g6,g7,g8⟩:∃ e u,bX z = .out e u/\(e = .exit 2/\u.t7=z.t7/\u.t31=z.t31/\u.t32=z.t32/\u.c=z.c/\u.ground=z.ground/\u.t6=z.t6/\u.all=z.all/\abH s c r ground w u.f ((j+1) * w)):=by
   unfold bX;exact arM s c r ground hk w j hw (by omega) _ (f4.trans ha) (f3.trans hg) f5 (by show z.c.w=_; rw [f2,hc,hcw]) rfl f7
  have b1:(bX z).by (.exit 2)=true:=by rw [hu]; rfl
  have b2:(bX z).st=u:=by rw [hu]; rfl
  have w1:ak (u.t32+1)=u.t32+1:=aj;simp only [b1,b2,w1,aG,ai,av h];exact .inl ⟨_,rfl,eH,⟨g2.trans f1,g4.trans f2,g5.trans f3,g7.trans f4⟩,by show u.t32+1=_; omega,by omega,g8⟩
 ·simp only [aG,ai,aw,az h]
  refine .inr ⟨_,_,rfl,rfl,rfl,?_⟩;have:j=hh:=by omega
  rwa [this] at f7
theorem aoc (s:Show) (c:aE) (r:aI) (ground:Color) (hk:F8 s c r) (ho:xD s c=some r) (hc:Vg c) (ha:dw s c=some 0):∃ f,rI s c ground=some (f,0)/\abH s c r ground (Int.toNat c.w) f (Int.toNat c.h * Int.toNat c.w):=by
 obtain ⟨_,_,_,⟨cw1,cw2⟩,ch1,ch2⟩:=hc;have e0:xl s c ground=some 0:=ha;have e1:Hk s c ground=some r:=ho;obtain ⟨e,z,hz,rfl,h1⟩:∃ e z,tA s c ground = .out e z/\(e = .exit 0/\abH s c r ground (Int.toNat c.w) z.f (Int.toNat c.h * Int.toNat c.w)):=by
  unfold tA;exact apA s c r ground hk (Int.toNat c.w) (Int.toNat c.h) (by omega) (by omega) _ (by rw [e1]; rfl) rfl rfl (by omega) (by show c.h=_; omega) rfl ⟨rfl,rfl,rfl,rfl,rfl,rfl,fun q hq=>absurd hq (mJ _),fun q hq=>absurd hq (mJ _),fun q hq=>absurd hq (mJ _),fun q hq=>absurd hq (mJ _)⟩
 have b1:(tA s c ground).by (.exit 0)=true:=by rw [hz]; rfl
 have b2:(tA s c ground).st=z:=by rw [hz]; rfl
 refine ⟨z.f,?_,h1⟩;unfold rI;simp only [e0,e1,b1,b2,bx,bq,ai,jO,aw]
theorem al9 (l:Sl bF):(sR l).isSome=true:=by
 obtain ⟨e,z,hz,rfl⟩:∃ e z,nW l = .out e z/\e = .exit 0:=by
  unfold nW;refine bn (step:=mu) (fun j y=>y.i=(j:Int)) (fun e _=>e = .exit 0) 100 (by decide) (fun j y hj f1=>?_) rfl;have w1:ak (y.i+1)=y.i+1:=aj;unfold mu bj;cases h:decide (y.i < ((y.l.n:Nat):Int)) with
  | false=>exact .inr ⟨_,_,rfl,rfl,rfl⟩
  | true=>
   cases h2:decide (y.i < (100:Int)) with
   | false=>exact .inr ⟨_,_,rfl,rfl,rfl⟩
   | true=>
    have Ld:=rl h2;simp only [w1,ai,bD,av (show (0:Int)<=y.i by omega)];exact .inl ⟨_,rfl,by omega,by show y.i+1=_; omega⟩
 have b1:(nW l).by (.exit 0)=true:=by rw [hz]; rfl
 unfold sR;simp only [b1,ai];exact np (fun _=>rfl) (fun _=>rfl)
theorem aod (s:Show):(vg s).isSome=true:=by
 obtain ⟨e,z,hz,rfl⟩:∃ e z,mw s = .out e z/\e = .exit 0:=by
  unfold mw;refine bn (step:=mv) (fun j y=>y.i=(j:Int)) (fun e _=>e = .exit 0) 300 (by decide) (fun j y hj f1=>?_) rfl;have w1:ak (y.i+1)=y.i+1:=aj;unfold mv bj;cases h:decide (y.i < ((y.s.items.n:Nat):Int)) with
  | false=>exact .inr ⟨_,_,rfl,rfl,rfl⟩
  | true=>
   cases h2:decide (y.i < (300:Int)) with
   | false=>exact .inr ⟨_,_,rfl,rfl,rfl⟩
   | true=>
    have Ld:=rl h2;simp only [w1,ai,bD,av (show (0:Int)<=y.i by omega)];exact .inl ⟨_,rfl,by omega,by show y.i+1=_; omega⟩
 have b1:(mw s).by (.exit 0)=true:=by rw [hz]; rfl
 have e1:(Aq s).isSome=true:=al9 _;unfold vg;simp only [b1,e1,ai];exact np (fun _=>rfl) (fun _=>np (fun _=>rfl) (fun _=>rfl))
def KL (a b:aU):Prop:=a.item < b.item\/a.item=b.item/\(a.cl < b.cl\/a.cl=b.cl/\a.part < b.part)
theorem apB (s:Show) (c:aE):(jc s c).Pairwise (fun p q=>KL p.dX q.dX):=by
 unfold jc;refine List.pairwise_flatMap.2 ⟨fun i _=>?_,List.pairwise_lt_range.imp fun {i j} vD p hp q hq=>?_⟩
 ·unfold Jm
  refine List.pairwise_flatMap.2 ⟨fun k _=>?_,List.pairwise_lt_range.imp fun {k m} ZF p hp q hq=>?_⟩
  ·unfold ND
   refine List.pairwise_map.2 (List.pairwise_lt_range.imp fun {a b} hab=>?_);exact .inr ⟨rfl,.inr ⟨rfl,by show (a:Int) < (b:Int); omega⟩⟩
  ·unfold ND at hp hq
   obtain ⟨a,_,rfl⟩:=HK.1 hp;obtain ⟨b,_,rfl⟩:=HK.1 hq;exact .inr ⟨rfl,.inl (by show (k:Int) < (m:Int); omega)⟩
 ·unfold Jm at hp hq
  obtain ⟨k,_,hp⟩:=QQ.1 hp;obtain ⟨m,_,hq⟩:=QQ.1 hq;unfold ND at hp hq;obtain ⟨a,_,rfl⟩:=HK.1 hp;obtain ⟨b,_,rfl⟩:=HK.1 hq;exact .inl (by show (i:Int) < (j:Int); omega)
theorem arN (s:Show) (c:aE) (x y:Int):(ru x y (jc s c)).Pairwise KL:=by
 unfold ru;refine List.pairwise_filterMap.2 ((apB s c).imp fun {p q} h f hf g hg=>?_);obtain ⟨a1,a2,a3⟩:=adD hf;obtain ⟨b1,b2,b3⟩:=adD hg;unfold KL at *;rw [a1,a2,a3,b1,b2,b3];exact h
theorem aiS {α:Type} {lt:α->α->Prop} (aqJ:∀ a b,lt a b->lt b a->False):∀ {A B:List α},A.Pairwise lt->B.Pairwise lt->(∀ v,v∈A↔v∈B)->A=B
 | [],[],_,_,_=>rfl
 | [],b::B,_,_,h=>absurd ((h b).2 (Kh ..)) (by simp)
 | a::A,[],_,_,h=>absurd ((h a).1 (Kh ..)) (by simp)
 | a::A,b::B,hA,hB,h=>by
  obtain ⟨ha,hA'⟩:=List.pairwise_cons.1 hA;obtain ⟨hb,hB'⟩:=List.pairwise_cons.1 hB;have hab:a=b:=by
   rcases fp.1 ((h a).1 (Kh ..)) with e | e
   ·exact e
   ·rcases fp.1 ((h b).2 (Kh ..)) with e' | e'
    ·exact e'.symm
    ·exact (aqJ _ _ (ha b e') (hb a e)).elim
  subst hab;rw [aiS aqJ hA' hB' fun v=>⟨fun hv=>by
   rcases fp.1 ((h v).1 (vV _ hv)) with e | e
   ·subst e; exact (aqJ _ _ (ha v hv) (ha v hv)).elim
   ·exact e,fun hv=>by
   rcases fp.1 ((h v).2 (vV _ hv)) with e | e
   ·subst e; exact (aqJ _ _ (hb v hv) (hb v hv)).elim
   ·exact e⟩]
theorem arO {α:Type} {R:α->α->Prop} {G:Sl α} (h:(bH G).Pairwise R):∀ i j,i < j->j < G.n->R (G.get i) (G.get j):=fun i j vD hj=>by
 have:=List.pairwise_iff_getElem.1 h i j (by rw [gg]; omega) (by rw [gg]; omega) vD;have e1:=Ep G i (by omega);have e2:=Ep G j (by omega);rw [dF (by rw [gg]; omega)] at e1 e2;rw [qw e1,qw e2] at this;exact this
theorem arP {α:Type} {R:α->α->Prop} {G:Sl α} (h:∀ i j,i < j->j < G.n->R (G.get i) (G.get j)):(bH G).Pairwise R:=by
 unfold bH;refine List.pairwise_map.2 (List.pairwise_iff_getElem.2 fun i j hi hj vD=>?_);rw [List.getElem_range,List.getElem_range];exact h i j vD (by simpa using hj)
def Hv (s:Show) (f:aU):Int:=(s.items.get (Int.toNat f.item)).look.bin
def zF (s:Show) (w:aU×Bool) (b:Int) (f:aU):Bool:=xo s w f&&(Hv s f==b)
def si (s:Show) (w:aU×Bool) (l:List aU) (n:Nat):List aU:=(List.range n).flatMap fun (b:Nat)=>l.filter (zF s w (b:Int))
theorem aoe (s:Show) (c:aE) (r:aI) (ground:Color) (x y:Int) (hk:F8 s c r):aiR r ground x y=lz s (cond (xp s c x y).2 (jr s (xp s c x y).1) ground) (si s (xp s c x y) (ru x y (jc s c)) 16):=by
 have atQ:=arN s c x y;obtain ⟨D,h1,h2,h3⟩:=aeY s c r ground x y KL hk.looks hk.dc hk.parts hk.n (fun G hG=>fun i j vD hj=>by
  have:(bH G).Pairwise KL:=by rw [hG]; exact atQ.filter _
  exact arO this i j vD hj)
 have e:bH D=si s (xp s c x y) (ru x y (jc s c)) 16:=by
  refine aiS (lt:=(bQ r KL).lt) (fun a b h h'=>?_) (arP fun i j vD hj=>h2 i j (cP _) vD hj) ?_ (fun v=>?_)
  ·unfold Ord.lt bQ KL at h h'
   simp only at h h';generalize ca r a=ka at *;generalize ca r b=kb at *;omega
  ·unfold si
   have key:∀ v b,zF s (xp s c x y) b v=true->ca r v=b:=fun v b hv=>by
    unfold zF at hv;rw [aD] at hv;have:Hv s v=b:=by simpa using hv.2
    rw [<- this,<- hk.dc];rfl
   refine List.pairwise_flatMap.2 ⟨fun b _=>?_,List.pairwise_lt_range.imp fun {a b} hab p hp q hq=>?_⟩
   ·refine List.Pairwise.imp_of_mem (R:=KL) (fun {p q} hp hq h=>?_) (atQ.filter _)
    have kp:=key _ _ (List.mem_filter.1 hp).2;have kq:=key _ _ (List.mem_filter.1 hq).2;exact .inr ⟨kp.trans kq.symm,h⟩
   ·have kp:=key _ _ (List.mem_filter.1 hp).2
    have kq:=key _ _ (List.mem_filter.1 hq).2;refine .inl ?_;show ca r p < ca r q;rw [kp,kq];omega
  ·have m1:v∈bH D↔v∈(ru x y (jc s c)).filter (xo s (xp s c x y)):=⟨fun h=>VN h3 h,fun h=>VN (fun p=>(h3 p).symm) h⟩
   rw [m1];unfold si;constructor
   ·intro h
    obtain ⟨h4,h5⟩:=List.mem_filter.1 h;obtain ⟨i1,i2⟩:=QA h4;have hl:=Qs (hk.looks.2 (Int.toNat v.item) (by omega));have hb0:0<=Hv s v/\Hv s v<=15:=⟨hl.n0,hl.n1⟩
    refine QQ.2 ⟨Int.toNat (Hv s v),A4.2 (by omega),List.mem_filter.2 ⟨h4,?_⟩⟩;unfold zF;rw [h5,Int.toNat_of_nonneg hb0.1];simp
   ·intro h
    obtain ⟨b,_,h4⟩:=QQ.1 h;obtain ⟨h5,h6⟩:=List.mem_filter.1 h4;unfold zF at h6;rw [aD] at h6;exact List.mem_filter.2 ⟨h5,h6.1⟩
 have h1' : hQ r ground x y=some (lz s (cond (xp s c x y).2 (jr s (xp s c x y).1) ground) (bH D)):=h1;unfold aiR;rw [h1',e];rfl
theorem aof (s:Show) (g:Color) (l:List aU) (f:aU):lz s g (l++[f])=lay (jr s f) (lz s g l):=by
 unfold lz;rw [List.foldl_append];rfl
theorem ajJ (s:Show) (g:Color) (l m:List aU):lz s g (l++m)=lz s (lz s g l) m:=by
 unfold lz;rw [List.foldl_append]
end Go.Proofs.YtchbpckkmgcgkaaGreat.b
end
section
namespace Go.Proofs.YtchbpckkmgcgkaaGreat.b
open Go.K
noncomputable section
def yW (a:aU) (b:aU):Option (Bool):=(cond (a.d != b.d) (some ((decide (a.d > b.d)))) (cond (a.item != b.item) (some ((decide (a.item < b.item)))) (cond (a.cl != b.cl) (some ((decide (a.cl < b.cl)))) (some ((decide (a.part < b.part)))))))
theorem afE (a:aU) (b:aU):hJ [] [] 115 [iY a,iY b] = (yW a b).map kB:=by
 unfold yW
 try simp only [aY]
 kernel_rfl
def OW:List KV->KR KV:=bd PG 115 (bg kB fun vs=>yW (im (v9 vs 0)) (im (v9 vs 1)))
theorem QD:a9 PG 115 OW:=bM ao.nil aL.nil fun w=>afE (im (g0 48 (w 0))) (im (g0 48 (w 1)))
structure n5 where
 l:(Sl aU)
 t5:Bool
 n6:Bool
 i:Int
 s:Show
 t4:aU
 Dc:aU
instance:Inhabited n5:=⟨by constructor<;>exact default⟩
def JH (x:n5):List KV:=[fL 48 iY x.l,.bool x.t5,.bool x.n6,.int .i64 x.i]
def JI (x:n5):List (List KV):=[sP x.s,Ze x.t4,Ze x.Dc]
def Ts (vs:List KV) (rs:List (List KV)):n5:=⟨fg im (v9 vs 0),kN (v9 vs 1),kN (v9 vs 2),intOf (v9 vs 3),sQ (r9 rs 0),Zf (r9 rs 1),Zf (r9 rs 2)⟩
def VO:aQ:=⟨[(1,w9 (n9 48)),(5,w9 b9),(7,w9 b9),(8,w9 i9)],[(2,[n9 111,n9 114],1),(4,[i9,i9,i9,i9,i9,i9],1),(6,[i9,i9,i9,i9,i9,i9],1)],[(2,0,0),(4,1,0),(6,2,0)]⟩
def afF:=uj [(115,OW)] [] 58 58 VO
def BM (x:n5):=yW (x.l.get (Int.toNat x.i)) x.Dc
def vr (x:n5):aJ n5:=(cond (bj x.i x.l.n) (.next ⟨x.l,x.t5,true,(ak (x.i+1)),x.s,x.t4,(x.l.get (Int.toNat x.i))⟩) .fail)
def rY (x:n5):aJ n5:=(cond (decide (x.i < (x.l.n:Int))) (cond (bj x.i x.l.n) (cond (bj (x.l.get (Int.toNat x.i)).item x.s.items.n) (cond (!(x.s.items.get (Int.toNat (x.l.get (Int.toNat x.i)).item)).look.Ai) (cond (!x.n6)
    (vr x) (cond (bj x.i x.l.n) (cond (BM x).isSome (cond ((BM x).getD default)
     (vr x) (.next ⟨x.l,x.t5,x.n6,(ak (x.i+1)),x.s,x.t4,x.Dc⟩)) .fail) .fail)) (.next ⟨x.l,x.t5,x.n6,(ak (x.i+1)),x.s,x.t4,x.Dc⟩)) .fail) .fail) (.out (aF.aq.exit 0) x))
theorem abI (x:n5):afF (JH x) (JI x)=aJ.enc JH JI (rY x):=by
 unfold rY vr bj
 try simp only [aJ.bz]
 kernel_rfl
def VP:Lp:=⟨58,58,VO,fun vs rs=>bT JH JI (goN rY (Ts vs rs)) [aF.aq.exit 0],false⟩
theorem afG:VP.Ok PG:=tl (ao.cons QD ao.nil) aL.nil (pa:=Ts) abI
def vM (s:Show) (l:(Sl aU)):=goN rY ⟨l,false,false,0,s,⟨0,0,0,0,0,0⟩,⟨0,0,0,0,0,0⟩⟩
def xH (s:Show) (l:(Sl aU)):Option (aU×Bool):=(cond ((vM s l).by (aF.aq.exit 0)) (some ((vM s l).st.Dc,(vM s l).st.n6)) none)
theorem ajK (s:Show) (l:(Sl aU)):hJ [(115,OW)] [VP] 58 [uB s,(fL 48 iY) l] = (xH s l).map (fun (r:aU×Bool)=>KV.lP [iY r.1,kB r.2]):=by
 unfold xH
 try simp only [aY]
 kernel_rfl
def AP:List KV->KR KV:=bd PG 58 (bg (fun (r:aU×Bool)=>KV.lP [iY r.1,kB r.2]) fun vs=>xH (kL (v9 vs 0)) ((fg im) (v9 vs 1)))
theorem xq:a9 PG 58 AP:=bM (ao.cons QD ao.nil) (hH afG aL.nil) fun w=>ajK (kL (g0 25 (w 0))) ((fg im) (g0 42 (w 1)))
def F9 (s:Show) (c:aE):=BJ s
def MC (s:Show) (c:aE):=BA c
def BN (s:Show) (c:aE):Option (Int):=(cond (F9 s c).isSome (cond (((F9 s c).getD default)==0) (cond (MC s c).isSome (some (((MC s c).getD default))) none) (some (((F9 s c).getD default)))) none)
theorem aiT (s:Show) (c:aE):hJ [(89,abc),(20,abA)] [] 49 [uB s,qF c] = (BN s c).map (kI .i64):=by
 unfold BN
 try simp only [aY]
 kernel_rfl
def KF:List KV->KR KV:=bd PG 49 (bg (kI .i64) fun vs=>BN (kL (v9 vs 0)) (gZ (v9 vs 1)))
theorem JJ:a9 PG 49 KF:=bM (ao.cons afp (ao.cons afA ao.nil)) aL.nil fun w=>aiT (kL (g0 25 (w 0))) (gZ (g0 31 (w 1)))
def BO (t:bF) (u:Int) (v:Int):Option (Color):=(cond (bj (ak ((ak ((ak (Int.tdiv (ak (v * t.h)) 256)) * t.w))+(ak (Int.tdiv (ak (u * t.w)) 256)))) t.dH.n) (some ((t.dH.get (Int.toNat (ak ((ak ((ak (Int.tdiv (ak (v * t.h)) 256)) * t.w))+(ak (Int.tdiv (ak (u * t.w)) 256)))))))) none)
theorem aiU (t:bF) (u:Int) (v:Int):hJ [] [] 194 [iy t,(kI .i64) u,(kI .i64) v] = (BO t u v).map fH:=by
 unfold BO bj
 try simp only [aY]
 kernel_rfl
def abJ:List KV->KR KV:=bd PG 194 (bg fH fun vs=>BO (en (v9 vs 0)) (intOf (v9 vs 1)) (intOf (v9 vs 2)))
theorem afH:a9 PG 194 abJ:=bM ao.nil aL.nil fun w=>aiU (en (g0 114 (w 0))) (intOf (g0 3 (w 1))) (intOf (g0 3 (w 2)))
def Zz (a:Color) (b:Color):Option (Color):=(some (⟨(w8 (ak (Int.tdiv (ak ((ak a.e0) * (ak b.e0))) 255))),(w8 (ak (Int.tdiv (ak ((ak a.e1) * (ak b.e1))) 255))),(w8 (ak (Int.tdiv (ak ((ak a.e2) * (ak b.e2))) 255))),(w8 (ak (Int.tdiv (ak ((ak a.e3) * (ak b.e3))) 255)))⟩))
theorem ama (a:Color) (b:Color):hJ [] [] 193 [fH a,fH b] = (Zz a b).map fH:=by
 unfold Zz
 kernel_rfl
def aiV:List KV->KR KV:=bd PG 193 (bg fH fun vs=>Zz (jA (v9 vs 0)) (jA (v9 vs 1)))
theorem ajL:a9 PG 193 aiV:=bM ao.nil aL.nil fun w=>ama (jA (g0 33 (w 0))) (jA (g0 33 (w 1)))
def qY (l:yx) (au:(Sl bF)) (u:Int) (v:Int):=BO (au.get (Int.toNat l.iG)) u v
def pY (l:yx) (au:(Sl bF)) (u:Int) (v:Int):Option (Color):=(cond (decide (l.iG < 0)) (some (l.color)) (cond (bj l.iG au.n) (cond (qY l au u v).isSome (some (⟨(w8 (ak (Int.tdiv (ak ((ak l.color.e0) * (ak ((qY l au u v).getD default).e0))) 255))),(w8 (ak (Int.tdiv (ak ((ak l.color.e1) * (ak ((qY l au u v).getD default).e1))) 255))),(w8 (ak (Int.tdiv (ak ((ak l.color.e2) * (ak ((qY l au u v).getD default).e2))) 255))),(w8 (ak (Int.tdiv (ak ((ak l.color.e3) * (ak ((qY l au u v).getD default).e3))) 255)))⟩)) none) none))
theorem adF (l:yx) (au:(Sl bF)) (u:Int) (v:Int):hJ [(193,aiV),(194,abJ)] [] 155 [alG l,(fL 114 iy) au,(kI .i64) u,(kI .i64) v] = (pY l au u v).map fH:=by
 unfold pY bj
 try simp only [aY]
 kernel_rfl
def VQ:List KV->KR KV:=bd PG 155 (bg fH fun vs=>pY (Vd (v9 vs 0)) ((fg en) (v9 vs 1)) (intOf (v9 vs 2)) (intOf (v9 vs 3)))
theorem abK:a9 PG 155 VQ:=bM (ao.cons ajL (ao.cons afH ao.nil)) aL.nil fun w=>adF (Vd (g0 107 (w 0))) ((fg en) (g0 23 (w 1))) (intOf (g0 3 (w 2))) (intOf (g0 3 (w 3)))
def Ez (top:Color) (under:Color):Option (Color):=(some (⟨(w8 (ak (Int.tdiv (ak ((ak ((ak top.e0) * (ak top.e3)))+(ak ((ak under.e0) * (ak (255 - (ak top.e3))))))) 255))),(w8 (ak (Int.tdiv (ak ((ak ((ak top.e1) * (ak top.e3)))+(ak ((ak under.e1) * (ak (255 - (ak top.e3))))))) 255))),(w8 (ak (Int.tdiv (ak ((ak ((ak top.e2) * (ak top.e3)))+(ak ((ak under.e2) * (ak (255 - (ak top.e3))))))) 255))),(w8 (ak ((ak top.e3)+(ak (Int.tdiv (ak ((ak under.e3) * (ak (255 - (ak top.e3))))) 255)))))⟩))
theorem ajM (top:Color) (under:Color):hJ [] [] 122 [fH top,fH under] = (Ez top under).map fH:=by
 unfold Ez
 kernel_rfl
def NV:List KV->KR KV:=bd PG 122 (bg fH fun vs=>Ez (jA (v9 vs 0)) (jA (v9 vs 1)))
theorem MD:a9 PG 122 NV:=bM ao.nil aL.nil fun w=>ajM (jA (g0 33 (w 0))) (jA (g0 33 (w 1)))
def Ga (s:Show) (f:aU):=pY (s.items.get (Int.toNat f.item)).look s.au f.u f.v
def vt (s:Show) (f:aU):Option (Color):=(cond (bj f.item s.items.n) (cond (Ga s f).isSome (some (((Ga s f).getD default))) none) none)
theorem aiW (s:Show) (f:aU):hJ [(155,VQ)] [] 121 [uB s,iY f] = (vt s f).map fH:=by
 unfold vt bj
 try simp only [aY]
 kernel_rfl
def KG:List KV->KR KV:=bd PG 121 (bg fH fun vs=>vt (kL (v9 vs 0)) (im (v9 vs 1)))
theorem JK:a9 PG 121 KG:=bM (ao.cons abK ao.nil) aL.nil fun w=>aiW (kL (g0 25 (w 0))) (im (g0 48 (w 1)))
structure mG where
 l:(Sl aU)
 n6:Bool
 bin:Int
 s:Show
 t6:Color
 Dc:aU
 color:Color
instance:Inhabited mG:=⟨by constructor<;>exact default⟩
def CF (x:mG):List KV:=[fL 48 iY x.l,.bool x.n6,.int .i64 x.bin]
def CG (x:mG):List (List KV):=[sP x.s,Fz x.t6,Ze x.Dc,Fz x.color]
def Kc (vs:List KV) (rs:List (List KV)):mG:=⟨fg im (v9 vs 0),kN (v9 vs 1),intOf (v9 vs 2),sQ (r9 rs 0),FB (r9 rs 1),Zf (r9 rs 2),FB (r9 rs 3)⟩
def MF:aQ:=⟨[(1,w9 (n9 48)),(8,w9 b9),(10,w9 i9)],[(3,[n9 111,n9 114],1),(6,[u9,u9,u9,u9],1),(7,[i9,i9,i9,i9,i9,i9],1),(9,[u9,u9,u9,u9],1)],[(3,0,0),(6,1,0),(7,2,0),(9,3,0)]⟩
structure fK where
 l:(Sl aU)
 n6:Bool
 bin:Int
 i:Int
 s:Show
 t6:Color
 Dc:aU
 color:Color
instance:Inhabited fK:=⟨by constructor<;>exact default⟩
def zf (x:fK):List KV:=[fL 48 iY x.l,.bool x.n6,.int .i64 x.bin,.int .i64 x.i]
def zg (x:fK):List (List KV):=[sP x.s,Fz x.t6,Ze x.Dc,Fz x.color]
def Gy (vs:List KV) (rs:List (List KV)):fK:=⟨fg im (v9 vs 0),kN (v9 vs 1),intOf (v9 vs 2),intOf (v9 vs 3),sQ (r9 rs 0),FB (r9 rs 1),Zf (r9 rs 2),FB (r9 rs 3)⟩
def I2:aQ:=⟨[(1,w9 (n9 48)),(8,w9 b9),(10,w9 i9),(11,w9 i9)],[(3,[n9 111,n9 114],1),(6,[u9,u9,u9,u9],1),(7,[i9,i9,i9,i9,i9,i9],1),(9,[u9,u9,u9,u9],1)],[(3,0,0),(6,1,0),(7,2,0),(9,3,0)]⟩
def TP:=uj [(122,NV),(121,KG),(58,AP)] [] 60 16018 I2
def dy (x:fK):=vt x.s (x.l.get (Int.toNat x.i))
def pZ (x:fK):aJ fK:=(cond (bj x.i x.l.n) (cond (dy x).isSome (.next ⟨x.l,x.n6,x.bin,(ak (x.i+1)),x.s,x.t6,x.Dc,⟨(w8 (ak (Int.tdiv (ak ((ak ((ak ((dy x).getD default).e0) * (ak ((dy x).getD default).e3)))+(ak ((ak x.color.e0) * (ak (255 - (ak ((dy x).getD default).e3))))))) 255))),(w8 (ak (Int.tdiv (ak ((ak ((ak ((dy x).getD default).e1) * (ak ((dy x).getD default).e3)))+(ak ((ak x.color.e1) * (ak (255 - (ak ((dy x).getD default).e3))))))) 255))),(w8 (ak (Int.tdiv (ak ((ak ((ak ((dy x).getD default).e2) * (ak ((dy x).getD default).e3)))+(ak ((ak x.color.e2) * (ak (255 - (ak ((dy x).getD default).e3))))))) 255))),(w8 (ak ((ak ((dy x).getD default).e3)+(ak (Int.tdiv (ak ((ak x.color.e3) * (ak (255 - (ak ((dy x).getD default).e3))))) 255)))))⟩⟩) .fail) .fail)
def jL (x:fK):aJ fK:=(cond (decide (x.i < (x.l.n:Int))) (cond (bj x.i x.l.n) (cond (bj (x.l.get (Int.toNat x.i)).item x.s.items.n) (cond (x.s.items.get (Int.toNat (x.l.get (Int.toNat x.i)).item)).look.Ai (cond ((x.s.items.get (Int.toNat (x.l.get (Int.toNat x.i)).item)).look.bin==x.bin) (cond (!x.n6)
    (pZ x) (cond (bj x.i x.l.n) (cond (decide ((x.l.get (Int.toNat x.i)).d > x.Dc.d))
     (pZ x) (.next ⟨x.l,x.n6,x.bin,(ak (x.i+1)),x.s,x.t6,x.Dc,x.color⟩)) .fail)) (.next ⟨x.l,x.n6,x.bin,(ak (x.i+1)),x.s,x.t6,x.Dc,x.color⟩)) (.next ⟨x.l,x.n6,x.bin,(ak (x.i+1)),x.s,x.t6,x.Dc,x.color⟩)) .fail) .fail) (.out (aF.aq.exit 2) x))
theorem QE (x:fK):TP (zf x) (zg x)=aJ.enc zf zg (jL x):=by
 unfold jL pZ bj
 try simp only [aJ.bz]
 kernel_rfl
def AQ:Lp:=⟨60,16018,I2,fun vs rs=>bT zf zg (goN jL (Gy vs rs)) [aF.aq.exit 2],false⟩
theorem Gz:AQ.Ok PG:=tl (ao.cons MD (ao.cons JK (ao.cons xq ao.nil))) aL.nil (pa:=Gy) QE
def Xp:=uj [(122,NV),(121,KG),(58,AP)] [AQ] 60 250 MF
def ja (x:mG):=goN jL ⟨x.l,x.n6,x.bin,0,x.s,x.t6,x.Dc,x.color⟩
def ju (x:mG):aJ mG:=(cond (decide (x.bin<=15)) (cond ((ja x).by (aF.aq.exit 2)) (.next ⟨(ja x).st.l,(ja x).st.n6,(ak ((ja x).st.bin+1)),(ja x).st.s,(ja x).st.t6,(ja x).st.Dc,(ja x).st.color⟩) .fail) (.out (aF.aq.exit 0) x))
theorem TQ (x:mG):Xp (CF x) (CG x)=aJ.enc CF CG (ju x):=by
 unfold ju
 try simp only [aJ.bz]
 kernel_rfl
def MG:Lp:=⟨60,250,MF,fun vs rs=>bT CF CG (goN ju (Kc vs rs)) [aF.aq.exit 0],false⟩
theorem Xq:MG.Ok PG:=tl (ao.cons MD (ao.cons JK (ao.cons xq ao.nil))) (hH Gz aL.nil) (pa:=Kc) TQ
def ph (s:Show) (l:(Sl aU)) (ground:Color):=xH s l
def BP (s:Show) (l:(Sl aU)) (ground:Color):=vt s ((ph s l ground).getD default).fst
def BQ (s:Show) (l:(Sl aU)) (ground:Color):=goN ju ⟨l,((ph s l ground).getD default).snd,0,s,⟨0,0,0,0⟩,((ph s l ground).getD default).fst,((BP s l ground).getD default)⟩
def BR (s:Show) (l:(Sl aU)) (ground:Color):=goN ju ⟨l,((ph s l ground).getD default).snd,0,s,⟨0,0,0,0⟩,((ph s l ground).getD default).fst,ground⟩
def ud (s:Show) (l:(Sl aU)) (ground:Color):Option (Color):=(cond (ph s l ground).isSome (cond ((ph s l ground).getD default).snd (cond (BP s l ground).isSome (cond ((BQ s l ground).by (aF.aq.exit 0)) (some ((BQ s l ground).st.color)) none) none) (cond ((BR s l ground).by (aF.aq.exit 0)) (some ((BR s l ground).st.color)) none)) none)
theorem adG (s:Show) (l:(Sl aU)) (ground:Color):hJ [(122,NV),(121,KG),(58,AP)] [AQ,MG] 60 [uB s,(fL 48 iY) l,fH ground] = (ud s l ground).map fH:=by
 unfold ud
 try simp only [aY]
 kernel_rfl
def Gb:List KV->KR KV:=bd PG 60 (bg fH fun vs=>ud (kL (v9 vs 0)) ((fg im) (v9 vs 1)) (jA (v9 vs 2)))
theorem Gc:a9 PG 60 Gb:=bM (ao.cons MD (ao.cons JK (ao.cons xq ao.nil))) (hH Gz (hH Xq aL.nil)) fun w=>adG (kL (g0 25 (w 0))) ((fg im) (g0 42 (w 1))) (jA (g0 33 (w 2)))
structure bc where
 t:aK
 item:Int
 cl:Int
 part:Int
instance:Inhabited bc:=⟨⟨default,default,default,default⟩⟩
def Xr (x:bc):List KV:=[.int .i64 x.t.e0.x,.int .i64 x.t.e0.y,.int .i64 x.t.e0.d,.int .i64 x.t.e0.u,.int .i64 x.t.e0.v,.int .i64 x.t.e1.x,.int .i64 x.t.e1.y,.int .i64 x.t.e1.d,.int .i64 x.t.e1.u,.int .i64 x.t.e1.v,.int .i64 x.t.e2.x,.int .i64 x.t.e2.y,.int .i64 x.t.e2.d,.int .i64 x.t.e2.u,.int .i64 x.t.e2.v,.int .i64 x.item,.int .i64 x.cl,.int .i64 x.part]
def ew (x:bc):KV:=.agg (Xr x)
def Xs (c:Nat->KV):bc:=⟨⟨⟨intOf (c 0),intOf (c 1),intOf (c 2),intOf (c 3),intOf (c 4)⟩,⟨intOf (c 5),intOf (c 6),intOf (c 7),intOf (c 8),intOf (c 9)⟩,⟨intOf (c 10),intOf (c 11),intOf (c 12),intOf (c 13),intOf (c 14)⟩⟩,intOf (c 15),intOf (c 16),intOf (c 17)⟩
def eQ (v:KV):bc:=Xs fun k=>v.cells.getD k .bG
theorem TR (x:bc):eQ (ew x)=x:=rfl
theorem TS:eQ .bG=default:=rfl
theorem QF (s:Sl bc) (v:bc):s.push v=kX eQ (s.n+1) (dS s.n (fun i=>ew (s.get i)) (qy [ew v])):=(yN TR TS s v).symm
structure sV where
 l:(Sl bc)
 x:Int
 y:Int
 t8:(Sl aU)
 out:(Sl aU)
 i:Int
 s:Show
instance:Inhabited sV:=⟨by constructor<;>exact default⟩
def OX (x:sV):List KV:=[fL 200 ew x.l,.int .i64 x.x,.int .i64 x.y,fL 48 iY x.t8,fL 48 iY x.out,.int .i64 x.i]
def OY (x:sV):List (List KV):=[sP x.s]
def Yo (vs:List KV) (rs:List (List KV)):sV:=⟨fg eQ (v9 vs 0),intOf (v9 vs 1),intOf (v9 vs 2),fg im (v9 vs 3),fg im (v9 vs 4),intOf (v9 vs 5),sQ (r9 rs 0)⟩
def abL:aQ:=⟨[(1,w9 (n9 200)),(2,w9 i9),(3,w9 i9),(8,w9 (n9 48)),(9,⟨false,[.aZ 48]⟩),(10,w9 i9)],[(4,[n9 111,n9 114],1)],[(4,0,0)]⟩
def ajN:=uj [(112,adg),(111,Zj)] [] 55 58 abL
def Gd (x:sV):=Hd (x.l.get (Int.toNat x.i)).t x.x x.y
def xr (x:sV):=K1 (x.l.get (Int.toNat x.i)).t x.x x.y
def uN (x:sV):aJ sV:=(cond (decide (x.i < (x.l.n:Int))) (cond (bj x.i x.l.n) (cond (Gd x).isSome (cond ((Gd x).getD default) (cond (bj x.i x.l.n) (cond (xr x).isSome (cond (bj x.i x.l.n) (cond (bj (x.l.get (Int.toNat x.i)).item x.s.items.n) (cond (bj x.i x.l.n) (cond (bj x.i x.l.n) (cond (bj x.i x.l.n) (cond (nm 48 x.out.n 1) (cond (aC (x.out.n+1)) (.next ⟨x.l,x.x,x.y,x.t8,(x.out.push ⟨(ak (((xr x).getD default).d+(x.s.items.get (Int.toNat (x.l.get (Int.toNat x.i)).item)).look.FC)),(x.l.get (Int.toNat x.i)).item,(x.l.get (Int.toNat x.i)).cl,(x.l.get (Int.toNat x.i)).part,((xr x).getD default).u,((xr x).getD default).v⟩),(ak (x.i+1)),x.s⟩) .fail) .fail) .fail) .fail) .fail) .fail) .fail) .fail) .fail) (cond (aC x.out.n) (.next ⟨x.l,x.x,x.y,x.t8,x.out,(ak (x.i+1)),x.s⟩) .fail)) .fail) .fail) (cond (aC x.out.n) (.out (aF.aq.exit 0) x) .fail))
theorem afI (x:sV):ajN (OX x) (OY x)=aJ.enc OX OY (uN x):=by
 unfold uN bj nm aC
 try simp only [aJ.bz,aii]
 kernel_rfl
def abM:Lp:=⟨55,58,abL,fun vs rs=>bT OX OY (goN uN (Yo vs rs)) [aF.aq.exit 0],false⟩
theorem ajO:abM.Ok PG:=tl (ao.cons aba (ao.cons Yg ao.nil)) aL.nil (pa:=Yo) afI
def EA (s:Show) (l:(Sl bc)) (x:Int) (y:Int):=goN uN ⟨l,x,y,⟨0,(fun i=>⟨0,0,0,0,0,0⟩)⟩,⟨0,(fun i=>⟨0,0,0,0,0,0⟩)⟩,0,s⟩
def Hw (s:Show) (l:(Sl bc)) (x:Int) (y:Int):Option ((Sl aU)):=(cond ((EA s l x y).by (aF.aq.exit 0)) (some ((EA s l x y).st.out)) none)
theorem aog (s:Show) (l:(Sl bc)) (x:Int) (y:Int):hJ [(112,adg),(111,Zj)] [abM] 55 [uB s,(fL 200 ew) l,(kI .i64) x,(kI .i64) y] = (Hw s l x y).map (fL 48 iY):=by
 unfold Hw
 try simp only [aY]
 kernel_rfl
def WT:List KV->KR KV:=bd PG 55 (bg (fL 48 iY) fun vs=>Hw (kL (v9 vs 0)) ((fg eQ) (v9 vs 1)) (intOf (v9 vs 2)) (intOf (v9 vs 3)))
theorem SI:a9 PG 55 WT:=bM (ao.cons aba (ao.cons Yg ao.nil)) (hH ajO aL.nil) fun w=>aog (kL (g0 25 (w 0))) ((fg eQ) (g0 128 (w 1))) (intOf (g0 3 (w 2))) (intOf (g0 3 (w 3)))
end
end Go.Proofs.YtchbpckkmgcgkaaGreat.b
end
section
namespace Go.Proofs.YtchbpckkmgcgkaaGreat.b
open Go.K Go.K.hY
open Go.aF (aq)
theorem arQ (a b:aU):yW a b=some (decide (AO a b)):=by
 unfold yW;by_cases c1:a.d=b.d
 ·rw [show (a.d != b.d)=false by simpa using c1,aw]
  by_cases c2:a.item=b.item
  ·rw [show (a.item != b.item)=false by simpa using c2,aw]
   by_cases c3:a.cl=b.cl
   ·rw [show (a.cl != b.cl)=false by simpa using c3,aw]
    exact congrArg some (decide_eq_decide.2 (by unfold AO; omega))
   ·rw [show (a.cl != b.cl)=true by simpa using c3,ai]
    exact congrArg some (decide_eq_decide.2 (by unfold AO; omega))
  ·rw [show (a.item != b.item)=true by simpa using c2,ai]
   exact congrArg some (decide_eq_decide.2 (by unfold AO; omega))
 ·rw [show (a.d != b.d)=true by simpa using c1,ai]
  exact congrArg some (decide_eq_decide.2 (by unfold AO; omega))
def aqK:aU:=⟨0,0,0,0,0,0⟩
def zed (b:aU×Bool):aU×Bool:=cond b.2 b (aqK,false)
theorem arR (s:Show) (b:aU×Bool) (f:aU):zed (Kb s b f)=Kb s (zed b) f:=by
 obtain ⟨g,c⟩:=b;unfold zed Kb;cases pX s f <;> cases c <;> first | rfl | (cases hd:decide (AO f g) <;> simp [hd])
def mh (s:Show) (l:List aU):aU×Bool:=zed (uE s l)
theorem amb (s:Show) (l:List aU) (f:aU):mh s (l++[f])=Kb s (mh s l) f:=by
 unfold mh;rw [adC,arR]
theorem aiX (s:Show) (l:Sl aU) (hn:l.n<=98304) (hi:∀ j,j < l.n->0<=(l.get j).item/\(l.get j).item < (s.items.n:Int)):xH s l=some (mh s (bH l)):=by
 obtain ⟨e,z,hz,rfl,hq⟩:∃ e z,vM s l = .out e z/\(e = .exit 0/\(z.Dc,z.n6)=mh s (bH l)):=by
  unfold vM;refine bn (step:=rY) (fun j y=>y.l=l/\y.s=s/\y.i=(j:Int)/\j<=l.n/\(y.Dc,y.n6)=mh s ((bH l).take j)) _ l.n (by have:gd=1000000000000:=rfl; omega) (fun j y hj ⟨f1,f2,f3,f4,f5⟩=>?_) ⟨rfl,rfl,rfl,cP _,rfl⟩;have w1:ak (y.i+1)=y.i+1:=aj;unfold rY vr bj;by_cases bt:y.i < ((y.l.n:Nat):Int)
  ·have eH:j < l.n:=by rw [f1] at bt; omega
   have hg:y.l.get (Int.toNat y.i)=l.get j:=by rw [f1,f3,bU]
   obtain ⟨i1,i2⟩:=hi j eH;have e0:BM y=some (decide (AO (l.get j) y.Dc)):=by
    unfold BM;rw [hg]; exact arQ _ _
   have t:=K0 l j eH;have k:mh s ((bH l).take (j+1))=Kb s (y.Dc,y.n6) (l.get j):=by rw [t,amb,f5]
   have kb:pX s (l.get j)=(s.items.get (Int.toNat (l.get j).item)).look.Ai:=rfl;unfold Kb at k;rw [kb] at k;simp only [hg,f2,e0,w1,ai,bD,bx,bq,av bt,av (show (0:Int)<=y.i by omega),av i1,av i2];cases hb:(s.items.get (Int.toNat (l.get j).item)).look.Ai with
   | true=>
    rw [hb] at k;exact .inl ⟨_,rfl,eH,f1,rfl,by show y.i+1=_; omega,by omega,k.symm⟩
   | false=>
    rw [hb] at k;simp only [rK,ai];cases hy:y.n6 with
    | false=>
     rw [hy] at k;simp only [rK,ai];exact .inl ⟨_,rfl,eH,f1,rfl,by show y.i+1=_; omega,by omega,k.symm⟩
    | true=>
     rw [hy] at k;simp only [jk,aw];cases hd:decide (AO (l.get j) y.Dc) with
     | true=>
      simp only [rK,jk,ai,aw,hd] at k;exact .inl ⟨_,rfl,eH,f1,rfl,by show y.i+1=_; omega,by omega,k.symm⟩
     | false=>
      simp only [rK,jk,ai,aw,hd] at k;exact .inl ⟨_,rfl,eH,f1,rfl,by show y.i+1=_; omega,by omega,k.symm⟩
  ·simp only [aw,az bt]
   refine .inr ⟨_,_,rfl,rfl,rfl,?_⟩;rw [f5,show j=l.n by rw [f1] at bt; omega,EO (by rw [gg]; exact aW _)]
 have b1:(vM s l).by (.exit 0)=true:=by rw [hz]; rfl
 have b2:(vM s l).st=z:=by rw [hz]; rfl
 unfold xH;rw [b1,b2,ai,hq]
end Go.Proofs.YtchbpckkmgcgkaaGreat.b
end
section
namespace Go.Proofs.YtchbpckkmgcgkaaGreat.b
open Go.K
theorem VS {P:Program} : ∀ {l:List KV},Bm P l->∀ v∈l,G0 P v
 | [],_,v,hv=>by simp at hv
 | x::l,h,v,hv=>by
  simp only [Bm] at h;rcases fp.1 hv with rfl | hv
  ·exact h.1
  ·exact VS h.2 v hv
theorem yH {P:Program} {ks:List CK} {v:KV} (h:cI ⟨true,ks⟩ v=true) (hw:WX v) (hd:G0 P v) {j:Nat} {c:CK} (hj:ks[j]? = some c):K.kindOk c (v.cells.getD j .bG)=true/\WX (v.cells.getD j .bG)/\G0 P (v.cells.getD j .bG):=by
 obtain ⟨cs,rfl,hk⟩:=arj h;obtain ⟨u,h1,h2⟩:=Fa hk hj;have e:(KV.agg cs).cells.getD j .bG=u:=by
  show cs.getD j .bG=u;rw [iQ,h1];rfl
 have hm:=jj h1;rw [e];have hd' : Bm P cs:=by simpa [G0] using hd
 have hw' : Fj cs:=by simpa [WX] using hw
 exact ⟨h2,acE hw' u hm,VS hd' u hm⟩
theorem apC {P:Program} {v:KV} {T:TypeId} (h:K.kindOk (.slice T) v=true) (hw:WX v) (hd:G0 P v) {i:Nat} (hi:i < lenOf v):cI (bu P T) (vz v i)=true/\WX (vz v i)/\G0 P (vz v i):=by
 cases v with
 | ts t m n es acc=>
  have ht:T=t:=by
   cases m <;> simp [K.kindOk] at h;exact h
  subst ht;simp only [G0] at hd;simp only [WX] at hw;obtain ⟨apD,awV⟩:=hd;have hi:i < n:=hi;have hl:i < es.length:=by rw [<- apD.len]; exact hi
  have e:acc i=es.getD i .bG:=apD.acc i hi;have e2:es.getD i .bG=es[i]:=by rw [iQ,dF hl]; rfl
  show cI (bu P T) (acc i)=true/\WX (acc i)/\G0 P (acc i);rw [e,e2];exact ⟨lE apD.typed (dF hl),acE hw.2 _ (Wc hl),VS awV _ (Wc hl)⟩
 | _=>simp [K.kindOk] at h
theorem Hx {v:KV} (h:K.kindOk (.int .u8) v=true) (hw:WX v):0<=intOf v/\intOf v<=255:=by
 cases v with
 | int k n=>
  have hk:k = .u8:=by
   have:decide (IntKind.u8=k)=true:=h;exact (rl this).symm
  subst hk;have h:(Lit.int .u8 n).wf=true:=hw;simp only [Lit.wf,aD,lA] at h;show 0<=n/\n<=255;exact h
 | _=>simp [K.kindOk] at h
structure U8 (c:Color):Prop where
 e0:0<=c.e0/\c.e0<=255
 e1:0<=c.e1/\c.e1<=255
 e2:0<=c.e2/\c.e2<=255
 e3:0<=c.e3/\c.e3<=255
structure S8 (s:Show):Prop where
 col:∀ i,i < s.items.n->U8 (s.items.get i).look.color
 cA:∀ i,i < s.items.n->0<=(s.items.get i).look.cA/\(s.items.get i).look.cA<=255
 tex:∀ i,i < s.au.n->∀ k,k < (s.au.get i).dH.n->U8 ((s.au.get i).dH.get k)
noncomputable abbrev KH (a:KV):Show:=kL (vA Tryz.prog (eJ Tryz.prog iU) 25 a)
theorem avY:bu Tryz.prog 25=⟨true,[.slice 111,.slice 114]⟩:=by kernel_rfl
theorem auM:∃ ks,bu Tryz.prog 111=⟨true,ks⟩/\ks[3]? = some (.int .u8)/\ks[4]? = some (.int .u8)/\ks[5]? = some (.int .u8)/\ks[6]? = some (.int .u8)/\ks[8]? = some (.int .u8):=⟨(bu Tryz.prog 111).ks,by kernel_rfl,by kernel_rfl,by kernel_rfl,by kernel_rfl,by kernel_rfl,by kernel_rfl⟩
theorem auN:∃ ks,bu Tryz.prog 114=⟨true,ks⟩/\ks[2]? = some (.slice 33):=⟨(bu Tryz.prog 114).ks,by kernel_rfl,by kernel_rfl⟩
theorem atS:bu Tryz.prog 33=⟨true,[.int .u8,.int .u8,.int .u8,.int .u8]⟩:=by kernel_rfl
theorem avh (a:KV):(KH a).items.n=lenOf (a.cells.getD 0 .bG):=by kernel_rfl
theorem awW (a:KV):(KH a).au.n=lenOf (a.cells.getD 1 .bG):=by kernel_rfl
theorem atT (a:KV) (i:Nat):((KH a).items.get i).look.color=⟨intOf ((vz (a.cells.getD 0 .bG) i).cells.getD 3 .bG),intOf ((vz (a.cells.getD 0 .bG) i).cells.getD 4 .bG),intOf ((vz (a.cells.getD 0 .bG) i).cells.getD 5 .bG),intOf ((vz (a.cells.getD 0 .bG) i).cells.getD 6 .bG)⟩:=by kernel_rfl
theorem atU (a:KV) (i:Nat):((KH a).items.get i).look.cA=intOf ((vz (a.cells.getD 0 .bG) i).cells.getD 8 .bG):=by kernel_rfl
theorem auO (a:KV) (i:Nat):((KH a).au.get i).dH.n=lenOf ((vz (a.cells.getD 1 .bG) i).cells.getD 2 .bG):=by kernel_rfl
theorem auP (a:KV) (i k:Nat):((KH a).au.get i).dH.get k=⟨intOf ((vz ((vz (a.cells.getD 1 .bG) i).cells.getD 2 .bG) k).cells.getD 0 .bG),intOf ((vz ((vz (a.cells.getD 1 .bG) i).cells.getD 2 .bG) k).cells.getD 1 .bG),intOf ((vz ((vz (a.cells.getD 1 .bG) i).cells.getD 2 .bG) k).cells.getD 2 .bG),intOf ((vz ((vz (a.cells.getD 1 .bG) i).cells.getD 2 .bG) k).cells.getD 3 .bG)⟩:=by kernel_rfl
theorem atV {a:KV} (h:cI (bu Tryz.prog 25) a=true) (hw:WX a) (hd:G0 Tryz.prog a):S8 (KH a):=by
 rw [avY] at h;obtain ⟨i1,i2,i3⟩:=yH h hw hd (j:=0) rfl;obtain ⟨t1,t2,t3⟩:=yH h hw hd (j:=1) rfl;obtain ⟨ks,l0,l3,l4,l5,l6,l8⟩:=auM;obtain ⟨kt,m0,m2⟩:=auN;have item:∀ i,i < (KH a).items.n->∀ j c,ks[j]? = some c->K.kindOk c ((vz (a.cells.getD 0 .bG) i).cells.getD j .bG)=true/\WX ((vz (a.cells.getD 0 .bG) i).cells.getD j .bG):=fun i hi j c hj=>by
  rw [avh] at hi;obtain ⟨q1,q2,q3⟩:=apC i1 i2 i3 hi;rw [l0] at q1;obtain ⟨r1,r2,_⟩:=yH q1 q2 q3 hj;exact ⟨r1,r2⟩
 refine ⟨fun i hi=>?_,fun i hi=>?_,fun i hi k hk=>?_⟩
 ·rw [atT]
  exact ⟨Hx (item i hi 3 _ l3).1 (item i hi 3 _ l3).2,Hx (item i hi 4 _ l4).1 (item i hi 4 _ l4).2,Hx (item i hi 5 _ l5).1 (item i hi 5 _ l5).2,Hx (item i hi 6 _ l6).1 (item i hi 6 _ l6).2⟩
 ·rw [atU]
  exact Hx (item i hi 8 _ l8).1 (item i hi 8 _ l8).2
 ·rw [awW] at hi
  obtain ⟨q1,q2,q3⟩:=apC t1 t2 t3 hi;rw [m0] at q1;obtain ⟨r1,r2,r3⟩:=yH q1 q2 q3 m2;rw [auO] at hk;obtain ⟨c1,c2,c3⟩:=apC r1 r2 r3 hk;rw [atS] at c1;rw [auP];obtain ⟨x0,y0,_⟩:=yH c1 c2 c3 (j:=0) rfl;obtain ⟨x1,y1,_⟩:=yH c1 c2 c3 (j:=1) rfl;obtain ⟨x2,y2,_⟩:=yH c1 c2 c3 (j:=2) rfl;obtain ⟨x3,y3,_⟩:=yH c1 c2 c3 (j:=3) rfl;exact ⟨Hx x0 y0,Hx x1 y1,Hx x2 y2,Hx x3 y3⟩
noncomputable abbrev aiY (a:KV):Color:=jA (vA Tryz.prog (eJ Tryz.prog iU) 33 a)
theorem arS (a:KV):aiY a=⟨intOf (a.cells.getD 0 .bG),intOf (a.cells.getD 1 .bG),intOf (a.cells.getD 2 .bG),intOf (a.cells.getD 3 .bG)⟩:=by kernel_rfl
theorem arT {a:KV} (h:cI (bu Tryz.prog 33) a=true) (hw:WX a) (hd:G0 Tryz.prog a):U8 (aiY a):=by
 rw [atS] at h;rw [arS];obtain ⟨x0,y0,_⟩:=yH h hw hd (j:=0) rfl;obtain ⟨x1,y1,_⟩:=yH h hw hd (j:=1) rfl;obtain ⟨x2,y2,_⟩:=yH h hw hd (j:=2) rfl;obtain ⟨x3,y3,_⟩:=yH h hw hd (j:=3) rfl;exact ⟨Hx x0 y0,Hx x1 y1,Hx x2 y2,Hx x3 y3⟩
theorem ZA {P:Program} : ∀ {ts:List TypeId} {xs:List KV} {i:Nat} {t:TypeId},pq P ts xs=true->Fj xs->Bm P xs->ts[i]? = some t->cI (bu P t) (xs.getD i .bG)=true/\WX (xs.getD i .bG)/\G0 P (xs.getD i .bG)
 | [],_,_,_,_,_,_,h=>by simp at h
 | _::_,[],_,_,h,_,_,_=>by simp [pq] at h
 | t::ts,v::vs,i,u,h,hw,hd,ht=>by
  simp only [pq,aD] at h;cases i with
  | zero=>
   rw [List.getElem?_cons_zero] at ht;rw [<- qw ht];exact ⟨h.1,hw.1,hd.1⟩
  | succ i=>
   rw [Wb] at ht;have:=ZA (ts:=ts) (xs:=vs) (i:=i) h.2 hw.2 hd.2 ht;rw [List.getD_cons_succ];exact this
theorem arU {ts:List TypeId} {xs:List KV} (i:Nat) (ht:ts[i]? = some 25) (h:pq Tryz.prog ts xs=true) (hw:Fj xs) (hd:Bm Tryz.prog xs):S8 (KH (xs.getD i .bG)):=by
 obtain ⟨h1,h2,h3⟩:=ZA h hw hd ht;exact atV h1 h2 h3
theorem apE {ts:List TypeId} {xs:List KV} (i:Nat) (ht:ts[i]? = some 33) (h:pq Tryz.prog ts xs=true) (hw:Fj xs) (hd:Bm Tryz.prog xs):U8 (aiY (xs.getD i .bG)):=by
 obtain ⟨h1,h2,h3⟩:=ZA h hw hd ht;exact arT h1 h2 h3
end Go.Proofs.YtchbpckkmgcgkaaGreat.b
end
section
namespace Go.Proofs.YtchbpckkmgcgkaaGreat.b
open Go.K Go.K.hY
open Go.aF (aq)
theorem auQ (n:Int):w8 n=n % 256:=by
 show IntKind.wrap .u8 n=_;unfold IntKind.wrap;have hb:(2 ^ IntKind.u8.bits:Int)=256:=rfl;have hs:IntKind.u8.signed=false:=rfl;simp only [hb,hs,vW,xI,if_false]
theorem JL (n:Int):0<=w8 n/\w8 n<=255:=by
 rw [auQ];omega
theorem apF {p g:Color} (hp:U8 p) (hg:U8 g):Ez p g=some (lay p g)/\U8 (lay p g):=by
 refine ⟨?_,⟨JL _,JL _,JL _,JL _⟩⟩;unfold Ez lay Da;obtain ⟨_,_,_,a1,a2⟩:=hp;obtain ⟨_,_,_,b1,b2⟩:=hg;have m1:0<=g.e3 * (255 - p.e3):=wi b1 (by omega);have m2:g.e3 * (255 - p.e3)<=255 * 255:=CM b2 (by omega) (by omega) (by omega);have h:w8 (ak ((ak p.e3)+(ak (Int.tdiv (ak ((ak g.e3) * (ak ((255:Int) - (ak p.e3))))) (255:Int)))))=w8 (ak (Int.tdiv (ak ((ak ((255:Int) * (ak p.e3)))+(ak ((ak g.e3) * (ak ((255:Int) - (ak p.e3))))))) (255:Int))):=by
  rw [aj (n:=p.e3),aj (n:=g.e3),aj (n:=255 - p.e3),aj (n:=255 * p.e3)];generalize g.e3 * (255 - p.e3)=q at *;rw [aj (n:=q),aj (n:=255 * p.e3+q),O0 (by omega),O0 (by omega)];rw [aj (n:=q / 255),aj (by omega) (by omega),aj (by omega) (by omega)];congr 1;omega
 rw [h];rfl
theorem aoh {t:bF} {u v:Int} (h:eS t=some 0) (hu:0<=u/\u<=255) (hv:0<=v/\v<=255) (h8:∀ k,k < t.dH.n->U8 (t.dH.get k)):∃ c,th t u v=some (c,0)/\BO t u v=some c/\U8 c:=by
 obtain ⟨⟨w0,w1⟩,⟨h0,h1⟩,hn⟩:=aqG h;have e0:yG t u v=some 0:=h;have p1:0<=v * t.h/\v * t.h<=255 * 16:=⟨wi (by omega) (by omega),CM hv.2 h1 (by omega) (by omega)⟩
 have p2:0<=u * t.w/\u * t.w<=255 * 16:=⟨wi (by omega) (by omega),CM hu.2 w1 (by omega) (by omega)⟩
 have p3:v * t.h<=255 * t.h:=Int.mul_le_mul_of_nonneg_right hv.2 (by omega);have p4:u * t.w<=255 * t.w:=Int.mul_le_mul_of_nonneg_right hu.2 (by omega);have d1:Int.fdiv (v * t.h) 256=v * t.h / 256:=Int.fdiv_eq_ediv_of_nonneg _ (by decide);have d2:Int.fdiv (u * t.w) 256=u * t.w / 256:=Int.fdiv_eq_ediv_of_nonneg _ (by decide);have d3:Int.tdiv (v * t.h) 256=v * t.h / 256:=O0 p1.1;have d4:Int.tdiv (u * t.w) 256=u * t.w / 256:=O0 p2.1;have q1:0<=v * t.h / 256/\v * t.h / 256<=t.h - 1:=by omega
 have q2:0<=u * t.w / 256/\u * t.w / 256<=t.w - 1:=by omega
 have q3:0<=v * t.h / 256 * t.w/\v * t.h / 256 * t.w<=(t.h - 1) * t.w:=⟨wi q1.1 (by omega),Int.mul_le_mul_of_nonneg_right q1.2 (by omega)⟩
 have q4:(t.h - 1) * t.w=t.w * t.h - t.w:=by rw [Int.sub_mul,Int.one_mul,Int.mul_comm]
 have q5:t.w * t.h<=16 * 16:=CM w1 h1 (by omega) (by omega);refine ⟨t.dH.get (Int.toNat (v * t.h / 256 * t.w+u * t.w / 256)),?_,?_,h8 _ (by omega)⟩
 ·unfold th bj
  rw [aj (n:=v * t.h),aj (n:=u * t.w),d1,d2,aj (n:=v * t.h / 256 * t.w),aj (n:=v * t.h / 256 * t.w+u * t.w / 256)];simp only [e0,bx,bq,ai,jO,aw,az (show ¬ min u v < 0 by omega),az (show ¬ max u v > 255 by omega),av (show 0<=v * t.h / 256 * t.w+u * t.w / 256 by omega),av (show v * t.h / 256 * t.w+u * t.w / 256 < ((t.dH.n:Nat):Int) by omega),bD]
 ·unfold BO bj
  rw [aj (n:=v * t.h),aj (n:=u * t.w),d3,d4,aj (n:=v * t.h / 256),aj (n:=u * t.w / 256),aj (n:=v * t.h / 256 * t.w),aj (n:=v * t.h / 256 * t.w+u * t.w / 256)];simp only [ai,av (show 0<=v * t.h / 256 * t.w+u * t.w / 256 by omega),av (show v * t.h / 256 * t.w+u * t.w / 256 < ((t.dH.n:Nat):Int) by omega),bD]
theorem abN {s:Show} {f:aU} (hl:sC s) (h8:S8 s) (hi:0<=f.item/\f.item < (s.items.n:Int)) (hu:0<=f.u/\f.u<=255) (hv:0<=f.v/\f.v<=255):vt s f=some (jr s f)/\U8 (jr s f):=by
 have hc:=h8.col (Int.toNat f.item) (by omega);have hk:=hl.2 (Int.toNat f.item) (by omega);have ht:∀ i,i < s.au.n->∀ k,k < (s.au.get i).dH.n->U8 ((s.au.get i).dH.get k):=h8.tex;have key:pY (s.items.get (Int.toNat f.item)).look s.au f.u f.v=some (jr s f)/\U8 (jr s f):=by
  unfold jr;generalize (s.items.get (Int.toNat f.item)).look=l at *;have e0:xh l s.au f.u f.v=some 0:=hl.1;have e1:xi l s.au f.u f.v=some 0:=hk;have hi:=(Qs hk).hi;unfold rH pY bj;simp only [e0,e1,bx,bq,ai,jO,aw,az (show ¬ min f.u f.v < 0 by omega),az (show ¬ max f.u f.v > 255 by omega)];by_cases c3:l.iG < 0
  ·rw [av c3]; exact ⟨rfl,hc⟩
  ·obtain ⟨c,h1,h2,h3⟩:=aoh (u:=f.u) (v:=f.v) (Mv hl.1 (Int.toNat l.iG) (by omega)) hu hv (ht _ (by omega))
   have e2:pd l s.au f.u f.v=some (c,0):=h1;have e3:qY l s.au f.u f.v=some c:=h2;simp only [e2,e3,bx,bq,ai,aw,az c3,av (show 0<=l.iG by omega),av (show l.iG < ((s.au.n:Nat):Int) by omega),bD];exact ⟨trivial,⟨JL _,JL _,JL _,JL _⟩⟩
 have e0:Ga s f=some (jr s f):=key.1;unfold vt bj;simp only [e0,ai,bx,bq,av hi.1,av hi.2,bD];exact ⟨trivial,key.2⟩
theorem arV (s:Show) (w:aU×Bool) (b:Int):zF s (zed w) b=zF s w b:=by
 funext f;obtain ⟨g,c⟩:=w;unfold zF xo zed;cases c <;> rfl
theorem apG (s:Show) (w:aU×Bool) (l:List aU) (n:Nat):si s (zed w) l n=si s w l n:=by
 unfold si;simp only [arV]
structure abO (s:Show) (l:Sl aU):Prop where
 n:l.n<=98304
 it:∀ j,j < l.n->0<=(l.get j).item/\(l.get j).item < (s.items.n:Int)
 uv:∀ j,j < l.n->(0<=(l.get j).u/\(l.get j).u<=255)/\0<=(l.get j).v/\(l.get j).v<=255
theorem aoi {s:Show} : ∀ (l:List aU) (g:Color),U8 g->U8 (lz s g l):=fun l=>by
 induction l with
 | nil=>exact fun g h=>h
 | cons f l ih=>exact fun g h=>ih _ ⟨JL _,JL _,JL _,JL _⟩
theorem atW (s:Show) (l:Sl aU) (hl:sC s) (h8:S8 s) (hk:abO s l) (n6:Bool) (bin:Int) (f:aU) (t6 want:Color) (hw:U8 want) :
  ∃ i:Int,goN jL ⟨l,n6,bin,0,s,t6,f,want⟩ = .out (.exit 2) ⟨l,n6,bin,i,s,t6,f,lz s want ((bH l).filter (zF s (f,n6) bin))⟩:=by
 have hn:=hk.n;refine Exists.elim (bn (step:=jL) (x:=⟨l,n6,bin,0,s,t6,f,want⟩) (fun j z=>z=⟨l,n6,bin,(j:Int),s,t6,f,lz s want (((bH l).take j).filter (zF s (f,n6) bin))⟩/\j<=l.n) (fun e z=>e = .exit 2/\∃ i:Int,z=⟨l,n6,bin,i,s,t6,f,lz s want ((bH l).filter (zF s (f,n6) bin))⟩) l.n (by have:gd=1000000000000:=rfl; omega) (fun j z hj ⟨hz,hjl⟩=>?_) ⟨rfl,cP _⟩) (fun e h=>Exists.elim h fun z ⟨h1,h2,i,h3⟩=>⟨i,by rw [h1,h2,h3]⟩);subst hz;have w1:ak ((j:Int)+1)=((j+1:Nat):Int):=by rw [aj (by omega) (by omega)]; omega
 have hc8:U8 (lz s want (((bH l).take j).filter (zF s (f,n6) bin))):=aoi _ _ hw;unfold jL pZ bj;by_cases bt:(j:Int) < ((l.n:Nat):Int)
 ·have eH:j < l.n:=by omega
  obtain ⟨i1,i2⟩:=hk.it j eH;obtain ⟨u1,u2⟩:=hk.uv j eH;obtain ⟨p1,p2⟩:=abN (f:=l.get j) hl h8 ⟨i1,i2⟩ u1 u2;have e0:∀ (w:Color),dy ⟨l,n6,bin,(j:Int),s,t6,f,w⟩=some (jr s (l.get j)):=fun w=>by
   unfold dy;simp only [bU];exact p1
  have tk:((bH l).take (j+1)).filter (zF s (f,n6) bin)=((bH l).take j).filter (zF s (f,n6) bin)++cond (zF s (f,n6) bin (l.get j)) [l.get j] []:=by rw [K0 l j eH]; exact abG
  generalize hcd:lz s want (((bH l).take j).filter (zF s (f,n6) bin))=cd at *;have ov:=(apF p2 hc8).1;unfold Ez at ov;have ov:=qw ov;simp only [e0,ov,w1,bU,ai,bD,bx,bq,av bt,av (show (0:Int)<=(j:Int) by omega),av i1,av i2];have hb:(s.items.get (Int.toNat (l.get j).item)).look.Ai=pX s (l.get j):=rfl;have TD:(s.items.get (Int.toNat (l.get j).item)).look.bin=Hv s (l.get j):=rfl;rw [hb,TD];have hP:zF s (f,n6) bin (l.get j)=((pX s (l.get j)&&(!n6||decide ((l.get j).d > f.d)))&&(Hv s (l.get j)==bin)):=rfl;have no:zF s (f,n6) bin (l.get j)=false->(∃ x',(aJ.next (⟨l,n6,bin,((j+1:Nat):Int),s,t6,f,cd⟩:fK)) = .next x'/\j < l.n/\x' = ⟨l,n6,bin,((j+1:Nat):Int),s,t6,f,lz s want (((bH l).take (j+1)).filter (zF s (f,n6) bin))⟩/\j+1<=l.n):=fun hf=>
   ⟨_,rfl,eH,by rw [tk,hf,aw,py,hcd],by omega⟩
  have yes:zF s (f,n6) bin (l.get j)=true->(∃ x',(aJ.next (⟨l,n6,bin,((j+1:Nat):Int),s,t6,f,lay (jr s (l.get j)) cd⟩:fK)) = .next x'/\j < l.n/\x' = ⟨l,n6,bin,((j+1:Nat):Int),s,t6,f,lz s want (((bH l).take (j+1)).filter (zF s (f,n6) bin))⟩/\j+1<=l.n):=fun hf=>
   ⟨_,rfl,eH,by rw [tk,hf,ai,aof,hcd],by omega⟩
  cases Yz:pX s (l.get j) with
  | false=>
   rw [aw];exact .inl (no (by rw [hP,Yz]; rfl))
  | true=>
   rw [ai];by_cases hq:Hv s (l.get j)=bin
   ·have hq' : (Hv s (l.get j)==bin)=true:=by simpa using hq
    rw [hq',ai];cases n6 with
    | false=>
     rw [rK,ai];exact .inl (yes (by rw [hP,Yz,hq']; rfl))
    | true=>
     rw [jk,aw];by_cases hd:(l.get j).d > f.d
     ·rw [av hd,ai]
      exact .inl (yes (by rw [hP,Yz,hq',av hd]; rfl))
     ·rw [az hd,aw]
      exact .inl (no (by rw [hP,Yz,hq',az hd]; rfl))
   ·have hq' : (Hv s (l.get j)==bin)=false:=by simpa using hq
    rw [hq',aw];exact .inl (no (by rw [hP,hq',vX]))
 ·simp only [aw,az bt]
  refine .inr ⟨_,_,rfl,rfl,rfl,(j:Int),?_⟩;have:((bH l).take j)=bH l:=EO (by rw [gg]; omega);rw [this]
theorem aoj (s:Show) (l:Sl aU) (hl:sC s) (h8:S8 s) (hk:abO s l) (n6:Bool) (f:aU) (t6 want:Color) (hw:U8 want) :
  goN ju ⟨l,n6,0,s,t6,f,want⟩ = .out (.exit 0) ⟨l,n6,16,s,t6,f,lz s want (si s (f,n6) (bH l) 16)⟩:=by
 refine Exists.elim (bn (step:=ju) (x:=⟨l,n6,0,s,t6,f,want⟩) (fun b z=>z=⟨l,n6,(b:Int),s,t6,f,lz s want (si s (f,n6) (bH l) b)⟩/\b<=16) (fun e z=>e = .exit 0/\z=⟨l,n6,16,s,t6,f,lz s want (si s (f,n6) (bH l) 16)⟩) 16 (by decide) (fun b z hb ⟨hz,Yz⟩=>?_) ⟨rfl,cP _⟩) (fun e h=>Exists.elim h fun z ⟨h1,h2,h3⟩=>by rw [h1,h2,h3]);subst hz;have w1:ak ((b:Int)+1)=((b+1:Nat):Int):=by rw [aj (by omega) (by omega)]; omega
 unfold ju;by_cases bt:(b:Int)<=15
 ·obtain ⟨i,hi⟩:=atW s l hl h8 hk n6 (b:Int) f t6 (lz s want (si s (f,n6) (bH l) b)) (aoi _ _ hw)
  have e0:ja ⟨l,n6,(b:Int),s,t6,f,lz s want (si s (f,n6) (bH l) b)⟩ = .out (.exit 2) ⟨l,n6,(b:Int),i,s,t6,f,lz s (lz s want (si s (f,n6) (bH l) b)) ((bH l).filter (zF s (f,n6) (b:Int)))⟩:=hi;rw [e0];simp only [aJ.kO,aJ.lG,gj,mK,ai,w1,av bt];refine .inl ⟨_,rfl,by omega,?_,by omega⟩;have:si s (f,n6) (bH l) (b+1)=si s (f,n6) (bH l) b++(bH l).filter (zF s (f,n6) (b:Int)):=by
   unfold si;exact IM _ b
  rw [this,ajJ]
 ·simp only [aw,az bt]
  have:b=16:=by omega
  subst this;exact .inr ⟨_,_,rfl,rfl,rfl,rfl⟩
def sj (s:Show) (L:List aU) (g:Color):Color:=lz s (cond (uE s L).2 (jr s (uE s L).1) g) (si s (uE s L) L 16)
theorem apH (s:Show) (l:Sl aU) (g:Color) (hl:sC s) (h8:S8 s) (hk:abO s l) (hg:U8 g):ud s l g=some (sj s (bH l) g):=by
 have hb:ph s l g=some (mh s (bH l)):=aiX s l hk.n hk.it;unfold ud sj;have hz:∀ L n,si s (uE s L) L n=si s (mh s L) L n:=fun L n=>(apG _ _ _ _).symm;rw [hb,hz];simp only [bx,bq,ai];have hw:(mh s (bH l)).2=(uE s (bH l)).2:=by
  unfold mh zed;cases h:(uE s (bH l)).2
  ·rfl
  ·exact h
 cases h:(uE s (bH l)).2 with
 | false=>
  rw [hw,h,aw,aw];have e3:BR s l g = .out (.exit 0) ⟨l,(mh s (bH l)).2,16,s,⟨0,0,0,0⟩,(mh s (bH l)).1,lz s g (si s ((mh s (bH l)).1,(mh s (bH l)).2) (bH l) 16)⟩:=by
   unfold BR;rw [hb];exact aoj s l hl h8 hk (mh s (bH l)).2 (mh s (bH l)).1 ⟨0,0,0,0⟩ g hg
  rw [e3];rfl
 | true=>
  have Pd:mh s (bH l)=uE s (bH l):=by unfold mh zed; rw [h]; rfl
  have hm:(uE s (bH l)).1∈bH l:=by
   rcases WO s (bH l) with ⟨h1,_⟩ | ⟨_,h2,_⟩
   ·rw [h1] at h; simp at h
   ·exact h2
  obtain ⟨j,hj,hjg⟩:=atA hm;obtain ⟨u1,u2⟩:=hk.uv j hj;have hit:=hk.it j hj;rw [hjg] at u1 u2 hit;obtain ⟨p1,p2⟩:=abN hl h8 hit u1 u2;have e1:BP s l g=some (jr s (uE s (bH l)).1):=by
   unfold BP;rw [hb,Pd];exact p1
  have e2:BQ s l g = .out (.exit 0) ⟨l,(mh s (bH l)).2,16,s,⟨0,0,0,0⟩,(mh s (bH l)).1,lz s (jr s (uE s (bH l)).1) (si s ((mh s (bH l)).1,(mh s (bH l)).2) (bH l) 16)⟩:=by
   unfold BQ;rw [hb,e1];exact aoj s l hl h8 hk (mh s (bH l)).2 (mh s (bH l)).1 ⟨0,0,0,0⟩ _ p2
  rw [Pd,h,e1,e2,Pd];rfl
theorem MH (a b:Int) (hb:1<=b/\b<=1152921504606846976) (ha : -1152921504606846976 * 2<=a/\a<=1152921504606846976 * 2):nF a b=some (a / b):=by
 have h1:=Int.mul_ediv_add_emod a b;have h2:=Int.emod_nonneg a (show b≠0 by omega);have h3:=Int.emod_lt_of_pos a (show 0 < b by omega);have l1 : -2305843009213693952<=a / b:=Int.le_ediv_of_mul_le (by omega) (by omega);have l2:a / b<=2305843009213693952:=Int.ediv_le_of_le_mul (by omega) (by omega);have ht:Int.tdiv a b=a / b\/Int.tdiv a b=a / b+1:=by
  rw [Int.tdiv_eq_ediv];split
  ·exact .inl (by omega)
  ·exact .inr (by rw [Int.sign_eq_one_of_pos (by omega)])
 unfold nF;rw [az (show ¬ b=0 by omega),rK,ai];generalize a / b=q at *;generalize a % b=r at *;rcases ht with ht | ht
 ·rw [ht,aj (n:=q),Int.mul_comm q b,aj (n:=b * q),az (show ¬ b * q > a by omega),aw]
 ·have e:(q+1) * b=b * q+b:=by rw [Int.add_mul,Int.one_mul,Int.mul_comm]
  rw [ht,aj (n:=q+1),e,aj (n:=b * q+b),av (show b * q+b > a by omega),ai,aj (n:=q+1 - 1)];congr 1;omega
theorem BS {a b:oT} {x y:Int} (ha:KA a) (hb:KA b) (hp:Pix x y):jS a b x y=some ((b.x - a.x) * (8 * y+4 - a.y) - (8 * x+4 - a.x) * (b.y - a.y)):=by
 obtain ⟨⟨p1,p2⟩,p3,p4⟩:=hp;obtain ⟨x1,y1,_⟩:=ha;obtain ⟨x2,y2,_⟩:=hb;unfold jS;rw [aj (n:=8 * y),aj (n:=8 * x),aj (n:=8 * y+4),aj (n:=8 * x+4),alH x1 y1 x2 y2 (by omega) (by omega)]
theorem ZB (a b:oT):∃ o,xE a b=some o/\(o=true↔aqH a b):=by
 unfold xE aqH;by_cases h1:b.y < a.y
 ·rw [av h1]
  exact ⟨true,rfl,fun _=>.inl h1,fun _=>rfl⟩
 ·rw [az h1,aw]
  by_cases h2:b.y=a.y
  ·rw [show (b.y==a.y)=true by simpa using h2,ai]
   exact ⟨_,rfl,fun h=>.inr ⟨h2,rl h⟩,fun h=>av (by omega)⟩
  ·rw [show (b.y==a.y)=false by simpa using h2,aw]
   exact ⟨false,rfl,fun h=>by simp at h,fun h=>by omega⟩
def AU (P:Prop) (r:Option Bool):Prop:=∃ b,r=some b/\(b=true↔P)
theorem AU.ite {P:Prop} {c:Prop} [Decidable c] {a b:Option Bool} (h1:c->AU P a) (h2 : ¬ c->AU P b):AU P (if c then a else b):=by
 by_cases h:c
 ·rw [aV h]; exact h1 h
 ·rw [ay h]; exact h2 h
theorem arW {t:aK} {x y:Int} (hf:DS t) (hp:Pix x y):AU (VA t x y) (Hd t x y):=by
 obtain ⟨h0,h1,h2⟩:=hf.1;have e0:Sf t x y=some (W0 t (8 * x+4) (8 * y+4)):=BS h1 h2 hp;have e2:Sh t x y=some (W1 t (8 * x+4) (8 * y+4)):=BS h2 h0 hp;have e4:Sj t x y=some (W2 t (8 * x+4) (8 * y+4)):=BS h0 h1 hp;obtain ⟨o1,k1,q1⟩:=ZB t.e1 t.e2;obtain ⟨o2,k2,q2⟩:=ZB t.e2 t.e0;obtain ⟨o3,k3,q3⟩:=ZB t.e0 t.e1;have e1:Sg t x y=some o1:=k1;have e3:Si t x y=some o2:=k2;have e5:Sk t x y=some o3:=k3;unfold Hd Ic Ib VA F3;rw [e0,e1,e2,e3,e4,e5];simp only [bx,ai,bq,<- q1,<- q2,<- q3];generalize W0 t (8 * x+4) (8 * y+4)=u;generalize W1 t (8 * x+4) (8 * y+4)=v;generalize W2 t (8 * x+4) (8 * y+4)=w;cases o1 <;> cases o2 <;> cases o3 <;>
  (simp only [jk,rK,ai,aw,xI,and_false,or_false,eq_self,and_true]
   simp only [Bool.cond_eq_ite,lA,beq_iff_eq]
   repeat' (refine AU.ite (fun _=>?_) (fun _=>?_))
   all_goals first | exact ⟨false,rfl,fun h=>by simp at h,fun h=>by omega⟩ | exact ⟨true,rfl,fun _=>by omega,fun _=>rfl⟩)
theorem apJ {t:aK} {x y:Int} (hf:DS t) (hp:Pix x y) (hh:VA t x y):K1 t x y=some (TN t x y):=by
 obtain ⟨h0,h1,h2⟩:=hf.1;have e0:Au t x y=some (W0 t (8 * x+4) (8 * y+4)):=BS h1 h2 hp;have e1:Av t x y=some (W1 t (8 * x+4) (8 * y+4)):=BS h2 h0 hp;have e2:Aw t x y=some (W2 t (8 * x+4) (8 * y+4)):=BS h0 h1 hp;obtain ⟨s0,s1,s2⟩:=id hh;have g0:0<=W0 t (8 * x+4) (8 * y+4):=by unfold F3 at s0; omega
 have g1:0<=W1 t (8 * x+4) (8 * y+4):=by unfold F3 at s1; omega
 have g2:0<=W2 t (8 * x+4) (8 * y+4):=by unfold F3 at s2; omega
 obtain ⟨a1,a2,a3⟩:=aeT hf (8 * x+4) (8 * y+4);obtain ⟨⟨⟨x0,y0,d0,u0,v0⟩,⟨x1,y1,d1,u1,v1⟩,x2,y2,d2,u2,v2⟩,apl⟩:=hf;have E3:NG t x y=some (TN t x y).d:=by
  unfold NG TN Ka;rw [e0,e1,e2];simp only [bq];generalize W0 t (8 * x+4) (8 * y+4)=p at *;generalize W1 t (8 * x+4) (8 * y+4)=q at *;generalize W2 t (8 * x+4) (8 * y+4)=r at *;have m0:=qR ⟨g0,by omega⟩ d0;have m1:=qR ⟨g1,by omega⟩ d1;have m2:=qR ⟨g2,by omega⟩ d2;generalize p * t.e0.d=A0 at *;generalize q * t.e1.d=A1 at *;generalize r * t.e2.d=A2 at *;rw [aj (n:=A0),aj (n:=A1),aj (n:=A2),aj (n:=0+A0),aj (n:=0+A0+A1),aj (n:=0+A0+A1+A2),aj (n:=0+p),aj (n:=0+p+q),aj (n:=0+p+q+r),MH _ _ (by omega) (by omega),Ij,Ij]
 have avp:∀ (b0 b1 b2:Int),(0<=b0/\b0<=255)->(0<=b1/\b1<=255)->(0<=b2/\b2<=255)->nF (ak ((ak ((ak ((0:Int)+(ak ((ak (W0 t (8 * x+4) (8 * y+4) * t.e0.d)) * b0))))+(ak ((ak (W1 t (8 * x+4) (8 * y+4) * t.e1.d)) * b1))))+(ak ((ak (W2 t (8 * x+4) (8 * y+4) * t.e2.d)) * b2)))) (ak ((ak ((ak ((0:Int)+(ak (W0 t (8 * x+4) (8 * y+4) * t.e0.d))))+(ak (W1 t (8 * x+4) (8 * y+4) * t.e1.d))))+(ak (W2 t (8 * x+4) (8 * y+4) * t.e2.d))))=some (Ka (W0 t (8 * x+4) (8 * y+4) * t.e0.d) (W1 t (8 * x+4) (8 * y+4) * t.e1.d) (W2 t (8 * x+4) (8 * y+4) * t.e2.d) b0 b1 b2 / Ka (W0 t (8 * x+4) (8 * y+4)) (W1 t (8 * x+4) (8 * y+4)) (W2 t (8 * x+4) (8 * y+4)) t.e0.d t.e1.d t.e2.d):=by
  intro b0 b1 b2 k0 k1 k2;unfold Ka;generalize W0 t (8 * x+4) (8 * y+4)=p at *;generalize W1 t (8 * x+4) (8 * y+4)=q at *;generalize W2 t (8 * x+4) (8 * y+4)=r at *;have m0:=qR ⟨g0,by omega⟩ d0;have m1:=qR ⟨g1,by omega⟩ d1;have m2:=qR ⟨g2,by omega⟩ d2;have n0:=KB (show 0<=p * t.e0.d by omega) k0;have n1:=KB (show 0<=q * t.e1.d by omega) k1;have n2:=KB (show 0<=r * t.e2.d by omega) k2;generalize p * t.e0.d=A0 at *;generalize q * t.e1.d=A1 at *;generalize r * t.e2.d=A2 at *;rw [aj (n:=A0),aj (n:=A1),aj (n:=A2)];generalize A0 * b0=B0 at *;generalize A1 * b1=B1 at *;generalize A2 * b2=B2 at *;rw [aj (n:=B0),aj (n:=B1),aj (n:=B2),aj (n:=0+B0),aj (n:=0+B0+B1),aj (n:=0+B0+B1+B2),aj (n:=0+A0),aj (n:=0+A0+A1),aj (n:=0+A0+A1+A2),MH _ _ (by omega) (by omega),Ij,Ij]
 have E4:NH t x y=some (TN t x y).u:=by
  unfold NH;rw [e0,e1,e2];exact avp _ _ _ u0 u1 u2
 have E5:NI t x y=some (TN t x y).v:=by
  unfold NI;rw [e0,e1,e2];exact avp _ _ _ v0 v1 v2
 obtain ⟨⟨p1,p2⟩,p3,p4⟩:=hp;unfold K1;simp only [E3,E4,E5,bx,ai,bq];rw [aj (n:=8 * x),aj (n:=8 * y),aj (n:=8 * x+4),aj (n:=8 * y+4)];rfl
theorem apK (s:oT):AU (KA s) (Ax s):=by
 unfold Ax KA;simp only [Bool.cond_eq_ite,lA]
 repeat' (refine AU.ite (fun _=>?_) (fun _=>?_))
 all_goals first | exact ⟨false,rfl,fun h=>by simp at h,fun h=>by omega⟩ | exact ⟨_,rfl,fun h=>by have:=rl h; omega,fun h=>av (by omega)⟩
theorem avZ (t:aK):AU (Sc t) (Hf t):=by
 obtain ⟨b0,h0,q0⟩:=apK t.e0;obtain ⟨b1,h1,q1⟩:=apK t.e1;obtain ⟨b2,h2,q2⟩:=apK t.e2;have e0:Sm t=some b0:=h0;have e1:Sn t=some b1:=h1;have e2:Sp t=some b2:=h2;unfold Hf Sc AU;rw [e0,e1,e2,<- q0,<- q1,<- q2];cases b0 <;> cases b1 <;> cases b2 <;> simp
theorem aok {t:aK} (h:Sc t):x9 t=some (su t):=by
 obtain ⟨⟨x0,y0,_⟩,⟨x1,y1,_⟩,x2,y2,_⟩:=h;unfold x9 su;have m1:=mq (a:=t.e1.x - t.e0.x) (b:=t.e2.y - t.e0.y) (c:=262144) (d:=262144) (by omega) (by omega) (by omega);have m2:=mq (a:=t.e2.x - t.e0.x) (b:=t.e1.y - t.e0.y) (c:=262144) (d:=262144) (by omega) (by omega) (by omega);rw [aj (n:=t.e1.x - t.e0.x),aj (n:=t.e2.y - t.e0.y),aj (n:=t.e2.x - t.e0.x),aj (n:=t.e1.y - t.e0.y),aj (n:=(t.e1.x - t.e0.x) * (t.e2.y - t.e0.y)),aj (n:=(t.e2.x - t.e0.x) * (t.e1.y - t.e0.y)),aj (by omega) (by omega)]
theorem atX (t:aK) {cA:Int} (hc:0<=cA):∃ e,Bz t cA=some (rV t cA,e):=by
 obtain ⟨b,h1,q⟩:=avZ t;have e0:L9 t cA=some b:=h1;unfold Bz Du;simp only [e0,bx,ai,bq];have iff:=Zq t cA;cases b with
 | false=>
  have:rV t cA=false:=by
   cases hs:rV t cA with
   | false=>rfl
   | true=>have:=q.2 (iff.1 hs).1; simp at this
  rw [this];exact ⟨8,rfl⟩
 | true=>
  have ht:=q.1 rfl;have e1:Ma t cA=some (su t):=aok ht;simp only [e1,bq,jk,aw];have key:∀ (b:Bool),(b=true↔rV t cA=true)->b=rV t cA:=fun b h=>Bool.eq_iff_iff.2 h;by_cases c1:cA > 2
  ·rw [av c1,ai]
   exact ⟨2,by rw [key false ⟨fun h=>by simp at h,fun h=>by have:=(iff.1 h).2; omega⟩]⟩
  ·rw [az c1,aw]
   by_cases c2:su t > 0
   ·rw [av c2,ai]
    by_cases c3:cA=2
    ·rw [show (cA != (2:Int))=false by simpa using c3,aw,az (show ¬ su t < 0 by omega),aw]
     exact ⟨0,by rw [key false ⟨fun h=>by simp at h,fun h=>by have:=(iff.1 h).2; omega⟩]⟩
    ·rw [show (cA != (2:Int))=true by simpa using c3,ai]
     exact ⟨0,by rw [key true ⟨fun _=>iff.2 ⟨ht,by omega⟩,fun _=>rfl⟩]⟩
   ·rw [az c2,aw]
    by_cases c4:su t < 0
    ·rw [av c4,ai]
     by_cases c5:cA=1
     ·rw [show (cA != (1:Int))=false by simpa using c5]
      exact ⟨0,by rw [key false ⟨fun h=>by simp at h,fun h=>by have:=(iff.1 h).2; omega⟩]⟩
     ·rw [show (cA != (1:Int))=true by simpa using c5]
      exact ⟨0,by rw [key true ⟨fun _=>iff.2 ⟨ht,by omega⟩,fun _=>rfl⟩]⟩
    ·rw [az c4,aw]
     exact ⟨0,by rw [key false ⟨fun h=>by simp at h,fun h=>by have:=(iff.1 h).2; omega⟩]⟩
theorem apL {t:aK} (h:Sc t):w4 t=some (AK t):=by
 have e0:Qg t=some (su t):=aok h;unfold w4 AK;rw [e0];simp only [bq];cases decide (su t < 0) <;> rfl
theorem adH {c:aE} {p:bK} (hc:mC c) (hp:mD p) (hz:c.ax<=p.p.z):s9 c p=some (tC c p):=by
 obtain ⟨⟨_,hf,hn,hw,hh⟩,_⟩:=id hc;obtain ⟨hx,hy,⟨z1,z2⟩,_,_⟩:=id hp;have go:∀ v,In v 32768->nF (ak ((ak ((8:Int) * c.sN)) * v)) p.p.z=some ((8 * c.sN * v) / p.p.z)/\In ((8 * c.sN * v) / p.p.z) 16777216:=fun v hv=>by
  have hi:=(SE hf hv (z:=p.p.z) (by omega)).2;unfold In at hv;have h:=mq (a:=8 * c.sN) (b:=v) (c:=512) (d:=32768) (by omega) (by omega) hv;rw [aj (n:=8 * c.sN),aj (n:=8 * c.sN * v),MH _ _ (by omega) (by omega)];exact ⟨rfl,hi⟩
 obtain ⟨g1,i1,i2⟩:=go _ hx;obtain ⟨g2,i3,i4⟩:=go _ hy;have a0:Jn c p.p.x p.p.z=some ((8 * c.sN * p.p.x) / p.p.z):=g1;have d0:OH c p.p.y p.p.z=some ((8 * c.sN * p.p.y) / p.p.z):=g2;have e0:Dv c p=some ((8 * c.sN * p.p.x) / p.p.z+4 * c.w):=by
  unfold Dv C3;simp only [a0,bx,ai,bq];rw [aj (n:=4 * c.w),aj (by omega) (by omega)]
 have e1:Dw c p=some (4 * c.h - (8 * c.sN * p.p.y) / p.p.z):=by
  unfold Dw IP;simp only [d0,bx,ai,bq];rw [aj (n:=4 * c.h),aj (by omega) (by omega)]
 have ht:Int.tdiv 16777216 p.p.z=16777216 / p.p.z:=O0 (by decide);have t1:0<=(16777216:Int) / p.p.z:=Int.ediv_nonneg (by decide) (by omega);have t2:(16777216:Int) / p.p.z<=16777216:=Int.ediv_le_self _ (by decide);unfold s9 tC;simp only [e0,e1,bx,bq,ai,az (show ¬ p.p.z=0 by omega),rK];rw [aj (n:=Int.tdiv 16777216 p.p.z)]
theorem atY {r:jz} {x y z:Int} (h:adr r 256) (hx:In x 8192) (hy:In y 8192) (hz:In z 8192):Es r ⟨x,y,z⟩=some (aeP r x y z / 256):=by
 obtain ⟨a,b,c⟩:=aqD h hx hy hz;unfold In at *;unfold Es Vl aeP;simp only;generalize r.e0 * x=p at *;generalize r.e1 * y=q at *;generalize r.e2 * z=u at *;rw [aj (n:=p),aj (n:=q),aj (n:=u),aj (n:=p+q),aj (n:=p+q+u),MH _ _ (by omega) (by omega)];rfl
theorem amc {c:aE} {v:iP} (hc:mC c) (hv:zc v):xF c v=some (nh c v):=by
 obtain ⟨⟨⟨p1,p2,p3,p4,p5,p6⟩,_⟩,m0,m1,m2⟩:=id hc;obtain ⟨v1,v2,v3,v4,v5,v6⟩:=id hv;have hx:In (v.x - c.pos.x) 8192:=by unfold In; omega
 have hy:In (v.y - c.pos.y) 8192:=by unfold In; omega
 have hz:In (v.z - c.pos.z) 8192:=by unfold In; omega
 have e0:Ie c v=some (nh c v):=by
  unfold Ie C4;rw [aj (n:=v.x - c.pos.x),aj (n:=v.y - c.pos.y),aj (n:=v.z - c.pos.z)];have q0:Jo c.m ⟨v.x - c.pos.x,v.y - c.pos.y,v.z - c.pos.z⟩=some (nh c v).x:=atY m0 hx hy hz;have q1:Jp c.m ⟨v.x - c.pos.x,v.y - c.pos.y,v.z - c.pos.z⟩=some (nh c v).y:=atY m1 hx hy hz;have q2:Jq c.m ⟨v.x - c.pos.x,v.y - c.pos.y,v.z - c.pos.z⟩=some (nh c v).z:=atY m2 hx hy hz;simp only [q0,q1,q2,bx,bq,ai]
 unfold xF;simp only [e0,bx,bq,ai]
theorem Tt (n:Int) {m:Int} (hm:0<=m/\m<=1000000):AU (In n m) (o8 n m):=by
 unfold o8 In;rw [aj (n:=0 - m)];by_cases h:n >= 0 - m
 ·rw [av h,ai]
  exact ⟨_,rfl,fun q=>by have:=rl q; omega,fun q=>av q.2⟩
 ·rw [az h,aw]
  exact ⟨false,rfl,fun q=>by simp at q,fun q=>by omega⟩
theorem atZ (v:iP):AU (zc v) (DV v 4096):=by
 obtain ⟨b0,h0,q0⟩:=Tt v.x (m:=4096) (by decide);obtain ⟨b1,h1,q1⟩:=Tt v.y (m:=4096) (by decide);obtain ⟨b2,h2,q2⟩:=Tt v.z (m:=4096) (by decide);have e0:Ss v 4096=some b0:=h0;have e1:Su v 4096=some b1:=h1;have e2:Sv v 4096=some b2:=h2;have iff:zc v↔b0=true/\b1=true/\b2=true:=by
  rw [q0,q1,q2];unfold zc In;omega
 unfold DV AU;rw [e0,e1,e2,iff];cases b0 <;> cases b1 <;> cases b2 <;> simp
theorem auR (m:cN):AU (MIn m 256) (Et m 256):=by
 obtain ⟨b0,h0,q0⟩:=Tt m.e0.e0 (m:=256) (by decide);obtain ⟨b1,h1,q1⟩:=Tt m.e0.e1 (m:=256) (by decide);obtain ⟨b2,h2,q2⟩:=Tt m.e0.e2 (m:=256) (by decide);obtain ⟨b3,h3,q3⟩:=Tt m.e1.e0 (m:=256) (by decide);obtain ⟨b4,h4,q4⟩:=Tt m.e1.e1 (m:=256) (by decide);obtain ⟨b5,h5,q5⟩:=Tt m.e1.e2 (m:=256) (by decide);obtain ⟨b6,h6,q6⟩:=Tt m.e2.e0 (m:=256) (by decide);obtain ⟨b7,h7,q7⟩:=Tt m.e2.e1 (m:=256) (by decide);obtain ⟨b8,h8,q8⟩:=Tt m.e2.e2 (m:=256) (by decide);have e0:OJ m 256=some b0:=h0;have e1:OK m 256=some b1:=h1;have e2:OL m 256=some b2:=h2;have e3:OM m 256=some b3:=h3;have e4:OO m 256=some b4:=h4;have e5:OP m 256=some b5:=h5;have e6:OQ m 256=some b6:=h6;have e7:OS m 256=some b7:=h7;have e8:OT m 256=some b8:=h8;have key:∀ (b:Bool) (r:Option Bool),(b=false->¬ MIn m 256)->(b=true->AU (MIn m 256) r)->AU (MIn m 256) (_root_.cond (!b) (some false) r):=fun b r h1 h2=>by
  cases b with
  | false=>exact ⟨false,rfl,fun q=>by simp at q,fun q=>absurd q (h1 rfl)⟩
  | true=>exact h2 rfl
 have no:∀ {b:Bool} {P:Prop},(b=true↔P)->(MIn m 256->P)->b=false->¬ MIn m 256:=fun {b P} h1 h2 h3 h4=>by have:=h1.2 (h2 h4); rw [h3] at this; simp at this
 unfold Et;simp only [e0,e1,e2,e3,e4,e5,e6,e7,e8,bx,bq,ai];refine key _ _ (no q0 fun h=>h.1.1) fun t0=>key _ _ (no q1 fun h=>h.1.2.1) fun t1=>key _ _ (no q2 fun h=>h.1.2.2) fun t2=>key _ _ (no q3 fun h=>h.2.1.1) fun t3=>key _ _ (no q4 fun h=>h.2.1.2.1) fun t4=>key _ _ (no q5 fun h=>h.2.1.2.2) fun t5=>key _ _ (no q6 fun h=>h.2.2.1) fun t6=>key _ _ (no q7 fun h=>h.2.2.2.1) fun t7=>key _ _ (no q8 fun h=>h.2.2.2.2) fun t8=>?_;exact ⟨true,rfl,fun _=>⟨⟨q0.1 t0,q1.1 t1,q2.1 t2⟩,⟨q3.1 t3,q4.1 t4,q5.1 t5⟩,q6.1 t6,q7.1 t7,q8.1 t8⟩,fun _=>rfl⟩
theorem at0 (c:aE):∃ e,BA c=some e/\(e=0\/e=150)/\(e=0↔mC c):=by
 obtain ⟨b0,h0,q0⟩:=atZ c.pos;obtain ⟨b1,h1,q1⟩:=auR c.m;have e0:Md c=some b0:=h0;have e1:Mf c=some b1:=h1;have no:∀ {P:Prop},¬ mC c->∃ e,(some (150:Int):Option Int)=some e/\(e=0\/e=150)/\(e=0↔mC c):=fun h=>⟨150,rfl,.inr rfl,fun q=>by omega,fun q=>absurd q h⟩
 unfold BA;simp only [e0,e1,bx,bq,ai];cases b0 with
 | false=>exact no (P:=True) fun h=>by have:=q0.2 h.1.1; simp at this
 | true=>
 cases b1 with
 | false=>exact no (P:=True) fun h=>by have:=q1.2 h.2; simp at this
 | true=>
  simp only [jk,aw];simp only [Bool.cond_eq_ite,lA];have hp:=q0.1 rfl;have hm:=q1.1 rfl;have aeZ:∀ {P:Prop} [Decidable P] {r:Option Int},(P->¬ mC c)->(¬ P->∃ e,r=some e/\(e=0\/e=150)/\(e=0↔mC c))->∃ e,(if P then some (150:Int) else r)=some e/\(e=0\/e=150)/\(e=0↔mC c):=fun {P _ r} h1 h2=>by
   by_cases h:P
   ·rw [aV h]; exact no (P:=True) (h1 h)
   ·rw [ay h]; exact h2 h
  refine aeZ (fun q h=>by have:=h.1.2; omega) fun t1=>aeZ (fun q h=>by have:=h.1.2; omega) fun t2=>aeZ (fun q h=>by have:=h.1.2; omega) fun t3=>aeZ (fun q h=>by have:=h.1.2; omega) fun t4=>aeZ (fun q h=>by have:=h.1.2; omega) fun t5=>aeZ (fun q h=>by have:=h.1.2; omega) fun t6=>aeZ (fun q h=>by have:=h.1.2; omega) fun t7=>aeZ (fun q h=>by have:=h.1.2; omega) fun t8=>?_;exact ⟨0,rfl,.inl rfl,fun _=>⟨⟨hp,by omega,by omega,by omega,by omega,by omega⟩,hm⟩,fun _=>rfl⟩
def BT (p:eT):bc:=⟨p.t,p.dX.item,p.dX.cl,p.dX.part⟩
theorem arX (x y:Int) (l:List eT) (p:eT):ru x y (l++[p])=ru x y l++(rO x y p).toList:=by
 unfold ru;rw [List.filterMap_append];congr 1
theorem awX (s:Show) (c:aE) (x y:Int) (F:Sl bc) (h:dw s c=some 0) (hp:Pix x y) (hn:F.n<=98304) (hF:bH F=(jc s c).map BT):∃ r,Hw s F x y=some r/\bH r=ru x y (jc s c):=by
 have hlen:(jc s c).length=F.n:=by
  have:=congrArg List.length hF;rw [gg,List.length_map] at this;exact this.symm
 obtain ⟨e,z,hz,rfl,hq⟩:∃ e z,EA s F x y = .out e z/\(e = .exit 0/\bH z.out=ru x y (jc s c)):=by
  unfold EA;refine bn (step:=uN) (fun j z=>z.l=F/\z.s=s/\z.i=(j:Int)/\z.x=x/\z.y=y/\j<=F.n/\z.out.n<=j/\bH z.out=ru x y ((jc s c).take j)) _ F.n (by have:gd=1000000000000:=rfl; omega) (fun j z hj ⟨f1,f2,f3,f4,f5,f6,f7,f8⟩=>?_) ⟨rfl,rfl,rfl,rfl,rfl,cP _,aW _,rfl⟩;have w1:ak (z.i+1)=z.i+1:=aj;have a1:ij 48 z.out.n 1=true:=vc (by omega) (by omega) (by omega) (.inl (by omega));unfold uN bj nm aC;by_cases bt:z.i < ((z.l.n:Nat):Int)
  ·have eH:j < F.n:=by rw [f1] at bt; omega
   have hjl:j < (jc s c).length:=by omega
   have hg:z.l.get (Int.toNat z.i)=BT ((jc s c)[j]):=by
    have h1:=Ep F j eH;rw [hF,AZ,dF hjl] at h1;rw [f1,f3,bU];exact (qw h1).symm
   have tk:ru x y ((jc s c).take (j+1))=ru x y ((jc s c).take j)++(rO x y (jc s c)[j]).toList:=by
    rw [List.take_succ_eq_append_getElem hjl,arX]
   obtain ⟨i,k,n,q1,q2,q3,q4⟩:=WN (Wc hjl);rw [q4] at hg tk;have hf:=aiB h q1 q2 q3;obtain ⟨b,hb,hbi⟩:=arW hf hp;have e0:Gd z=some b:=by
    unfold Gd;rw [hg,f4,f5];exact hb
   have i1:(BT (partAt s c i k n)).item=(i:Int):=rfl;simp only [hg,f2,e0,w1,a1,i1,aG,ai,bD,bx,bq,av bt,av (show (0:Int)<=z.i by omega),av (show (0:Int)<=(i:Int) by omega),av (show (i:Int) < ((s.items.n:Nat):Int) by omega)];rcases ajD h hp q1 q2 q3 with ⟨h1,h2⟩ | ⟨h1,h2⟩
   ·have hbt:b=true:=hbi.2 h1
    subst hbt;have e1:xr z=some (TN ((C2 s c i k).get n) x y):=by
     unfold xr;rw [hg,f4,f5];exact apJ hf hp h1
    rw [e1];simp only [ai,bx,bq];have hl:=Qs ((IZ h).2 i q1).look;have hb0:=hl.b0;have EE:=hl.b1;have hd:0<=(TN ((C2 s c i k).get n) x y).d/\(TN ((C2 s c i k).get n) x y).d<=65536:=by
     rcases abq hf hp with ⟨_,_,g3,g4⟩ | ⟨g1,_⟩
     ·exact ⟨g3,g4⟩
     ·exact absurd h1 g1
    refine .inl ⟨_,rfl,eH,f1,rfl,by show z.i+1=_; omega,f4,f5,by omega,by show z.out.n+1<=_; omega,?_⟩;show bH (Sl.push _ _)=_;rw [ki,f8,tk,h2,aj (by rw [bU]; omega) (by rw [bU]; omega)];rfl
   ·have Px:b=false:=by
     cases hb' : b with
     | false=>rfl
     | true=>exact absurd (hbi.1 hb') h1
    subst Px;simp only [aw];refine .inl ⟨_,rfl,eH,f1,rfl,by show z.i+1=_; omega,f4,f5,by omega,by show z.out.n<=_; omega,?_⟩;show bH z.out=_;rw [f8,tk,h2];simp
  ·simp only [aG,ai,aw,az bt]
   refine .inr ⟨_,_,rfl,rfl,rfl,?_⟩;rw [f8,EO (by rw [f1] at bt; omega)]
 have b1:(EA s F x y).by (.exit 0)=true:=by rw [hz]; rfl
 have b2:(EA s F x y).st=z:=by rw [hz]; rfl
 refine ⟨z.out,?_,hq⟩;unfold Hw;rw [b1,b2,ai]
theorem auS (t:bF):AU (adw t) (Hm t):=by
 unfold Hm adw;by_cases h1:1<=t.w/\t.w<=16
 ·rw [av (show t.w >= 1 from h1.1),av h1.2,ai,ai]
  by_cases h2:1<=t.h/\t.h<=16
  ·rw [av (show t.h >= 1 from h2.1),av h2.2,ai,ai]
   have h3:0<=t.w * t.h/\t.w * t.h<=16 * 16:=⟨wi (by omega) (by omega),CM h1.2 h2.2 (by omega) (by omega)⟩
   rw [aj (by omega) (by omega)];exact ⟨_,rfl,fun h=>⟨h1,h2,by simpa using h⟩,fun h=>by simpa using h.2.2⟩
  ·have no:AU (((1<=t.w/\t.w<=16)/\(1<=t.h/\t.h<=16)/\((t.dH.n:Nat):Int)=t.w * t.h)) (some false):=⟨false,rfl,fun h=>by simp at h,fun h=>absurd h.2.1 h2⟩
   by_cases h3:t.h >= 1
   ·rw [av h3,az (show ¬ t.h<=16 by omega)]; exact no
   ·rw [az h3]; exact no
 ·have no:AU (((1<=t.w/\t.w<=16)/\(1<=t.h/\t.h<=16)/\((t.dH.n:Nat):Int)=t.w * t.h)) (some false):=⟨false,rfl,fun h=>by simp at h,fun h=>absurd h.1 h1⟩
  by_cases h3:t.w >= 1
  ·rw [av h3,az (show ¬ t.w<=16 by omega)]; exact no
  ·rw [az h3]; exact no
theorem av0 (l:Sl bF) (hn:l.n<=16):∃ e,yU l=some e/\(e=0↔WM l):=by
 obtain ⟨e,z,hz,hq⟩:∃ e z,ow l = .out e z/\(e = .ret/\z.t2=8/\¬ WM l\/e = .exit 0/\WM l):=by
  unfold ow;refine bn (step:=qc) (fun j y=>y.l=l/\y.i=(j:Int)/\j<=l.n/\∀ i,i < j->adw (l.get i)) _ l.n (by have:gd=1000000000000:=rfl; omega) (fun j y hj ⟨f1,f2,f3,f4⟩=>?_) ⟨rfl,rfl,cP _,fun i hi=>absurd hi (mJ _)⟩;have w1:ak (y.i+1)=y.i+1:=aj;obtain ⟨b,hb,hbi⟩:=auS (l.get j);have e0:yj y=some b:=by unfold yj; rw [f1,f2,bU]; exact hb
  unfold qc bj;by_cases h:y.i < ((y.l.n:Nat):Int)
  ·have eH:j < l.n:=by rw [f1] at h; omega
   simp only [e0,w1,bx,bq,ai,bD,av h,av (show (0:Int)<=y.i by omega)];cases b with
   | false=>exact .inr ⟨_,_,rfl,rfl,.inl ⟨rfl,rfl,fun qD=>by have:=hbi.2 (qD j eH); simp at this⟩⟩
   | true=>
    refine .inl ⟨_,rfl,eH,f1,by show y.i+1=_; omega,by omega,fun i hi=>?_⟩;by_cases vD:i < j
    ·exact f4 i vD
    ·have:i=j:=by omega
     subst this;exact hbi.1 rfl
  ·simp only [aw,az h]
   exact .inr ⟨_,_,rfl,rfl,.inr ⟨rfl,fun i hi=>f4 i (by rw [f1] at h; omega)⟩⟩
 unfold yU;rw [az (show ¬ ((l.n:Nat):Int) > 16 by omega),aw];rcases hq with ⟨rfl,h1,h2⟩ | ⟨rfl,h1⟩
 ·have b1:(ow l).by (.exit 0)=false:=by rw [hz]; rfl
  have b2:(ow l).by .ret=true:=by rw [hz]; rfl
  have b3:(ow l).st=z:=by rw [hz]; rfl
  rw [b1,b2,b3,h1];exact ⟨8,rfl,fun h=>by omega,fun h=>absurd h h2⟩
 ·have b1:(ow l).by (.exit 0)=true:=by rw [hz]; rfl
  rw [b1];exact ⟨0,rfl,fun _=>h1,fun _=>rfl⟩
def amd (l:yx) (t:Int):Prop:=-1<=l.iG/\l.iG < t/\l.cA<=2/\-1024<=l.FC/\l.FC<=1024/\0<=l.bin/\l.bin<=15
theorem ae0 (l:yx) {t:Int} (ht:0<=t/\t<=16):eO l t=some 0↔amd l t:=by
 unfold eO amd;simp only [Bool.cond_eq_ite,lA];have key:∀ {c:Prop} [Decidable c] {k:Int} {r:Option Int} {P:Prop},k≠0->(c->¬ P)->(¬ c->(r=some 0↔P))->((if c then some k else r)=some 0↔P):=fun {c _ k r P} hk h1 h2=>by
  by_cases h:c
  ·rw [aV h]; exact ⟨fun q=>absurd (qw q) hk,fun q=>absurd q (h1 h)⟩
  ·rw [ay h]; exact h2 h
 refine key (by decide) (fun q=>by omega) fun _=>key (by decide) (fun q=>by omega) fun _=>key (by decide) (fun q=>by omega) fun _=>key (by decide) (fun q=>by omega) fun _=>key (by decide) (fun q=>by omega) fun _=>key (by decide) (fun q=>by omega) fun _=>key (by decide) (fun q=>by omega) fun _=>key (by decide) (fun q=>by omega) fun _=>key (by decide) (fun q=>by omega) fun _=>?_;exact ⟨fun _=>by omega,fun _=>rfl⟩
theorem av1 (l:yx) (t:Int):AU (amd l t) (Hn l t):=by
 unfold Hn amd;simp only [Bool.cond_eq_ite,lA]
 repeat' (refine AU.ite (fun _=>?_) (fun _=>?_))
 all_goals first | exact ⟨false,rfl,fun h=>by simp at h,fun h=>by omega⟩ | exact ⟨_,rfl,fun h=>by have:=rl h; omega,fun h=>av (by omega)⟩
theorem at1 {l:Sl iP} (h0:0 < l.n) (hn:l.n<=64):yk l=some (yi l (l.n - 1)):=by
 obtain ⟨e,z,hz,rfl,h1⟩:∃ e z,xm l = .out e z/\(e = .exit 0/\z.b=yi l (l.n - 1)):=by
  unfold xm;refine bn (step:=qW) (fun j y=>y.l=l/\y.i=((j+1:Nat):Int)/\j+1<=l.n/\y.b=yi l j) _ l.n (by have:gd=1000000000000:=rfl; omega) (fun j y hj ⟨f1,f2,f3,f4⟩=>?_) ⟨rfl,rfl,h0,rfl⟩;have w1:ak (y.i+1)=y.i+1:=aj;unfold qW bj;by_cases h:y.i < ((y.l.n:Nat):Int)
  ·have hg:y.l.get (Int.toNat y.i)=l.get (j+1):=by rw [f1,f2,bU]
   simp only [w1,hg,ai,bD,av h,av (show (0:Int)<=y.i by omega)];refine .inl ⟨_,rfl,by omega,f1,by show y.i+1=_; omega,by rw [f1] at h; omega,?_⟩;show apr y.b (l.get (j+1))=_;rw [f4];rfl
  ·simp only [aw,az h]
   refine .inr ⟨_,_,rfl,rfl,rfl,?_⟩;rw [f1] at h;rw [f4,show j=l.n - 1 by omega]
 have b1:(xm l).by (.exit 0)=true:=by rw [hz]; rfl
 have b2:(xm l).st=z:=by rw [hz]; rfl
 unfold yk;rw [av (show (0:Int) < ((l.n:Nat):Int) by omega),b1,b2,h1];rfl
def MI (x:Item) (j:Nat):Prop:=zc (x.aH.get j)/\(0<=(x.uV.get j).e0/\(x.uV.get j).e0<=255)/\0<=(x.uV.get j).e1/\(x.uV.get j).e1<=255
theorem auT (x:Item) (t:Int) (hn:x.aH.n<=64) (hu:x.uV.n=x.aH.n):∃ e z,nj x t = .out e z/\((e = .ret/\z.t4=false/\∃ j,j < x.aH.n/\¬ MI x j)\/e = .exit 0/\z=⟨false,(x.aH.n:Int),z.i,x⟩/\∀ j,j < x.aH.n->MI x j):=by
 unfold nj;refine bn (step:=rW) (fun j y=>y=⟨false,(x.aH.n:Int),(j:Int),x⟩/\j<=x.aH.n/\∀ i,i < j->MI x i) _ x.aH.n (by have:gd=1000000000000:=rfl; omega) (fun j y hj ⟨hy,f6,f8⟩=>?_) ⟨rfl,cP _,fun i hi=>absurd hi (mJ _)⟩;subst hy;have w1:ak ((j:Int)+1)=((j+1:Nat):Int):=by rw [aj (by omega) (by omega)]; omega
 unfold rW bj;by_cases h:(j:Int) < (x.aH.n:Int)
 ·have eH:j < x.aH.n:=by omega
  obtain ⟨b,h1,h2⟩:=atZ (x.aH.get j);have e0:BI ⟨false,(x.aH.n:Int),(j:Int),x⟩=some b:=by unfold BI; simp only [bU]; exact h1
  simp only [e0,w1,bU,bx,bq,ai,bD,av h,av (show (0:Int)<=(j:Int) by omega),av (show (j:Int) < ((x.uV.n:Nat):Int) by omega)];have no : ¬ MI x j->∀ {i:Int},(∃ x' : mF,(aJ.out aq.ret (⟨false,(x.aH.n:Int),i,x⟩:mF)) = .next x'/\j < x.aH.n/\x' = ⟨false,(x.aH.n:Int),((j+1:Nat):Int),x⟩/\j+1<=x.aH.n/\∀ i,i < j+1->MI x i)\/∃ e x',(aJ.out aq.ret (⟨false,(x.aH.n:Int),i,x⟩:mF)) = .out e x'/\Go.K.yM e=false/\((e = .ret/\x'.t4=false/\∃ j,j < x.aH.n/\¬ MI x j)\/e = .exit 0/\x' = ⟨false,(x.aH.n:Int),x'.i,x⟩/\∀ j,j < x.aH.n->MI x j):=fun hq {i}=>.inr ⟨_,_,rfl,rfl,.inl ⟨rfl,rfl,j,eH,hq⟩⟩;cases b with
  | false=>exact no fun hq=>by have:=h2.2 hq.1; simp at this
  | true=>
   rw [jk,aw];by_cases c1:(x.uV.get j).e0 < 0
   ·rw [av c1,ai]; exact no fun hq=>by unfold MI at hq; omega
   rw [az c1,aw];by_cases c2:(x.uV.get j).e0 > 255
   ·rw [av c2,ai]; exact no fun hq=>by unfold MI at hq; omega
   rw [az c2,aw];by_cases c3:(x.uV.get j).e1 < 0
   ·rw [av c3,ai]; exact no fun hq=>by unfold MI at hq; omega
   rw [az c3,aw];by_cases c4:(x.uV.get j).e1 > 255
   ·rw [av c4,ai]; exact no fun hq=>by unfold MI at hq; omega
   rw [az c4,aw];refine .inl ⟨_,rfl,eH,rfl,by omega,fun i hi=>?_⟩;by_cases vD:i < j
   ·exact f8 i vD
   ·have:i=j:=by omega
    subst this;exact ⟨h2.1 rfl,by omega,by omega⟩
 ·simp only [aw,az h]
  exact .inr ⟨_,_,rfl,rfl,.inr ⟨rfl,rfl,fun i hi=>f8 i (by omega)⟩⟩
theorem auU (x:Item) (hn:x.bf.n<=64):∃ e z,goN pV ⟨false,(x.aH.n:Int),0,x⟩ = .out e z/\(e = .ret/\z.t4=false/\(∃ i,i < x.bf.n/\¬ pt x.bf (x.aH.n:Int) i)\/e = .exit 2/\z=⟨false,(x.aH.n:Int),z.i,x⟩/\∀ i,i < x.bf.n->pt x.bf (x.aH.n:Int) i):=by
 refine bn (step:=pV) (fun j y=>y=⟨false,(x.aH.n:Int),(j:Int),x⟩/\j<=x.bf.n/\∀ i,i < j->pt x.bf (x.aH.n:Int) i) _ x.bf.n (by have:gd=1000000000000:=rfl; omega) (fun j y hj ⟨hy,f6,f8⟩=>?_) ⟨rfl,cP _,fun i hi=>absurd hi (mJ _)⟩;subst hy;have w1:ak ((j:Int)+1)=((j+1:Nat):Int):=by rw [aj (by omega) (by omega)]; omega
 unfold pV bj;by_cases h:(j:Int) < ((x.bf.n:Nat):Int)
 ·have eH:j < x.bf.n:=by omega
  simp only [w1,bU,ai,bD,av h,av (show (0:Int)<=(j:Int) by omega)];have no : ¬ pt x.bf (x.aH.n:Int) j->∀ {i:Int},(∃ x' : nZ,(aJ.out aq.ret (⟨false,(x.aH.n:Int),i,x⟩:nZ)) = .next x'/\j < x.bf.n/\x' = ⟨false,(x.aH.n:Int),((j+1:Nat):Int),x⟩/\j+1<=x.bf.n/\∀ i,i < j+1->pt x.bf (x.aH.n:Int) i)\/∃ e x',(aJ.out aq.ret (⟨false,(x.aH.n:Int),i,x⟩:nZ)) = .out e x'/\Go.K.yM e=false/\(e = .ret/\x'.t4=false/\(∃ i,i < x.bf.n/\¬ pt x.bf (x.aH.n:Int) i)\/e = .exit 2/\x' = ⟨false,(x.aH.n:Int),x'.i,x⟩/\∀ i,i < x.bf.n->pt x.bf (x.aH.n:Int) i):=fun hq {i}=>.inr ⟨_,_,rfl,rfl,.inl ⟨rfl,rfl,j,eH,hq⟩⟩;by_cases c1:(x.bf.get j).e0 < 0
  ·rw [av c1,ai]; exact no fun hq=>by unfold pt at hq; omega
  rw [az c1,aw];by_cases c2:(x.bf.get j).e0 >= (x.aH.n:Int)
  ·rw [av c2,ai]; exact no fun hq=>by unfold pt at hq; omega
  rw [az c2,aw];by_cases c3:(x.bf.get j).e1 < 0
  ·rw [av c3,ai]; exact no fun hq=>by unfold pt at hq; omega
  rw [az c3,aw];by_cases c4:(x.bf.get j).e1 >= (x.aH.n:Int)
  ·rw [av c4,ai]; exact no fun hq=>by unfold pt at hq; omega
  rw [az c4,aw];by_cases c5:(x.bf.get j).e2 < 0
  ·rw [av c5,ai]; exact no fun hq=>by unfold pt at hq; omega
  rw [az c5,aw];by_cases c6:(x.bf.get j).e2 >= (x.aH.n:Int)
  ·rw [av c6,ai]; exact no fun hq=>by unfold pt at hq; omega
  rw [az c6,aw];refine .inl ⟨_,rfl,eH,rfl,by omega,fun i hi=>?_⟩;by_cases vD:i < j
  ·exact f8 i vD
  ·have:i=j:=by omega
   subst this;unfold pt;omega
 ·simp only [aw,az h]
  exact .inr ⟨_,_,rfl,rfl,.inr ⟨rfl,rfl,fun i hi=>f8 i (by omega)⟩⟩
theorem av2 (x:Item) {t:Int} (ht:0<=t/\t<=16):AU (Mw x t) (Hq x t):=by
 have no : ¬ Mw x t->AU (Mw x t) (some false):=fun h=>⟨false,rfl,fun q=>by simp at q,fun q=>absurd q h⟩
 obtain ⟨v,hv,hvi⟩:=av1 x.look t;have e0:SH x t=some v:=hv;unfold Hq;simp only [e0,bx,bq,ai];by_cases g1:((x.aH.n:Nat):Int) > 64
 ·rw [av g1,ai]; exact no fun h=>by have:=h.n64; omega
 rw [az g1,aw];by_cases g2:x.uV.n=x.aH.n
 case neg=>
  rw [show (((x.uV.n:Nat):Int) != ((x.aH.n:Nat):Int))=true by simpa using by omega,ai];exact no fun h=>g2 h.uvn
 rw [show (((x.uV.n:Nat):Int) != ((x.aH.n:Nat):Int))=false by simpa using by omega,aw];by_cases g3:((x.bf.n:Nat):Int) > 64
 ·rw [av g3,ai]; exact no fun h=>by have:=h.t64; omega
 rw [az g3,aw];cases v with
 | false=>exact no fun h=>by have:=hvi.2 ((ae0 x.look ht).1 h.look); simp at this
 | true=>
 have DG:=(ae0 x.look ht).2 (hvi.1 rfl);rw [jk,aw];obtain ⟨e,y,hy,h⟩:=auT x t (by omega) g2;rcases h with ⟨rfl,hf,j,hj,RG⟩ | ⟨rfl,hye,hvs⟩
 ·have b1:(nj x t).by (.exit 0)=false:=by rw [hy]; rfl
  have b2:(nj x t).by .ret=true:=by rw [hy]; rfl
  have b3:(nj x t).st.t4=false:=by rw [hy]; exact hf
  simp only [b1,b2,b3,ai,aw];exact no fun h=>RG (h.v j hj)
 ·have b1:(nj x t).by (.exit 0)=true:=by rw [hy]; rfl
  have s1:(nj x t).st=⟨false,(x.aH.n:Int),y.i,x⟩:=by rw [hy]; exact hye
  obtain ⟨e,z,hz,h⟩:∃ e z,eW x t = .out e z/\(e = .ret/\z.t4=false/\(∃ i,i < x.bf.n/\¬ pt x.bf (x.aH.n:Int) i)\/e = .exit 2/\z=⟨false,(x.aH.n:Int),z.i,x⟩/\∀ i,i < x.bf.n->pt x.bf (x.aH.n:Int) i):=by
   unfold eW;rw [s1];exact auU x (by omega)
  rcases h with ⟨rfl,hf',i,hi,RG⟩ | ⟨rfl,hze,qD⟩
  ·have b2:(eW x t).by (.exit 2)=false:=by rw [hz]; rfl
   have b3:(eW x t).by .ret=true:=by rw [hz]; rfl
   have b4:(eW x t).st.t4=false:=by rw [hz]; exact hf'
   simp only [b1,b2,b3,b4,ai,aw];exact no fun h=>RG (h.cl i hi)
  ·have b2:(eW x t).by (.exit 2)=true:=by rw [hz]; rfl
   have s2:(eW x t).st=⟨false,(x.aH.n:Int),z.i,x⟩:=by rw [hz]; exact hze
   have ok:F2 x.aH=x.box->Mw x t:=fun hb=>⟨by omega,g2,by omega,DG,hvs,qD,hb⟩
   simp only [b1,b2,s2,ai];by_cases GM:x.aH.n=0
   ·have IA:F2 x.aH=AL:=by unfold F2; rw [aV GM]
    rw [show (((x.aH.n:Nat):Int)==(0:Int))=true by simpa using by omega,ai];have hq:=WL x.box AL;refine ⟨_,rfl,fun h=>ok (IA.trans ((hq.1 h).symm)),fun h=>hq.2 (h.box.symm.trans IA)⟩
   ·have IA:F2 x.aH=yi x.aH (x.aH.n - 1):=by unfold F2; rw [ay GM]
    have e3:sU x t=some (yi x.aH (x.aH.n - 1)):=by
     unfold sU;rw [s2];show yk x.aH=_;exact at1 (by omega) (by omega)
    rw [show (((x.aH.n:Nat):Int)==(0:Int))=false by simpa using by omega,aw];simp only [e3,bx,bq,ai];have hq:=WL x.box (yi x.aH (x.aH.n - 1));refine ⟨_,rfl,fun h=>ok (IA.trans ((hq.1 h).symm)),fun h=>hq.2 (h.box.symm.trans IA)⟩
theorem at2 (s:Show):∃ e,BJ s=some e/\BH s e:=by
 unfold BJ;by_cases g1:((s.items.n:Nat):Int) > 256
 ·rw [av g1,ai]
  exact ⟨_,rfl,.many (.inl (by omega))⟩
 by_cases g2:((s.au.n:Nat):Int) > 16
 ·rw [az g1,av g2,aw,ai]
  exact ⟨_,rfl,.many (.inr (by omega))⟩
 have hb : ¬ Big s:=by unfold Big; omega
 obtain ⟨v,hv,N7⟩:=av0 s.au (by omega);have e0:Mz s=some v:=hv;rw [az g1,az g2];simp only [e0,ai,aw,bx,bq];by_cases hz:v=0
 ·rw [show (v != (0:Int))=false by simpa using hz,aw]
  obtain ⟨e,x',hx,h⟩:∃ e x',pW s = .out e x'/\(e = .ret/\x'.t2=8/\(∃ i,i < s.items.n/\¬ Mw (s.items.get i) (s.au.n:Int))\/e = .exit 0/\∀ i,i < s.items.n->Mw (s.items.get i) (s.au.n:Int)):=by
   unfold pW;refine bn (step:=qd) (fun j y=>y.s=s/\y.i=(j:Int)/\j<=s.items.n/\∀ i,i < j->Mw (s.items.get i) (s.au.n:Int)) _ s.items.n (by have:gd=1000000000000:=rfl; omega) (fun j y hj ⟨f1,f2,f3,f4⟩=>?_) ⟨rfl,rfl,cP _,fun i hi=>absurd hi (mJ _)⟩;have w1:ak (y.i+1)=y.i+1:=aj;obtain ⟨b,hb,hbi⟩:=av2 (s.items.get j) (t:=(s.au.n:Int)) (by omega);have e0:yl y=some b:=by unfold yl; rw [f1,f2,bU]; exact hb
   unfold qd bj;by_cases h:y.i < ((y.s.items.n:Nat):Int)
   ·have eH:j < s.items.n:=by rw [f1] at h; omega
    simp only [e0,w1,bx,bq,ai,bD,av h,av (show (0:Int)<=y.i by omega)];cases b with
    | false=>exact .inr ⟨_,_,rfl,rfl,.inl ⟨rfl,rfl,j,eH,fun hq=>by have:=hbi.2 hq; simp at this⟩⟩
    | true=>
     refine .inl ⟨_,rfl,eH,f1,by show y.i+1=_; omega,by omega,fun i hi=>?_⟩;by_cases vD:i < j
     ·exact f4 i vD
     ·have:i=j:=by omega
      subst this;exact hbi.1 rfl
   ·simp only [aw,az h]
    exact .inr ⟨_,_,rfl,rfl,.inr ⟨rfl,fun i hi=>f4 i (by rw [f1] at h; omega)⟩⟩
  rcases h with ⟨rfl,h1,i,hi,h2⟩ | ⟨rfl,h1⟩
  ·have b1:(pW s).by (.exit 0)=false:=by rw [hx]; rfl
   have b2:(pW s).by .ret=true:=by rw [hx]; rfl
   have b3:(pW s).st=x':=by rw [hx]; rfl
   rw [b1,b2,b3,h1];exact ⟨_,rfl,.bad hb fun h=>h2 (h.2 i hi)⟩
  ·have b1:(pW s).by (.exit 0)=true:=by rw [hx]; rfl
   rw [b1];exact ⟨_,rfl,.ok hb ⟨N7.1 hz,h1⟩⟩
 ·rw [show (v != (0:Int))=true by simpa using hz,ai]
  exact ⟨_,rfl,.bad hb fun h=>hz (N7.2 h.1)⟩
theorem xG.Ai {s s' : Show} (h:xG s s') {f:aU} (h0:0<=f.item/\f.item < (s.items.n:Int)):pX s' f=pX s f:=by
 unfold pX;rw [h.item h0]
theorem xG.bin {s s' : Show} (h:xG s s') {f:aU} (h0:0<=f.item/\f.item < (s.items.n:Int)):Hv s' f=Hv s f:=by
 unfold Hv;rw [h.item h0]
theorem xG.uE {s s' : Show} (h:xG s s'):∀ (l:List aU) (b:aU×Bool),(∀ f∈l,0<=f.item/\f.item < (s.items.n:Int))->l.foldl (Kb s') b=l.foldl (Kb s) b
 | [],_,_=>rfl
 | f::l,b,hl=>by
  rw [List.foldl_cons,List.foldl_cons];have e:Kb s' b f=Kb s b f:=by
   unfold Kb;rw [h.Ai (hl f (Kh ..))]
  rw [e];exact h.uE l _ fun g hg=>hl g (vV _ hg)
theorem aol (s:Show) (c:aE):∃ e,BN s c=some e/\Dx s c e:=by
 obtain ⟨e,h1,h2⟩:=at2 s;obtain ⟨f,h3,h4,h5⟩:=at0 c;have e0:F9 s c=some e:=h1;have e1:MC s c=some f:=h3;unfold BN;simp only [e0,e1,bx,bq,ai];by_cases he:e=0
 ·subst he
  refine ⟨f,rfl,?_⟩;by_cases hf:f=0
  ·subst hf; exact .ok h2 (h5.1 rfl)
  ·have:f=150:=by omega
   subst this;exact .cam h2 fun h=>hf (h5.2 h)
 ·rw [show (e==(0:Int))=false by simpa using he]
  exact ⟨e,rfl,.nI e h2 he⟩
end Go.Proofs.YtchbpckkmgcgkaaGreat.b
end
section
namespace Go.Proofs.YtchbpckkmgcgkaaGreat.b
open Go.K
noncomputable section
def BU (a:Int) (b:Int) (part:Int) (whole:Int):=nF (ak ((ak (b - a)) * part)) whole
def p8 (a:Int) (b:Int) (part:Int) (whole:Int):Option (Int):=(cond (BU a b part whole).isSome (some ((ak (a+((BU a b part whole).getD default))))) none)
theorem adI (a:Int) (b:Int) (part:Int) (whole:Int):hJ [(172,Er)] [] 205 [(kI .i64) a,(kI .i64) b,(kI .i64) part,(kI .i64) whole] = (p8 a b part whole).map (kI .i64):=by
 unfold p8
 try simp only [aY]
 kernel_rfl
def VT:List KV->KR KV:=bd PG 205 (bg (kI .i64) fun vs=>p8 (intOf (v9 vs 0)) (intOf (v9 vs 1)) (intOf (v9 vs 2)) (intOf (v9 vs 3)))
theorem abP:a9 PG 205 VT:=bM (ao.cons Ar ao.nil) aL.nil fun w=>adI (intOf (g0 3 (w 0))) (intOf (g0 3 (w 1))) (intOf (g0 3 (w 2))) (intOf (g0 3 (w 3)))
def KI (ax:Int) (a:bK) (b:bK):=p8 a.p.x b.p.x (ak (ax - a.p.z)) (ak (b.p.z - a.p.z))
def KK (ax:Int) (a:bK) (b:bK):=p8 a.p.y b.p.y (ak (ax - a.p.z)) (ak (b.p.z - a.p.z))
def KM (ax:Int) (a:bK) (b:bK):=p8 a.u b.u (ak (ax - a.p.z)) (ak (b.p.z - a.p.z))
def KN (ax:Int) (a:bK) (b:bK):=p8 a.v b.v (ak (ax - a.p.z)) (ak (b.p.z - a.p.z))
def p9 (ax:Int) (a:bK) (b:bK):Option (bK):=(cond (KI ax a b).isSome (cond (KK ax a b).isSome (cond (KM ax a b).isSome (cond (KN ax a b).isSome (some (⟨⟨((KI ax a b).getD default),((KK ax a b).getD default),ax⟩,((KM ax a b).getD default),((KN ax a b).getD default)⟩)) none) none) none) none)
theorem ame (ax:Int) (a:bK) (b:bK):hJ [(205,VT)] [] 165 [(kI .i64) ax,pN a,pN b] = (p9 ax a b).map pN:=by
 unfold p9
 try simp only [aY]
 kernel_rfl
def SJ:List KV->KR KV:=bd PG 165 (bg pN fun vs=>p9 (intOf (v9 vs 0)) (kP (v9 vs 1)) (kP (v9 vs 2)))
theorem OZ:a9 PG 165 SJ:=bM (ao.cons abP ao.nil) aL.nil fun w=>ame (intOf (g0 3 (w 0))) (kP (g0 177 (w 1))) (kP (g0 177 (w 2)))
end
end Go.Proofs.YtchbpckkmgcgkaaGreat.b
end
section
namespace Go.Proofs.YtchbpckkmgcgkaaGreat.b
open Go.K Go.K.hY
open Go.aF (aq)
theorem amf {a b p w m:Int} (ha:In a m) (hb:In b m) (hm:0<=m/\m<=32768) (hp:0<=p/\p<=w) (hw:1<=w/\w<=65536):p8 a b p w=some (rU a b p w):=by
 have r:=abn (a:=a) (b:=b) hp hw.1;unfold In at *;have h:=mq (a:=b - a) (b:=p) (c:=65536) (d:=65536) (by omega) (by omega) (by omega);have e:BU a b p w=some ((b - a) * p / w):=by
  unfold BU;rw [aj (n:=b - a),aj (n:=(b - a) * p)];exact MH _ _ (by omega) (by omega)
 unfold p8;simp only [e,bx,bq,ai];unfold rU at r ⊢;rw [aj (by omega) (by omega)]
theorem adJ {ax:Int} {a b:bK} (hn:256<=ax/\ax<=4096) (ha:mD a) (hb:mD b) (haz:a.p.z < ax) (hbz:ax<=b.p.z):p9 ax a b=some (IY ax a b):=by
 obtain ⟨xa,ya,za,ua,va⟩:=id ha;obtain ⟨xb,yb,zb,ub,vb⟩:=id hb;unfold In at za zb;have hp:0<=ax - a.p.z/\ax - a.p.z<=b.p.z - a.p.z:=by omega
 have hw:1<=b.p.z - a.p.z/\b.p.z - a.p.z<=65536:=by omega
 have p1:ak (ax - a.p.z)=ax - a.p.z:=aj;have p2:ak (b.p.z - a.p.z)=b.p.z - a.p.z:=aj;have e0:KI ax a b=some (rU a.p.x b.p.x (ax - a.p.z) (b.p.z - a.p.z)):=by unfold KI; rw [p1,p2]; exact amf xa xb (by decide) hp hw
 have e1:KK ax a b=some (rU a.p.y b.p.y (ax - a.p.z) (b.p.z - a.p.z)):=by unfold KK; rw [p1,p2]; exact amf ya yb (by decide) hp hw
 have e2:KM ax a b=some (rU a.u b.u (ax - a.p.z) (b.p.z - a.p.z)):=by unfold KM; rw [p1,p2]; exact amf (m:=255) (a:=a.u) (b:=b.u) (by unfold In; omega) (by unfold In; omega) (by decide) hp hw
 have e3:KN ax a b=some (rU a.v b.v (ax - a.p.z) (b.p.z - a.p.z)):=by unfold KN; rw [p1,p2]; exact amf (m:=255) (a:=a.v) (b:=b.v) (by unfold In; omega) (by unfold In; omega) (by decide) hp hw
 unfold p9;simp only [e0,e1,e2,e3,bx,bq,ai];rfl
end Go.Proofs.YtchbpckkmgcgkaaGreat.b
end
