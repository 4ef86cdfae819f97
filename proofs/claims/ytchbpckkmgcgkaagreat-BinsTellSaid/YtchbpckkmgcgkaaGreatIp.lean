/- Part of the proof of BinsTell: the machine, shown to be the model's, and plain models. No conditions. -/
import Derived.Test.YtchbpckkmgcgkaaGreatGp
import Derived.Test.YtchbpckkmgcgkaaGreatHp
set_option linter.unusedSimpArgs false
set_option linter.unusedVariables false
section
namespace Go.K
open Go Go.aB
theorem aO.alu {X:Type} {step:X->aO X} {I:Nat->X->Prop} {Q:ai->X->Prop} {n:Nat}
  (h:∀ j x,j<=n->I j x->(∃ x',step x = .next x'/\j < n/\I (j+1) x')\/∃ e x',step x = .out e x'/\wI e=false/\Q e x') :
  ∀ (r j:Nat) (x:X),j+r=n->I j x->∀ N,r < N->∃ e x',aO.go step N x = .out e x'/\Q e x'
 | r,j,x,hj,hI,0,hN=>by omega
 | r,j,x,hj,hI,N+1,hN=>by
  rcases h j x (by omega) hI with ⟨x',h1,h2,h3⟩ | ⟨e,x',h1,h2,h3⟩
  ·obtain ⟨r',rfl⟩:∃ r',r=r' + 1:=⟨r - 1,by omega⟩
   obtain ⟨e,y,h4,h5⟩:=aO.alu h r' (j+1) x' (by omega) h3 N (by omega);exact ⟨e,y,by simp only [aO.go,h1,h4],h5⟩
  ·exact ⟨e,x',by simp only [aO.go,h1,h2,aq],h3⟩
theorem bp {X:Type} {step:X->aO X} (I:Nat->X->Prop) (Q:ai->X->Prop) (n:Nat) (hn:n < eS)
  (h:∀ j x,j<=n->I j x->(∃ x',step x = .next x'/\j < n/\I (j+1) x')\/∃ e x',step x = .out e x'/\wI e=false/\Q e x') {x:X} (h0:I 0 x) :
  ∃ e x',goN step x = .out e x'/\Q e x':=aO.alu h n 0 x (by omega) h0 eS hn
theorem aO.kf {X:Type} (e:ai) (x:X) (e' : ai):(aO.out e x).by e' = fa e e':=rfl
theorem aO.kh {X:Type} [Inhabited X] (e:ai) (x:X):(aO.out e x).st=x:=rfl
theorem kE {n:Int} (h : -9223372036854775808<=n) (h' : n < 9223372036854775808):az n=n:=by
 show IntKind.wrap .i64 n=n;unfold IntKind.wrap;by_cases hn:0<=n
 ·have h1:n % (2 ^ IntKind.i64.bits:Int)=n:=Int.emod_eq_of_lt hn (by show n < 18446744073709551616; omega)
  simp only [h1];rw [ay];intro hc;simp only [aD,kV] at hc;have:n >= 9223372036854775808:=hc.2;omega
 ·have h1:n % (2 ^ IntKind.i64.bits:Int)=n+18446744073709551616:=by
   show n % 18446744073709551616=n+18446744073709551616;omega
  simp only [h1];rw [aR]
  ·show n+18446744073709551616 - 18446744073709551616=n
   omega
  ·simp only [aD,kV]
   refine ⟨rfl,?_⟩;show n+18446744073709551616 >= 9223372036854775808;omega
theorem abu {b n m:Nat} (h:(n+m) * b<=140737488355328) (h2:n+m<=17592186044416):gi b n m=true:=by
 unfold gi;rw [aD];exact ⟨Nat.ble_eq_true_of_le h,Nat.ble_eq_true_of_le h2⟩
theorem tI {b n m:Nat} (hb:b<=1000000) (hn:n<=1000000) (hm:m<=1000000) (_:0 < m\/n=0):gi b n m=true:=
 abu (oO (Nat.mul_le_mul (by omega:n+m<=2000000) hb) (by decide)) (by omega)
theorem Fq {b n m:Nat} (hb:b<=1000000:=by omega) (hn:n<=1000000:=by omega) (hm:m<=1000000:=by omega):gi b n m=true:=
 abu (oO (Nat.mul_le_mul (by omega:n+m<=2000000) hb) (by decide)) (by omega)
@[simp] theorem aH (n:Nat):dk n n=true:=kp n
theorem Sl.Lt {α:Type} [Inhabited α] (s:Sl α) (v:α):(s.push v).n=s.n+1:=rfl
theorem Sl.zF {α:Type} [Inhabited α] {s:Sl α} {v:α} {i:Nat} (h:i < s.n):(s.push v).get i=s.get i:=by
 have:Nat.blt i s.n=true:=by rw [bT]; exact h
 simp only [Sl.push,this,aj]
theorem Sl.Fs {α:Type} [Inhabited α] {s:Sl α} {v:α} : (s.push v).get s.n=v:=by
 have:Nat.blt s.n s.n=false:=by
  cases h:Nat.blt s.n s.n with
  | false=>rfl
  | true=>rw [bT] at h; omega
 simp only [Sl.push,this,aq,kp,aj]
theorem Sl.arF {α:Type} (s t:Sl α):(s.join t).n=s.n+t.n:=rfl
theorem Sl.amP {α:Type} {s t:Sl α} {i:Nat} (h:i < s.n):(s.join t).get i=s.get i:=by
 have:Nat.blt i s.n=true:=by rw [bT]; exact h
 simp only [Sl.join,this,aj]
theorem Sl.alv {α:Type} {s t:Sl α} {i:Nat} (h:s.n<=i):(s.join t).get i=t.get (i - s.n):=by
 have:Nat.blt i s.n=false:=by
  cases h' : Nat.blt i s.n with
  | false=>rfl
  | true=>rw [bT] at h'; omega
 simp only [Sl.join,this,aq]
end Go.K
end
section
namespace Go.Proofs.YtchbpckkmgcgkaaGreat.b
open Go.K
open Go.aB (ai)
theorem aw {n:Int} (h : -4611686018427387904<=n:=by omega) (h' : n<=4611686018427387904:=by omega):az n=n:=kE (by omega) (by omega)
theorem PX (lo hi:Int) (l:Sl Int) (hn:l.n<=1000):∃ b,pH lo hi l=some b/\(b=true↔∀ i,i < l.n->lo<=l.get i/\l.get i<=hi):=by
 obtain ⟨e,x',h1,h2⟩:=bp (step:=nc) (x:=⟨lo,hi,false,l,((l.n:Nat):Int),(0:Int)⟩)
  (fun j x=>x=⟨lo,hi,false,l,((l.n:Nat):Int),(j:Int)⟩/\j<=l.n/\∀ i,i < j->lo<=l.get i/\l.get i<=hi)
  (fun e x=>(e = .exit 0/\∀ i,i < l.n->lo<=l.get i/\l.get i<=hi)\/(e = .ret/\x.t6=false/\¬ ∀ i,i < l.n->lo<=l.get i/\l.get i<=hi)) l.n (by have:eS=10000000000000:=rfl; omega)
  (fun j x hj ⟨hx,hle,hI⟩=>by
   subst hx;unfold nc bj;by_cases a8:j < l.n
   ·have e1:decide ((j:Int) < ((l.n:Nat):Int))=true:=ao (by omega)
    have e2:decide ((0:Int)<=(j:Int))=true:=ao (by omega);simp only [e1,e2,aj,bI,cm];cases ha:decide (l.get j < lo) with
    | true=>
     right;refine ⟨_,_,rfl,rfl,.inr ⟨rfl,rfl,fun h=>?_⟩⟩;have:=h j a8; have:=pT ha; omega
    | false=>
     cases hb:decide (l.get j > hi) with
     | true=>
      right;refine ⟨_,_,rfl,rfl,.inr ⟨rfl,rfl,fun h=>?_⟩⟩;have:=h j a8; have:=pT hb; omega
     | false=>
      left;refine ⟨_,rfl,by omega,?_,by omega,fun i Gw=>?_⟩
      ·rw [aw (by omega) (by omega)]; rfl
      ·by_cases vl:i=j
       ·subst vl
        have:=of_decide_eq_false ha; have:=of_decide_eq_false hb; omega
       ·exact hI i (by omega)
   ·have e1:decide ((j:Int) < ((l.n:Nat):Int))=false:=ax (by omega)
    simp only [e1,aq];right;exact ⟨_,_,rfl,rfl,.inl ⟨rfl,fun i Gw=>hI i (by omega)⟩⟩)
  ⟨rfl,by omega,fun i Gw=>by omega⟩
 have h0:y8 lo hi l = .out e x':=h1;unfold pH;rw [h0,aO.kf,aO.kf,aO.kh];rcases h2 with ⟨rfl,h2⟩ | ⟨rfl,h3,h2⟩
 ·exact ⟨true,rfl,by simpa using h2⟩
 ·exact ⟨false,by simp [fa,h3],by simpa using h2⟩
theorem alw (dn:Int) (l:Sl Int) (hn:l.n<=1000) (hm:0<=dn/\dn<=1000000):∃ b,EI dn l=some b/\(b=true↔∀ i,i < l.n->-dn<=l.get i/\l.get i<=dn):=by
 have hw:az (0 - dn) = -dn:=by rw [aw (by omega) (by omega)]; omega
 obtain ⟨e,x',h1,h2⟩:=bp (step:=sX) (x:=⟨dn,false,l,((l.n:Nat):Int),(0:Int)⟩)
  (fun j x=>x=⟨dn,false,l,((l.n:Nat):Int),(j:Int)⟩/\j<=l.n/\∀ i,i < j->-dn<=l.get i/\l.get i<=dn)
  (fun e x=>(e = .exit 0/\∀ i,i < l.n->-dn<=l.get i/\l.get i<=dn)\/(e = .ret/\x.t4=false/\¬ ∀ i,i < l.n->-dn<=l.get i/\l.get i<=dn)) l.n (by have:eS=10000000000000:=rfl; omega)
  (fun j x hj ⟨hx,hle,hI⟩=>by
   subst hx;unfold sX bj;by_cases a8:j < l.n
   ·have e1:decide ((j:Int) < ((l.n:Nat):Int))=true:=ao (by omega)
    have e2:decide ((0:Int)<=(j:Int))=true:=ao (by omega);simp only [e1,e2,aj,bI,cm,hw];cases ha:decide (l.get j < -dn) with
    | true=>
     right;refine ⟨_,_,rfl,rfl,.inr ⟨rfl,rfl,fun h=>?_⟩⟩;have:=h j a8; have:=pT ha; omega
    | false=>
     cases hb:decide (l.get j > dn) with
     | true=>
      right;refine ⟨_,_,rfl,rfl,.inr ⟨rfl,rfl,fun h=>?_⟩⟩;have:=h j a8; have:=pT hb; omega
     | false=>
      left;refine ⟨_,rfl,by omega,?_,by omega,fun i Gw=>?_⟩
      ·rw [aw (by omega) (by omega)]; rfl
      ·by_cases vl:i=j
       ·subst vl
        have:=of_decide_eq_false ha; have:=of_decide_eq_false hb; omega
       ·exact hI i (by omega)
   ·have e1:decide ((j:Int) < ((l.n:Nat):Int))=false:=ax (by omega)
    simp only [e1,aq];right;exact ⟨_,_,rfl,rfl,.inl ⟨rfl,fun i Gw=>hI i (by omega)⟩⟩)
  ⟨rfl,by omega,fun i Gw=>by omega⟩
 have h0:KH dn l = .out e x':=h1;unfold EI;rw [h0,aO.kf,aO.kf,aO.kh];rcases h2 with ⟨rfl,h2⟩ | ⟨rfl,h3,h2⟩
 ·exact ⟨true,rfl,by simpa using h2⟩
 ·exact ⟨false,by simp [fa,h3],by simpa using h2⟩
def xg (v:gY):Prop:=-4096<=v.x/\v.x<=4096/\-4096<=v.y/\v.y<=4096/\-4096<=v.z/\v.z<=4096
theorem ash {p:Int->Prop} (a b c:Int):(∀ i,i < (Sl.lit [a,b,c]).n->p ((Sl.lit [a,b,c]).get i))↔p a/\p b/\p c:=by
 constructor
 ·intro h
  exact ⟨h 0 (show 0 < 3 by omega),h 1 (show 1 < 3 by omega),h 2 (show 2 < 3 by omega)⟩
 ·rintro ⟨h1,h2,h3⟩ i hi
  have hi:i < 3:=hi
  match i,hi with
  | 0,_=>exact h1
  | 1,_=>exact h2
  | 2,_=>exact h3
theorem asi {p:Int->Prop} (a b:Int):(∀ i,i < (Sl.lit [a,b]).n->p ((Sl.lit [a,b]).get i))↔p a/\p b:=by
 constructor
 ·intro h
  exact ⟨h 0 (show 0 < 2 by omega),h 1 (show 1 < 2 by omega)⟩
 ·rintro ⟨h1,h2⟩ i hi
  have hi:i < 2:=hi
  match i,hi with
  | 0,_=>exact h1
  | 1,_=>exact h2
theorem atQ {p:Int->Prop} (a:Int):(∀ i,i < (Sl.lit [a]).n->p ((Sl.lit [a]).get i))↔p a:=by
 constructor
 ·intro h
  exact h 0 (show 0 < 1 by omega)
 ·intro h1 i hi
  have hi:i < 1:=hi
  match i,hi with
  | 0,_=>exact h1
theorem yy (v:gY):∃ e,qX v=some e/\(e=0↔xg v):=by
 obtain ⟨b,h1,h2⟩:=alw 4096 (Sl.lit [v.x,v.y,v.z]) (show 3<=1000 by omega) (by omega);rw [ash (p:=fun n=>-4096<=n/\n<=4096)] at h2;unfold qX Dh;rw [h1];cases b with
 | true=>exact ⟨0,rfl,by simpa [xg,and_assoc] using h2⟩
 | false=>exact ⟨20,rfl,by simp only [yI,false_iff] at h2; simp only [xg]; omega⟩
def PY (s:yg):Prop:=(-131072<=s.x/\s.x<=131072)/\(-131072<=s.y/\s.y<=131072)/\(1<=s.d/\s.d<=65536)/\(0<=s.u/\s.u<=255)/\0<=s.v/\s.v<=255
theorem Hs (s:yg):∃ e,rl s=some e/\(e=0↔PY s):=by
 obtain ⟨b,h1,h2⟩:=PX (-131072) 131072 (Sl.lit [s.x,s.y]) (show 2<=1000 by omega);rw [asi (p:=fun n=>-131072<=n/\n<=131072)] at h2;obtain ⟨c,h3,h4⟩:=PX 1 65536 (Sl.lit [s.d]) (show 1<=1000 by omega);rw [atQ (p:=fun n=>1<=n/\n<=65536)] at h4;obtain ⟨d,h5,h6⟩:=PX 0 255 (Sl.lit [s.u,s.v]) (show 2<=1000 by omega);rw [asi (p:=fun n=>0<=n/\n<=255)] at h6;unfold rl AZ A4 A5;rw [h1,h3,h5];unfold PY;cases b with
 | false=>exact ⟨8,rfl,by simp only [yI,false_iff] at h2; omega⟩
 | true=>
  simp only [true_iff] at h2;cases c with
  | false=>exact ⟨8,rfl,by simp only [yI,false_iff] at h4; omega⟩
  | true=>
   simp only [true_iff] at h4;cases d with
   | false=>exact ⟨8,rfl,by simp only [yI,false_iff] at h6; omega⟩
   | true=>
    simp only [true_iff] at h6;exact ⟨0,rfl,by simp only [true_iff]; exact ⟨h2.1,h2.2,h4,h6.1,h6.2⟩⟩
def PZ (t:aW):Prop:=PY t.e0/\PY t.e1/\PY t.e2
def ud (t:aW):Int:=(t.e1.x - t.e0.x) * (t.e2.y - t.e0.y) - (t.e2.x - t.e0.x) * (t.e1.y - t.e0.y)
theorem sm {a b c d:Int} (hc:0<=c) (h1 : -c<=a/\a<=c) (h2 : -d<=b/\b<=d) : -(c * d)<=a * b/\a * b<=c * d:=by
 have hd:0<=d:=by omega
 have h3:a.natAbs * b.natAbs<=c.natAbs * d.natAbs:=Nat.mul_le_mul (by omega) (by omega);have h4:(a * b).natAbs=a.natAbs * b.natAbs:=Int.natAbs_mul a b;have h5:(c * d).natAbs=c.natAbs * d.natAbs:=Int.natAbs_mul c d;have h6:0<=c * d:=Int.mul_nonneg hc hd;omega
theorem DT (t:aW):(PZ t/\px t=some (ud t,0))\/(¬ PZ t/\∃ e,px t=some (0,e)/\e≠0):=by
 obtain ⟨e0,h1,h2⟩:=Hs t.e0;obtain ⟨e1,h3,h4⟩:=Hs t.e1;obtain ⟨e2,h5,h6⟩:=Hs t.e2;unfold px De Df Dg;rw [h1,h3,h5];unfold PZ;by_cases Ew:e0=0
 ·by_cases Um:e1=0
  ·by_cases En:e2=0
   ·left
    have g0:=h2.1 Ew; have g1:=h4.1 Um; have g2:=h6.1 En;refine ⟨⟨g0,g1,g2⟩,?_⟩;subst Ew Um En;obtain ⟨a1,a2,_⟩:=g0;obtain ⟨b1,b2,_⟩:=g1;obtain ⟨c1,c2,_⟩:=g2;have m1:=sm (a:=t.e1.x - t.e0.x) (b:=t.e2.y - t.e0.y) (c:=262144) (d:=262144) (by omega) (by omega) (by omega);have m2:=sm (a:=t.e2.x - t.e0.x) (b:=t.e1.y - t.e0.y) (c:=262144) (d:=262144) (by omega) (by omega) (by omega);show some (az (az (az (t.e1.x - t.e0.x) * az (t.e2.y - t.e0.y)) - az (az (t.e2.x - t.e0.x) * az (t.e1.y - t.e0.y))),(0:Int))=some (ud t,0);rw [aw (n:=t.e1.x - t.e0.x),aw (n:=t.e2.y - t.e0.y),aw (n:=t.e2.x - t.e0.x),aw (n:=t.e1.y - t.e0.y),
     aw (n:=(t.e1.x - t.e0.x) * (t.e2.y - t.e0.y)),aw (n:=(t.e2.x - t.e0.x) * (t.e1.y - t.e0.y))]
    rw [aw (by omega) (by omega)];rfl
   ·right
    refine ⟨fun h=>En (h6.2 h.2.2),e2,?_,En⟩;subst Ew Um;have:(e2 != (0:Int))=true:=by simpa using En
    simp [this]
  ·right
   refine ⟨fun h=>Um (h4.2 h.2.1),e1,?_,Um⟩;subst Ew;have:(e1 != (0:Int))=true:=by simpa using Um
   simp [this]
 ·right
  refine ⟨fun h=>Ew (h2.2 h.1),e0,?_,Ew⟩;have:(e0 != (0:Int))=true:=by simpa using Ew
  simp [this]
theorem Lu (a b:Int) (hb:1<=b) (ha : -4611686018427387904<=a/\a<=4611686018427387904):eT a b=some (a / b,0):=by
 have h1:decide (b < 1)=false:=ax (by omega);have h2:decide (b=0)=false:=ax (by omega);have h3:=Int.mul_tdiv_add_tmod a b;have h4:=Int.natAbs_tdiv_le_natAbs a b;have h5:(Int.tmod a b).natAbs < b.natAbs:=by rw [Int.natAbs_tmod]; exact Nat.mod_lt _ (by omega)
 unfold eT;simp only [h1,h2,aq,yJ,aj];cases hr:decide (Int.tmod a b < 0) with
 | true=>
  have hr:=pT hr;have e:a / b=Int.tdiv a b - 1:=((Int.ediv_emod_unique (by omega:0 < b)).2 ⟨(show (Int.tmod a b+b)+b * (Int.tdiv a b - 1)=a by rw [Int.mul_sub]; omega),by omega,by omega⟩).1;rw [aj,aw (n:=Int.tdiv a b),kE (by omega) (by omega),e]
 | false=>
  have hr:=of_decide_eq_false hr;have e:a / b=Int.tdiv a b:=((Int.ediv_emod_unique (by omega:0 < b)).2 ⟨(show Int.tmod a b+b * Int.tdiv a b=a by omega),by omega,by omega⟩).1;rw [aq,aw (by omega) (by omega),e]
theorem amQ (a b:Int) (hb:1<=b) (ha : -4611686018427387904<=a/\a<=4611686018427387904):wJ a b=some (-((-a) / b),0):=by
 have h1:decide (b < 1)=false:=ax (by omega);have h2:decide (b=0)=false:=ax (by omega);have h3:=Int.mul_tdiv_add_tmod a b;have h4:=Int.natAbs_tdiv_le_natAbs a b;have h5:(Int.tmod a b).natAbs < b.natAbs:=by rw [Int.natAbs_tmod]; exact Nat.mod_lt _ (by omega)
 unfold wJ;simp only [h1,h2,aq,yJ,aj];cases hr:decide (Int.tmod a b > 0) with
 | true=>
  have hr:=pT hr;have e:(-a) / b = -(Int.tdiv a b+1):=((Int.ediv_emod_unique (by omega:0 < b)).2 ⟨(show (b - Int.tmod a b)+b * (-(Int.tdiv a b+1)) = -a by rw [Int.mul_neg,Int.mul_add]; omega),by omega,by omega⟩).1;rw [aj,aw (n:=Int.tdiv a b),kE (by omega) (by omega),e,Int.neg_neg]
 | false=>
  have hr:=of_decide_eq_false hr;have e:(-a) / b = -(Int.tdiv a b):=((Int.ediv_emod_unique (by omega:0 < b)).2 ⟨(show (-Int.tmod a b)+b * (-Int.tdiv a b) = -a by rw [Int.mul_neg]; omega),by omega,by omega⟩).1;rw [aq,aw (by omega) (by omega),e,Int.neg_neg]
end Go.Proofs.YtchbpckkmgcgkaaGreat.b
end
section
namespace Go.Proofs.YtchbpckkmgcgkaaGreat.b
open Go.K
def MI (t:aW):Prop:=PZ t/\0 < ud t
theorem alx (t:aW):∃ e,uK t=some e/\(e=0↔MI t):=by
 unfold uK rI MI;rcases DT t with ⟨h1,h2⟩ | ⟨h1,e,h2,h3⟩
 ·rw [h2]
  cases hb:decide (ud t<=0) with
  | true=>
   have:=pT hb;refine ⟨6,by simp [hb],by simp; omega⟩
  | false=>
   have:=of_decide_eq_false hb;exact ⟨0,by simp [hb],by simp [h1]; omega⟩
 ·rw [h2]
  have:(e==(0:Int))=false:=by simpa using h3
  exact ⟨e,by simp [this],by simp [h1,h3]⟩
def Pix (x y:Int):Prop:=(0<=x/\x < 64)/\0<=y/\y < 64
theorem acG (x y:Int):∃ b,rY x y=some b/\(b=true↔Pix x y):=by
 unfold rY Pix;cases hb:decide (min x y >= 0) with
 | true=>
  have:=pT hb;refine ⟨decide (max x y < 64),rfl,?_⟩;rw [kV];omega
 | false=>
  have:=of_decide_eq_false hb;refine ⟨false,rfl,?_⟩;simp only [yI,false_iff];omega
def W0 (t:aW) (p q:Int):Int:=(t.e2.x - t.e1.x) * (q - t.e1.y) - (p - t.e1.x) * (t.e2.y - t.e1.y)
def W1 (t:aW) (p q:Int):Int:=(t.e0.x - t.e2.x) * (q - t.e2.y) - (p - t.e2.x) * (t.e0.y - t.e2.y)
def W2 (t:aW) (p q:Int):Int:=(t.e1.x - t.e0.x) * (q - t.e0.y) - (p - t.e0.x) * (t.e1.y - t.e0.y)
theorem aqw (a b c d e f x y:Int):((e-c)*(y-d)-(x-c)*(f-d))+((a-e)*(y-f)-(x-e)*(b-f))+((c-a)*(y-b)-(x-a)*(d-b))=(c-a)*(f-b)-(e-a)*(d-b):=by grind
theorem asT (a b c d e f x y:Int):((e-c)*(y-d)-(x-c)*(f-d))*(a-x)+((a-e)*(y-f)-(x-e)*(b-f))*(c-x)+((c-a)*(y-b)-(x-a)*(d-b))*(e-x)=0:=by grind
theorem asU (a b c d e f x y:Int):((e-c)*(y-d)-(x-c)*(f-d))*(b-y)+((a-e)*(y-f)-(x-e)*(b-f))*(d-y)+((c-a)*(y-b)-(x-a)*(d-b))*(f-y)=0:=by grind
theorem agh (p q r u v w:Int) (hp:0<=p) (hq:0<=q) (hr:0<=r) (hs:0 < p+q+r) (h:p * u+q * v+r * w=0):u<=0\/v<=0\/w<=0:=by
 by_cases h1:u<=0
 ·exact .inl h1
 by_cases h2:v<=0
 ·exact .inr (.inl h2)
 by_cases h3:w<=0
 ·exact .inr (.inr h3)
 exfalso;have a1:p * 1<=p * u:=Int.mul_le_mul_of_nonneg_left (by omega) hp;have a2:q * 1<=q * v:=Int.mul_le_mul_of_nonneg_left (by omega) hq;have a3:r * 1<=r * w:=Int.mul_le_mul_of_nonneg_left (by omega) hr;omega
theorem aly (p q r u v w:Int) (hp:0<=p) (hq:0<=q) (hr:0<=r) (hs:0 < p+q+r) (h:p * u+q * v+r * w=0):0<=u\/0<=v\/0<=w:=by
 have:=agh p q r (-u) (-v) (-w) hp hq hr hs (by rw [Int.mul_neg,Int.mul_neg,Int.mul_neg]; omega);omega
theorem between (t:aW) (p q:Int) (hf:MI t) (h0:0<=W0 t p q) (h1:0<=W1 t p q) (h2:0<=W2 t p q) :
  (min (min t.e0.x t.e1.x) t.e2.x<=p/\p<=max (max t.e0.x t.e1.x) t.e2.x)/\min (min t.e0.y t.e1.y) t.e2.y<=q/\q<=max (max t.e0.y t.e1.y) t.e2.y:=by
 have hs:0 < W0 t p q+W1 t p q+W2 t p q:=by
  have:=aqw t.e0.x t.e0.y t.e1.x t.e1.y t.e2.x t.e2.y p q;have h:=hf.2;unfold ud at h;unfold W0 W1 W2;omega
 have hx:=asT t.e0.x t.e0.y t.e1.x t.e1.y t.e2.x t.e2.y p q;have hy:=asU t.e0.x t.e0.y t.e1.x t.e1.y t.e2.x t.e2.y p q;have a1:=agh _ _ _ _ _ _ h0 h1 h2 hs hx;have a2:=aly _ _ _ _ _ _ h0 h1 h2 hs hx;have a3:=agh _ _ _ _ _ _ h0 h1 h2 hs hy;have a4:=aly _ _ _ _ _ _ h0 h1 h2 hs hy;omega
end Go.Proofs.YtchbpckkmgcgkaaGreat.b
end
section
namespace Go.Proofs.YtchbpckkmgcgkaaGreat.b
open Go.K
open Go.aB (ai)
theorem yz {α:Type} {c:Bool} {a b:Option α} (ha:c=true->a.isSome=true) (hb:c=false->b.isSome=true):(cond c a b).isSome=true:=by
 cases c with
 | true=>exact ha rfl
 | false=>exact hb rfl
theorem abv {α:Type} {a:Option α} (h:a.isSome=true):∃ r,a=some r:=adE.1 h
theorem aji (v:gY):(qX v).isSome=true:=by obtain ⟨e,h,_⟩:=yy v; rw [h]; rfl
theorem Xz (n a b:Int):dm n a b=some (decide (a<=n/\n<=b)):=by
 unfold dm;by_cases h:n >= a
 ·simp only [ao h,aj]
  congr 1;by_cases h2:n<=b
  ·rw [ao h2,ao ⟨h,h2⟩]
  ·rw [ax h2,ax (fun q=>h2 q.2)]
 ·simp only [ax h,aq]
  rw [ax (fun q=>h q.1)]
def agi (c:aE):Prop:=xg c.pos/\(1<=c.qY/\c.qY<=64)/\(256<=c.au/\c.au<=4096)/\(1<=c.w/\c.w<=64)/\1<=c.h/\c.h<=64
theorem Lv (c:aE):∃ e,ir c=some e/\(e=0->agi c):=by
 obtain ⟨e,h1,h2⟩:=yy c.pos;unfold ir xp xq xr xt xu xv xw xx xy xz vO vP vQ vR;simp only [Xz,h1,bN,bG,aj];have key:∀ (b:Bool) (r:Option Int),(b=true->∃ e,r=some e/\(e=0->agi c))->∃ e,cond b r (some 150)=some e/\(e=0->agi c):=by
  intro b r h;cases b with
  | true=>exact h rfl
  | false=>exact ⟨150,rfl,fun h=>by omega⟩
 refine key _ _ fun g0=>key _ _ fun g1=>key _ _ fun g2=>key _ _ fun g3=>key _ _ fun g4=>?_;have cf:agi c:=by
  simp only [kV] at g1 g2 g3 g4;exact ⟨h2.1 (by simpa using g0),g1,g2,g3,g4⟩
 repeat' (refine key _ _ fun _=>?_)
 cases (!decide (-256<=c.m.e2.e2/\c.m.e2.e2<=256)) with
 | true=>exact ⟨150,rfl,fun h=>by omega⟩
 | false=>exact ⟨0,rfl,fun _=>cf⟩
theorem aqx (t:aW):(px t).isSome=true:=by
 rcases DT t with ⟨_,h⟩ | ⟨_,e,h,_⟩ <;> rw [h] <;> rfl
theorem aoP (t:aW) (k:Int):(py t k).isSome=true:=by
 have e0:(mJ t k).isSome=true:=aqx t;unfold py;simp only [e0,aj]
 repeat' (refine yz (fun _=>?_) (fun _=>?_))
 all_goals rfl
theorem jX {b n m:Nat} (hb:b<=1000:=by omega) (hn:n<=1000000:=by omega) (hm:0 < m/\m<=1000:=by omega):gi b n m=true:=tI (by omega) (by omega) (by omega) (.inl hm.1)
def Tq (x:Item):Prop:=x.uV.n=x.aG.n/\∀ i,i < x.aP.n->(0<=(x.aP.get i).e0/\(x.aP.get i).e0 < (x.aG.n:Int))/\(0<=(x.aP.get i).e1/\(x.aP.get i).e1 < (x.aG.n:Int))/\0<=(x.aP.get i).e2/\(x.aP.get i).e2 < (x.aG.n:Int)
theorem abw (n:Int):(wN n).isSome=true:=by
 unfold wN;exact yz (fun _=>rfl) (fun _=>rfl)
theorem arG (l:Sl gY) (hn:l.n<=4096):∃ e x',eO l = .out e x'/\(e = .ret\/e = .exit 0/\x'.l=l):=by
 unfold eO;refine bp (step:=ov) (fun j x=>x.l=l/\x.t17=l/\x.t18=(l.n:Int)/\x.t19=(j:Int)/\j<=l.n) (fun e x'=>e = .ret\/e = .exit 0/\x'.l=l) l.n (by have:eS=10000000000000:=rfl; omega) (fun j x hj ⟨h1,h2,h3,h4,h5⟩=>?_) ⟨rfl,rfl,rfl,rfl,cw _⟩;have e0:(uL x).isSome=true:=abw _;have e1:(uM x).isSome=true:=abw _;have e2:(uN x).isSome=true:=abw _;have w1:az (x.t19+1)=x.t19+1:=aw;unfold ov o5 bj;by_cases h:x.t19 < x.t18
 ·simp only [e0,e1,e2,w1,aj,bI,ao h,ao (show (0:Int)<=x.t19 by omega),ao (show x.t19 < ((x.t17.n:Nat):Int) by rw [h2]; omega)]
  cases (!((uL x).getD default)) with
  | true=>exact .inr ⟨_,_,rfl,rfl,.inl rfl⟩
  | false=>
   cases (!((uM x).getD default)) with
   | true=>exact .inr ⟨_,_,rfl,rfl,.inl rfl⟩
   | false=>
    cases (!((uN x).getD default)) with
    | true=>exact .inr ⟨_,_,rfl,rfl,.inl rfl⟩
    | false=>exact .inl ⟨_,rfl,by omega,h1,h2,h3,by show x.t19+1=_; omega,by omega⟩
 ·simp only [aq,ax h]
  exact .inr ⟨_,_,rfl,rfl,.inr ⟨rfl,h1⟩⟩
theorem aqy (x:rp) (hn:x.t49.n<=4096) (h0:x.t50=(x.t49.n:Int)) (h1:x.t51=0):∃ x',goN lg x = .out (.exit 2) x':=by
 obtain ⟨e,x',h,rfl⟩:=bp (step:=lg) (x:=x) (fun j y=>y.t49=x.t49/\y.t50=(x.t49.n:Int)/\y.t51=(j:Int)/\j<=x.t49.n) (fun e _=>e = .exit 2) x.t49.n (by have:eS=10000000000000:=rfl; omega) (fun j y hj ⟨h2,h3,h4,h5⟩=>by
  have w1:az (y.t51+1)=y.t51+1:=aw;unfold lg bj;by_cases h:y.t51 < y.t50
  ·simp only [w1,aj,bI,ao h,ao (show (0:Int)<=y.t51 by omega),ao (show y.t51 < ((y.t49.n:Nat):Int) by rw [h2]; omega)]
   exact .inl ⟨_,rfl,by omega,h2,h3,by show y.t51+1=_; omega,by omega⟩
  ·simp only [aq,ax h]
   exact .inr ⟨_,_,rfl,rfl,rfl⟩) ⟨rfl,h0,h1,cw _⟩
 exact ⟨x',h⟩
theorem aoQ (l:Sl gY):(zh l).isSome=true:=by
 unfold zh zg;refine yz (fun _=>rfl) (fun h0=>yz (fun _=>rfl) (fun h1=>?_));have hz:l.n≠0:=fun h=>by
  rw [h] at h0;exact absurd h0 (by decide)
 have hn:l.n<=4096:=by
  have:=of_decide_eq_false h1;omega
 obtain ⟨e,x',hx,h⟩:=arG l hn;rcases h with rfl | ⟨rfl,hl⟩
 ·have b1:(eO l).by (.exit 0)=false:=by rw [hx]; rfl
  have b2:(eO l).by .ret=true:=by rw [hx]; rfl
  simp only [b1,b2,aj,aq];rfl
 ·have b1:(eO l).by (.exit 0)=true:=by rw [hx]; rfl
  have b2:(eO l).st.l=l:=by rw [hx]; exact hl
  obtain ⟨y,hy⟩:∃ y,tv l = .out (.exit 2) y:=by
   unfold tv;simp only [b2];exact aqy _ (by show Int.toNat _ - 1<=4096; omega) rfl rfl
  have b3:(tv l).by (.exit 2)=true:=by rw [hy]; rfl
  simp only [b1,b2,b3,aj,bI,ao (show (0:Int) < ((l.n:Nat):Int) by omega),ao (show (1:Int)<=((l.n:Nat):Int) by omega),ao (show ((l.n:Nat):Int)<=((l.n:Nat):Int) by omega)];rfl
theorem alz (n:Int):(mL n).isSome=true:=by
 unfold mL;exact yz (fun _=>rfl) (fun _=>rfl)
theorem ZQ (t:ch):(gP t).isSome=true:=by
 have e0:(vU t).isSome=true:=alz _;have e1:(vV t).isSome=true:=alz _;unfold gP;simp only [e0,e1,aj]
 repeat' (refine yz (fun _=>?_) (fun _=>?_))
 all_goals rfl
theorem MJ (l:Sl ch):(gU l).isSome=true:=by
 unfold gU;refine yz (fun _=>rfl) (fun h0=>?_);have hn:l.n<=16:=by
  have:=of_decide_eq_false h0;omega
 obtain ⟨e,x',h1,h2⟩:∃ e x',dt l = .out e x'/\(e = .ret\/e = .exit 0):=by
  unfold dt;refine bp (step:=eP) (fun j x=>x.t9=l/\x.t10=(l.n:Int)/\x.t11=(j:Int)/\j<=l.n) (fun e _=>e = .ret\/e = .exit 0) l.n (by have:eS=10000000000000:=rfl; omega) (fun j x hj ⟨h2,h3,h4,h5⟩=>?_) ⟨rfl,rfl,rfl,cw _⟩;have e0:(gT x).isSome=true:=ZQ _;have w1:az (x.t11+1)=x.t11+1:=aw;unfold eP bj;by_cases h:x.t11 < x.t10
  ·simp only [e0,w1,aj,bI,ao h,ao (show (0:Int)<=x.t11 by omega),ao (show x.t11 < ((x.t9.n:Nat):Int) by rw [h2]; omega)]
   cases (((gT x).getD default) != (0:Int)) with
   | true=>exact .inr ⟨_,_,rfl,rfl,.inl rfl⟩
   | false=>exact .inl ⟨_,rfl,by omega,h2,h3,by show x.t11+1=_; omega,by omega⟩
  ·simp only [aq,ax h]
   exact .inr ⟨_,_,rfl,rfl,.inr rfl⟩
 rcases h2 with rfl | rfl
 ·have b1:(dt l).by (.exit 0)=false:=by rw [h1]; rfl
  have b2:(dt l).by .ret=true:=by rw [h1]; rfl
  simp only [b1,b2,aj,aq];rfl
 ·have b1:(dt l).by (.exit 0)=true:=by rw [h1]; rfl
  simp only [b1,aj];rfl
theorem alA (l:KQ) (t:Int):(jj l t).isSome=true:=by
 unfold jj
 repeat' (refine yz (fun _=>?_) (fun _=>?_))
 all_goals rfl
theorem aqz (x:Item) (t:Int) (hn:x.aG.n<=64) (hu:x.uV.n=x.aG.n):∃ e x',dM x t = .out e x'/\(e = .ret/\x'.t4=false\/e = .exit 0/\x'.n=(x.aG.n:Int)/\x'.x=x/\x'.t4=false):=by
 unfold dM;refine bp (step:=jR) (fun j y=>y.x=x/\y.t38=x.aG/\y.t39=(x.aG.n:Int)/\y.t40=(j:Int)/\j<=x.aG.n/\y.n=(x.aG.n:Int)/\y.t4=false) (fun e y=>e = .ret/\y.t4=false\/e = .exit 0/\y.n=(x.aG.n:Int)/\y.x=x/\y.t4=false) x.aG.n (by have:eS=10000000000000:=rfl; omega) (fun j y hj ⟨h1,h2,h3,h4,h5,h6,h7⟩=>?_) ⟨rfl,rfl,rfl,rfl,cw _,rfl,rfl⟩;have e0:(o6 y).isSome=true:=aji _;have w1:az (y.t40+1)=y.t40+1:=aw;unfold jR bj;by_cases h:y.t40 < y.t39
 ·simp only [e0,w1,aj,bI,ao h,ao (show (0:Int)<=y.t40 by omega),ao (show y.t40 < ((y.t38.n:Nat):Int) by rw [h2]; omega),ao (show y.t40 < ((y.x.uV.n:Nat):Int) by rw [h1]; omega)]
  cases (((o6 y).getD default) != (0:Int)) with
  | true=>exact .inr ⟨_,_,rfl,rfl,.inl ⟨rfl,rfl⟩⟩
  | false=>
   cases (decide ((min (y.x.uV.get (Int.toNat y.t40)).e0 (y.x.uV.get (Int.toNat y.t40)).e1) < (0:Int))) with
   | true=>exact .inr ⟨_,_,rfl,rfl,.inl ⟨rfl,rfl⟩⟩
   | false=>
    cases (decide ((max (y.x.uV.get (Int.toNat y.t40)).e0 (y.x.uV.get (Int.toNat y.t40)).e1) > (255:Int))) with
    | true=>exact .inr ⟨_,_,rfl,rfl,.inl ⟨rfl,rfl⟩⟩
    | false=>exact .inl ⟨_,rfl,by omega,h1,h2,h3,by show y.t40+1=_; omega,by omega,h6,h7⟩
 ·simp only [aq,ax h]
  exact .inr ⟨_,_,rfl,rfl,.inr ⟨rfl,h6,h1,h7⟩⟩
def nB (l:Sl kq) (n:Int) (i:Nat):Prop:=(0<=(l.get i).e0/\(l.get i).e0 < n)/\(0<=(l.get i).e1/\(l.get i).e1 < n)/\0<=(l.get i).e2/\(l.get i).e2 < n
theorem aqA (x:lh) (hn:x.t82.n<=64) (h0:x.t83=(x.t82.n:Int)) (h1:x.t84=0) (h2:x.t4=false):∃ e x',goN gH x = .out e x'/\(e = .ret/\x'.t4=false\/e = .exit 2/\x'.n=x.n/\x'.x=x.x/\∀ i,i < x.t82.n->nB x.t82 x.n i):=by
 refine bp (step:=gH) (fun j y=>y.x=x.x/\y.t82=x.t82/\y.t83=(x.t82.n:Int)/\y.t84=(j:Int)/\j<=x.t82.n/\y.n=x.n/\y.t4=false/\∀ i,i < j->nB x.t82 x.n i) (fun e y=>e = .ret/\y.t4=false\/e = .exit 2/\y.n=x.n/\y.x=x.x/\∀ i,i < x.t82.n->nB x.t82 x.n i) x.t82.n (by have:eS=10000000000000:=rfl; omega) (fun j y hj ⟨h1,h2,h3,h4,h5,h6,h7,h8⟩=>?_) ⟨rfl,rfl,h0,h1,cw _,rfl,h2,fun i h=>absurd h (vv _)⟩;have w1:az (y.t84+1)=y.t84+1:=aw;unfold gH bj;by_cases h:y.t84 < y.t83
 ·simp only [w1,aj,bI,ao h,ao (show (0:Int)<=y.t84 by omega),ao (show y.t84 < ((y.t82.n:Nat):Int) by rw [h2]; omega)]
  cases g1:decide ((min (min (y.t82.get (Int.toNat y.t84)).e0 (y.t82.get (Int.toNat y.t84)).e1) (y.t82.get (Int.toNat y.t84)).e2) < (0:Int)) with
  | true=>exact .inr ⟨_,_,rfl,rfl,.inl ⟨rfl,rfl⟩⟩
  | false=>
   cases g2:decide ((max (max (y.t82.get (Int.toNat y.t84)).e0 (y.t82.get (Int.toNat y.t84)).e1) (y.t82.get (Int.toNat y.t84)).e2) >= y.n) with
   | true=>exact .inr ⟨_,_,rfl,rfl,.inl ⟨rfl,rfl⟩⟩
   | false=>
    refine .inl ⟨_,rfl,by omega,h1,h2,h3,by show y.t84+1=_; omega,by omega,h6,h7,fun i hi=>?_⟩;by_cases vl:i < j
    ·exact h8 i vl
    ·have e:i=j:=by omega
     subst e;have g1':=of_decide_eq_false g1;have g2':=of_decide_eq_false g2;rw [h2,h4,cm] at g1' g2';rw [h6] at g2';unfold nB;omega
 ·simp only [aq,ax h]
  exact .inr ⟨_,_,rfl,rfl,.inr ⟨rfl,h6,h1,fun i hi=>h8 i (by omega)⟩⟩
theorem ah6 (x:Item) (t:Int):∃ b,pz x t=some b/\(b=true->x.aG.n<=64/\x.aP.n<=64/\Tq x):=by
 have no:∃ b,(some false:Option Bool)=some b/\(b=true->x.aG.n<=64/\x.aP.n<=64/\Tq x):=⟨false,rfl,fun h=>absurd h (by decide)⟩
 unfold pz;cases g1:decide (((x.aG.n:Nat):Int) > (64:Int)) with
 | true=>exact no
 | false=>
 cases g2:(((x.uV.n:Nat):Int) != ((x.aG.n:Nat):Int)) with
 | true=>exact no
 | false=>
 cases g3:decide (((x.aP.n:Nat):Int) > (64:Int)) with
 | true=>exact no
 | false=>
 have e0:(yl x t).isSome=true:=alA _ _;simp only [aq,aj,e0];cases (((yl x t).getD default) != (0:Int)) with
 | true=>exact no
 | false=>
 have hv:x.aG.n<=64:=by
  have:=of_decide_eq_false g1;omega
 have ht:x.aP.n<=64:=by
  have:=of_decide_eq_false g3;omega
 have hu:x.uV.n=x.aG.n:=by
  have:((x.uV.n:Nat):Int)=((x.aG.n:Nat):Int):=by simpa using g2
  omega
 obtain ⟨e,y,hy,h⟩:=aqz x t hv hu;rcases h with ⟨rfl,hf⟩ | ⟨rfl,hn,hx,hf⟩
 ·have b1:(dM x t).by (.exit 0)=false:=by rw [hy]; rfl
  have b2:(dM x t).by .ret=true:=by rw [hy]; rfl
  have b3:(dM x t).st.t4=false:=by rw [hy]; exact hf
  simp only [b1,b2,b3,aj,aq];exact no
 ·have b1:(dM x t).by (.exit 0)=true:=by rw [hy]; rfl
  have s1:(dM x t).st=y:=by rw [hy]; rfl
  obtain ⟨e,z,hz,h⟩:∃ e z,de x t = .out e z/\(e = .ret/\z.t4=false\/e = .exit 2/\z.n=(x.aG.n:Int)/\z.x=x/\∀ i,i < x.aP.n->nB x.aP (x.aG.n:Int) i):=by
   unfold de;rw [s1,hn,hx];exact aqA _ ht rfl rfl hf
  rcases h with ⟨rfl,hf'⟩ | ⟨rfl,_,Ym,nE⟩
  ·have b2:(de x t).by (.exit 2)=false:=by rw [hz]; rfl
   have b3:(de x t).by .ret=true:=by rw [hz]; rfl
   have b4:(de x t).st.t4=false:=by rw [hz]; exact hf'
   simp only [b1,b2,b3,b4,aj,aq];exact no
  ·have b2:(de x t).by (.exit 2)=true:=by rw [hz]; rfl
   have e3:(iy x t).isSome=true:=aoQ _;simp only [b1,b2,e3,aj];have ok:x.aG.n<=64/\x.aP.n<=64/\Tq x:=⟨hv,ht,hu,nE⟩
   have q:∀ {c:Bool} {a b:Option Bool},(∃ r,a=some r/\(r=true->x.aG.n<=64/\x.aP.n<=64/\Tq x))->(∃ r,b=some r/\(r=true->x.aG.n<=64/\x.aP.n<=64/\Tq x))->∃ r,_root_.cond c a b=some r/\(r=true->x.aG.n<=64/\x.aP.n<=64/\Tq x):=fun {c} {a} {b} h1 h2=>by
    cases c with
    | true=>exact h1
    | false=>exact h2
   repeat' (refine q ?_ ?_)
   all_goals first | exact no | exact ⟨_,rfl,fun _=>ok⟩
def tJ (s:Show):Prop:=s.items.n<=256/\∀ i,i < s.items.n->(s.items.get i).aG.n<=64/\(s.items.get i).aP.n<=64/\Tq (s.items.get i)
theorem QU (s:Show):∃ e,eU s=some e/\(e=0->tJ s):=by
 have no:∀ k:Int,k≠0->∃ e,(some k:Option Int)=some e/\(e=0->tJ s):=fun k hk=>⟨k,rfl,fun h=>absurd h hk⟩
 unfold eU;cases g1:decide (((s.items.n:Nat):Int) > (256:Int)) with
 | true=>exact no 4 (by decide)
 | false=>
 cases decide (((s.av.n:Nat):Int) > (16:Int)) with
 | true=>exact no 4 (by decide)
 | false=>
 have hn:s.items.n<=256:=by
  have:=of_decide_eq_false g1;omega
 have e0:(rJ s).isSome=true:=MJ _;simp only [e0,aj,aq];cases (((rJ s).getD default) != (0:Int)) with
 | true=>exact no 8 (by decide)
 | false=>
 obtain ⟨e,x',hx,h⟩:∃ e x',dA s = .out e x'/\(e = .ret/\x'.t4 >= 0\/e = .exit 0/\∀ i,i < s.items.n->(s.items.get i).aG.n<=64/\(s.items.get i).aP.n<=64/\Tq (s.items.get i)):=by
  unfold dA;refine bp (step:=ca) (fun j y=>y.s=s.items/\y.t7=(s.items.n:Int)/\y.t8=(j:Int)/\j<=s.items.n/\∀ i,i < j->(s.items.get i).aG.n<=64/\(s.items.get i).aP.n<=64/\Tq (s.items.get i)) (fun e x'=>e = .ret/\x'.t4 >= 0\/e = .exit 0/\∀ i,i < s.items.n->(s.items.get i).aG.n<=64/\(s.items.get i).aP.n<=64/\Tq (s.items.get i)) s.items.n (by have:eS=10000000000000:=rfl; omega) (fun j y hj ⟨h1,h2,h3,h4,h5⟩=>?_) ⟨rfl,rfl,rfl,cw _,fun i h=>absurd h (vv _)⟩;obtain ⟨b,hb,cf⟩:=ah6 (y.s.get (Int.toNat y.t8)) ((y.Ee.av.n:Nat):Int);have e0:fW y=some b:=hb;have w1:az (y.t8+1)=y.t8+1:=aw;unfold ca bj;by_cases h:y.t8 < y.t7
  ·simp only [e0,w1,aj,bI,bN,bG,ao h,ao (show (0:Int)<=y.t8 by omega),ao (show y.t8 < ((y.s.n:Nat):Int) by rw [h1]; omega)]
   cases b with
   | false=>exact .inr ⟨_,_,rfl,rfl,.inl ⟨rfl,by show y.t8 >= 0; omega⟩⟩
   | true=>
    refine .inl ⟨_,rfl,by omega,h1,h2,by show y.t8+1=_; omega,by omega,fun i hi=>?_⟩;by_cases vl:i < j
    ·exact h5 i vl
    ·have e:i=j:=by omega
     subst e;have:=cf rfl;rw [h1,h3,cm] at this;exact this
  ·simp only [aq,ax h]
   exact .inr ⟨_,_,rfl,rfl,.inr ⟨rfl,fun i hi=>h5 i (by omega)⟩⟩
 rcases h with ⟨rfl,hp⟩ | ⟨rfl,nE⟩
 ·have b1:(dA s).by (.exit 0)=false:=by rw [hx]; rfl
  have b2:(dA s).by .ret=true:=by rw [hx]; rfl
  have b3:decide ((dA s).st.t4 >= (0:Int))=true:=by rw [hx]; exact ao hp
  simp only [b1,b2,b3,aj,aq];exact no 8 (by decide)
 ·have b1:(dA s).by (.exit 0)=true:=by rw [hx]; rfl
  simp only [b1,aj];exact ⟨0,rfl,fun _=>⟨hn,nE⟩⟩
def eo {α:Type} (l:Sl α):List α:=(List.range l.n).map l.get
theorem jO {α:Type} [Inhabited α] (l:Sl α) (v:α):eo (l.push v)=eo l++[v]:=by
 unfold eo;rw [Sl.Lt,List.range_succ,Ov];congr 1
 ·exact List.map_congr_left fun i hi=>Sl.zF (pt.1 hi)
 ·exact congrArg (fun a=>[a]) Sl.Fs
theorem eZ {α:Type} (l:Sl α):(eo l).length=l.n:=by simp [eo]
theorem abx {α:Type} (l:Sl α) (j:Nat) (h:j < l.n):(eo l).take (j+1)=(eo l).take j++[l.get j]:=by
 rw [List.take_add_one];congr 1;unfold eo;simp [h]
def zG (w h:Int) (a:Nat) (k:Nat):bO:=
 ⟨az (Int.tmod k a * 8),az (az (Int.tdiv k a) * 8),az (min (az (az (Int.tmod k a * 8)+8)) w - 1),az (min (az (az (az (Int.tdiv k a) * 8)+8)) h - 1)⟩
theorem amR {w h:Int} {a b i j:Nat} (hw:w<=64) (hh:h<=64) (hw1:1<=w) (hh1:1<=h) (hi:i < a) (hj:j < b) (ha:a<=8) (hb:b<=8):zG w h a (j * a+i)=⟨8 * (i:Int),8 * (j:Int),min (8 * (i:Int)+8) w - 1,min (8 * (j:Int)+8) h - 1⟩:=by
 have e1:Int.tmod ((j * a+i:Nat):Int) (a:Int)=(i:Int):=by
  show Int.tmod (Int.ofNat _) (Int.ofNat _)=_;show Int.ofNat ((j * a+i) % a)=_;rw [Nat.mul_comm,Nat.mul_add_mod,Nat.mod_eq_of_lt hi]; rfl
 have e2:Int.tdiv ((j * a+i:Nat):Int) (a:Int)=(j:Int):=by
  show Int.ofNat ((j * a+i) / a)=_;rw [Nat.mul_comm,Nat.mul_add_div (by omega),Nat.div_eq_of_lt hi,yH]; rfl
 unfold zG;rw [e1,e2];have p1:az ((i:Int) * 8)=(i:Int) * 8:=kE (by omega) (by omega);have p2:az (j:Int)=(j:Int):=kE (by omega) (by omega);have p3:az ((j:Int) * 8)=(j:Int) * 8:=kE (by omega) (by omega);have p4:az ((i:Int) * 8+8)=(i:Int) * 8+8:=kE (by omega) (by omega);have p5:az ((j:Int) * 8+8)=(j:Int) * 8+8:=kE (by omega) (by omega);rw [p2,p1,p3,p4,p5,kE (n:=min ((i:Int) * 8+8) w - 1) (by omega) (by omega),kE (n:=min ((j:Int) * 8+8) h - 1) (by omega) (by omega)];rw [Int.mul_comm (i:Int) 8,Int.mul_comm (j:Int) 8]
theorem alB {w h:Int} (hw1:1<=w) (hw:w<=64) (hh1:1<=h) (hh:h<=64):∃ (l:Sl bO) (a b:Nat),pC w h=some (l,0)/\a<=8/\b<=8/\8 * ((a:Int) - 1) < w/\w<=8 * a/\8 * ((b:Int) - 1) < h/\h<=8 * b/\l.n=a * b/\∀ k,k < a * b->l.get k=zG w h a k:=by
 obtain ⟨a,ha⟩:∃ a:Nat,(a:Int)=(w+7) / 8:=⟨((w+7) / 8).toNat,by omega⟩
 obtain ⟨b,hb⟩:∃ b:Nat,(b:Int)=(h+7) / 8:=⟨((h+7) / 8).toNat,by omega⟩
 have qa:az (Int.tdiv (az (az (w+8) - 1)) 8)=(a:Int):=by
  rw [kE (n:=w+8) (by omega) (by omega),kE (n:=w+8 - 1) (by omega) (by omega),XF (by omega),kE (by omega) (by omega)];omega
 have qb:az (Int.tdiv (az (az (h+8) - 1)) 8)=(b:Int):=by
  rw [kE (n:=h+8) (by omega) (by omega),kE (n:=h+8 - 1) (by omega) (by omega),XF (by omega),kE (by omega) (by omega)];omega
 have ha8:a<=8:=by omega
 have hb8:b<=8:=by omega
 have hab:a * b<=64:=Nat.mul_le_mul ha8 hb8;have qn:az ((a:Int) * (b:Int))=((a * b:Nat):Int):=by
  rw [<- Int.natCast_mul];exact kE (by omega) (by omega)
 have amS:∃ e x',Bd w h = .out e x'/\(e = .exit 0/\x'.l.n=a * b/\∀ k,k < a * b->x'.l.get k=zG w h a k):=by
  unfold Bd;rw [qa,qb,qn];refine bp (fun k (x:lP)=>x.w=w/\x.h=h/\x.Ie=a/\x.t31=((a * b:Nat):Int)/\x.t32=(k:Int)/\x.l.n=k/\∀ m,m < k->x.l.get m=zG w h a m) _ (a * b) (by unfold eS; omega) ?_ ⟨rfl,rfl,rfl,rfl,rfl,rfl,fun m hm=>by omega⟩;rintro k ⟨w',h',l,ee,ac,n,i⟩ hk ⟨e1,e2,e3,e4,e5,e6,e7⟩;simp only at e1 e2 e3 e4 e5 e6 e7;subst e1 e2 e3 e4 e5;by_cases a8:k < a * b
  ·left
   refine ⟨⟨w',h',l.push (zG w' h' a k),ee,a,((a * b:Nat):Int),((k+1:Nat):Int)⟩,?_,a8,rfl,rfl,rfl,rfl,rfl,by rw [Sl.Lt,e6],fun m hm=>?_⟩
   ·have d1:decide ((k:Int) < ((a * b:Nat):Int))=true:=by simp only [kV]; omega
    have ha0:a≠0:=by intro e; subst e; omega
    have d2:decide ((a:Int)=0)=false:=by simp only [decide_eq_false_iff_not]; omega
    have d3:gi 32 l.n 1=true:=tI (by omega) (by omega) (by omega) (.inl (by omega));simp only [np,mI,aF,d1,d2,d3,aH,yJ,bI,aj];rw [kE (n:=(k:Int)+1) (by omega) (by omega)];rfl
   ·by_cases hm' : m < k
    ·rw [Sl.zF (by omega)]; exact e7 m hm'
    ·have:m=l.n:=by omega
     subst this;rw [Sl.Fs,e6]
  ·right
   have yO:k=a * b:=by omega
   refine ⟨.exit 0,⟨w',h',l,ee,a,((a * b:Nat):Int),(k:Int)⟩,?_,rfl,rfl,by rw [e6,yO],fun m hm=>e7 m (by omega)⟩;have d1:decide ((k:Int) < ((a * b:Nat):Int))=false:=by simp only [decide_eq_false_iff_not]; omega
   simp only [np,mI,aF,d1,aH,aj,aq]
 obtain ⟨e,x',h1,rfl,h2,h3⟩:=amS;refine ⟨x'.l,a,b,?_,ha8,hb8,by omega,by omega,by omega,by omega,h2,h3⟩;have d1:decide (min w h < 1)=false:=by simp only [decide_eq_false_iff_not]; omega
 have d2:decide (max w h > 64)=false:=by simp only [decide_eq_false_iff_not]; omega
 simp only [pC,d1,d2,h1,aO.kf,aO.kh,aq];rfl
theorem ajj {w h:Int} {a b j:Nat} (hw:1<=w/\w<=64) (hh:1<=h/\h<=64) (ha:a<=8/\8 * ((a:Int) - 1) < w/\w<=8 * a) (hb:b<=8) (hj:j < b) (l:Sl bO) (t4:Sl bO) (t5:Int) (hn:l.n=j * a) (hl:∀ k,k < j * a->l.get k=zG w h a k) :
  ∃ l' x,goN jf ⟨w,h,t4,t5,l,8 * (j:Int),0⟩ = .out (.exit 2) ⟨w,h,t4,t5,l',8 * (j:Int),x⟩/\l'.n=(j+1) * a/\∀ k,k < (j+1) * a->l'.get k=zG w h a k:=by
 have hja:j * a<=64:=Nat.mul_le_mul (by omega:j<=8) ha.1;have hs:(j+1) * a=j * a+a:=Nat.succ_mul j a;obtain ⟨e,z,hz,rfl,l',x,rfl,q1,q2⟩:∃ e z,goN jf ⟨w,h,t4,t5,l,8 * (j:Int),0⟩ = .out e z/\(e = .exit 2/\∃ l' x,z=⟨w,h,t4,t5,l',8 * (j:Int),x⟩/\l'.n=(j+1) * a/\∀ k,k < (j+1) * a->l'.get k=zG w h a k):=by
  refine bp (step:=jf) (fun i y=>∃ l' : Sl bO,y=⟨w,h,t4,t5,l',8 * (j:Int),8 * (i:Int)⟩/\l'.n=j * a+i/\∀ k,k < j * a+i->l'.get k=zG w h a k) _ a (by have:eS=10000000000000:=rfl; omega) (fun i y hi ⟨l',hy,g1,g2⟩=>?_) ⟨l,rfl,hn,hl⟩;subst hy;unfold jf mI aF;by_cases a8:8 * (i:Int) < w
  ·have hia:i < a:=by omega
   have a1:gi 32 l'.n 1=true:=tI (by omega) (by omega) (by omega) (.inl (by omega));simp only [ao a8,a1,aH,bI,aj];rw [aw (n:=8 * (i:Int)+8),aw (n:=8 * (j:Int)+8),aw (n:=min (8 * (i:Int)+8) w - 1),aw (n:=min (8 * (j:Int)+8) h - 1),<- amR (i:=i) (j:=j) hw.2 hh.2 hw.1 hh.1 hia hj ha.1 hb];refine .inl ⟨_,rfl,hia,_,by rw [show ((i+1:Nat):Int)=(i:Int)+1 by omega,Int.mul_add]; rfl,by rw [Sl.Lt,g1]; omega,fun k hk=>?_⟩;by_cases yO:k < l'.n
   ·rw [Sl.zF yO]; exact g2 k (by omega)
   ·have:k=l'.n:=by omega
    subst this;rw [Sl.Fs,g1]
  ·have hia:i=a:=by omega
   subst hia;simp only [ax a8,aH,aj,aq];exact .inr ⟨_,_,rfl,rfl,rfl,l',_,rfl,by omega,fun k hk=>g2 k (by omega)⟩
 exact ⟨l',x,hz,q1,q2⟩
theorem aqB {w h:Int} {a b:Nat} (hw:1<=w/\w<=64) (hh:1<=h/\h<=64) (ha:a<=8/\8 * ((a:Int) - 1) < w/\w<=8 * a) (hb:b<=8/\8 * ((b:Int) - 1) < h/\h<=8 * b) :
  ∃ l,rb w h=some (l,0)/\l.n=a * b/\∀ k,k < a * b->l.get k=zG w h a k:=by
 obtain ⟨e,z,hz,rfl,q1,q2⟩:∃ e z,u5 w h = .out e z/\(e = .exit 0/\z.l.n=b * a/\∀ k,k < b * a->z.l.get k=zG w h a k):=by
  unfold u5;refine bp (step:=oi) (fun j y=>∃ l' t4 t5,y=⟨w,h,t4,t5,l',8 * (j:Int)⟩/\j<=b/\l'.n=j * a/\∀ k,k < j * a->l'.get k=zG w h a k) _ b (by have:eS=10000000000000:=rfl; omega) (fun j y hj ⟨l',t4,t5,hy,g0,g1,g2⟩=>?_) ⟨_,_,_,rfl,cw _,by rw [Nat.zero_mul],fun k hk=>by rw [Nat.zero_mul] at hk; omega⟩;subst hy;unfold oi aF;by_cases a8:8 * (j:Int) < h
  ·have hjb:j < b:=by omega
   obtain ⟨l2,x,k1,k2,k3⟩:=ajj hw hh ha hb.1 hjb l' t4 t5 g1 g2;have e0:jm ⟨w,h,t4,t5,l',8 * (j:Int)⟩ = .out (.exit 2) ⟨w,h,t4,t5,l2,8 * (j:Int),x⟩:=k1;simp only [ao a8,e0,aH,aj,aO.kf,aO.kh,fa,kp];rw [aw (n:=8 * (j:Int)+8)];exact .inl ⟨_,rfl,hjb,l2,t4,t5,by rw [show ((j+1:Nat):Int)=(j:Int)+1 by omega,Int.mul_add]; rfl,hjb,k2,k3⟩
  ·have:j=b:=by omega
   subst this;simp only [ax a8,aH,aj,aq];exact .inr ⟨_,_,rfl,rfl,rfl,g1,g2⟩
 have b1:(u5 w h).by (.exit 0)=true:=by rw [hz]; rfl
 have b2:(u5 w h).st=z:=by rw [hz]; rfl
 refine ⟨z.l,?_,by rw [q1,Nat.mul_comm],fun k hk=>q2 k (by rw [Nat.mul_comm]; exact hk)⟩;unfold rb;simp only [b1,b2,aj,aq,ax (show ¬ w < 1 by omega),ax (show ¬ w > 64 by omega),ax (show ¬ h < 1 by omega),ax (show ¬ h > 64 by omega)]
theorem alC (w h:Int):∃ l m e,pC w h=some (l,e)/\rb w h=some (m,e)/\l.n=m.n/\l.n<=64/\∀ k,k < l.n->l.get k=m.get k:=by
 by_cases hs:1<=w/\w<=64/\1<=h/\h<=64
 ·obtain ⟨hw1,hw,hh1,hh⟩:=hs
  obtain ⟨l,a,b,hf,ha8,hb8,ha1,Z9,CW,uu,hn,nL⟩:=alB hw1 hw hh1 hh;obtain ⟨m,hm,k1,k2⟩:=aqB ⟨hw1,hw⟩ ⟨hh1,hh⟩ ⟨ha8,ha1,Z9⟩ ⟨hb8,CW,uu⟩;have:a * b<=64:=Nat.mul_le_mul ha8 hb8;exact ⟨l,m,0,hf,hm,by omega,by omega,fun k hk=>by rw [nL k (by omega),k2 k (by omega)]⟩
 ·have h1:∃ l:Sl bO,l.n=0/\pC w h=some (l,2):=by
   unfold pC;by_cases c1:min w h < 1
   ·rw [ao c1]; exact ⟨_,rfl,rfl⟩
   ·rw [ax c1,ao (show max w h > 64 by omega)]; exact ⟨_,rfl,rfl⟩
  have h2:∃ l:Sl bO,l.n=0/\rb w h=some (l,2):=by
   unfold rb;by_cases c1:w < 1
   ·rw [ao c1]; exact ⟨_,rfl,rfl⟩
   by_cases c2:w > 64
   ·rw [ax c1,ao c2]; exact ⟨_,rfl,rfl⟩
   by_cases c3:h < 1
   ·rw [ax c1,ax c2,ao c3]; exact ⟨_,rfl,rfl⟩
   ·rw [ax c1,ax c2,ax c3,ao (show h > 64 by omega)]; exact ⟨_,rfl,rfl⟩
  obtain ⟨l,l0,hl⟩:=h1;obtain ⟨m,m0,hm⟩:=h2;exact ⟨l,m,2,hl,hm,by omega,by omega,fun k hk=>by omega⟩
end Go.Proofs.YtchbpckkmgcgkaaGreat.b
end
section
namespace Go.K.fj
variable {α:Type}
def b2 (b:Bool):Nat:=cond b 1 0
def vJ (p:α->Bool) (d:Nat->α) (a:Nat):Nat->Nat
 | 0=>0
 | k+1=>vJ p d a k+b2 (p (d (a+k)))
theorem qG {p:α->Bool} {d d' : Nat->α} {a b:Nat} : ∀ {k:Nat},(∀ i,i < k->d (a+i)=d' (b+i))->vJ p d a k=vJ p d' b k
 | 0,_=>rfl
 | k+1,h=>by
  rw [vJ,vJ,qG (k:=k) fun i hi=>h i (by omega),h k (by omega)]
theorem sn {p:α->Bool} {d:Nat->α} {a k:Nat} : ∀ (l:Nat),vJ p d a (k+l)=vJ p d a k+vJ p d (a+k) l
 | 0=>by simp [vJ]
 | l+1=>by
  show vJ p d a (k+l)+b2 (p (d (a+(k+l))))=vJ p d a k+(vJ p d (a+k) l+b2 (p (d (a+k+l))));rw [sn l,Fz a k l];omega
theorem ZR {p:α->Bool} {d:Nat->α} {a:Nat} : vJ p d a 1=b2 (p (d a)):=by simp [vJ]
theorem agj {p:α->Bool} {d:Nat->α} {a:Nat} : ∀ {k:Nat},0 < vJ p d a k->∃ i,i < k/\p (d (a+i))=true
 | 0,h=>by simp [vJ] at h
 | k+1,h=>by
  rw [vJ] at h;cases hp:p (d (a+k)) with
  | true=>exact ⟨k,by omega,hp⟩
  | false=>
   rw [hp] at h;obtain ⟨i,h1,h2⟩:=agj (k:=k) (by simpa [b2] using h);exact ⟨i,by omega,h2⟩
theorem agk {p:α->Bool} {d:Nat->α} {a i:Nat} : ∀ {k:Nat},i < k->p (d (a+i))=true->0 < vJ p d a k
 | 0,h,_=>by omega
 | k+1,h,hp=>by
  rw [vJ];by_cases e:i=k
  ·subst e; rw [hp]; simp [b2]
  ·have:=agk (k:=k) (by omega) hp
   omega
def Perm (d d' : Nat->α) (a b:Nat):Prop:=(∀ p:α->Bool,vJ p d' a (b - a)=vJ p d a (b - a))/\∀ i,i < a\/b<=i->d' i=d i
theorem Perm.refl (d:Nat->α) (a b:Nat):Perm d d a b:=⟨fun _=>rfl,fun _ _=>rfl⟩
theorem Perm.trans {d d' d'' : Nat->α} {a b:Nat} (h:Perm d d' a b) (k:Perm d' d'' a b):Perm d d'' a b:=⟨fun p=>(k.1 p).trans (h.1 p),fun i hi=>(k.2 i hi).trans (h.2 i hi)⟩
theorem Perm.wide {d d' : Nat->α} {a b a' b' : Nat} (h:Perm d d' a b) (h1:a'<=a) (h2:a<=b) (h3:b<=b'):Perm d d' a' b':=by
 refine ⟨fun p=>?_,fun i hi=>h.2 i (by omega)⟩;have e:b' - a' = (a - a')+((b - a)+(b' - b)):=by omega
 rw [e,sn,sn,sn (d:=d),sn (d:=d)];rw [show a' + (a - a')=a by omega,h.1 p,show a+(b - a)=b by omega];rw [qG (d:=d') (d':=d) (a:=a') (b:=a') fun i hi=>h.2 _ (by omega),qG (d:=d') (d':=d) (a:=b) (b:=b) fun i hi=>h.2 _ (by omega)]
theorem Perm.mem {d d' : Nat->α} {a b:Nat} (h:Perm d d' a b) {i:Nat} (h1:a<=i) (h2:i < b):∃ j,a<=j/\j < b/\d' i=d j:=by
 classical
 have:=agk (p:=fun x=>decide (x=d' i)) (d:=d') (a:=a) (i:=i - a) (k:=b - a) (by omega) (by simp [show a+(i - a)=i by omega]);rw [h.1] at this;obtain ⟨j,h3,h4⟩:=agj this;exact ⟨a+j,by omega,by omega,(pT h4).symm⟩
def ins (d:Nat->α) (j i:Nat):Nat->α:=fun t=>if t < j then d t else if t=j then d i else if t<=i then d (t - 1) else d t
theorem Bp {d:Nat->α} {j i t:Nat} (h:t < j):ins d j i t=d t:=by simp [ins,h]
theorem Lw {d:Nat->α} {j i:Nat} : ins d j i j=d i:=by simp [ins]
theorem Oj {d:Nat->α} {j i t:Nat} (h:j < t) (h2:t<=i):ins d j i t=d (t - 1):=by
 rw [ins,ay (by omega),ay (by omega),aR h2]
theorem ad0 {d:Nat->α} {j i t:Nat} (h:j<=i) (h2:i < t):ins d j i t=d t:=by
 rw [ins,ay (by omega),ay (by omega),ay (by omega)]
theorem ah7 {d:Nat->α} {i:Nat} : ins d i i=d:=by
 funext t;by_cases h:t < i
 ·exact Bp h
 ·by_cases e:t=i
  ·subst e; exact Lw
  ·exact ad0 (aQ _) (by omega)
theorem ah8 {d:Nat->α} {a j i:Nat} (h1:a<=j) (h2:j<=i):Perm d (ins d j i) a (i+1):=by
 refine ⟨fun p=>?_,fun t ht=>?_⟩
 ·have e:i+1 - a=(j - a)+(1+(i - j)):=by omega
  have e2:i+1 - a=(j - a)+((i - j)+1):=by omega
  rw [e,sn,sn,ZR,show a+(j - a)=j by omega,Lw];rw [<- e,e2,sn,sn (k:=i - j),ZR,show a+(j - a)=j by omega,show j+(i - j)=i by omega];rw [qG (d:=ins d j i) (d':=d) (a:=a) (b:=a) fun t ht=>Bp (by omega),qG (d:=ins d j i) (d':=d) (a:=j+1) (b:=j) fun t ht=>by rw [Oj (by omega) (by omega)]; congr 1; omega];omega
 ·rcases ht with ht | ht
  ·exact Bp (by omega)
  ·exact ad0 h2 (by omega)
theorem ah9 {d:Nat->α} {j i t:Nat} (h:j<=i) (h1:1<=j):ins d (j - 1) i t=if t=j - 1 then ins d j i j else if t=j then ins d j i (j - 1) else ins d j i t:=by
 by_cases e:t=j - 1
 ·subst e; rw [aR rfl,Lw,Lw]
 ·rw [ay e]
  by_cases e2:t=j
  ·subst e2; rw [aR rfl,Oj (by omega) h,Bp (by omega)]
  ·rw [ay e2]
   by_cases e3:t < j
   ·rw [Bp (by omega),Bp e3]
   ·by_cases e4:t<=i
    ·rw [Oj (by omega) e4,Oj (by omega) e4]
    ·rw [ad0 (by omega) (by omega),ad0 h (by omega)]
def Ol (d:Nat->α) (a k:Nat):Nat->α:=fun t=>if t < a then d t else if t < k then d (t+1) else if t=k then d a else d t
theorem ad1 {d:Nat->α} {a k t:Nat} (h:t < a):Ol d a k t=d t:=by simp [Ol,h]
theorem Gp {d:Nat->α} {a k t:Nat} (h:a<=t) (h2:t < k):Ol d a k t=d (t+1):=by
 rw [Ol,ay (by omega),aR h2]
theorem Ue {d:Nat->α} {a k:Nat} (h:a<=k):Ol d a k k=d a:=by
 rw [Ol,ay (by omega),ay (by omega),aR rfl]
theorem P0 {d:Nat->α} {a k t:Nat} (h:a<=k) (h2:k < t):Ol d a k t=d t:=by
 rw [Ol,ay (by omega),ay (by omega),ay (by omega)]
theorem aoR {d:Nat->α} {a:Nat} : Ol d a a=d:=by
 funext t;by_cases h:t < a
 ·exact ad1 h
 ·by_cases e:t=a
  ·subst e; exact Ue (aQ _)
  ·exact P0 (aQ _) (by omega)
theorem aoS {d:Nat->α} {a k:Nat} (h:a<=k):Perm d (Ol d a k) a (k+1):=by
 refine ⟨fun p=>?_,fun t ht=>?_⟩
 ·have e:k+1 - a=(k - a)+1:=by omega
  have e2:k+1 - a=1+(k - a):=by omega
  rw [e,sn,ZR,show a+(k - a)=k by omega,Ue h,<- e,e2,sn,ZR];rw [qG (d:=Ol d a k) (d':=d) (a:=a) (b:=a+1) fun t ht=>by rw [Gp (by omega) (by omega)]; congr 1; omega];omega
 ·rcases ht with ht | ht
  ·exact ad1 ht
  ·exact P0 h (by omega)
theorem aoT {d:Nat->α} {a k t:Nat} (h:a<=k):Ol d a (k+1) t=if t=k then Ol d a k (k+1) else if t=k+1 then Ol d a k k else Ol d a k t:=by
 by_cases e:t=k
 ·subst e; rw [aR rfl,Gp h (by omega),P0 h (by omega)]
 ·rw [ay e]
  by_cases e2:t=k+1
  ·subst e2; rw [aR rfl,Ue (by omega),Ue h]
  ·rw [ay e2]
   by_cases e3:t < a
   ·rw [ad1 e3,ad1 e3]
   ·by_cases e4:t < k
    ·rw [Gp (by omega) (by omega),Gp (by omega) e4]
    ·rw [P0 (by omega) (by omega),P0 h (by omega)]
def Ik (d:Nat->α) (a m b:Nat):Nat->α:=fun t=>if t < a then d t else if t < a+(b - m) then d (t+(m - a)) else if t < b then d (t - (b - m)) else d t
theorem Om {d:Nat->α} {a m b t:Nat} (h1:a<=m) (h2:m<=b) (h:t < a\/b<=t):Ik d a m b t=d t:=by
 rcases h with h | h
 ·simp [Ik,h]
 ·rw [Ik,ay (by omega),ay (by omega),ay (by omega)]
theorem Uf {d:Nat->α} {a m b t:Nat} (h1:a<=t) (h2:t < a+(b - m)):Ik d a m b t=d (t+(m - a)):=by
 rw [Ik,ay (by omega),aR h2]
theorem Qa {d:Nat->α} {a m b t:Nat} (h1:a+(b - m)<=t) (h2:t < b):Ik d a m b t=d (t - (b - m)):=by
 rw [Ik,ay (by omega),ay (by omega),aR h2]
theorem aoU {d:Nat->α} {a m b:Nat} (h1:a<=m) (h2:m<=b):Perm d (Ik d a m b) a b:=by
 refine ⟨fun p=>?_,fun t ht=>Om h1 h2 ht⟩;have e:b - a=(b - m)+(m - a):=by omega
 have e2:b - a=(m - a)+(b - m):=by omega
 rw [e,sn,<- e,e2,sn,show a+(m - a)=m by omega];rw [qG (d:=Ik d a m b) (d':=d) (a:=a) (b:=m) fun t ht=>by rw [Uf (by omega) (by omega)]; congr 1; omega,qG (d:=Ik d a m b) (d':=d) (a:=a+(b - m)) (b:=a) fun t ht=>by rw [Qa (by omega) (by omega)]; congr 1; omega];omega
structure Ord (α:Type) where
 key:α->Int
 gA:α->α->Prop
def Ord.lt (o:Ord α) (x y:α):Prop:=o.key x < o.key y\/(o.key x=o.key y/\o.gA x y)
theorem Ord.arH {o:Ord α} {x y:α} (h:o.lt x y):o.key x<=o.key y:=by rcases h with h | h <;> omega
theorem Ord.amT {o:Ord α} {x y:α} (h:o.key x<=o.key y) (h0:o.gA x y):o.lt x y:=by
 by_cases e:o.key x=o.key y
 ·exact .inr ⟨e,h0⟩
 ·exact .inl (by omega)
def gk (o:Ord α) (d:Nat->α) (a b:Nat):Prop:=∀ i j,a<=i->i < j->j < b->o.lt (d i) (d j)
def J7 (o:Ord α) (d:Nat->α) (a m b:Nat):Prop:=∀ i j,a<=i->i < m->m<=j->j < b->o.gA (d i) (d j)
variable {o:Ord α}
theorem gk.key {d:Nat->α} {a b:Nat} (h:gk o d a b) {i j:Nat} (h1:a<=i) (h2:i<=j) (h3:j < b):o.key (d i)<=o.key (d j):=by
 by_cases e:i=j
 ·subst e; exact Int.le_refl _
 ·exact Ord.arH (h i j h1 (by omega) h3)
theorem gk.congr {d d' : Nat->α} {a b:Nat} (h:gk o d a b) (e:∀ i,a<=i->i < b->d' i=d i):gk o d' a b:=fun i j h1 h2 h3=>by
 rw [e i h1 (by omega),e j (by omega) h3]; exact h i j h1 h2 h3
theorem gk.one {d:Nat->α} {a b:Nat} (h:b<=a+1):gk o d a b:=fun i j h1 h2 h3=>by omega
theorem acH {d:Nat->α} {a j i:Nat} (hs:gk o d a i) (hc:J7 o d a i (i+1)) (h1:a<=j) (h2:j<=i) (hl:∀ s,a<=s->s < j->o.key (d s)<=o.key (d i)) (hr:∀ t,j<=t->t < i->o.key (d i) < o.key (d t)):gk o (ins d j i) a (i+1):=by
 intro s t q1 q2 q3;by_cases ht:t < j
 ·rw [Bp ht,Bp (by omega)]
  exact hs s t q1 q2 (by omega)
 ·by_cases LP:t=j
  ·subst LP
   rw [Lw,Bp q2];exact Ord.amT (hl s q1 q2) (hc s i q1 (by omega) (aQ _) (by omega))
  ·rw [Oj (t:=t) (by omega) (by omega)]
   by_cases h3:s < j
   ·rw [Bp h3]; exact hs s (t - 1) q1 (by omega) (by omega)
   ·by_cases h4:s=j
    ·subst h4; rw [Lw]; exact .inl (hr (t - 1) (by omega) (by omega))
    ·rw [Oj (t:=s) (by omega) (by omega)]; exact hs (s - 1) (t - 1) (by omega) (by omega) (by omega)
theorem alD {d:Nat->α} {a i b:Nat} (hs:gk o d (a+1) b) (hc:J7 o d a (a+1) b) (h1:a+1<=i) (h2:i<=b) (hl:∀ t,a+1<=t->t < i->o.key (d t) < o.key (d a)) (hr:∀ t,i<=t->t < b->o.key (d a)<=o.key (d t)):gk o (Ol d a (i - 1)) a b:=by
 intro s t q1 q2 q3;by_cases ht:t < i - 1
 ·rw [Gp (by omega) ht,Gp q1 (by omega)]
  exact hs _ _ (by omega) (by omega) (by omega)
 ·by_cases LP:t=i - 1
  ·subst LP
   rw [Ue (by omega),Gp q1 q2];exact .inl (hl _ (by omega) (by omega))
  ·rw [P0 (t:=t) (by omega) (by omega)]
   by_cases h3:s < i - 1
   ·rw [Gp q1 h3]; exact hs _ _ (by omega) (by omega) q3
   ·by_cases h4:s=i - 1
    ·subst h4; rw [Ue (by omega)]; exact Ord.amT (hr t (by omega) q3) (hc a t (aQ _) (by omega) (by omega) q3)
    ·rw [P0 (t:=s) (by omega) (by omega)]; exact hs _ _ (by omega) q2 q3
structure Split (o:Ord α) (D:Nat->α) (a s cn e b:Nat):Prop where
 l1:gk o D a s
 l2:gk o D s cn
 l0:J7 o D a s cn
 r1:gk o D cn e
 r2:gk o D e b
 r0:J7 o D cn e b
 lr:∀ i j,a<=i->i < cn->cn<=j->j < b->o.lt (D i) (D j)
theorem amU {d:Nat->α} {a s cn m e b:Nat} (h1:gk o d a m) (h2:gk o d m b) (hc:J7 o d a m b) (q1:a<=s) (q2:s<=m) (q3:m<=e) (q4:e<=b) (q5:e+s=cn+m) (hL:∀ i j,a<=i->i < s->e<=j->j < b->o.key (d i)<=o.key (d j)) (hR:∀ i j,s<=i->i < m->m<=j->j < e->o.key (d j) < o.key (d i)) :
  Split o (Ik d s m e) a s cn e b:=by
 have v1:∀ t,t < s->Ik d s m e t=d t:=fun t h=>Om q2 q3 (.inl h);have v2:∀ t,s<=t->t < cn->Ik d s m e t=d (t+(m - s)):=fun t h h'=>Uf h (by omega);have v3:∀ t,cn<=t->t < e->Ik d s m e t=d (t - (e - m)):=fun t h h'=>Qa (by omega) h';have v4:∀ t,e<=t->Ik d s m e t=d t:=fun t h=>Om q2 q3 (.inr h);refine ⟨fun i j p1 p2 p3=>?_,fun i j p1 p2 p3=>?_,fun i j p1 p2 p3 p4=>?_,fun i j p1 p2 p3=>?_,fun i j p1 p2 p3=>?_,fun i j p1 p2 p3 p4=>?_,fun i j p1 p2 p3 p4=>?_⟩
 ·rw [v1 i (by omega),v1 j p3]; exact h1 i j p1 p2 (by omega)
 ·rw [v2 i p1 (by omega),v2 j (by omega) p3]; exact h2 _ _ (by omega) (by omega) (by omega)
 ·rw [v1 i p2,v2 j p3 p4]; exact hc _ _ p1 (by omega) (by omega) (by omega)
 ·rw [v3 i p1 (by omega),v3 j (by omega) p3]; exact h1 _ _ (by omega) (by omega) (by omega)
 ·rw [v4 i p1,v4 j (by omega)]; exact h2 _ _ (by omega) p2 p3
 ·rw [v3 i p1 p2,v4 j p3]; exact hc _ _ (by omega) (by omega) (by omega) p4
 ·by_cases hi:i < s
  ·rw [v1 i hi]
   by_cases hj:j < e
   ·rw [v3 j p3 hj]; exact h1 _ _ p1 (by omega) (by omega)
   ·rw [v4 j (by omega)]; exact Ord.amT (hL i j p1 hi (by omega) p4) (hc i j p1 (by omega) (by omega) p4)
  ·rw [v2 i (by omega) p2]
   by_cases hj:j < e
   ·rw [v3 j p3 hj]; exact .inl (hR _ _ (by omega) (by omega) (by omega) (by omega))
   ·rw [v4 j (by omega)]; exact h2 _ _ (by omega) (by omega) p4
theorem ajk {D D2 D3:Nat->α} {a cn b:Nat} (h:∀ i j,a<=i->i < cn->cn<=j->j < b->o.lt (D i) (D j)) (p1:Perm D D2 a cn) (s1:gk o D2 a cn) (p2:Perm D2 D3 cn b) (s2:gk o D3 cn b):gk o D3 a b:=by
 intro i j q1 q2 q3;by_cases hj:j < cn
 ·rw [p2.2 i (.inl (by omega)),p2.2 j (.inl hj)]; exact s1 i j q1 q2 hj
 ·by_cases hi:i < cn
  ·rw [p2.2 i (.inl hi)]
   obtain ⟨i',r1,r2,e1⟩:=p1.mem q1 hi;obtain ⟨j',r3,r4,e2⟩:=p2.mem (i:=j) (by omega) q3;rw [e1,e2,p1.2 j' (.inr r3)];exact h i' j' r1 r2 r3 r4
  ·exact s2 i j (by omega) q2 q3
theorem VN {d:Nat->α} {a s s0 r0 cn m b:Nat} (h1:gk o d a m) (h2:gk o d m b) (q1:a<=s) (q2:s<=m) (q3:m+s<=cn+m) (q4:cn+m<=b+s) (hs:(s=s0/\(s0=a\/cn+m=b+s0))\/(a < s/\cn+m < b+s/\o.key (d (s - 1))<=o.key (d (cn+m - s)))) (hr:(s=r0/\(r0=m\/r0=cn))\/(s < m/\s < cn/\o.key (d (cn+m - 1 - s)) < o.key (d s))) :
  (∀ i j,a<=i->i < s->cn+m - s<=j->j < b->o.key (d i)<=o.key (d j))/\∀ i j,s<=i->i < m->m<=j->j < cn+m - s->o.key (d j) < o.key (d i):=by
 constructor
 ·intro i j p1 p2 p3 p4
  rcases hs with ⟨e,h | h⟩ | ⟨e1,e2,e3⟩
  ·omega
  ·omega
  ·have k1:=h1.key (i:=i) (j:=s - 1) p1 (by omega) (by omega)
   have k2:=h2.key (i:=cn+m - s) (j:=j) (by omega) p3 p4;omega
 ·intro i j p1 p2 p3 p4
  rcases hr with ⟨e,h | h⟩ | ⟨e1,e2,e3⟩
  ·omega
  ·omega
  ·have k1:=h1.key (i:=s) (j:=i) q1 p1 p2
   have k2:=h2.key (i:=j) (j:=cn+m - 1 - s) p3 (by omega) (by omega);omega
def alE (o:Ord α) (g:Nat->α) (n:Nat):Prop:=∀ i j,i < j->j < n->o.gA (g i) (g j)
theorem Lx {d g:Nat->α} {a k:Nat} (h:∀ p:α->Bool,vJ p d a k=vJ p g a k) {i:Nat} (h1:a<=i) (h2:i < a+k):∃ j,a<=j/\j < a+k/\d i=g j:=by
 classical
 have:=agk (p:=fun x=>decide (x=d i)) (d:=d) (a:=a) (i:=i - a) (k:=k) (by omega) (by simp [show a+(i - a)=i by omega]);rw [h] at this;obtain ⟨j,h3,h4⟩:=agj this;exact ⟨a+j,by omega,by omega,(pT h4).symm⟩
theorem aia {d g:Nat->α} {a m b n:Nat} (hg:alE o g n) (hb:b<=n) (h1:a<=m) (h2:m<=b) (c1:∀ p:α->Bool,vJ p d a (m - a)=vJ p g a (m - a)) (c2:∀ p:α->Bool,vJ p d m (b - m)=vJ p g m (b - m)):J7 o d a m b:=by
 intro i j q1 q2 q3 q4;obtain ⟨i',r1,r2,e1⟩:=Lx c1 q1 (by omega);obtain ⟨j',r3,r4,e2⟩:=Lx c2 q3 (by omega);rw [e1,e2];exact hg i' j' (by omega) (by omega)
end Go.K.fj
end
section
namespace Go.Proofs.YtchbpckkmgcgkaaGreat.b
open Go.K Go.K.fj
open Go.aB (ai)
theorem aH (n:Nat):dk n n=true:=kp n
theorem UU {i n:Nat} (h:i < n):(decide ((0:Int)<=(i:Int))&&decide ((i:Int) < ((n:Nat):Int)))=true:=by
 rw [aD];exact ⟨ao (by omega),ao (by omega)⟩
theorem agl {i j:Nat} (h:i+j<=100000000000):az ((i:Int)+(j:Int))=((i+j:Nat):Int):=by
 rw [kE (by omega) (by omega)]; omega
theorem J8 {i:Nat} (h:i<=100000000000):az ((i:Int)+(1:Int))=((i+1:Nat):Int):=by
 rw [kE (by omega) (by omega)]; omega
theorem Gq {i j:Nat} (h:i<=100000000000) (hj:j<=i):az ((i:Int) - (j:Int))=((i - j:Nat):Int):=by
 rw [kE (by omega) (by omega)]; omega
theorem agm {i:Nat} (h:i<=100000000000) (hj:1<=i):az ((i:Int) - (1:Int))=((i - 1:Nat):Int):=by
 rw [kE (by omega) (by omega)]; omega
theorem Ug {α:Type} (D:Sl α) (i j t:Nat) (u v:α):((D.set (0+i) u).set (0+j) v).get t=if t=j then v else if t=i then u else D.get t:=by
 simp only [Sl.set,bd];by_cases h:t=j
 ·subst h; simp
 ·rw [ay h]
  have e:Nat.beq t j=false:=by
   cases hb:Nat.beq t j with
   | false=>rfl
   | true=>exact absurd (bh hb) h
  rw [e,aq];by_cases h2:t=i
  ·subst h2; simp
  ·rw [ay h2]
   have e:Nat.beq t i=false:=by
    cases hb:Nat.beq t i with
    | false=>rfl
    | true=>exact absurd (bh hb) h2
   rw [e,aq]
theorem an5 {α:Type} (D:Sl α) (i j:Nat) (u v:α):((D.set i u).set j v).n=D.n:=rfl
def Ft {α:Type} (d:Nat->α) (a b n:Nat):Nat->α:=fun t=>if a<=t/\t < a+n then d (t+(b - a)) else if b<=t/\t < b+n then d (t - (b - a)) else d t
theorem aoV {α:Type} (d:Nat->α) {a b j:Nat} (h:a+j < b) (t:Nat):Ft d a b (j+1) t=if t=b+j then Ft d a b j (a+j) else if t=a+j then Ft d a b j (b+j) else Ft d a b j t:=by
 have e1:Ft d a b j (a+j)=d (a+j):=by rw [Ft,ay (by omega),ay (by omega)]
 have e2:Ft d a b j (b+j)=d (b+j):=by rw [Ft,ay (by omega),ay (by omega)]
 rw [e1,e2];by_cases h1:t=b+j
 ·subst h1; rw [aR rfl,Ft,ay (by omega),aR (by omega)]; congr 1; omega
 ·rw [ay h1]
  by_cases h2:t=a+j
  ·subst h2; rw [aR rfl,Ft,aR (by omega)]; congr 1; omega
  ·rw [ay h2]
   unfold Ft;by_cases h3:a<=t/\t < a+j
   ·rw [aR (by omega),aR h3]
   ·rw [ay (by omega),ay h3]
    by_cases h4:b<=t/\t < b+j
    ·rw [aR (by omega),aR h4]
    ·rw [ay (by omega),ay h4]
theorem Uh (x y:Int):∃ r,ka x y=some r/\decide (r < 0)=decide (x < y):=by
 unfold ka HM z0 rN;simp only [hO,bG,aq];cases h:decide (x < y) with
 | true=>exact ⟨_,rfl,rfl⟩
 | false=>
  rw [aq];cases h2:decide (x > y) with
  | true=>exact ⟨_,rfl,rfl⟩
  | false=>exact ⟨_,rfl,rfl⟩
theorem adA (h:Show) (D:Sl aJ) (a b n:Nat) (h1:a+n<=b) (h2:b+n<=D.n) (h3:D.n<=10000000000) :
  ∃ e y,goN dg ⟨D,(a:Int),(b:Int),(n:Int),(0:Int),h⟩ = .out e y/\(e = .exit 0/\y.a=(a:Int)/\y.b=(b:Int)/\y.n=(n:Int)/\y.eX=h/\y.data.n=D.n/\∀ t,y.data.get t=Ft D.get a b n t):=by
 refine bp (step:=dg) (fun j y=>y.a=(a:Int)/\y.b=(b:Int)/\y.n=(n:Int)/\y.eX=h/\y.i=(j:Int)/\j<=n/\y.data.n=D.n/\∀ t,y.data.get t=Ft D.get a b j t) (fun e y=>e = .exit 0/\y.a=(a:Int)/\y.b=(b:Int)/\y.n=(n:Int)/\y.eX=h/\y.data.n=D.n/\∀ t,y.data.get t=Ft D.get a b n t) n (by have:eS=10000000000000:=rfl; omega) (fun j y hj ⟨f1,f2,f3,f4,f5,f6,f7,f8⟩=>?_) ⟨rfl,rfl,rfl,rfl,rfl,cw _,rfl,fun t=>by rw [Ft,ay (by omega),ay (by omega)]⟩;unfold dg bj aF;simp only [f1,f2,f3,f5,f7,aH,aj];by_cases a8:j < n
 ·rw [ao (show (j:Int) < (n:Int) by omega),aj,agl (by omega),agl (by omega),UU (by omega),UU (by omega),J8 (by omega)]
  simp only [aj,cm];refine .inl ⟨_,rfl,a8,rfl,rfl,rfl,f4,rfl,a8,by rw [an5]; exact f7,fun t=>?_⟩;rw [Ug,aoV D.get (by omega) t,f8,f8,f8,bd,bd]
 ·rw [ax (show ¬ (j:Int) < (n:Int) by omega),aq]
  have:j=n:=by omega
  subst this;exact .inr ⟨_,_,rfl,rfl,rfl,f1,f2,f3,f4,f7,f8⟩
theorem Ht (h:Show) (D:Sl aJ) (a b n:Nat) (h1:a+n<=b) (h2:b+n<=D.n) (h3:D.n<=10000000000) :
  ∃ D',fe ⟨D,(a:Int),(b:Int),(n:Int),h⟩ = .out .ret ⟨D',(a:Int),(b:Int),(n:Int),h⟩/\D'.n=D.n/\∀ t,D'.get t=Ft D.get a b n t:=by
 obtain ⟨e,y,hy,rfl,y1,y2,y3,y4,y5,y6⟩:=adA h D a b n h1 h2 h3;have e0:dQ ⟨D,(a:Int),(b:Int),(n:Int),h⟩ = .out (.exit 0) y:=hy;refine ⟨y.data,?_,y5,y6⟩;unfold fe jH aF;rw [e0];simp only [aH,aj,aO.kf,aO.kh,fa,kp,y1,y2,y3,y4]
theorem agn (h:Show) (D:Sl aJ) (a m b:Nat) (h1:a < m) (h2:m < b) (h4:b<=D.n) (h3:D.n<=10000000000) :
  ∃ e y,goN dE ⟨D,(a:Int),(m:Int),(b:Int),((m - a:Nat):Int),((b - m:Nat):Int),h⟩ = .out e y/\(e = .exit 0/\y.a=(a:Int)/\y.m=(m:Int)/\y.b=(b:Int)/\y.eX=h/\y.data.n=D.n/\
   ∃ i:Nat,1<=i/\a+i<=m/\m+i<=b/\y.i=(i:Int)/\y.j=(i:Int)/\(∀ t,t < m - i\/m+i<=t->y.data.get t=Ik D.get a m b t)/\(∀ t,m - i<=t->t < m->Ik D.get a m b t=y.data.get (t+i))/\∀ t,m<=t->t < m+i->Ik D.get a m b t=y.data.get (t - i)):=by
 refine bp (step:=dE) (fun k y=>y.a=(a:Int)/\y.m=(m:Int)/\y.b=(b:Int)/\y.eX=h/\y.data.n=D.n/\
   ∃ i j:Nat,1<=i/\1<=j/\a+i<=m/\m+j<=b/\i+j+k<=b - a/\y.i=(i:Int)/\y.j=(j:Int)/\(∀ t,t < m - i\/m+j<=t->y.data.get t=Ik D.get a m b t)/\(∀ t,m - i<=t->t < m - i+j->Ik D.get a m b t=y.data.get (t+i))/\∀ t,m - i+j<=t->t < m+j->Ik D.get a m b t=y.data.get (t - j)) _ (b - a) (by have:eS=10000000000000:=rfl; omega) (fun k y hk ⟨f1,f2,f3,f4,f5,i,j,g1,g2,g3,g4,g5,g6,g7,g8,g9,g10⟩=>?_) ?_
 ·unfold dE aF
  by_cases he:i=j
  ·subst he
   rw [g6,g7,hO,aq,aH,aj];exact .inr ⟨_,_,rfl,rfl,rfl,f1,f2,f3,f4,f5,i,g1,g3,g4,g6,g7,g8,fun t q1 q2=>g9 t q1 (by omega),fun t q1 q2=>g10 t (by omega) q2⟩
  ·rw [g6,g7,show ((i:Int) != (j:Int))=true by simpa using (show ¬ (i:Int)=(j:Int) by omega),aj]
   by_cases hgt:j < i
   ·rw [ao (show (i:Int) > (j:Int) by omega),aj]
    obtain ⟨D',q1,q2,q3⟩:=Ht h y.data (m - i) m j (by omega) (by omega) (by omega);have e0:fP y = .out .ret ⟨D',((m - i:Nat):Int),(m:Int),(j:Int),h⟩:=by
     unfold fP;rw [f2,g6,g7,f4,Gq (by omega) (by omega)];exact q1
    rw [e0];simp only [aH,aj,aO.kf,aO.kh,fa,q2];refine .inl ⟨_,rfl,by omega,f1,f2,f3,rfl,by rw [q2]; exact f5,i - j,j,by omega,g2,by omega,g4,by omega,Gq (by omega) (by omega),rfl,fun t ht=>?_,fun t t1 t2=>?_,fun t t1 t2=>?_⟩
    ·rw [q3]
     by_cases sM:m - i<=t/\t < m - i+j
     ·rw [Ft,aR sM,g9 t sM.1 sM.2]; congr 1; omega
     ·rw [Ft,ay sM,ay (by omega)]; exact g8 t (by omega)
    ·rw [q3,Ft,ay (by omega),aR (by omega),g10 t (by omega) (by omega)]; congr 1; omega
    ·rw [q3,Ft,ay (by omega),ay (by omega),g10 t (by omega) (by omega)]
   ·rw [ax (show ¬ (i:Int) > (j:Int) by omega),aq]
    obtain ⟨D',q1,q2,q3⟩:=Ht h y.data (m - i) (m+j - i) i (by omega) (by omega) (by omega);have e0:fQ y = .out .ret ⟨D',((m - i:Nat):Int),((m+j - i:Nat):Int),(i:Int),h⟩:=by
     unfold fQ;rw [f2,g6,g7,f4,Gq (by omega) (by omega),agl (by omega),Gq (by omega) (by omega)];exact q1
    rw [e0];simp only [aH,aj,aO.kf,aO.kh,fa,q2];refine .inl ⟨_,rfl,by omega,f1,f2,f3,rfl,by rw [q2]; exact f5,i,j - i,g1,by omega,g3,by omega,by omega,rfl,Gq (by omega) (by omega),fun t ht=>?_,fun t t1 t2=>?_,fun t t1 t2=>?_⟩
    ·rw [q3]
     by_cases sM:m+j - i<=t/\t < m+j - i+i
     ·rw [Ft,ay (by omega),aR sM,g10 t (by omega) (by omega)]; congr 1; omega
     ·rw [Ft,ay (by omega),ay sM]; exact g8 t (by omega)
    ·rw [q3,Ft,ay (by omega),ay (by omega),g9 t (by omega) (by omega)]
    ·rw [q3,Ft,aR (by omega),g9 t (by omega) (by omega)]; congr 1; omega
 ·refine ⟨rfl,rfl,rfl,rfl,rfl,m - a,b - m,by omega,by omega,by omega,by omega,by omega,rfl,rfl,fun t ht=>?_,fun t t1 t2=>?_,fun t t1 t2=>?_⟩
  ·rw [Om (by omega) (by omega) (by omega)]
  ·rw [Uf (by omega) (by omega)]
  ·rw [Qa (by omega) (by omega)]
theorem ago (h:Show) (D:Sl aJ) (a m b:Nat) (h1:a < m) (h2:m < b) (h4:b<=D.n) (h3:D.n<=10000000000) :
  ∃ D',eE ⟨D,(a:Int),(m:Int),(b:Int),h⟩ = .out .ret ⟨D',(a:Int),(m:Int),(b:Int),h⟩/\D'.n=D.n/\∀ t,D'.get t=Ik D.get a m b t:=by
 obtain ⟨e,y,hy,rfl,y1,y2,y3,y4,y5,i,i1,i2,i3,i4,i5,i6,i7,i8⟩:=agn h D a m b h1 h2 h4 h3;have e0:bM ⟨D,(a:Int),(m:Int),(b:Int),h⟩ = .out (.exit 0) y:=by
  unfold bM;rw [Gq (by omega) (by omega),Gq (by omega) (by omega)];exact hy
 obtain ⟨D',q1,q2,q3⟩:=Ht h y.data (m - i) m i (by omega) (by omega) (by omega);have e1:gD ⟨D,(a:Int),(m:Int),(b:Int),h⟩ = .out .ret ⟨D',((m - i:Nat):Int),(m:Int),(i:Int),h⟩:=by
  unfold gD;rw [e0];simp only [aO.kh,y2,i4,y4];rw [Gq (by omega) (by omega)];exact q1
 refine ⟨D',?_,q2.trans y5,fun t=>?_⟩
 ·unfold eE ln aF
  rw [e0,e1];simp only [aH,aj,aO.kf,aO.kh,fa,kp,y1,y2,y3,q2]
 ·rw [q3]
  by_cases c1:m - i<=t/\t < m - i+i
  ·rw [Ft,aR c1,i7 t (by omega) (by omega)]; congr 1; omega
  ·by_cases c2:m<=t/\t < m+i
   ·rw [Ft,ay c1,aR c2,i8 t c2.1 c2.2]; congr 1; omega
   ·rw [Ft,ay c1,ay c2]; exact i6 t (by omega)
def ck (h:Show) (d:aJ):Int:=(h.items.get (Int.toNat d.item)).look.bin
def ib (h:Show) (d:aJ):Bool:=(decide ((0:Int)<=d.item))&&(decide (d.item < ((h.items.n:Nat):Int)))
theorem agp (h:Show) (D:Sl aJ) (a b i:Nat) (h1:a<=i) (h2:i < D.n) (h3:D.n<=10000000000) (cf:∀ t,t < D.n->ib h (D.get t)=true) :
  ∃ e y,goN cr ⟨D,(a:Int),(b:Int),(i:Int),(i:Int),h⟩ = .out e y/\(e = .exit 2/\y.a=(a:Int)/\y.b=(b:Int)/\y.i=(i:Int)/\y.JK=h/\y.data.n=D.n/\∃ j:Nat,a<=j/\j<=i/\(∀ t,y.data.get t=ins D.get j i t)/\(∀ t,j<=t->t < i->ck h (D.get i) < ck h (D.get t))/\(j=a\/¬ ck h (D.get i) < ck h (D.get (j - 1)))):=by
 refine bp (step:=cr) (fun k y=>y.a=(a:Int)/\y.b=(b:Int)/\y.i=(i:Int)/\y.JK=h/\y.data.n=D.n/\a+k<=i/\y.j=((i - k:Nat):Int)/\(∀ t,y.data.get t=ins D.get (i - k) i t)/\∀ t,i - k<=t->t < i->ck h (D.get i) < ck h (D.get t)) _ (i - a) (by have:eS=10000000000000:=rfl; omega) (fun k y hk ⟨f1,f2,f3,f4,f5,f6,f7,f8,f9⟩=>?_) ⟨rfl,rfl,rfl,rfl,rfl,by omega,by simp,fun t=>by rw [Nat.sub_zero,ah7],fun t t1 t2=>by omega⟩;unfold cr bj aF;by_cases a8:a < i - k
 ·have g1:y.data.get (0+Int.toNat ((i - k:Nat):Int))=D.get i:=by rw [cm,bd,f8,Lw]
  have g2:y.data.get (0+Int.toNat ((i - k - 1:Nat):Int))=D.get (i - k - 1):=by rw [cm,bd,f8,Bp (by omega)]
  obtain ⟨r,r1,r2⟩:=Uh (ck h (D.get i)) (ck h (D.get (i - k - 1)));have e0:gz y=some r:=by
   unfold gz;rw [f7,agm (by omega) (by omega),g1,g2,f4];exact r1
  have o1:((decide ((0:Int)<=(D.get i).item))&&(decide ((D.get i).item < ((h.items.n:Nat):Int))))=true:=cf i h2;have o2:((decide ((0:Int)<=(D.get (i - k - 1)).item))&&(decide ((D.get (i - k - 1)).item < ((h.items.n:Nat):Int))))=true:=cf _ (by omega);rw [f7,f1,ao (show ((i - k:Nat):Int) > (a:Int) by omega),aj,f5,UU (by omega),aj,agm (by omega) (by omega),UU (by omega),aj,g1,g2,f4,o1,o2,e0];simp only [aj,bN,bG,aH,r2];by_cases hc:ck h (D.get i) < ck h (D.get (i - k - 1))
  ·rw [ao hc,aj]
   refine .inl ⟨_,rfl,by omega,rfl,f2,f3,rfl,by rw [an5]; exact f5,by omega,by rw [show i - (k+1)=i - k - 1 by omega],fun t=>?_,fun t t1 t2=>?_⟩
   ·rw [Ug,show i - (k+1)=i - k - 1 by omega,ah9 (by omega) (by omega),cm,cm,Lw,Bp (by omega),f8]
   ·by_cases e:t=i - k - 1
    ·rw [e]; exact hc
    ·exact f9 t (by omega) t2
  ·rw [ax hc,aq]
   exact .inr ⟨_,_,rfl,rfl,rfl,f1,f2,f3,f4,f5,i - k,by omega,by omega,f8,f9,.inr hc⟩
 ·rw [f7,f1,ax (show ¬ ((i - k:Nat):Int) > (a:Int) by omega),aq,aH,aj]
  exact .inr ⟨_,_,rfl,rfl,rfl,f1,f2,f3,f4,f5,i - k,by omega,by omega,f8,f9,.inl (by omega)⟩
def bL (h:Show) (gA:aJ->aJ->Prop):fj.Ord aJ:=⟨ck h,gA⟩
theorem Oo (h:Show) (gA:aJ->aJ->Prop) (D:Sl aJ) (a b:Nat) (h1:a<=b) (h2:b<=D.n) (h3:D.n<=10000000000) (cf:∀ t,t < D.n->ib h (D.get t)=true) (hr:∀ s t,a<=s->s < t->t < b->gA (D.get s) (D.get t)) :
  ∃ D',ff ⟨D,(a:Int),(b:Int),h⟩ = .out .ret ⟨D',(a:Int),(b:Int),h⟩/\D'.n=D.n/\Perm D.get D'.get a b/\gk (bL h gA) D'.get a b:=by
 have amS:∃ e y,goN cD ⟨D,(a:Int),(b:Int),((a+1:Nat):Int),h⟩ = .out e y/\(e = .exit 0/\y.a=(a:Int)/\y.b=(b:Int)/\y.JK=h/\y.data.n=D.n/\Perm D.get y.data.get a b/\gk (bL h gA) y.data.get a b):=by
  refine bp (step:=cD) (fun k y=>y.a=(a:Int)/\y.b=(b:Int)/\y.i=((a+1+k:Nat):Int)/\y.JK=h/\y.data.n=D.n/\(k=0\/a+1+k<=b)/\Perm D.get y.data.get a (a+1+k)/\gk (bL h gA) y.data.get a (a+1+k)) _ (b - a) (by have:eS=10000000000000:=rfl; omega) (fun k y hk ⟨f1,f2,f3,f4,f5,f6,f7,f8⟩=>?_) ⟨rfl,rfl,rfl,rfl,rfl,.inl rfl,.refl _ _ _,.one (by omega)⟩;unfold cD aF;by_cases a8:a+1+k < b
  ·have ab6:∀ t,t < y.data.n->ib h (y.data.get t)=true:=fun t ht=>by
    rw [f5] at ht;by_cases sM:a<=t/\t < a+1+k
    ·obtain ⟨j,j1,j2,e⟩:=f7.mem sM.1 sM.2
     rw [e]; exact cf j (by omega)
    ·rw [f7.2 t (by omega)]; exact cf t ht
   obtain ⟨e,z,hz,rfl,z1,z2,z3,z4,z5,j,j1,j2,j3,j4,j5⟩:=agp h y.data a b (a+1+k) (by omega) (by omega) (by omega) ab6;have e0:cj y = .out (.exit 2) z:=by
    unfold cj;rw [f1,f2,f3,f4];exact hz
   rw [f3,f2,ao (show ((a+1+k:Nat):Int) < (b:Int) by omega),aj,e0];simp only [aH,aj,aO.kf,aO.kh,fa,kp];have asj:z.data.get=ins y.data.get j (a+1+k):=funext j3;refine .inl ⟨_,rfl,by omega,z1,z2,(by show az (z.i+1)=_; rw [z3,J8 (by omega)]; rfl),z4,by rw [z5]; exact f5,.inr (by omega),?_,?_⟩
   ·rw [asj]
    exact (f7.wide (aQ _) (by omega) (by omega)).trans ((ah8 (a:=a) j1 j2).wide (aQ _) (by omega) (by omega))
   ·rw [asj]
    refine acH f8 (fun s t s1 s2 t1 t2=>?_) j1 j2 (fun s s1 s2=>?_) j4
    ·have:t=a+1+k:=by omega
     subst this;obtain ⟨s',p1,p2,e⟩:=f7.mem s1 s2;rw [e,f7.2 (a+1+k) (by omega)];exact hr s' _ p1 p2 a8
    ·rcases j5 with rfl | j5
     ·omega
     ·have:=f8.key (i:=s) (j:=j - 1) s1 (by omega) (by omega)
      have h5 : ¬ (bL h gA).key (y.data.get (a+1+k)) < (bL h gA).key (y.data.get (j - 1)):=j5;omega
  ·rw [f3,f2,ax (show ¬ ((a+1+k:Nat):Int) < (b:Int) by omega),aq,aH,aj]
   refine .inr ⟨_,_,rfl,rfl,rfl,f1,f2,f4,f5,?_,?_⟩
   ·rcases f6 with rfl | f6
    ·by_cases e:a=b
     ·subst e
      refine ⟨fun p=>by rw [Nat.sub_self]; rfl,fun i _=>?_⟩;by_cases hi:i=a
      ·subst hi
       have:=f7.1;obtain ⟨j,p1,p2,e⟩:=f7.mem (i:=i) (by omega) (by omega);rw [e]; congr 1; omega
      ·exact f7.2 i (by omega)
     ·rw [show b=a+1+0 by omega]; exact f7
    ·rw [show b=a+1+k by omega]; exact f7
   ·exact fun s t s1 s2 t1=>f8 s t s1 s2 (by omega)
 obtain ⟨e,y,hy,rfl,y1,y2,y3,y4,y5,y6⟩:=amS;have e0:cW ⟨D,(a:Int),(b:Int),h⟩ = .out (.exit 0) y:=by
  unfold cW;rw [J8 (by omega)];exact hy
 refine ⟨y.data,?_,y4,y5,y6⟩;unfold ff hY aF;rw [e0];simp only [aH,aj,aO.kf,aO.kh,fa,kp,y1,y2,y3]
theorem aqC {n:Int} (h:0<=n) (h' : n < 18446744073709551616):sC n=n:=by
 show Go.IntKind.wrap .u64 n=n;unfold Go.IntKind.wrap;simp only [Go.IntKind.signed,Go.IntKind.bits]
 first | omega | (simp; omega)
theorem ajl {i j:Nat} (h:i+j<=100000000000):az (Int.fdiv (sC (az ((i:Int)+(j:Int)))) (2:Int))=(((i+j) / 2:Nat):Int):=by
 rw [agl h,aqC (by omega) (by omega),show Int.fdiv ((i+j:Nat):Int) (2:Int)=(((i+j) / 2:Nat):Int) from ?_,kE (by omega) (by omega)];rw [Int.fdiv_eq_ediv_of_nonneg _ (by omega)];omega
theorem ajm (h:Show) (D:Sl aJ) (gA:aJ->aJ->Prop) (a m b:Nat) (h1:a+1=m) (h2:m<=b) (h4:b<=D.n) (h3:D.n<=10000000000) (cf:∀ t,t < D.n->ib h (D.get t)=true) (hs:gk (bL h gA) D.get m b) :
  ∃ i:Nat,goN cX ⟨D,(a:Int),(m:Int),(b:Int),(m:Int),(b:Int),h⟩ = .out (.exit 0) ⟨D,(a:Int),(m:Int),(b:Int),(i:Int),(i:Int),h⟩/\m<=i/\i<=b/\(∀ t,m<=t->t < i->ck h (D.get t) < ck h (D.get a))/\∀ t,i<=t->t < b->ck h (D.get a)<=ck h (D.get t):=by
 refine Exists.elim (bp (step:=cX) (x:=⟨D,(a:Int),(m:Int),(b:Int),(m:Int),(b:Int),h⟩) (fun k y=>∃ i j:Nat,y=⟨D,(a:Int),(m:Int),(b:Int),(i:Int),(j:Int),h⟩/\m<=i/\i<=j/\j<=b/\j - i+k<=b - m/\(∀ t,m<=t->t < i->ck h (D.get t) < ck h (D.get a))/\∀ t,j<=t->t < b->ck h (D.get a)<=ck h (D.get t)) (fun e y=>e = .exit 0/\∃ i:Nat,y=⟨D,(a:Int),(m:Int),(b:Int),(i:Int),(i:Int),h⟩/\m<=i/\i<=b/\(∀ t,m<=t->t < i->ck h (D.get t) < ck h (D.get a))/\∀ t,i<=t->t < b->ck h (D.get a)<=ck h (D.get t)) (b - m) (by have:eS=10000000000000:=rfl; omega) (fun k y hk ⟨i,j,hy,g1,g2,g3,g4,g5,g6⟩=>?_) ⟨m,b,rfl,aQ _,h2,aQ _,by omega,fun t t1 t2=>by omega,fun t t1 t2=>by omega⟩) fun e ⟨y,hy,he,i,hi,q⟩=>⟨i,by rw [hy,he,hi],q⟩
 ·subst hy
  unfold cX bj aF;by_cases a8:i < j
  ·have hh:=ajl (i:=i) (j:=j) (by omega)
   obtain ⟨r,r1,r2⟩:=Uh (ck h (D.get ((i+j) / 2))) (ck h (D.get a));have e0:iQ ⟨D,(a:Int),(m:Int),(b:Int),(i:Int),(j:Int),h⟩=some r:=by
    unfold iQ;simp only [hh,cm,bd];exact r1
   have o1:((decide ((0:Int)<=(D.get ((i+j) / 2)).item))&&(decide ((D.get ((i+j) / 2)).item < ((h.items.n:Nat):Int))))=true:=cf _ (by omega);have o2:((decide ((0:Int)<=(D.get a).item))&&(decide ((D.get a).item < ((h.items.n:Nat):Int))))=true:=cf _ (by omega);simp only [hh,e0,ao (show (i:Int) < (j:Int) by omega),aj,UU (show (i+j) / 2 < D.n by omega),UU (show a < D.n by omega),cm,bd,o1,o2,bN,bG,aH,r2];by_cases hc:ck h (D.get ((i+j) / 2)) < ck h (D.get a)
   ·rw [ao hc,aj,J8 (by omega)]
    refine .inl ⟨_,rfl,by omega,(i+j) / 2+1,j,rfl,by omega,by omega,g3,by omega,fun t t1 t2=>?_,g6⟩;have:=hs.key (i:=t) (j:=(i+j) / 2) t1 (by omega) (by omega);exact Int.lt_of_le_of_lt this hc
   ·rw [ax hc,aq]
    refine .inl ⟨_,rfl,by omega,i,(i+j) / 2,rfl,g1,by omega,by omega,by omega,g5,fun t t1 t2=>?_⟩;have:=hs.key (i:=(i+j) / 2) (j:=t) (by omega) t1 t2;exact Int.le_trans (Int.not_lt.1 hc) this
  ·simp only [ax (show ¬ (i:Int) < (j:Int) by omega),aq,aH,aj]
   have:j=i:=by omega
   subst this;exact .inr ⟨_,_,rfl,rfl,rfl,j,rfl,g1,g3,g5,g6⟩
theorem ajn (h:Show) (D:Sl aJ) (gA:aJ->aJ->Prop) (a m b:Nat) (h2:a<=m) (h4:m < D.n) (h3:D.n<=10000000000) (cf:∀ t,t < D.n->ib h (D.get t)=true) (hs:gk (bL h gA) D.get a m) :
  ∃ i:Nat,goN cY ⟨D,(a:Int),(m:Int),(b:Int),(a:Int),(m:Int),h⟩ = .out (.exit 4) ⟨D,(a:Int),(m:Int),(b:Int),(i:Int),(i:Int),h⟩/\a<=i/\i<=m/\(∀ t,a<=t->t < i->ck h (D.get t)<=ck h (D.get m))/\∀ t,i<=t->t < m->ck h (D.get m) < ck h (D.get t):=by
 refine Exists.elim (bp (step:=cY) (x:=⟨D,(a:Int),(m:Int),(b:Int),(a:Int),(m:Int),h⟩) (fun k y=>∃ i j:Nat,y=⟨D,(a:Int),(m:Int),(b:Int),(i:Int),(j:Int),h⟩/\a<=i/\i<=j/\j<=m/\j - i+k<=m - a/\(∀ t,a<=t->t < i->ck h (D.get t)<=ck h (D.get m))/\∀ t,j<=t->t < m->ck h (D.get m) < ck h (D.get t)) (fun e y=>e = .exit 4/\∃ i:Nat,y=⟨D,(a:Int),(m:Int),(b:Int),(i:Int),(i:Int),h⟩/\a<=i/\i<=m/\(∀ t,a<=t->t < i->ck h (D.get t)<=ck h (D.get m))/\∀ t,i<=t->t < m->ck h (D.get m) < ck h (D.get t)) (m - a) (by have:eS=10000000000000:=rfl; omega) (fun k y hk ⟨i,j,hy,g1,g2,g3,g4,g5,g6⟩=>?_) ⟨a,m,rfl,aQ _,h2,aQ _,by omega,fun t t1 t2=>by omega,fun t t1 t2=>by omega⟩) fun e ⟨y,hy,he,i,hi,q⟩=>⟨i,by rw [hy,he,hi],q⟩
 ·subst hy
  unfold cY bj aF;by_cases a8:i < j
  ·have hh:=ajl (i:=i) (j:=j) (by omega)
   obtain ⟨r,r1,r2⟩:=Uh (ck h (D.get m)) (ck h (D.get ((i+j) / 2)));have e0:iR ⟨D,(a:Int),(m:Int),(b:Int),(i:Int),(j:Int),h⟩=some r:=by
    unfold iR;simp only [hh,cm,bd];exact r1
   have o1:((decide ((0:Int)<=(D.get ((i+j) / 2)).item))&&(decide ((D.get ((i+j) / 2)).item < ((h.items.n:Nat):Int))))=true:=cf _ (by omega);have o2:((decide ((0:Int)<=(D.get m).item))&&(decide ((D.get m).item < ((h.items.n:Nat):Int))))=true:=cf _ (by omega);simp only [hh,e0,ao (show (i:Int) < (j:Int) by omega),aj,UU (show (i+j) / 2 < D.n by omega),UU h4,cm,bd,o1,o2,bN,bG,aH,r2];by_cases hc:ck h (D.get m) < ck h (D.get ((i+j) / 2))
   ·rw [ao hc,kW,aq]
    refine .inl ⟨_,rfl,by omega,i,(i+j) / 2,rfl,g1,by omega,by omega,by omega,g5,fun t t1 t2=>?_⟩;have:=hs.key (i:=(i+j) / 2) (j:=t) (by omega) t1 t2;exact Int.lt_of_lt_of_le hc this
   ·rw [ax hc,yJ,aj,J8 (by omega)]
    refine .inl ⟨_,rfl,by omega,(i+j) / 2+1,j,rfl,by omega,by omega,g3,by omega,fun t t1 t2=>?_,g6⟩;have:=hs.key (i:=t) (j:=(i+j) / 2) t1 (by omega) (by omega);exact Int.le_trans this (Int.not_lt.1 hc)
  ·simp only [ax (show ¬ (i:Int) < (j:Int) by omega),aq,aH,aj]
   have:j=i:=by omega
   subst this;exact .inr ⟨_,_,rfl,rfl,rfl,j,rfl,g1,g3,g5,g6⟩
theorem ZS (h:Show) (D:Sl aJ) (a m b cn s0 r0:Nat) (h1:s0<=r0) (h2:r0<=m) (h5:r0<=cn) (h6:cn+m<=b+s0) (h7:m<=b) (h4:b<=D.n) (h3:D.n<=10000000000) (h8:1<=m) (cf:∀ t,t < D.n->ib h (D.get t)=true) :
  ∃ s:Nat,goN cu ⟨D,(a:Int),(m:Int),(b:Int),(cn:Int),((cn+m:Nat):Int),(s0:Int),(r0:Int),((cn+m - 1:Nat):Int),h⟩ = .out (.exit 8) ⟨D,(a:Int),(m:Int),(b:Int),(cn:Int),((cn+m:Nat):Int),(s:Int),(s:Int),((cn+m - 1:Nat):Int),h⟩/\s0<=s/\s<=r0/\
   (s=s0\/(s0 < s/\ck h (D.get (s - 1))<=ck h (D.get (cn+m - s))))/\(s=r0\/(s < r0/\ck h (D.get (cn+m - 1 - s)) < ck h (D.get s))):=by
 refine Exists.elim (bp (step:=cu) (x:=⟨D,(a:Int),(m:Int),(b:Int),(cn:Int),((cn+m:Nat):Int),(s0:Int),(r0:Int),((cn+m - 1:Nat):Int),h⟩) (fun k y=>∃ i j:Nat,y=⟨D,(a:Int),(m:Int),(b:Int),(cn:Int),((cn+m:Nat):Int),(i:Int),(j:Int),((cn+m - 1:Nat):Int),h⟩/\s0<=i/\i<=j/\j<=r0/\j - i+k<=r0 - s0/\(i=s0\/(s0 < i/\ck h (D.get (i - 1))<=ck h (D.get (cn+m - i))))/\(j=r0\/(j < r0/\ck h (D.get (cn+m - 1 - j)) < ck h (D.get j)))) (fun e y=>e = .exit 8/\∃ i:Nat,y=⟨D,(a:Int),(m:Int),(b:Int),(cn:Int),((cn+m:Nat):Int),(i:Int),(i:Int),((cn+m - 1:Nat):Int),h⟩/\s0<=i/\i<=r0/\(i=s0\/(s0 < i/\ck h (D.get (i - 1))<=ck h (D.get (cn+m - i))))/\(i=r0\/(i < r0/\ck h (D.get (cn+m - 1 - i)) < ck h (D.get i)))) (r0 - s0) (by have:eS=10000000000000:=rfl; omega) (fun k y hk ⟨i,j,hy,g1,g2,g3,g4,g5,g6⟩=>?_) ⟨s0,r0,rfl,aQ _,h1,aQ _,by omega,.inl rfl,.inl rfl⟩) fun e ⟨y,hy,he,i,hi,q⟩=>⟨i,by rw [hy,he,hi],q⟩
 ·subst hy
  unfold cu bj aF;by_cases a8:i < j
  ·have hh:=ajl (i:=i) (j:=j) (by omega)
   have hp:=Gq (i:=cn+m - 1) (j:=(i+j) / 2) (by omega) (by omega);obtain ⟨r,r1,r2⟩:=Uh (ck h (D.get (cn+m - 1 - (i+j) / 2))) (ck h (D.get ((i+j) / 2)));have e0:iq ⟨D,(a:Int),(m:Int),(b:Int),(cn:Int),((cn+m:Nat):Int),(i:Int),(j:Int),((cn+m - 1:Nat):Int),h⟩=some r:=by
    unfold iq;simp only [hh,hp,cm,bd];exact r1
   have o1:((decide ((0:Int)<=(D.get ((i+j) / 2)).item))&&(decide ((D.get ((i+j) / 2)).item < ((h.items.n:Nat):Int))))=true:=cf _ (by omega);have o2:((decide ((0:Int)<=(D.get (cn+m - 1 - (i+j) / 2)).item))&&(decide ((D.get (cn+m - 1 - (i+j) / 2)).item < ((h.items.n:Nat):Int))))=true:=cf _ (by omega);simp only [hh,hp,e0,ao (show (i:Int) < (j:Int) by omega),aj,UU (show (i+j) / 2 < D.n by omega),UU (show cn+m - 1 - (i+j) / 2 < D.n by omega),cm,bd,o1,o2,bN,bG,aH,r2];by_cases hc:ck h (D.get (cn+m - 1 - (i+j) / 2)) < ck h (D.get ((i+j) / 2))
   ·rw [ao hc,kW,aq]
    exact .inl ⟨_,rfl,by omega,i,(i+j) / 2,rfl,g1,by omega,by omega,by omega,g5,.inr ⟨by omega,hc⟩⟩
   ·rw [ax hc,yJ,aj,J8 (by omega)]
    refine .inl ⟨_,rfl,by omega,(i+j) / 2+1,j,rfl,by omega,by omega,g3,by omega,.inr ⟨by omega,?_⟩,g6⟩;rw [show cn+m - ((i+j) / 2+1)=cn+m - 1 - (i+j) / 2 by omega,Nat.add_sub_cancel];exact Int.not_lt.1 hc
  ·simp only [ax (show ¬ (i:Int) < (j:Int) by omega),aq,aH,aj]
   have:j=i:=by omega
   subst this;exact .inr ⟨_,_,rfl,rfl,rfl,j,rfl,g1,g3,g5,g6⟩
theorem ajo (h:Show) (D:Sl aJ) (a m b i:Nat) (h1:a+1<=i) (h4:i<=D.n) (h3:D.n<=10000000000) :
  ∃ D',∃ k:Int,goN cZ ⟨D,(a:Int),(m:Int),(b:Int),(i:Int),(a:Int),h⟩ = .out (.exit 2) ⟨D',(a:Int),(m:Int),(b:Int),(i:Int),k,h⟩/\D'.n=D.n/\∀ t,D'.get t=Ol D.get a (i - 1) t:=by
 refine Exists.elim (bp (step:=cZ) (x:=⟨D,(a:Int),(m:Int),(b:Int),(i:Int),(a:Int),h⟩) (fun k y=>∃ D',y=⟨D',(a:Int),(m:Int),(b:Int),(i:Int),((a+k:Nat):Int),h⟩/\a+k<=i - 1/\D'.n=D.n/\∀ t,D'.get t=Ol D.get a (a+k) t) (fun e y=>e = .exit 2/\∃ D',∃ k:Int,y=⟨D',(a:Int),(m:Int),(b:Int),(i:Int),k,h⟩/\D'.n=D.n/\∀ t,D'.get t=Ol D.get a (i - 1) t) (i - 1 - a) (by have:eS=10000000000000:=rfl; omega) (fun k y hk ⟨D',hy,g1,g2,g3⟩=>?_) ⟨D,rfl,by omega,rfl,fun t=>by rw [yH,aoR]⟩) fun e ⟨y,hy,he,D',k,hi,q⟩=>⟨D',k,by rw [hy,he,hi],q⟩
 ·subst hy
  unfold cZ bj aF;have hi:=agm (i:=i) (by omega) (by omega);by_cases a8:a+k < i - 1
  ·have MX:=J8 (i:=a+k) (by omega)
   simp only [hi,MX,ao (show ((a+k:Nat):Int) < ((i - 1:Nat):Int) by omega),aj,UU (show a+k < D'.n by omega),UU (show a+k+1 < D'.n by omega),aH];refine .inl ⟨_,rfl,by omega,_,rfl,by omega,g2,fun t=>?_⟩;rw [Ug,cm,cm,bd,bd,show a+(k+1)=a+k+1 by omega,aoT (by omega),g3,g3,g3];by_cases e1:t=a+k+1
   ·subst e1; rw [aR rfl,ay (by omega),aR rfl]
   ·rw [ay e1]
    by_cases e2:t=a+k
    ·subst e2; rw [aR rfl,aR rfl]
    ·rw [ay e2,ay e2,ay e1]
  ·simp only [hi,ax (show ¬ ((a+k:Nat):Int) < ((i - 1:Nat):Int) by omega),aq,aH,aj]
   exact .inr ⟨_,_,rfl,rfl,rfl,D',_,rfl,g2,fun t=>by rw [g3,show a+k=i - 1 by omega]⟩
theorem ajp (h:Show) (D:Sl aJ) (a m b i:Nat) (h1:i<=m) (h4:m < D.n) (h3:D.n<=10000000000) :
  ∃ D',∃ k:Int,goN cP ⟨D,(a:Int),(m:Int),(b:Int),(i:Int),(m:Int),h⟩ = .out (.exit 6) ⟨D',(a:Int),(m:Int),(b:Int),(i:Int),k,h⟩/\D'.n=D.n/\∀ t,D'.get t=ins D.get i m t:=by
 refine Exists.elim (bp (step:=cP) (x:=⟨D,(a:Int),(m:Int),(b:Int),(i:Int),(m:Int),h⟩) (fun k y=>∃ D',y=⟨D',(a:Int),(m:Int),(b:Int),(i:Int),((m - k:Nat):Int),h⟩/\i+k<=m/\D'.n=D.n/\∀ t,D'.get t=ins D.get (m - k) m t) (fun e y=>e = .exit 6/\∃ D',∃ k:Int,y=⟨D',(a:Int),(m:Int),(b:Int),(i:Int),k,h⟩/\D'.n=D.n/\∀ t,D'.get t=ins D.get i m t) (m - i) (by have:eS=10000000000000:=rfl; omega) (fun k y hk ⟨D',hy,g1,g2,g3⟩=>?_) ⟨D,rfl,by omega,rfl,fun t=>by rw [Nat.sub_zero,ah7]⟩) fun e ⟨y,hy,he,D',k,hi,q⟩=>⟨D',k,by rw [hy,he,hi],q⟩
 ·subst hy
  unfold cP bj aF;by_cases a8:i < m - k
  ·have MX:=agm (i:=m - k) (by omega) (by omega)
   simp only [MX,ao (show ((m - k:Nat):Int) > (i:Int) by omega),aj,UU (show m - k < D'.n by omega),UU (show m - k - 1 < D'.n by omega),aH];refine .inl ⟨_,rfl,by omega,_,rfl,by omega,g2,fun t=>?_⟩;rw [Ug,cm,cm,bd,bd,show m - (k+1)=m - k - 1 by omega,ah9 (by omega) (by omega),g3,g3,g3]
  ·simp only [ax (show ¬ ((m - k:Nat):Int) > (i:Int) by omega),aq,aH,aj]
   exact .inr ⟨_,_,rfl,rfl,rfl,D',_,rfl,g2,fun t=>by rw [g3,show m - k=i by omega]⟩
end Go.Proofs.YtchbpckkmgcgkaaGreat.b
end
section
namespace Go.Proofs.YtchbpckkmgcgkaaGreat.b
open Go.K Go.K.fj
open Go.aB (ai)
def IA (rc:ah->aO ah) (z:bX) (D:Sl aJ) (h:Show):aO ah:=
 cond (decide (z.cn < az (z.n - z.start)))
  (cond (decide (az (z.n - z.start) < z.b))
   (cond (dk D.n z.data.n) (cond ((rc ⟨D,z.cn,az (z.n - z.start),z.b,h⟩).by .ret) (cond (dk (rc ⟨D,z.cn,az (z.n - z.start),z.b,h⟩).st.data.n z.data.n) (.out .ret ⟨(rc ⟨D,z.cn,az (z.n - z.start),z.b,h⟩).st.data,z.a,z.m,z.b,(rc ⟨D,z.cn,az (z.n - z.start),z.b,h⟩).st.held⟩) .fail) .fail) .fail)
   (cond (dk D.n z.data.n) (.out .ret ⟨D,z.a,z.m,z.b,h⟩) .fail))
  (cond (dk D.n z.data.n) (.out .ret ⟨D,z.a,z.m,z.b,h⟩) .fail)
def Oq (rc:ah->aO ah) (z:bX) (D:Sl aJ) (h:Show):aO ah:=
 cond (decide (z.a < z.start))
  (cond (decide (z.start < z.cn))
   (cond (dk D.n z.data.n) (cond ((rc ⟨D,z.a,z.start,z.cn,h⟩).by .ret) (IA rc z (rc ⟨D,z.a,z.start,z.cn,h⟩).st.data (rc ⟨D,z.a,z.start,z.cn,h⟩).st.held) .fail) .fail)
   (IA rc z D h))
  (IA rc z D h)
def Ui (rc:ah->aO ah) (z:bX):aO ah:=
 cond (decide (z.start < z.m))
  (cond (decide (z.m < az (z.n - z.start)))
   (cond (dk z.data.n z.data.n) (cond ((eE ⟨z.data,z.start,z.m,az (z.n - z.start),z.eX⟩).by .ret) (Oq rc z (eE ⟨z.data,z.start,z.m,az (z.n - z.start),z.eX⟩).st.data (eE ⟨z.data,z.start,z.m,az (z.n - z.start),z.eX⟩).st.held) .fail) .fail)
   (Oq rc z z.data z.eX))
  (Oq rc z z.data z.eX)
theorem agq (rc:ah->aO ah) (x:ah) (h1:((az (x.m - x.a))==(1:Int))=false) (h2:((az (x.b - x.m))==(1:Int))=false) :
  dU rc x=cond (decide (x.m > (az (Int.fdiv (sC (az (x.a+x.b))) (2:Int)))))
   (cond (dk x.data.n x.data.n) (cond ((ae rc x).by (.exit 8)) (Ui rc (ae rc x).st) .fail) .fail)
   (cond (dk x.data.n x.data.n) (cond ((aa rc x).by (.exit 8)) (Ui rc (aa rc x).st) .fail) .fail):=by
 unfold dU aF;rw [h1,h2];rfl
def wh (h:Show) (gA:aJ->aJ->Prop) (D D' : Sl aJ) (a b:Nat):Prop:=D'.n=D.n/\Perm D.get D'.get a b/\gk (bL h gA) D'.get a b
def zH (h:Show) (gA:aJ->aJ->Prop) (rc:ah->aO ah) (L:Nat):Prop:=∀ (D:Sl aJ) (a m b:Nat),a < m->m < b->b<=D.n->D.n<=10000000000->(∀ t,t < D.n->ib h (D.get t)=true)->b - a<=L->gk (bL h gA) D.get a m->gk (bL h gA) D.get m b->J7 (bL h gA) D.get a m b->
 ∃ D',rc ⟨D,(a:Int),(m:Int),(b:Int),h⟩ = .out .ret ⟨D',(a:Int),(m:Int),(b:Int),h⟩/\wh h gA D D' a b
theorem vj {h:Show} {D D' : Sl aJ} {a b:Nat} (hn:D'.n=D.n) (hb:b<=D.n) (hp:Perm D.get D'.get a b) (cf:∀ t,t < D.n->ib h (D.get t)=true):∀ t,t < D'.n->ib h (D'.get t)=true:=fun t ht=>by
 rw [hn] at ht;by_cases sM:a<=t/\t < b
 ·obtain ⟨j,j1,j2,e⟩:=hp.mem sM.1 sM.2
  rw [e]; exact cf j (by omega)
 ·rw [hp.2 t (by omega)]; exact cf t ht
section
variable {h:Show} {gA:aJ->aJ->Prop} {rc:ah->aO ah} {L:Nat}
theorem agr (hrc:zH h gA rc L) (Z D:Sl aJ) (a m b cn s e:Nat) (p:Int) (hm:m<=D.n) (hn:D.n=Z.n) (h3:D.n<=10000000000) (hb:b<=D.n) (hs:e+s=cn+m) (q1:cn<=e) (q2:e<=b) (cf:∀ t,t < D.n->ib h (D.get t)=true) (hL:b - cn<=L) (r1:gk (bL h gA) D.get cn e) (r2:gk (bL h gA) D.get e b) (r0:J7 (bL h gA) D.get cn e b) :
  ∃ D',IA rc ⟨Z,(a:Int),(m:Int),(b:Int),(cn:Int),((cn+m:Nat):Int),(s:Int),(s:Int),p,h⟩ D h = .out .ret ⟨D',(a:Int),(m:Int),(b:Int),h⟩/\wh h gA D D' cn b:=by
 have he:az (((cn+m:Nat):Int) - (s:Int))=(e:Int):=by rw [Gq (by omega) (by omega)]; congr 1; omega
 unfold IA;simp only [he,hn,aH,aj];by_cases c1:cn < e
 ·rw [ao (show (cn:Int) < (e:Int) by omega),aj]
  by_cases c2:e < b
  ·rw [ao (show (e:Int) < (b:Int) by omega),aj]
   obtain ⟨D',k1,k2,k3,k4⟩:=hrc D cn e b c1 c2 hb h3 cf hL r1 r2 r0;rw [k1];simp only [aO.kf,aO.kh,fa,aj,k2,hn,aH];exact ⟨D',rfl,k2,k3,k4⟩
  ·rw [ax (show ¬ (e:Int) < (b:Int) by omega),aq]
   have:e=b:=by omega
   subst this;exact ⟨D,rfl,rfl,.refl _ _ _,r1⟩
 ·rw [ax (show ¬ (cn:Int) < (e:Int) by omega),aq]
  have:cn=e:=by omega
  subst this;exact ⟨D,rfl,rfl,.refl _ _ _,r2⟩
theorem ahg (hrc:zH h gA rc L) (Z D:Sl aJ) (a m b cn s e:Nat) (p:Int) (hm:m<=D.n) (hn:D.n=Z.n) (h3:D.n<=10000000000) (hb:b<=D.n) (hs:e+s=cn+m) (q0:a<=s) (q3:s<=cn) (q1:cn<=e) (q2:e<=b) (cf:∀ t,t < D.n->ib h (D.get t)=true) (hL1:cn - a<=L) (hL:b - cn<=L) (xI:Split (bL h gA) D.get a s cn e b) :
  ∃ D',Oq rc ⟨Z,(a:Int),(m:Int),(b:Int),(cn:Int),((cn+m:Nat):Int),(s:Int),(s:Int),p,h⟩ D h = .out .ret ⟨D',(a:Int),(m:Int),(b:Int),h⟩/\wh h gA D D' a b:=by
 have rest:∀ D2:Sl aJ,wh h gA D D2 a cn->∃ D',IA rc ⟨Z,(a:Int),(m:Int),(b:Int),(cn:Int),((cn+m:Nat):Int),(s:Int),(s:Int),p,h⟩ D2 h = .out .ret ⟨D',(a:Int),(m:Int),(b:Int),h⟩/\wh h gA D D' a b:=fun D2 ⟨m1,m2,m3⟩=>by
  have same:∀ i,cn<=i->D2.get i=D.get i:=fun i hi=>m2.2 i (.inr hi);obtain ⟨D',k1,k2,k3,k4⟩:=agr hrc Z D2 a m b cn s e p (by omega) (m1.trans hn) (by omega) (by omega) hs q1 q2 (vj m1 (by omega) m2 cf) hL (xI.r1.congr fun i i1 _=>same i i1) (xI.r2.congr fun i i1 _=>same i (by omega)) (fun i j i1 i2 j1 j2=>by rw [same i i1,same j (by omega)]; exact xI.r0 i j i1 i2 j1 j2);exact ⟨D',k1,k2.trans m1,(m2.wide (aQ _) (by omega) (by omega)).trans (k3.wide (by omega) (by omega) (aQ _)),ajk xI.lr m2 m3 k3 k4⟩
 unfold Oq;simp only [hn,aH,aj];by_cases c1:a < s
 ·rw [ao (show (a:Int) < (s:Int) by omega),aj]
  by_cases c2:s < cn
  ·rw [ao (show (s:Int) < (cn:Int) by omega),aj]
   obtain ⟨D2,k1,k2⟩:=hrc D a s cn c1 c2 (by omega) h3 cf hL1 xI.l1 xI.l2 xI.l0;rw [k1];simp only [aO.kf,aO.kh,fa,aj];exact rest D2 k2
  ·rw [ax (show ¬ (s:Int) < (cn:Int) by omega),aq]
   have:s=cn:=by omega
   exact rest D ⟨rfl,.refl _ _ _,by rw [<- this]; exact xI.l1⟩
 ·rw [ax (show ¬ (a:Int) < (s:Int) by omega),aq]
  have:a=s:=by omega
  exact rest D ⟨rfl,.refl _ _ _,by rw [this]; exact xI.l2⟩
theorem Tr (hrc:zH h gA rc L) (D:Sl aJ) (a m b cn s e:Nat) (p:Int) (h3:D.n<=10000000000) (hb:b<=D.n) (hs:e+s=cn+m) (q0:a<=s) (q3:s<=cn) (q4:s<=m) (q1:cn<=e) (q5:m<=e) (q2:e<=b) (cf:∀ t,t < D.n->ib h (D.get t)=true) (hL1:cn - a<=L) (hL:b - cn<=L) (s1:gk (bL h gA) D.get a m) (s2:gk (bL h gA) D.get m b) (s0:J7 (bL h gA) D.get a m b) (w1:∀ i j,a<=i->i < s->e<=j->j < b->(bL h gA).key (D.get i)<=(bL h gA).key (D.get j)) (w2:∀ i j,s<=i->i < m->m<=j->j < e->(bL h gA).key (D.get j) < (bL h gA).key (D.get i)) :
  ∃ D',Ui rc ⟨D,(a:Int),(m:Int),(b:Int),(cn:Int),((cn+m:Nat):Int),(s:Int),(s:Int),p,h⟩ = .out .ret ⟨D',(a:Int),(m:Int),(b:Int),h⟩/\wh h gA D D' a b:=by
 have he:az (((cn+m:Nat):Int) - (s:Int))=(e:Int):=by rw [Gq (by omega) (by omega)]; congr 1; omega
 have xI:=amU (o:=bL h gA) s1 s2 s0 q0 q4 q5 q2 hs w1 w2;have rest:∀ D1:Sl aJ,D1.n=D.n->(∀ t,D1.get t=Ik D.get s m e t)->∃ D',Oq rc ⟨D,(a:Int),(m:Int),(b:Int),(cn:Int),((cn+m:Nat):Int),(s:Int),(s:Int),p,h⟩ D1 h = .out .ret ⟨D',(a:Int),(m:Int),(b:Int),h⟩/\wh h gA D D' a b:=fun D1 n1 g1=>by
  have hf:D1.get=Ik D.get s m e:=funext g1;have hp:Perm D.get D1.get s e:=by rw [hf]; exact aoU q4 q5
  obtain ⟨D',k1,k2,k3,k4⟩:=ahg hrc D D1 a m b cn s e p (by omega) n1 (by omega) (by omega) hs q0 q3 q1 q2 (vj n1 (by omega) hp cf) hL1 hL (by rw [hf]; exact xI);exact ⟨D',k1,k2.trans n1,(hp.wide q0 (by omega) q2).trans k3,k4⟩
 unfold Ui;simp only [he,aH,aj];by_cases c1:s < m
 ·rw [ao (show (s:Int) < (m:Int) by omega),aj]
  by_cases c2:m < e
  ·rw [ao (show (m:Int) < (e:Int) by omega),aj]
   obtain ⟨D1,k1,k2,k3⟩:=ago h D s m e c1 c2 (by omega) h3;rw [k1];simp only [aO.kf,aO.kh,fa,aj];exact rest D1 k2 k3
  ·rw [ax (show ¬ (m:Int) < (e:Int) by omega),aq]
   refine rest D rfl fun t=>?_;by_cases ht:t < s\/e<=t
   ·rw [Om q4 q5 ht]
   ·rw [Qa (by omega) (by omega)]; congr 1; omega
 ·rw [ax (show ¬ (s:Int) < (m:Int) by omega),aq]
  refine rest D rfl fun t=>?_;by_cases ht:t < s\/e<=t
  ·rw [Om q4 q5 ht]
  ·rw [Uf (by omega) (by omega)]; congr 1; omega
theorem adB (hrc:zH h gA rc L):zH h gA (dU rc) (2 * L):=by
 intro D a m b h1 h2 h4 h3 cf hL s1 s2 s0;by_cases c1:m - a=1
 ·obtain ⟨i,k1,k2,k3,k4,k5⟩:=ajm h D gA a m b (by omega) (by omega) h4 h3 cf s2
  obtain ⟨D',k,j1,j2,j3⟩:=ajo h D a m b i (by omega) (by omega) h3;have e0:cM rc ⟨D,(a:Int),(m:Int),(b:Int),h⟩=_:=k1;have e1:dq rc ⟨D,(a:Int),(m:Int),(b:Int),h⟩ = .out (.exit 2) ⟨D',(a:Int),(m:Int),(b:Int),(i:Int),k,h⟩:=by
   unfold dq;rw [e0];exact j1
  have hf:D'.get=Ol D.get a (i - 1):=funext j3;refine ⟨D',?_,j2,?_,?_⟩
  ·unfold dU aF
   simp only [Gq (i:=m) (j:=a) (by omega) (by omega),c1,e0,e1];simp only [aH,aj,aO.kf,aO.kh,fa,kp,show (((1:Nat):Int)==(1:Int))=true from rfl]
  ·rw [hf]
   exact (aoS (d:=D.get) (a:=a) (k:=i - 1) (by omega)).wide (aQ _) (by omega) (by omega)
  ·rw [hf]
   have hm:m=a+1:=by omega
   subst hm;exact alD (o:=bL h gA) s2 s0 k2 k3 k4 k5
 ·by_cases c2:b - m=1
  ·obtain ⟨i,k1,k2,k3,k4,k5⟩:=ajn h D gA a m b (by omega) (by omega) h3 cf s1
   obtain ⟨D',k,j1,j2,j3⟩:=ajp h D a m b i k3 (by omega) h3;have e0:cN rc ⟨D,(a:Int),(m:Int),(b:Int),h⟩=_:=k1;have e1:dr rc ⟨D,(a:Int),(m:Int),(b:Int),h⟩ = .out (.exit 6) ⟨D',(a:Int),(m:Int),(b:Int),(i:Int),k,h⟩:=by
    unfold dr;rw [e0];exact j1
   have hf:D'.get=ins D.get i m:=funext j3;have hb:b=m+1:=by omega
   refine ⟨D',?_,j2,?_,?_⟩
   ·unfold dU aF
    simp only [Gq (i:=m) (j:=a) (by omega) (by omega),Gq (i:=b) (j:=m) (by omega) (by omega),c2,e0,e1,show (((m - a:Nat):Int)==(1:Int))=false by simpa using (show ¬ ((m - a:Nat):Int)=1 by omega),aq];simp only [aH,aj,aO.kf,aO.kh,fa,kp,show (((1:Nat):Int)==(1:Int))=true from rfl]
   ·rw [hf,hb]
    exact (ah8 (d:=D.get) (a:=a) k2 k3)
   ·rw [hf,hb]
    rw [hb] at s0;exact acH s1 s0 k2 k3 k4 k5
  ·have aqD:=ajl (i:=a) (j:=b) (by omega)
   have hn:=agl (i:=(a+b) / 2) (j:=m) (by omega);have hp:=agm (i:=(a+b) / 2+m) (by omega) (by omega);have g1:((az ((m:Int) - (a:Int)))==(1:Int))=false:=by
    rw [Gq (by omega) (by omega)];simpa using (show ¬ ((m - a:Nat):Int)=1 by omega)
   have g2:((az ((b:Int) - (m:Int)))==(1:Int))=false:=by
    rw [Gq (by omega) (by omega)];simpa using (show ¬ ((b - m:Nat):Int)=1 by omega)
   rw [agq rc _ g1 g2];simp only [aqD,aH,aj];by_cases c3:(a+b) / 2 < m
   ·rw [ao (show (m:Int) > (((a+b) / 2:Nat):Int) by omega),aj]
    have iE:=Gq (i:=(a+b) / 2+m) (j:=b) (by omega) (by omega);obtain ⟨s,k1,k2,k3,k4,k5⟩:=ZS h D a m b ((a+b) / 2) ((a+b) / 2+m - b) ((a+b) / 2) (by omega) (by omega) (aQ _) (by omega) (by omega) h4 h3 (by omega) cf;have e4:ae rc ⟨D,(a:Int),(m:Int),(b:Int),h⟩ = .out (.exit 8) ⟨D,(a:Int),(m:Int),(b:Int),(((a+b) / 2:Nat):Int),(((a+b) / 2+m:Nat):Int),(s:Int),(s:Int),(((a+b) / 2+m - 1:Nat):Int),h⟩:=by
     unfold ae;simp only [aqD,hn,hp,iE];exact k1
    rw [e4];simp only [aO.kf,aO.kh,fa,kp,aj];obtain ⟨w1,w2⟩:=VN (o:=bL h gA) (s:=s) (s0:=(a+b) / 2+m - b) (r0:=(a+b) / 2) (cn:=(a+b) / 2) s1 s2 (by omega) (by omega) (by omega) (by omega) (k4.imp (fun e=>⟨e,.inr (by omega)⟩) fun ⟨q1,q2⟩=>⟨by omega,by omega,q2⟩) (k5.imp (fun e=>⟨e,.inr rfl⟩) fun ⟨q1,q2⟩=>⟨by omega,q1,q2⟩);exact Tr hrc D a m b ((a+b) / 2) s ((a+b) / 2+m - s) _ h3 h4 (by omega) (by omega) (by omega) (by omega) (by omega) (by omega) (by omega) cf (by omega) (by omega) s1 s2 s0 w1 w2
   ·rw [ax (show ¬ (m:Int) > (((a+b) / 2:Nat):Int) by omega),aq]
    obtain ⟨s,k1,k2,k3,k4,k5⟩:=ZS h D a m b ((a+b) / 2) a m (by omega) (aQ _) (by omega) (by omega) (by omega) h4 h3 (by omega) cf;have e4:aa rc ⟨D,(a:Int),(m:Int),(b:Int),h⟩ = .out (.exit 8) ⟨D,(a:Int),(m:Int),(b:Int),(((a+b) / 2:Nat):Int),(((a+b) / 2+m:Nat):Int),(s:Int),(s:Int),(((a+b) / 2+m - 1:Nat):Int),h⟩:=by
     unfold aa;simp only [aqD,hn,hp];exact k1
    rw [e4];simp only [aO.kf,aO.kh,fa,kp,aj];obtain ⟨w1,w2⟩:=VN (o:=bL h gA) (s:=s) (s0:=a) (r0:=m) (cn:=(a+b) / 2) s1 s2 (by omega) (by omega) (by omega) (by omega) (k4.imp (fun e=>⟨e,.inl rfl⟩) fun ⟨q1,q2⟩=>⟨q1,by omega,q2⟩) (k5.imp (fun e=>⟨e,.inl rfl⟩) fun ⟨q1,q2⟩=>⟨q1,by omega,q2⟩);exact Tr hrc D a m b ((a+b) / 2) s ((a+b) / 2+m - s) _ h3 h4 (by omega) (by omega) (by omega) (by omega) (by omega) (by omega) (by omega) cf (by omega) (by omega) s1 s2 s0 w1 w2
end
theorem Fu (h:Show) (gA:aJ->aJ->Prop):∀ n:Nat,zH h gA (gE n) (2 ^ n)
 | 0=>fun D a m b h1 h2 _ _ _ hL=>by simp at hL; omega
 | n+1=>by
  have:=adB (Fu h gA n);rw [Nat.pow_succ,Nat.mul_comm];exact this
end Go.Proofs.YtchbpckkmgcgkaaGreat.b
end
section
namespace Go.K.fj
variable {α:Type} {o:Ord α}
def Bl (o:Ord α) (g d:Nat->α) (l r:Nat):Prop:=gk o d l r/\∀ p:α->Bool,vJ p d l (r - l)=vJ p g l (r - l)
theorem Bl.congr {g d d' : Nat->α} {l r:Nat} (h:Bl o g d l r) (e:∀ i,l<=i->i < r->d' i=d i):Bl o g d' l r:=
 ⟨h.1.congr e,fun p=>by rw [qG (d:=d') (d':=d) (a:=l) (b:=l) fun i hi=>e _ (by omega) (by omega)]; exact h.2 p⟩
theorem Bl.join {g d d' : Nat->α} {a m b:Nat} (h1:Bl o g d a m) (h2:Bl o g d m b) (q1:a<=m) (q2:m<=b) (hp:Perm d d' a b) (hs:gk o d' a b):Bl o g d' a b:=by
 refine ⟨hs,fun p=>(hp.1 p).trans ?_⟩;rw [show b - a=(m - a)+(b - m) by omega,sn,sn,show a+(m - a)=m by omega,h1.2,h2.2]
theorem Gr {M l a:Nat} (h1:M ∣ l) (h2:M ∣ a) (h:l < a):l+M<=a:=by
 have:=Nat.le_of_dvd (by omega) (Nat.dvd_sub h2 h1);omega
def Bls (o:Ord α) (g d:Nat->α) (B n:Nat):Prop:=∀ l,B ∣ l->l < n->Bl o g d l (min (l+B) n)
end Go.K.fj
namespace Go.Proofs.YtchbpckkmgcgkaaGreat.b
open Go.K Go.K.fj
open Go.aB (ai)
end Go.Proofs.YtchbpckkmgcgkaaGreat.b
end
section
namespace Go.Proofs.YtchbpckkmgcgkaaGreat.b
open Go.K Go.K.fj
open Go.aB (ai)
section
variable (h:Show) (gA:aJ->aJ->Prop) (G:Sl aJ)
theorem ajq (h3:G.n<=10000000000) (cf:∀ t,t < G.n->ib h (G.get t)=true) (hr:alE (bL h gA) G.get G.n) :
  ∃ D:Sl aJ,∃ a:Nat,∃ b:Int,goN dH ⟨G,(G.n:Int),(20:Int),(0:Int),(20:Int),h⟩ = .out (.exit 0) ⟨D,(G.n:Int),(20:Int),(a:Int),b,h⟩/\D.n=G.n/\20 ∣ a/\a<=G.n/\G.n < a+20/\(∀ l,20 ∣ l->l < a->Bl (bL h gA) G.get D.get l (l+20))/\(∀ i,a<=i->D.get i=G.get i)/\∀ t,t < D.n->ib h (D.get t)=true:=by
 refine Exists.elim (bp (step:=dH) (x:=⟨G,(G.n:Int),(20:Int),(0:Int),(20:Int),h⟩) (fun k y=>∃ D:Sl aJ,∃ a:Nat,y=⟨D,(G.n:Int),(20:Int),(a:Int),((a+20:Nat):Int),h⟩/\k<=a/\D.n=G.n/\20 ∣ a/\a<=G.n/\(∀ l,20 ∣ l->l < a->Bl (bL h gA) G.get D.get l (l+20))/\(∀ i,a<=i->D.get i=G.get i)/\∀ t,t < D.n->ib h (D.get t)=true) (fun e y=>e = .exit 0/\∃ D:Sl aJ,∃ a:Nat,∃ b:Int,y=⟨D,(G.n:Int),(20:Int),(a:Int),b,h⟩/\D.n=G.n/\20 ∣ a/\a<=G.n/\G.n < a+20/\(∀ l,20 ∣ l->l < a->Bl (bL h gA) G.get D.get l (l+20))/\(∀ i,a<=i->D.get i=G.get i)/\∀ t,t < D.n->ib h (D.get t)=true) G.n (by have:eS=10000000000000:=rfl; omega) (fun k y hk ⟨D,a,hy,g0,g1,g2,g3,g4,g5,g6⟩=>?_) ⟨G,0,rfl,aQ _,rfl,Nat.dvd_zero _,cw _,fun l _ hl=>by omega,fun _ _=>rfl,cf⟩) fun e ⟨y,hy,he,D,a,b,hi,q⟩=>⟨D,a,b,by rw [hy,he,hi],q⟩
 subst hy;unfold dH aF;by_cases hle:a+20<=G.n
 ·obtain ⟨D',k1,k2,k3,k4⟩:=Oo h gA D a (a+20) (by omega) (by omega) (by omega) g6 (fun s t s1 s2 t1=>by rw [g5 s s1,g5 t (by omega)]; exact hr s t s2 (by omega))
  have e0:gW ⟨D,(G.n:Int),(20:Int),(a:Int),((a+20:Nat):Int),h⟩=_:=k1;have e1:az (((a+20:Nat):Int)+(20:Int))=((a+20+20:Nat):Int):=by rw [kE (by omega) (by omega)]; omega
  simp only [ao (show ((a+20:Nat):Int)<=(G.n:Int) by omega),aj,e0,e1,aH,aO.kf,aO.kh,fa,k2];refine .inl ⟨_,rfl,by omega,D',a+20,rfl,by omega,k2.trans g1,Nat.dvd_add g2 (Nat.dvd_refl _),hle,fun l l1 l2=>?_,fun i hi=>?_,vj k2 (by omega) k3 g6⟩
  ·by_cases hl:l < a
   ·have:=Gr l1 g2 hl
    exact (g4 l l1 hl).congr fun i i1 i2=>k3.2 i (.inl (by omega))
   ·have:l=a:=by
     by_cases e:a=l
     ·exact e.symm
     ·have:=Gr g2 l1 (by omega); omega
    subst this;refine ⟨k4,fun p=>(k3.1 p).trans (qG fun i hi=>g5 _ (by omega))⟩
  ·rw [k3.2 i (.inr hi)]; exact g5 i (by omega)
 ·simp only [ax (show ¬ ((a+20:Nat):Int)<=(G.n:Int) by omega),aq,aH,aj]
  exact .inr ⟨_,_,rfl,rfl,rfl,D,a,_,rfl,g1,g2,g3,by omega,g4,g5,g6⟩
theorem alF (E:Sl aJ) (B:Nat) (h3:G.n<=10000000000) (hB:1<=B) (hB2:B < G.n) (hr:alE (bL h gA) G.get G.n) (hn:E.n=G.n) (cf:∀ t,t < E.n->ib h (E.get t)=true) (hb:Bls (bL h gA) G.get E.get B G.n) :
  ∃ D:Sl aJ,∃ a:Nat,∃ b:Int,goN dh ⟨E,(G.n:Int),(B:Int),(0:Int),((2 * B:Nat):Int),h⟩ = .out (.exit 4) ⟨D,(G.n:Int),(B:Int),(a:Int),b,h⟩/\D.n=G.n/\2 * B ∣ a/\a<=G.n/\G.n < a+2 * B/\(∀ l,2 * B ∣ l->l < a->Bl (bL h gA) G.get D.get l (l+2 * B))/\(∀ l,B ∣ l->a<=l->l < G.n->Bl (bL h gA) G.get D.get l (min (l+B) G.n))/\∀ t,t < D.n->ib h (D.get t)=true:=by
 refine Exists.elim (bp (step:=dh) (x:=⟨E,(G.n:Int),(B:Int),(0:Int),((2 * B:Nat):Int),h⟩) (fun k y=>∃ D:Sl aJ,∃ a:Nat,y=⟨D,(G.n:Int),(B:Int),(a:Int),((a+2 * B:Nat):Int),h⟩/\k<=a/\D.n=G.n/\2 * B ∣ a/\a<=G.n/\(∀ l,2 * B ∣ l->l < a->Bl (bL h gA) G.get D.get l (l+2 * B))/\(∀ l,B ∣ l->a<=l->l < G.n->Bl (bL h gA) G.get D.get l (min (l+B) G.n))/\∀ t,t < D.n->ib h (D.get t)=true) (fun e y=>e = .exit 4/\∃ D:Sl aJ,∃ a:Nat,∃ b:Int,y=⟨D,(G.n:Int),(B:Int),(a:Int),b,h⟩/\D.n=G.n/\2 * B ∣ a/\a<=G.n/\G.n < a+2 * B/\(∀ l,2 * B ∣ l->l < a->Bl (bL h gA) G.get D.get l (l+2 * B))/\(∀ l,B ∣ l->a<=l->l < G.n->Bl (bL h gA) G.get D.get l (min (l+B) G.n))/\∀ t,t < D.n->ib h (D.get t)=true) G.n (by have:eS=10000000000000:=rfl; omega) (fun k y hk ⟨D,a,hy,g0,g1,g2,g3,g4,g5,g6⟩=>?_) ⟨E,0,by rw [bd]; rfl,aQ _,hn,Nat.dvd_zero _,cw _,fun l _ hl=>by omega,fun l l1 _ l3=>hb l l1 l3,cf⟩) fun e ⟨y,hy,he,D,a,b,hi,q⟩=>⟨D,a,b,by rw [hy,he,hi],q⟩
 subst hy;unfold dh aF;have hBa:B ∣ a:=Nat.dvd_trans (Nat.dvd_mul_left B 2) g2;by_cases hle:a+2 * B<=G.n
 ·have b1:Bl (bL h gA) G.get D.get a (a+B):=by have:=g5 a hBa (aQ _) (by omega); rwa [Nat.min_eq_left (by omega)] at this
  have b2:Bl (bL h gA) G.get D.get (a+B) (a+2 * B):=by have:=g5 (a+B) (Nat.dvd_add hBa (Nat.dvd_refl _)) (by omega) (by omega); rwa [Nat.min_eq_left (by omega),show a+B+B=a+2 * B by omega] at this
  have hc:J7 (bL h gA) D.get a (a+B) (a+2 * B):=aia hr hle (by omega) (by omega) b1.2 b2.2;obtain ⟨D',k1,k2,k3,k4⟩:=Fu h gA 64 D a (a+B) (a+2 * B) (by omega) (by omega) (by omega) (by omega) g6 (oO (show _<=10000000000 by omega) (by decide)) b1.1 b2.1 hc;have e2:az ((a:Int)+(B:Int))=((a+B:Nat):Int):=agl (by omega);have e0:fh ⟨D,(G.n:Int),(B:Int),(a:Int),((a+2 * B:Nat):Int),h⟩ = .out .ret ⟨D',(a:Int),((a+B:Nat):Int),((a+2 * B:Nat):Int),h⟩:=by
   unfold fh;simp only [e2];exact k1
  have e1:az (((a+2 * B:Nat):Int)+az ((2:Int) * (B:Int)))=((a+2 * B+2 * B:Nat):Int):=by rw [kE (n:=(2:Int) * (B:Int)) (by omega) (by omega),kE (by omega) (by omega)]; omega
  simp only [ao (show ((a+2 * B:Nat):Int)<=(G.n:Int) by omega),aj,e0,e1,aH,aO.kf,aO.kh,fa,k2];refine .inl ⟨_,rfl,by omega,D',a+2 * B,rfl,by omega,k2.trans g1,Nat.dvd_add g2 (Nat.dvd_refl _),hle,fun l l1 l2=>?_,fun l l1 l2 l3=>?_,vj k2 (by omega) k3 g6⟩
  ·by_cases hl:l < a
   ·have:=Gr l1 g2 hl
    exact (g4 l l1 hl).congr fun i i1 i2=>k3.2 i (.inl (by omega))
   ·have:l=a:=by
     by_cases e:a=l
     ·exact e.symm
     ·have:=Gr g2 l1 (by omega); omega
    subst this;exact b1.join b2 (by omega) (by omega) k3 k4
  ·exact (g5 l l1 (by omega) l3).congr fun i i1 i2=>k3.2 i (.inr (by omega))
 ·simp only [ax (show ¬ ((a+2 * B:Nat):Int)<=(G.n:Int) by omega),aq,aH,aj]
  exact .inr ⟨_,_,rfl,rfl,rfl,D,a,_,rfl,g1,g2,g3,by omega,g4,g5,g6⟩
theorem ahh (E:Sl aJ) (h3:G.n<=10000000000) (hr:alE (bL h gA) G.get G.n) (hn:E.n=G.n) (cf:∀ t,t < E.n->ib h (E.get t)=true) (hb:Bls (bL h gA) G.get E.get 20 G.n) :
  ∃ D:Sl aJ,∃ B:Nat,goN dI ⟨E,(G.n:Int),(20:Int),h⟩ = .out (.exit 2) ⟨D,(G.n:Int),(B:Int),h⟩/\D.n=G.n/\G.n<=B/\Bls (bL h gA) G.get D.get B G.n:=by
 refine Exists.elim (bp (step:=dI) (x:=⟨E,(G.n:Int),(20:Int),h⟩) (fun k y=>∃ D:Sl aJ,∃ B:Nat,y=⟨D,(G.n:Int),(B:Int),h⟩/\k+1<=B/\D.n=G.n/\Bls (bL h gA) G.get D.get B G.n/\∀ t,t < D.n->ib h (D.get t)=true) (fun e y=>e = .exit 2/\∃ D:Sl aJ,∃ B:Nat,y=⟨D,(G.n:Int),(B:Int),h⟩/\D.n=G.n/\G.n<=B/\Bls (bL h gA) G.get D.get B G.n) G.n (by have:eS=10000000000000:=rfl; omega) (fun k y hk ⟨D,B,hy,g0,g1,g2,g3⟩=>?_) ⟨E,20,rfl,by omega,hn,hb,cf⟩) fun e ⟨y,hy,he,D,B,hi,q⟩=>⟨D,B,by rw [hy,he,hi],q⟩
 subst hy;unfold dI aF;by_cases a8:B < G.n
 ·obtain ⟨D1,a,b,k1,k2,k3,k4,k5,k6,k7,k8⟩:=alF h gA G D B h3 (by omega) a8 hr g1 g3 g2
  have e2:az ((2:Int) * (B:Int))=((2 * B:Nat):Int):=by rw [kE (by omega) (by omega)]; omega
  have e3:az ((B:Int) * (2:Int))=((2 * B:Nat):Int):=by rw [kE (by omega) (by omega)]; omega
  have e4:az ((a:Int)+(B:Int))=((a+B:Nat):Int):=agl (by omega);have e0:aU ⟨D,(G.n:Int),(B:Int),h⟩ = .out (.exit 4) ⟨D1,(G.n:Int),(B:Int),(a:Int),b,h⟩:=by
   unfold aU;simp only [e2];exact k1
  have hBa:B ∣ a:=Nat.dvd_trans (Nat.dvd_mul_left B 2) k3;have fin:∀ D' : Sl aJ,(∀ i,i < a->D'.get i=D1.get i)->(a < G.n->Bl (bL h gA) G.get D'.get a G.n)->Bls (bL h gA) G.get D'.get (2 * B) G.n:=fun D' q1 q2 l l1 l2=>by
   by_cases hl:l < a
   ·have:=Gr l1 k3 hl
    rw [Nat.min_eq_left (by omega)];exact (k6 l l1 hl).congr fun i i1 i2=>q1 i (by omega)
   ·have:l=a:=by
     by_cases e:a=l
     ·exact e.symm
     ·have:=Gr k3 l1 (by omega); omega
    subst this;rw [Nat.min_eq_right (by omega)];exact q2 l2
  simp only [ao (show (B:Int) < (G.n:Int) by omega),aj,e0,aH,aO.kf,aO.kh,fa,kp,e3,e4];by_cases hm:a+B < G.n
  ·have b1:Bl (bL h gA) G.get D1.get a (a+B):=by have:=k7 a hBa (aQ _) (by omega); rwa [Nat.min_eq_left (by omega)] at this
   have b2:Bl (bL h gA) G.get D1.get (a+B) G.n:=by have:=k7 (a+B) (Nat.dvd_add hBa (Nat.dvd_refl _)) (by omega) hm; rwa [Nat.min_eq_right (by omega)] at this
   have hc:J7 (bL h gA) D1.get a (a+B) G.n:=aia hr (aQ _) (by omega) (by omega) b1.2 b2.2;obtain ⟨D',j1,j2,j3,j4⟩:=Fu h gA 64 D1 a (a+B) G.n (by omega) hm (by omega) (by omega) k8 (oO (show _<=10000000000 by omega) (by decide)) b1.1 b2.1 hc;have e1:fR ⟨D,(G.n:Int),(B:Int),h⟩ = .out .ret ⟨D',(a:Int),((a+B:Nat):Int),(G.n:Int),h⟩:=by
    unfold fR;rw [e0];simp only [aO.kh,e4];exact j1
   simp only [ao (show ((a+B:Nat):Int) < (G.n:Int) by omega),aj,e1,aH,aO.kf,aO.kh,fa,j2];exact .inl ⟨_,rfl,by omega,D',2 * B,rfl,by omega,j2.trans k2,fin D' (fun i hi=>j3.2 i (.inl hi)) (fun _=>b1.join b2 (by omega) (by omega) j3 j4),vj j2 (by omega) j3 k8⟩
  ·simp only [ax (show ¬ ((a+B:Nat):Int) < (G.n:Int) by omega),aq]
   exact .inl ⟨_,rfl,by omega,D1,2 * B,rfl,by omega,k2,fin D1 (fun _ _=>rfl) (fun ha=>by have:=k7 a hBa (aQ _) ha; rwa [Nat.min_eq_right (by omega)] at this),k8⟩
 ·simp only [ax (show ¬ (B:Int) < (G.n:Int) by omega),aq,aH,aj]
  exact .inr ⟨_,_,rfl,rfl,rfl,D,B,rfl,g1,by omega,g2⟩
theorem Ly (h3:G.n<=10000000000) (cf:∀ t,t < G.n->ib h (G.get t)=true) (hr:alE (bL h gA) G.get G.n) :
  ∃ D:Sl aJ,kc ⟨G,(G.n:Int),h⟩ = .out .ret ⟨D,(G.n:Int),h⟩/\D.n=G.n/\gk (bL h gA) D.get 0 G.n/\∀ p:aJ->Bool,vJ p D.get 0 G.n=vJ p G.get 0 G.n:=by
 obtain ⟨D0,a,b,k1,k2,k3,k4,k5,k6,k7,k8⟩:=ajq h gA G h3 cf hr;have e0:di ⟨G,(G.n:Int),h⟩=_:=k1;obtain ⟨D1,j1,j2,j3,j4⟩:=Oo h gA D0 a G.n k4 (by omega) (by omega) k8 (fun s t s1 s2 t1=>by rw [k7 s s1,k7 t (by omega)]; exact hr s t s2 t1);have e1:gF ⟨G,(G.n:Int),h⟩ = .out .ret ⟨D1,(a:Int),(G.n:Int),h⟩:=by
  unfold gF;rw [e0];exact j1
 have hb:Bls (bL h gA) G.get D1.get 20 G.n:=fun l l1 l2=>by
  by_cases hl:l < a
  ·have:=Gr l1 k3 hl
   rw [Nat.min_eq_left (by omega)];exact (k6 l l1 hl).congr fun i i1 i2=>j3.2 i (.inl (by omega))
  ·have:l=a:=by
    by_cases e:a=l
    ·exact e.symm
    ·have:=Gr k3 l1 (by omega); omega
   subst this;rw [Nat.min_eq_right (by omega)];exact ⟨j4,fun p=>(j3.1 p).trans (qG fun i hi=>k7 _ (by omega))⟩
 obtain ⟨D2,B,q1,q2,q3,q4⟩:=ahh h gA G D1 h3 hr (j2.trans k2) (vj j2 (by omega) j3 k8) hb;have e2:fG ⟨G,(G.n:Int),h⟩ = .out (.exit 2) ⟨D2,(G.n:Int),(B:Int),h⟩:=by
  unfold fG;rw [e0,e1];exact q1
 refine ⟨D2,?_,q2,?_⟩
 ·unfold kc lv aF
  rw [e0,e1,e2];simp only [aH,aj,aO.kf,aO.kh,fa,kp,j2]
 ·by_cases hz:G.n=0
  ·rw [hz]
   exact ⟨fun i j _ _ hj=>by omega,fun p=>rfl⟩
  ·have:=q4 0 (Nat.dvd_zero _) (by omega)
   rw [bd,Nat.min_eq_right q3] at this;exact ⟨this.1,fun p=>by have:=this.2 p; rwa [Nat.sub_zero] at this⟩
end
end Go.Proofs.YtchbpckkmgcgkaaGreat.b
end
section
namespace Go.Proofs.YtchbpckkmgcgkaaGreat.b
open Go.K Go.K.fj
open Go.aB (ai)
def lex (x y:aJ):Prop:=x.item < y.item\/(x.item=y.item/\x.dB < y.dB)
def ef (s:Show) (items:Sl Int) (i:Nat):Item:=s.items.get (Int.toNat (items.get i))
def alG (s:Show) (items:Sl Int) (bl:Bool):Nat->Nat
 | 0=>0
 | i+1=>alG s items bl i+cond ((ef s items i).look.cI==bl) (ef s items i).aP.n 0
def pQ (s:Show) (items:Sl Int) (i:Nat):Prop:=(∀ j,j < i->0<=items.get j/\items.get j < (s.items.n:Int))/\∀ j j',j < j'->j' < i->items.get j < items.get j'
structure sL (s:Show) (items:Sl Int) (bl:Bool) (i k:Nat) (l:Sl aJ):Prop where
 n:l.n=alG s items bl i+cond ((ef s items i).look.cI==bl) k 0
 mem:∀ t,t < l.n->∃ j kk:Nat,(j < i/\kk < (ef s items j).aP.n\/j=i/\kk < k)/\l.get t=⟨items.get j,(kk:Int)⟩/\(ef s items j).look.cI=bl
 has:∀ j kk:Nat,(j < i/\kk < (ef s items j).aP.n\/j=i/\kk < k)->(ef s items j).look.cI=bl->∃ t,t < l.n/\l.get t=⟨items.get j,(kk:Int)⟩
 ZT:∀ t t',t < t'->t' < l.n->lex (l.get t) (l.get t')
theorem sL.next {s:Show} {items:Sl Int} {bl:Bool} {i:Nat} {l:Sl aJ} (h:sL s items bl i (ef s items i).aP.n l):sL s items bl (i+1) 0 l where
 n:=by
  rw [h.n,alG];cases ((ef s items (i+1)).look.cI==bl) <;> simp
 mem t ht:=by
  obtain ⟨j,kk,h1,h2⟩:=h.mem t ht;refine ⟨j,kk,?_,h2⟩;rcases h1 with ⟨h1,h3⟩ | ⟨rfl,h3⟩
  ·exact .inl ⟨by omega,h3⟩
  ·exact .inl ⟨by omega,h3⟩
 has j kk hj hb:=by
  refine h.has j kk ?_ hb;rcases hj with ⟨h1,h2⟩ | ⟨_,h2⟩
  ·by_cases e:j=i
   ·subst e; exact .inr ⟨rfl,h2⟩
   ·exact .inl ⟨by omega,h2⟩
  ·omega
 ZT:=h.ZT
theorem sL.skip {s:Show} {items:Sl Int} {bl:Bool} {i k:Nat} {l:Sl aJ} (h:sL s items bl i k l) (hb:((ef s items i).look.cI==bl)=false):sL s items bl i (k+1) l where
 n:=by rw [h.n,hb]; rfl
 mem t ht:=by
  obtain ⟨j,kk,h1,h2⟩:=h.mem t ht;exact ⟨j,kk,h1.imp id fun ⟨q1,q2⟩=>⟨q1,by omega⟩,h2⟩
 has j kk hj hb':=by
  rcases hj with hj | ⟨rfl,hj⟩
  ·exact h.has j kk (.inl hj) hb'
  ·rw [hb'] at hb; simp at hb
 ZT:=h.ZT
theorem sL.push {s:Show} {items:Sl Int} {bl:Bool} {i k:Nat} {l:Sl aJ} (h:sL s items bl i k l) (Gs:pQ s items (i+1)) (hb:((ef s items i).look.cI==bl)=true):sL s items bl i (k+1) (l.push ⟨items.get i,(k:Int)⟩) where
 n:=by rw [Sl.Lt,h.n,hb]; simp only [aj]; omega
 mem t ht:=by
  rw [Sl.Lt] at ht;by_cases e:t < l.n
  ·obtain ⟨j,kk,h1,h2⟩:=h.mem t e
   rw [Sl.zF e];exact ⟨j,kk,h1.imp id fun ⟨q1,q2⟩=>⟨q1,by omega⟩,h2⟩
  ·have:t=l.n:=by omega
   subst this;rw [Sl.Fs];exact ⟨i,k,.inr ⟨rfl,by omega⟩,rfl,by simpa using hb⟩
 has j kk hj hb':=by
  rw [Sl.Lt];by_cases e:j=i/\kk=k
  ·obtain ⟨rfl,rfl⟩:=e
   exact ⟨l.n,by omega,Sl.Fs⟩
  ·obtain ⟨t,h1,h2⟩:=h.has j kk (hj.imp id fun ⟨q1,q2⟩=>⟨q1,by omega⟩) hb'
   exact ⟨t,by omega,by rw [Sl.zF h1]; exact h2⟩
 ZT t t' h1 h2:=by
  rw [Sl.Lt] at h2;by_cases e:t' < l.n
  ·rw [Sl.zF e,Sl.zF (by omega)]; exact h.ZT t t' h1 e
  ·have:t' = l.n:=by omega
   subst this;rw [Sl.Fs,Sl.zF h1];obtain ⟨j,kk,q1,q2,_⟩:=h.mem t h1;rw [q2];rcases q1 with ⟨q1,_⟩ | ⟨rfl,q1⟩
   ·exact .inl (Gs.2 j i q1 (by omega))
   ·exact .inr ⟨rfl,by show (kk:Int) < (k:Int); omega⟩
theorem alH {s:Show} {items:Sl Int} {bl:Bool} (hs:tJ s):∀ {i:Nat},pQ s items i->alG s items bl i<=64 * i
 | 0,_=>aQ _
 | i+1,h=>by
  have h1:=alH hs (bl:=bl) (i:=i) ⟨fun j hj=>h.1 j (by omega),fun j j' q1 q2=>h.2 j j' q1 (by omega)⟩;have h2:=(hs.2 (Int.toNat (items.get i)) (by have:=h.1 i (by omega); omega)).2.1;have h2:(ef s items i).aP.n<=64:=h2;rw [alG];cases ((ef s items i).look.cI==bl) <;> simp <;> omega
theorem sL.small {s:Show} {items:Sl Int} {bl:Bool} {i k:Nat} {l:Sl aJ} (h:sL s items bl i k l) (hs:tJ s) (hi:pQ s items i) (hi2:i<=600) (hk:k<=64):l.n<=40000:=by
 have:=alH hs (bl:=bl) hi;rw [h.n];cases ((ef s items i).look.cI==bl) <;> simp <;> omega
theorem sL.nil {s:Show} {items:Sl Int} {bl:Bool} {l:Sl aJ} (h:l.n=0):sL s items bl 0 0 l where
 n:=by rw [h]; cases ((ef s items 0).look.cI==bl) <;> rfl
 mem t ht:=by omega
 has j kk hj _:=by omega
 ZT t t' _ h2:=by omega
theorem aoW (s:Show) (items:Sl Int) (bl:Bool) (i:Nat) (l:Sl aJ) (e last:Int) (hs:tJ s) (hi:i < items.n) (hi2:i < 600) (Gs:pQ s items (i+1)) (h0:sL s items bl i 0 l) :
  ∃ l' : Sl aJ,∃ k:Int,goN cE ⟨bl,l,e,last,items.get i,items,(items.n:Int),(i:Int),((ef s items i).aP.n:Int),(0:Int),s⟩ = .out (.exit 2) ⟨bl,l',e,last,items.get i,items,(items.n:Int),(i:Int),((ef s items i).aP.n:Int),k,s⟩/\sL s items bl i (ef s items i).aP.n l':=by
 have Ts:=Gs.1 i (by omega);have h64:(ef s items i).aP.n<=64:=(hs.2 (Int.toNat (items.get i)) (by omega)).2.1;refine Exists.elim (bp (step:=cE) (x:=⟨bl,l,e,last,items.get i,items,(items.n:Int),(i:Int),((ef s items i).aP.n:Int),(0:Int),s⟩) (fun k y=>∃ l' : Sl aJ,y=⟨bl,l',e,last,items.get i,items,(items.n:Int),(i:Int),((ef s items i).aP.n:Int),(k:Int),s⟩/\k<=(ef s items i).aP.n/\sL s items bl i k l') (fun x y=>x = .exit 2/\∃ l' : Sl aJ,∃ k:Int,y=⟨bl,l',e,last,items.get i,items,(items.n:Int),(i:Int),((ef s items i).aP.n:Int),k,s⟩/\sL s items bl i (ef s items i).aP.n l') (ef s items i).aP.n (by have:eS=10000000000000:=rfl; omega) (fun k y hk ⟨l',hy,g1,g2⟩=>?_) ⟨l,rfl,cw _,h0⟩) fun x ⟨y,hy,he,l',k,hl,q⟩=>⟨l',k,by rw [hy,he,hl],q⟩
 subst hy;have hn:=g2.small hs ⟨fun j hj=>Gs.1 j (by omega),fun j j' q1 q2=>Gs.2 j j' q1 (by omega)⟩ (by omega) (by omega);unfold cE bj aF;by_cases a8:k < (ef s items i).aP.n
 ·have hw:=J8 (i:=k) (by omega)
  have sM:((decide ((0:Int)<=items.get i))&&(decide (items.get i < ((s.items.n:Nat):Int))))=true:=by
   rw [aD]; exact ⟨ao Ts.1,ao Ts.2⟩
  have hap:((Nat.ble ((l'.n+1) * 16) 140737488355328)&&(Nat.ble (l'.n+1) 17592186044416))=true:=by
   rw [aD]; exact ⟨Nat.ble_eq_true_of_le (by omega),Nat.ble_eq_true_of_le (by omega)⟩
  have Ul:((s.items.get (Int.toNat (items.get i))).look.cI==bl)=((ef s items i).look.cI==bl):=rfl;simp only [ao (show (k:Int) < ((ef s items i).aP.n:Int) by omega),aj,sM,Ul,hap,aH,hw,AL];cases hb:((ef s items i).look.cI==bl) with
  | true=>
   rw [aj];exact .inl ⟨_,rfl,a8,_,rfl,a8,g2.push Gs hb⟩
  | false=>
   rw [aq];exact .inl ⟨_,rfl,a8,_,rfl,a8,g2.skip hb⟩
 ·simp only [ax (show ¬ (k:Int) < ((ef s items i).aP.n:Int) by omega),aq,aH,aj]
  have:k=(ef s items i).aP.n:=by omega
  subst this;exact .inr ⟨_,_,rfl,rfl,rfl,l',_,rfl,g2⟩
theorem alI (s:Show) (items:Sl Int) (bl:Bool) (hs:tJ s) (hn:items.n<=600) (l0:Sl aJ) (h0:l0.n=0) :
  ∃ e y,goN c7 ⟨bl,l0,(0:Int),(-(1:Int)),items,(items.n:Int),(0:Int),s⟩ = .out e y/\((e = .exit 0/\pQ s items items.n/\sL s items bl items.n 0 y.l)\/(e = .ret/\¬ pQ s items items.n/\y.l.n=0/\y.e=2)):=by
 refine bp (step:=c7) (fun i y=>∃ l' : Sl aJ,∃ last:Int,y=⟨bl,l',(0:Int),last,items,(items.n:Int),(i:Int),s⟩/\i<=items.n/\pQ s items i/\sL s items bl i 0 l'/\(i=0/\last = -1\/∃ j,i=j+1/\last=items.get j)) _ items.n (by have:eS=10000000000000:=rfl; omega) (fun i y hi ⟨l',last,hy,g1,g2,g3,g4⟩=>?_) ⟨l0,_,rfl,cw _,⟨fun j hj=>by omega,fun j j' _ hj=>by omega⟩,.nil h0,.inl ⟨rfl,rfl⟩⟩;subst hy;unfold c7 bj aF;by_cases a8:i < items.n
 ·simp only [ao (show (i:Int) < (items.n:Int) by omega),aj,UU a8,cm]
  have bad : ¬ pQ s items (i+1)->¬ pQ s items items.n:=fun hb hc=>hb ⟨fun j hj=>hc.1 j (by omega),fun j j' q1 q2=>hc.2 j j' q1 (by omega)⟩;by_cases c1:items.get i<=last
  ·rw [ao c1,aj]
   refine .inr ⟨_,_,rfl,rfl,.inr ⟨rfl,bad fun hc=>?_,rfl,rfl⟩⟩;rcases g4 with ⟨rfl,rfl⟩ | ⟨j,rfl,rfl⟩
   ·have:=(hc.1 0 (by omega)).1; omega
   ·have:=hc.2 j (j+1) (by omega) (by omega); omega
  ·rw [ax c1,aq]
   by_cases c2:items.get i >= ((s.items.n:Nat):Int)
   ·rw [ao c2,aj]
    exact .inr ⟨_,_,rfl,rfl,.inr ⟨rfl,bad fun hc=>by have:=(hc.1 i (by omega)).2; omega,rfl,rfl⟩⟩
   ·rw [ax c2,aq]
    have XX:0<=items.get i:=by
     rcases g4 with ⟨_,rfl⟩ | ⟨j,rfl,rfl⟩
     ·omega
     ·have:=(g2.1 j (by omega)).1; omega
    have Gs:pQ s items (i+1):=by
     refine ⟨fun j hj=>?_,fun j j' q1 q2=>?_⟩
     ·by_cases e:j=i
      ·subst e; exact ⟨XX,by omega⟩
      ·exact g2.1 j (by omega)
     ·by_cases e:j' = i
      ·subst e
       rcases g4 with ⟨rfl,_⟩ | ⟨j0,rfl,rfl⟩
       ·omega
       ·by_cases e2:j=j0
        ·subst e2; omega
        ·have:=g2.2 j j0 (by omega) (by omega); omega
      ·exact g2.2 j j' q1 (by omega)
    have sM:((decide ((0:Int)<=items.get i))&&(decide (items.get i < ((s.items.n:Nat):Int))))=true:=by
     rw [aD]; exact ⟨ao XX,ao (by omega)⟩
    obtain ⟨l2,k,k1,k2⟩:=aoW s items bl i l' 0 (items.get i) hs a8 (by omega) Gs g3;have e0:bH ⟨bl,l',(0:Int),last,items,(items.n:Int),(i:Int),s⟩ = .out (.exit 2) ⟨bl,l2,(0:Int),items.get i,items.get i,items,(items.n:Int),(i:Int),((ef s items i).aP.n:Int),k,s⟩:=by
     unfold bH;simp only [cm];exact k1
    simp only [sM,aj,aH,e0,aO.kf,aO.kh,fa,kp,J8 (show i<=100000000000 by omega)];exact .inl ⟨_,rfl,a8,l2,_,rfl,a8,Gs,k2.next,.inr ⟨i,rfl,rfl⟩⟩
 ·simp only [ax (show ¬ (i:Int) < (items.n:Int) by omega),aq,aH,aj]
  have:i=items.n:=by omega
  subst this;exact .inr ⟨_,_,rfl,rfl,.inl ⟨rfl,g2,g3⟩⟩
theorem aoX (s:Show) (items:Sl Int) (bl:Bool) (i:Nat) (l:Sl aJ) (e last:Int) (hs:tJ s) (hi:i < items.n) (hi2:i < 600) (Gs:pQ s items (i+1)) (h0:sL s items bl i 0 l) :
  ∃ l' : Sl aJ,∃ k:Int,goN iC ⟨bl,l,e,last,items.get i,items,(items.n:Int),(i:Int),((ef s items i).aP.n:Int),(0:Int),s⟩ = .out (.exit 2) ⟨bl,l',e,last,items.get i,items,(items.n:Int),(i:Int),((ef s items i).aP.n:Int),k,s⟩/\sL s items bl i (ef s items i).aP.n l':=by
 have Ts:=Gs.1 i (by omega);have h64:(ef s items i).aP.n<=64:=(hs.2 (Int.toNat (items.get i)) (by omega)).2.1;refine Exists.elim (bp (step:=iC) (x:=⟨bl,l,e,last,items.get i,items,(items.n:Int),(i:Int),((ef s items i).aP.n:Int),(0:Int),s⟩) (fun k y=>∃ l' : Sl aJ,y=⟨bl,l',e,last,items.get i,items,(items.n:Int),(i:Int),((ef s items i).aP.n:Int),(k:Int),s⟩/\k<=(ef s items i).aP.n/\sL s items bl i k l') (fun x y=>x = .exit 2/\∃ l' : Sl aJ,∃ k:Int,y=⟨bl,l',e,last,items.get i,items,(items.n:Int),(i:Int),((ef s items i).aP.n:Int),k,s⟩/\sL s items bl i (ef s items i).aP.n l') (ef s items i).aP.n (by have:eS=10000000000000:=rfl; omega) (fun k y hk ⟨l',hy,g1,g2⟩=>?_) ⟨l,rfl,cw _,h0⟩) fun x ⟨y,hy,he,l',k,hl,q⟩=>⟨l',k,by rw [hy,he,hl],q⟩
 subst hy;have hn:=g2.small hs ⟨fun j hj=>Gs.1 j (by omega),fun j j' q1 q2=>Gs.2 j j' q1 (by omega)⟩ (by omega) (by omega);unfold iC bj mI aF;by_cases a8:k < (ef s items i).aP.n
 ·have hw:=J8 (i:=k) (by omega)
  have sM:((decide ((0:Int)<=items.get i))&&(decide (items.get i < ((s.items.n:Nat):Int))))=true:=by
   rw [aD]; exact ⟨ao Ts.1,ao Ts.2⟩
  have hap:(gi 16 l'.n 1)=true:=by
   exact tI (by omega) (by omega) (by omega) (.inl (by omega))
  have Ul:((s.items.get (Int.toNat (items.get i))).look.cI==bl)=((ef s items i).look.cI==bl):=rfl;simp only [ao (show (k:Int) < ((ef s items i).aP.n:Int) by omega),aj,sM,Ul,hap,aH,hw,AL];cases hb:((ef s items i).look.cI==bl) with
  | true=>
   rw [aj];exact .inl ⟨_,rfl,a8,_,rfl,a8,g2.push Gs hb⟩
  | false=>
   rw [aq];exact .inl ⟨_,rfl,a8,_,rfl,a8,g2.skip hb⟩
 ·simp only [ax (show ¬ (k:Int) < ((ef s items i).aP.n:Int) by omega),aq,aH,aj]
  have:k=(ef s items i).aP.n:=by omega
  subst this;exact .inr ⟨_,_,rfl,rfl,rfl,l',_,rfl,g2⟩
theorem alJ (s:Show) (items:Sl Int) (bl:Bool) (hs:tJ s) (hn:items.n<=600) (l0:Sl aJ) (h0:l0.n=0) :
  ∃ e y,goN kT ⟨bl,l0,(0:Int),(-(1:Int)),items,(items.n:Int),(0:Int),s⟩ = .out e y/\((e = .exit 0/\pQ s items items.n/\sL s items bl items.n 0 y.l)\/(e = .ret/\¬ pQ s items items.n/\y.l.n=0/\y.e=2)):=by
 refine bp (step:=kT) (fun i y=>∃ l' : Sl aJ,∃ last:Int,y=⟨bl,l',(0:Int),last,items,(items.n:Int),(i:Int),s⟩/\i<=items.n/\pQ s items i/\sL s items bl i 0 l'/\(i=0/\last = -1\/∃ j,i=j+1/\last=items.get j)) _ items.n (by have:eS=10000000000000:=rfl; omega) (fun i y hi ⟨l',last,hy,g1,g2,g3,g4⟩=>?_) ⟨l0,_,rfl,cw _,⟨fun j hj=>by omega,fun j j' _ hj=>by omega⟩,.nil h0,.inl ⟨rfl,rfl⟩⟩;subst hy;unfold kT bj aF;by_cases a8:i < items.n
 ·simp only [ao (show (i:Int) < (items.n:Int) by omega),aj,UU a8,cm]
  have bad : ¬ pQ s items (i+1)->¬ pQ s items items.n:=fun hb hc=>hb ⟨fun j hj=>hc.1 j (by omega),fun j j' q1 q2=>hc.2 j j' q1 (by omega)⟩;by_cases c1:items.get i<=last
  ·rw [ao c1,aj]
   refine .inr ⟨_,_,rfl,rfl,.inr ⟨rfl,bad fun hc=>?_,rfl,rfl⟩⟩;rcases g4 with ⟨rfl,rfl⟩ | ⟨j,rfl,rfl⟩
   ·have:=(hc.1 0 (by omega)).1; omega
   ·have:=hc.2 j (j+1) (by omega) (by omega); omega
  ·rw [ax c1,aq]
   by_cases c2:items.get i >= ((s.items.n:Nat):Int)
   ·rw [ao c2,aj]
    exact .inr ⟨_,_,rfl,rfl,.inr ⟨rfl,bad fun hc=>by have:=(hc.1 i (by omega)).2; omega,rfl,rfl⟩⟩
   ·rw [ax c2,aq]
    have XX:0<=items.get i:=by
     rcases g4 with ⟨_,rfl⟩ | ⟨j,rfl,rfl⟩
     ·omega
     ·have:=(g2.1 j (by omega)).1; omega
    have Gs:pQ s items (i+1):=by
     refine ⟨fun j hj=>?_,fun j j' q1 q2=>?_⟩
     ·by_cases e:j=i
      ·subst e; exact ⟨XX,by omega⟩
      ·exact g2.1 j (by omega)
     ·by_cases e:j' = i
      ·subst e
       rcases g4 with ⟨rfl,_⟩ | ⟨j0,rfl,rfl⟩
       ·omega
       ·by_cases e2:j=j0
        ·subst e2; omega
        ·have:=g2.2 j j0 (by omega) (by omega); omega
      ·exact g2.2 j j' q1 (by omega)
    have sM:((decide ((0:Int)<=items.get i))&&(decide (items.get i < ((s.items.n:Nat):Int))))=true:=by
     rw [aD]; exact ⟨ao XX,ao (by omega)⟩
    obtain ⟨l2,k,k1,k2⟩:=aoX s items bl i l' 0 (items.get i) hs a8 (by omega) Gs g3;have e0:fp ⟨bl,l',(0:Int),last,items,(items.n:Int),(i:Int),s⟩ = .out (.exit 2) ⟨bl,l2,(0:Int),items.get i,items.get i,items,(items.n:Int),(i:Int),((ef s items i).aP.n:Int),k,s⟩:=by
     unfold fp;simp only [cm];exact k1
    simp only [sM,aj,aH,e0,aO.kf,aO.kh,fa,kp,J8 (show i<=100000000000 by omega)];exact .inl ⟨_,rfl,a8,l2,_,rfl,a8,Gs,k2.next,.inr ⟨i,rfl,rfl⟩⟩
 ·simp only [ax (show ¬ (i:Int) < (items.n:Int) by omega),aq,aH,aj]
  have:i=items.n:=by omega
  subst this;exact .inr ⟨_,_,rfl,rfl,.inl ⟨rfl,g2,g3⟩⟩
theorem ajr (s:Show) (items:Sl Int) (hn:items.n<=600) {e:Int} (he:eU s=some e) (cf:e=0->tJ s) :
  ∃ a ea,sj s items=some (a,ea)/\(e≠0->ea=e/\a.n=0)/\(e=0->¬ pQ s items items.n->ea=2/\a.n=0)/\(e=0->pQ s items items.n->ea=0/\sL s items false items.n 0 a):=by
 have key:∃ a ea,wV s items false=some (a,ea)/\(e≠0->ea=e/\a.n=0)/\(e=0->¬ pQ s items items.n->ea=2/\a.n=0)/\(e=0->pQ s items items.n->ea=0/\sL s items false items.n 0 a):=by
  have e0:Bj s items false=some e:=he;unfold wV;rw [e0];simp only [bN,bG,aj];by_cases hz:e=0
  ·subst hz
   rw [hO,aq];obtain ⟨x,y,hy,q⟩:=alJ s items false (cf rfl) hn ⟨0,(fun i=>(⟨(0:Int),(0:Int)⟩:aJ))⟩ rfl;have e1:s8 s items false = .out x y:=hy;rw [e1];rcases q with ⟨rfl,q1,q2⟩ | ⟨rfl,q1,q2,q3⟩
   ·exact ⟨_,_,rfl,fun h=>absurd rfl h,fun _ h=>absurd q1 h,fun _ _=>⟨rfl,q2⟩⟩
   ·exact ⟨_,_,rfl,fun h=>absurd rfl h,fun _ _=>⟨q3,q2⟩,fun _ h=>absurd h q1⟩
  ·rw [show (e != (0:Int))=true by simpa using hz,aj]
   exact ⟨_,_,rfl,fun _=>⟨rfl,rfl⟩,fun h=>absurd h hz,fun h=>absurd h hz⟩
 obtain ⟨a,ea,h1,h2⟩:=key;refine ⟨a,ea,?_,h2⟩;have e0:zA s items=some (a,ea):=h1;unfold sj;rw [e0];rfl
structure aqE (s:Show) (items:Sl Int) (b:Sl aJ):Prop where
 g:∃ g:Sl aJ,sL s items true items.n 0 g/\b.n=g.n/\gk (bL s lex) b.get 0 g.n/\∀ p:aJ->Bool,vJ p b.get 0 g.n=vJ p g.get 0 g.n
theorem ahi (s:Show) (items:Sl Int) (hn:items.n<=600) {e:Int} (he:eU s=some e) (cf:e=0->tJ s) :
  ∃ a ea,qE s items=some (a,ea)/\(e≠0->ea=e/\a.n=0)/\(e=0->¬ pQ s items items.n->ea=2/\a.n=0)/\(e=0->pQ s items items.n->ea=0/\aqE s items a):=by
 have e0:xF s items=some e:=he;unfold qE aF;rw [e0];simp only [bN,bG,aj];by_cases hz:e=0
 ·subst hz
  rw [hO,aq];obtain ⟨x,y,hy,q⟩:=alI s items true (cf rfl) hn ⟨0,(fun i=>(⟨(0:Int),(0:Int)⟩:aJ))⟩ rfl;have e1:iY s items = .out x y:=hy;rw [e1];rcases q with ⟨rfl,q1,q2⟩ | ⟨rfl,q1,q2,q3⟩
  ·have hsm:=q2.small (cf rfl) q1 hn (cw _)
   obtain ⟨D,d1,d2,d3,d4⟩:=Ly s lex y.l (by omega) (fun t ht=>by
    obtain ⟨j,kk,p1,p2,_⟩:=q2.mem t ht;have hj:j < items.n:=by omega
    have:=q1.1 j hj;unfold ib;rw [p2,aD];exact ⟨ao this.1,ao this.2⟩) (fun i j h1 h2=>q2.ZT i j h1 h2)
   have e2:lR s items = .out .ret ⟨D,(y.l.n:Int),s⟩:=by
    unfold lR;rw [e1];exact d1
   rw [e2];simp only [aO.kf,aO.kh,fa,kp,aj,aH];refine ⟨_,_,rfl,fun h=>absurd rfl h,fun _ h=>absurd q1 h,fun _ _=>⟨rfl,⟨y.l,q2,rfl,?_,fun p=>?_⟩⟩⟩
   ·exact d3.congr fun i _ _=>by show D.get (0+i)=D.get i; rw [bd]
   ·exact (qG (b:=0) fun i _=>by show D.get (0+(0+i))=D.get (0+i); rw [bd (0+i)]).trans (d4 p)
  ·obtain ⟨D,d1,d2,_,_⟩:=Ly s lex y.l (by omega) (fun t ht=>by omega) (fun i j h1 h2=>by omega)
   have e2:lR s items = .out .ret ⟨D,(y.l.n:Int),s⟩:=by
    unfold lR;rw [e1];exact d1
   rw [e2];simp only [aO.kf,aO.kh,fa,kp,aj,aq,aH];exact ⟨_,_,rfl,fun h=>absurd rfl h,fun _ _=>⟨q3,q2⟩,fun _ h=>absurd h q1⟩
 ·rw [show (e != (0:Int))=true by simpa using hz,aj]
  exact ⟨_,_,rfl,fun _=>⟨rfl,rfl⟩,fun h=>absurd h hz,fun h=>absurd h hz⟩
end Go.Proofs.YtchbpckkmgcgkaaGreat.b
end
section
namespace Go.Proofs.YtchbpckkmgcgkaaGreat.b
open Go.K
open Go.aB (ai)
theorem aby {α:Type} (l:Sl α) (j:Nat) (h:j < l.n):(eo l)[j]? = some (l.get j):=by
 unfold eo;rw [AI,List.getElem?_range h];rfl
theorem J9 {α:Type} {l:Sl α} {j:Nat} (h:j < l.n):l.get j∈eo l:=Fy.2 ⟨j,pt.2 h,rfl⟩
end Go.Proofs.YtchbpckkmgcgkaaGreat.b
end
section
namespace Go.Proofs.YtchbpckkmgcgkaaGreat.b
open Go.K Go.K.fj
open Go.aB (ai)
def In (a b:Int):Prop:=-b<=a/\a<=b
def abz (r:kq) (b:Int):Prop:=In r.e0 b/\In r.e1 b/\In r.e2 b
def MIn (m:da) (b:Int):Prop:=abz m.e0 b/\abz m.e1 b/\abz m.e2 b
def gJ (c:aE):Prop:=agi c/\MIn c.m 256
theorem sq (c:aE):∃ e,ir c=some e/\(e=0\/e=150)/\(e=0↔gJ c):=by
 obtain ⟨e,h1,h2⟩:=yy c.pos;unfold ir xp xq xr xt xu xv xw xx xy xz vO vP vQ vR;simp only [Xz,h1,bN,bG,aj];have key:∀ (p:Prop) (b:Bool) (r:Option Int),(b=true↔p)->(gJ c->p)->(p->∃ e,r=some e/\(e=0\/e=150)/\(e=0↔gJ c))->∃ e,cond b r (some 150)=some e/\(e=0\/e=150)/\(e=0↔gJ c):=by
  intro p b r hp hc h;cases b with
  | true=>exact h (hp.1 rfl)
  | false=>exact ⟨150,rfl,.inr rfl,fun h=>by omega,fun h=>by have:=hp.2 (hc h); simp at this⟩
 refine key (xg c.pos) _ _ (by simpa using h2) (fun h=>h.1.1) fun g0=>?_;refine key _ _ _ decide_eq_true_iff (fun h=>h.1.2.1) fun g1=>?_;refine key _ _ _ decide_eq_true_iff (fun h=>h.1.2.2.1) fun g2=>?_;refine key _ _ _ decide_eq_true_iff (fun h=>h.1.2.2.2.1) fun g3=>?_;refine key _ _ _ decide_eq_true_iff (fun h=>h.1.2.2.2.2) fun g4=>?_;refine key _ _ _ decide_eq_true_iff (fun h=>h.2.1.1) fun m0=>?_;refine key _ _ _ decide_eq_true_iff (fun h=>h.2.1.2.1) fun m1=>?_;refine key _ _ _ decide_eq_true_iff (fun h=>h.2.1.2.2) fun m2=>?_;refine key _ _ _ decide_eq_true_iff (fun h=>h.2.2.1.1) fun m3=>?_;refine key _ _ _ decide_eq_true_iff (fun h=>h.2.2.1.2.1) fun m4=>?_;refine key _ _ _ decide_eq_true_iff (fun h=>h.2.2.1.2.2) fun m5=>?_;refine key _ _ _ decide_eq_true_iff (fun h=>h.2.2.2.1) fun m6=>?_;refine key _ _ _ decide_eq_true_iff (fun h=>h.2.2.2.2.1) fun m7=>?_;by_cases m8 : -256<=c.m.e2.e2/\c.m.e2.e2<=256
 ·rw [ao m8]
  exact ⟨0,rfl,.inl rfl,fun _=>⟨⟨g0,g1,g2,g3,g4⟩,⟨m0,m1,m2⟩,⟨m3,m4,m5⟩,m6,m7,m8⟩,fun _=>rfl⟩
 ·rw [ax m8]
  exact ⟨150,rfl,.inr rfl,fun h=>by omega,fun h=>absurd h.2.2.2.2.2 m8⟩
def acI (r:kq) (x y z:Int):Int:=r.e0 * x+r.e1 * y+r.e2 * z
def lx (c:aE) (v:gY):gY:=⟨acI c.m.e0 (v.x - c.pos.x) (v.y - c.pos.y) (v.z - c.pos.z) / 256,acI c.m.e1 (v.x - c.pos.x) (v.y - c.pos.y) (v.z - c.pos.z) / 256,acI c.m.e2 (v.x - c.pos.x) (v.y - c.pos.y) (v.z - c.pos.z) / 256⟩
theorem amV {m:da} (h:MIn m 256):Cu m=some true:=by
 obtain ⟨⟨⟨a1,a2⟩,⟨a3,a4⟩,a5,a6⟩,⟨⟨b1,b2⟩,⟨b3,b4⟩,b5,b6⟩,⟨c1,c2⟩,⟨c3,c4⟩,c5,c6⟩:=h;unfold Cu;simp only [ax (show ¬ m.e0.e0 < -(1024:Int) by omega),ax (show ¬ m.e0.e0 > (1024:Int) by omega),ax (show ¬ m.e0.e1 < -(1024:Int) by omega),ax (show ¬ m.e0.e1 > (1024:Int) by omega),ax (show ¬ m.e0.e2 < -(1024:Int) by omega),ax (show ¬ m.e0.e2 > (1024:Int) by omega),
  ax (show ¬ m.e1.e0 < -(1024:Int) by omega),ax (show ¬ m.e1.e0 > (1024:Int) by omega),ax (show ¬ m.e1.e1 < -(1024:Int) by omega),ax (show ¬ m.e1.e1 > (1024:Int) by omega),ax (show ¬ m.e1.e2 < -(1024:Int) by omega),ax (show ¬ m.e1.e2 > (1024:Int) by omega),
  ax (show ¬ m.e2.e0 < -(1024:Int) by omega),ax (show ¬ m.e2.e0 > (1024:Int) by omega),ax (show ¬ m.e2.e1 < -(1024:Int) by omega),ax (show ¬ m.e2.e1 > (1024:Int) by omega),ax (show ¬ m.e2.e2 < -(1024:Int) by omega),ax (show ¬ m.e2.e2 > (1024:Int) by omega),aq]
theorem an6 {r:kq} {x y z:Int} (h:abz r 256) (hx:In x 8192) (hy:In y 8192) (hz:In z 8192):In (r.e0 * x) 2097152/\In (r.e1 * y) 2097152/\In (r.e2 * z) 2097152:=by
 unfold In at *;have a:=sm (a:=r.e0) (b:=x) (c:=256) (d:=8192) (by omega) h.1 hx;have b:=sm (a:=r.e1) (b:=y) (c:=256) (d:=8192) (by omega) h.2.1 hy;have c:=sm (a:=r.e2) (b:=z) (c:=256) (d:=8192) (by omega) h.2.2 hz;omega
theorem XA {r:kq} {x y z:Int} (h:abz r 256) (hx:In x 8192) (hy:In y 8192) (hz:In z 8192):eT (az ((az ((az ((0:Int)+(az (r.e0 * x))))+(az (r.e1 * y))))+(az (r.e2 * z)))) (256:Int)=some (acI r x y z / 256,0)/\In (acI r x y z / 256) 24576:=by
 obtain ⟨a,b,c⟩:=an6 h hx hy hz;unfold In at *;unfold acI;generalize r.e0 * x=p at *;generalize r.e1 * y=q at *;generalize r.e2 * z=u at *;rw [aw (n:=p),aw (n:=q),aw (n:=u),aw (n:=0+p),aw (n:=0+p+q),aw (n:=0+p+q+u),Lu _ _ (by omega) (by omega)];rw [show 0+p+q+u=p+q+u by omega];exact ⟨rfl,by omega⟩
theorem alK {c:aE} {v:gY} (hc:gJ c) (hv:xg v):nY c v=some (lx c v,0)/\In (lx c v).x 24576/\In (lx c v).y 24576/\In (lx c v).z 24576:=by
 obtain ⟨⟨⟨p1,p2,p3,p4,p5,p6⟩,_⟩,m0,m1,m2⟩:=id hc;obtain ⟨v1,v2,v3,v4,v5,v6⟩:=id hv;have hx:In (v.x - c.pos.x) 8192:=by unfold In; omega
 have hy:In (v.y - c.pos.y) 8192:=by unfold In; omega
 have hz:In (v.z - c.pos.z) 8192:=by unfold In; omega
 obtain ⟨f0,i0⟩:=XA m0 hx hy hz;obtain ⟨f1,i1⟩:=XA m1 hx hy hz;obtain ⟨f2,i2⟩:=XA m2 hx hy hz;refine ⟨?_,i0,i1,i2⟩;obtain ⟨e,h1,_,h2⟩:=sq c;have he:e=0:=h2.2 hc;subst he;have e0:zd c v=some 0:=h1;obtain ⟨e,h3,h4⟩:=yy v;have he:e=0:=h4.2 hv;subst he;have e1:ze c v=some 0:=h3;have e2:uJ c v=some (lx c v,0):=by
  unfold uJ;rw [aw (n:=v.x - c.pos.x),aw (n:=v.y - c.pos.y),aw (n:=v.z - c.pos.z)];obtain ⟨b,CW,uu⟩:=alw 32768 (Sl.lit [v.x - c.pos.x,v.y - c.pos.y,v.z - c.pos.z]) (by show 3<=1000; omega) (by decide);have hb:b=true:=uu.2 ((ash (p:=fun n=>-32768<=n/\n<=32768) _ _ _).2 (by unfold In at *; omega));subst hb;have t0:Ma c.m ⟨v.x - c.pos.x,v.y - c.pos.y,v.z - c.pos.z⟩=some true:=amV hc.2;have t1:FU c.m ⟨v.x - c.pos.x,v.y - c.pos.y,v.z - c.pos.z⟩=some true:=CW;have t2:wL c.m ⟨v.x - c.pos.x,v.y - c.pos.y,v.z - c.pos.z⟩=some ⟨(lx c v).x,(lx c v).y,(lx c v).z⟩:=by
   unfold wL Gc;have q0:L7 c.m ⟨v.x - c.pos.x,v.y - c.pos.y,v.z - c.pos.z⟩=some ((lx c v).x,0):=f0;have q1:L8 c.m ⟨v.x - c.pos.x,v.y - c.pos.y,v.z - c.pos.z⟩=some ((lx c v).y,0):=f1;have q2:L9 c.m ⟨v.x - c.pos.x,v.y - c.pos.y,v.z - c.pos.z⟩=some ((lx c v).z,0):=f2;simp only [q0,q1,q2,bN,bG,aj]
  unfold Gd;simp only [t0,t1,t2,bN,bG,aj,kW,aq]
 unfold nY;simp only [e0,e1,e2,bN,bG,aj,hO,aq]
structure kU (p:bK):Prop where
 x:In p.p.x 32768
 y:In p.p.y 32768
 z:In p.p.z 32768
 u:0<=p.u/\p.u<=255
 v:0<=p.v/\p.v<=255
theorem AG {p:bK} (h:kU p):nG p=some 0:=by
 obtain ⟨⟨x1,x2⟩,⟨y1,y2⟩,⟨z1,z2⟩,⟨u1,u2⟩,v1,v2⟩:=h;unfold nG;simp only [ax (show ¬ p.p.x < -(32768:Int) by omega),ax (show ¬ p.p.x > (32768:Int) by omega),ax (show ¬ p.p.y < -(32768:Int) by omega),ax (show ¬ p.p.y > (32768:Int) by omega),ax (show ¬ p.p.z < -(32768:Int) by omega),ax (show ¬ p.p.z > (32768:Int) by omega),ax (show ¬ p.u < (0:Int) by omega),ax (show ¬ p.u > (255:Int) by omega),ax (show ¬ p.v < (0:Int) by omega),ax (show ¬ p.v > (255:Int) by omega),aq]
theorem ahj {au:Int} {l:Sl bK} (hn:256<=au/\au<=4096) (hl:l.n<=1000) (h:∀ i,i < l.n->kU (l.get i)):wM au l=some 0:=by
 obtain ⟨e,z,hz,rfl⟩:∃ e z,sY au l = .out e z/\e = .exit 0:=by
  unfold sY;refine bp (step:=od) (fun j y=>y.t14=l/\y.t15=(l.n:Int)/\y.t16=(j:Int)/\j<=l.n) (fun e _=>e = .exit 0) l.n (by have:eS=10000000000000:=rfl; omega) (fun j y hj ⟨f1,f2,f3,f4⟩=>?_) ⟨rfl,rfl,rfl,cw _⟩;have w1:az (y.t16+1)=y.t16+1:=aw;unfold od bj;by_cases a8:y.t16 < y.t15
  ·have e0:rX y=some 0:=by
    unfold rX;rw [f1,f3,cm];exact AG (h j (by omega))
   simp only [e0,w1,bN,bG,aj,hO,aq,bI,ao a8,ao (show (0:Int)<=y.t16 by omega),ao (show y.t16 < ((y.t14.n:Nat):Int) by rw [f1]; omega)];exact .inl ⟨_,rfl,by omega,f1,f2,by show y.t16+1=_; omega,by omega⟩
  ·simp only [aq,ax a8]
   exact .inr ⟨_,_,rfl,rfl,rfl⟩
 have b1:(sY au l).by (.exit 0)=true:=by rw [hz]; rfl
 unfold wM;simp only [b1,aj,ax (show ¬ au < 256 by omega),ax (show ¬ au > 4096 by omega),aq]
def qq (a b p w:Int):Int:=a+((b - a) * p) / w
theorem ZU {a b p w:Int} (hp:0<=p/\p<=w) (hw:1<=w):min a b<=qq a b p w/\qq a b p w<=max a b:=by
 unfold qq;rcases Int.le_total a b with h | h
 ·have h1:0<=(b - a) * p:=Int.mul_nonneg (by omega) hp.1
  have h2:(b - a) * p<=(b - a) * w:=Int.mul_le_mul_of_nonneg_left hp.2 (by omega);have h3:0<=(b - a) * p / w:=Int.ediv_nonneg h1 (by omega);have h4:(b - a) * p / w<=b - a:=Int.ediv_le_of_le_mul (by omega) h2;omega
 ·have h1:(b - a) * p<=0:=Int.mul_nonpos_of_nonpos_of_nonneg (by omega) hp.1
  have h2:(b - a) * w<=(b - a) * p:=Int.mul_le_mul_of_nonpos_left (by omega) hp.2;have h3:b - a<=(b - a) * p / w:=Int.le_ediv_of_mul_le (by omega) h2;have h4:(b - a) * p / w<=0:=Int.ediv_le_of_le_mul (by omega) (by omega);omega
def Gt (au:Int) (a b:bK):bK:=⟨⟨qq a.p.x b.p.x (au - a.p.z) (b.p.z - a.p.z),qq a.p.y b.p.y (au - a.p.z) (b.p.z - a.p.z),au⟩,qq a.u b.u (au - a.p.z) (b.p.z - a.p.z),qq a.v b.v (au - a.p.z) (b.p.z - a.p.z)⟩
theorem Qb {a b p w m:Int} (ha:In a m) (hb:In b m) (hm:0<=m/\m<=32768) (hp:0<=p/\p<=w) (hw:1<=w/\w<=65536):eT (az ((az (b - a)) * (az p))) (az w)=some (((b - a) * p) / w,0):=by
 unfold In at *;have h:=sm (a:=b - a) (b:=p) (c:=65536) (d:=65536) (by omega) (by omega) (by omega);rw [aw (n:=b - a),aw (n:=p),aw (n:=w),aw (n:=(b - a) * p),Lu _ _ (by omega) (by omega)]
theorem yA {au:Int} {a b:bK} (hn:256<=au/\au<=4096) (ha:kU a) (hb:kU b) (haz:a.p.z < au) (hbz:au<=b.p.z):fE au a b=some (Gt au a b,0)/\kU (Gt au a b):=by
 have e0:Av au a b=some 0:=ahj hn (by show 2<=1000; omega) (fun i hi=>by
  have hi:i < 2:=hi;rcases i with _ | _ | i
  ·exact ha
  ·exact hb
  ·omega)
 obtain ⟨xa,ya,za,ua,va⟩:=id ha;obtain ⟨xb,yb,zb,ub,vb⟩:=id hb;unfold In at za zb;have hp:0<=au - a.p.z/\au - a.p.z<=b.p.z - a.p.z:=by omega
 have hw:1<=b.p.z - a.p.z/\b.p.z - a.p.z<=65536:=by omega
 have e1:Mb au a b=_:=Qb xa xb (by decide) hp hw;have e2:Mc au a b=_:=Qb ya yb (by decide) hp hw;have e3:Md au a b=_:=Qb (m:=255) (a:=a.u) (b:=b.u) (by unfold In; omega) (by unfold In; omega) (by decide) hp hw;have e4:Mf au a b=_:=Qb (m:=255) (a:=a.v) (b:=b.v) (by unfold In; omega) (by unfold In; omega) (by decide) hp hw;have r1:=ZU (a:=a.p.x) (b:=b.p.x) hp hw.1;have r2:=ZU (a:=a.p.y) (b:=b.p.y) hp hw.1;have r3:=ZU (a:=a.u) (b:=b.u) hp hw.1;have r4:=ZU (a:=a.v) (b:=b.v) hp hw.1;unfold In at xa ya xb yb;refine ⟨?_,⟨by show In (qq _ _ _ _) _; unfold In; omega,by show In (qq _ _ _ _) _; unfold In; omega,by show In au _; unfold In; omega,by show 0<=qq _ _ _ _/\qq _ _ _ _<=_; omega,by show 0<=qq _ _ _ _/\qq _ _ _ _<=_; omega⟩⟩;unfold qq at r1 r2 r3 r4;unfold fE;simp only [e0,e1,e2,e3,e4,bN,bG,aj,hO,aq,ax (show ¬ a.p.z >= au by omega),ax (show ¬ b.p.z < au by omega)];rw [aw (n:=a.p.x+_),aw (n:=a.p.y+_),aw (n:=a.u+_),aw (n:=a.v+_)];rfl
def sS (au:Int) (a b:bK):List bK:=cond (decide (a.p.z >= au)) (cond (decide (b.p.z >= au)) [a] [a,Gt au b a]) (cond (decide (b.p.z >= au)) [Gt au a b] [])
def yC (au:Int) (t:bo):List bK:=sS au t.e0 t.e1++sS au t.e1 t.e2++sS au t.e2 t.e0
def Lz (L:List bK):List bo:=(List.range (L.length - 2)).map fun k=>⟨L.getD 0 default,L.getD (k+1) default,L.getD (k+2) default⟩
structure Cg (t:bo):Prop where
 e0:kU t.e0
 e1:kU t.e1
 e2:kU t.e2
theorem Fv {α:Type} [Inhabited α] (l:Sl α) (a b:α):eo ((l.push a).push b)=eo l++[a,b]:=by
 rw [jO,jO,Tz];rfl
theorem aqF {au:Int} {t:bo} (hn:256<=au/\au<=4096) (ht:Cg t) (out:Sl bo) (ee:Int) (l:Sl bK) (hl:l.n<=10):∃ l',fo ⟨au,out,ee,l,t,0,t⟩ = .next ⟨au,out,ee,l',t,1,t⟩/\eo l' = eo l++sS au t.e0 t.e1/\l'.n<=l.n+2:=by
 have w1:az ((0:Int)+1)=1:=aw;have m1:Int.tmod (1:Int) 3=1:=rfl;have a1:gi 40 l.n 1=true:=jX;have a2:gi 40 (l.n+1) 1=true:=jX;unfold fo eM sS mI aF;simp only [w1,m1,a1,a2,aH,aj,aq,bI,ao (show (0:Int) < 3 by omega),ao (show (0:Int)=0 from rfl),ao (show (1:Int)=1 from rfl),ax (show ¬ (1:Int)=0 by omega)];by_cases c1:t.e0.p.z >= au
 ·by_cases c2:t.e1.p.z >= au
  ·rw [ao c1,ao c2]
   exact ⟨_,rfl,jO _ _,AJ _⟩
  ·have e:Jn ⟨au,out,ee,l,t,0,t⟩=some (Gt au t.e1 t.e0,0):=(yA hn ht.e1 ht.e0 (by omega) c1).1
   rw [ao c1,ax c2];simp only [e,aj,aq,bN,bG];exact ⟨_,rfl,Fv _ _ _,aQ _⟩
 ·by_cases c2:t.e1.p.z >= au
  ·have e:Jo ⟨au,out,ee,l,t,0,t⟩=some (Gt au t.e0 t.e1,0):=(yA hn ht.e0 ht.e1 (by omega) c2).1
   rw [ax c1,ao c2];simp only [e,aj,aq,bN,bG];exact ⟨_,rfl,jO _ _,AJ _⟩
  ·rw [ax c1,ax c2]
   exact ⟨_,rfl,(lM _).symm,FB _ _⟩
theorem aqG {au:Int} {t:bo} (hn:256<=au/\au<=4096) (ht:Cg t) (out:Sl bo) (ee:Int) (l:Sl bK) (hl:l.n<=10):∃ l',fo ⟨au,out,ee,l,t,1,t⟩ = .next ⟨au,out,ee,l',t,2,t⟩/\eo l' = eo l++sS au t.e1 t.e2/\l'.n<=l.n+2:=by
 have w1:az ((1:Int)+1)=2:=aw;have m1:Int.tmod (2:Int) 3=2:=rfl;have a1:gi 40 l.n 1=true:=jX;have a2:gi 40 (l.n+1) 1=true:=jX;unfold fo eM sS mI aF;simp only [w1,m1,a1,a2,aH,aj,aq,bI,ao (show (1:Int) < 3 by omega),ao (show (1:Int)=1 from rfl),ao (show (2:Int)=2 from rfl),ax (show ¬ (1:Int)=0 by omega),ax (show ¬ (2:Int)=0 by omega),ax (show ¬ (2:Int)=1 by omega)];by_cases c1:t.e1.p.z >= au
 ·by_cases c2:t.e2.p.z >= au
  ·rw [ao c1,ao c2]
   exact ⟨_,rfl,jO _ _,AJ _⟩
  ·have e:HA ⟨au,out,ee,l,t,1,t⟩=some (Gt au t.e2 t.e1,0):=(yA hn ht.e2 ht.e1 (by omega) c1).1
   rw [ao c1,ax c2];simp only [e,aj,aq,bN,bG];exact ⟨_,rfl,Fv _ _ _,aQ _⟩
 ·by_cases c2:t.e2.p.z >= au
  ·have e:HB ⟨au,out,ee,l,t,1,t⟩=some (Gt au t.e1 t.e2,0):=(yA hn ht.e1 ht.e2 (by omega) c2).1
   rw [ax c1,ao c2];simp only [e,aj,aq,bN,bG];exact ⟨_,rfl,jO _ _,AJ _⟩
  ·rw [ax c1,ax c2]
   exact ⟨_,rfl,(lM _).symm,FB _ _⟩
theorem aqH {au:Int} {t:bo} (hn:256<=au/\au<=4096) (ht:Cg t) (out:Sl bo) (ee:Int) (l:Sl bK) (hl:l.n<=10):∃ l',fo ⟨au,out,ee,l,t,2,t⟩ = .next ⟨au,out,ee,l',t,3,t⟩/\eo l' = eo l++sS au t.e2 t.e0/\l'.n<=l.n+2:=by
 have w1:az ((2:Int)+1)=3:=aw;have m1:Int.tmod (3:Int) 3=0:=rfl;have a1:gi 40 l.n 1=true:=jX;have a2:gi 40 (l.n+1) 1=true:=jX;unfold fo eM sS mI aF;simp only [w1,m1,a1,a2,aH,aj,aq,bI,ao (show (2:Int) < 3 by omega),ao (show (2:Int)=2 from rfl),ao (show (0:Int)=0 from rfl),ax (show ¬ (2:Int)=0 by omega),ax (show ¬ (2:Int)=1 by omega)];by_cases c1:t.e2.p.z >= au
 ·by_cases c2:t.e0.p.z >= au
  ·rw [ao c1,ao c2]
   exact ⟨_,rfl,jO _ _,AJ _⟩
  ·have e:HC ⟨au,out,ee,l,t,2,t⟩=some (Gt au t.e0 t.e2,0):=(yA hn ht.e0 ht.e2 (by omega) c1).1
   rw [ao c1,ax c2];simp only [e,aj,aq,bN,bG];exact ⟨_,rfl,Fv _ _ _,aQ _⟩
 ·by_cases c2:t.e0.p.z >= au
  ·have e:HD ⟨au,out,ee,l,t,2,t⟩=some (Gt au t.e2 t.e0,0):=(yA hn ht.e2 ht.e0 (by omega) c2).1
   rw [ax c1,ao c2];simp only [e,aj,aq,bN,bG];exact ⟨_,rfl,jO _ _,AJ _⟩
  ·rw [ax c1,ax c2]
   exact ⟨_,rfl,(lM _).symm,FB _ _⟩
def asl (au:Int) (t:bo):Nat->List bK
 | 0=>[]
 | 1=>sS au t.e0 t.e1
 | 2=>sS au t.e0 t.e1++sS au t.e1 t.e2
 | _=>yC au t
theorem ags {au:Int} {t:bo} (hn:256<=au/\au<=4096) (ht:Cg t):∃ z,kJ au t = .out (.exit 0) z/\eo z.l=yC au t/\z.l.n<=6/\z.out.n=0:=by
 obtain ⟨e,z,hz,rfl,h⟩:∃ e z,kJ au t = .out e z/\(e = .exit 0/\eo z.l=yC au t/\z.l.n<=6/\z.out.n=0):=by
  unfold kJ;refine bp (step:=fo) (fun j y=>∃ (out:Sl bo) (ee:Int) (l:Sl bK),y=⟨au,out,ee,l,t,(j:Int),t⟩/\out.n=0/\eo l=asl au t j/\l.n<=2 * j/\j<=3) _ 3 (by have:eS=10000000000000:=rfl; omega) (fun j y hj ⟨out,ee,l,hy,h0,h1,h2,h3⟩=>?_) ⟨_,_,_,rfl,rfl,rfl,aQ _,by omega⟩;subst hy;rcases j with _ | _ | _ | j
  ·obtain ⟨l',q1,q2,q3⟩:=aqF hn ht out ee l (by omega)
   exact .inl ⟨_,q1,by omega,out,ee,l',rfl,h0,by rw [q2,h1]; rfl,by omega,by omega⟩
  ·obtain ⟨l',q1,q2,q3⟩:=aqG hn ht out ee l (by omega)
   exact .inl ⟨_,q1,by omega,out,ee,l',rfl,h0,by rw [q2,h1]; rfl,by omega,by omega⟩
  ·obtain ⟨l',q1,q2,q3⟩:=aqH hn ht out ee l (by omega)
   exact .inl ⟨_,q1,by omega,out,ee,l',rfl,h0,by rw [q2,h1]; rfl,by omega,by omega⟩
  ·have hj3:j=0:=by omega
   subst hj3;refine .inr ⟨.exit 0,⟨au,out,ee,l,t,((0+1+1+1:Nat):Int),t⟩,?_,rfl,rfl,h1,by show l.n<=6; omega,h0⟩;unfold fo eM mI aF;simp only [aH,aj,aq,ax (show ¬ ((((0+1+1+1:Nat):Int)) < 3) by omega)]
 exact ⟨z,hz,h⟩
theorem IB {α:Type} [Inhabited α] (l:Sl α) {i:Nat} (h:i < l.n):(eo l).getD i default=l.get i:=by
 rw [gK,aby l i h];rfl
theorem amW {au:Int} {t:bo} (hn:256<=au/\au<=4096) (ht:Cg t):∃ z,rZ au t = .out (.exit 2) z/\eo z.out=Lz (yC au t):=by
 obtain ⟨y,hy,y1,y2,y3⟩:=ags hn ht;have hs:(kJ au t).st=y:=by rw [hy]; rfl
 obtain ⟨e,z,hz,rfl,h⟩:∃ e z,rZ au t = .out e z/\(e = .exit 2/\eo z.out=Lz (yC au t)):=by
  unfold rZ;rw [hs];refine bp (step:=oe) (fun j x=>x.l=y.l/\x.i=((j+2:Nat):Int)/\(j=0\/j+2<=y.l.n)/\x.out.n=j/\eo x.out=(List.range j).map fun k=>(⟨y.l.get 0,y.l.get (k+1),y.l.get (k+2)⟩:bo)) _ 10 (by have:eS=10000000000000:=rfl; omega) (fun j x hj ⟨f1,f2,f3,f4,f5⟩=>?_) ⟨rfl,rfl,.inl rfl,y3,lL.1 (by rw [eZ,y3])⟩;have w1:az (x.i+1)=((j+1+2:Nat):Int):=by rw [aw (by omega) (by omega)]; omega
  have w2:az (x.i - 1)=((j+1:Nat):Int):=by rw [aw (by omega) (by omega)]; omega
  have a1:gi 120 x.out.n 1=true:=jX;unfold oe bj mI aF;by_cases h:x.i < ((x.l.n:Nat):Int)
  ·have hln:j+2 < y.l.n:=by rw [f1] at h; omega
   simp only [w1,w2,a1,aH,aj,bI,ao h,ao (show (0:Int) < ((x.l.n:Nat):Int) by omega),ao (show (0:Int)<=((j+1:Nat):Int) by omega),ao (show ((j+1:Nat):Int) < ((x.l.n:Nat):Int) by omega),ao (show (0:Int)<=x.i by omega)];refine .inl ⟨_,rfl,by omega,f1,rfl,.inr (by omega),by show x.out.n+1=_; omega,?_⟩;show eo (Sl.push _ _)=_;rw [jO,f5,List.range_succ,Ov,f1,f2,cm,cm];rfl
  ·simp only [aH,aj,aq,ax h]
   refine .inr ⟨_,_,rfl,rfl,rfl,?_⟩;rw [f5];unfold Lz;rw [<- y1,eZ];have hjn:y.l.n - 2=j:=by rw [f1] at h; omega
   rw [hjn];refine List.map_congr_left fun k hk=>?_;have:=pt.1 hk;rw [IB _ (by omega),IB _ (by omega),IB _ (by omega)]
 exact ⟨z,hz,h⟩
theorem alL {au:Int} {t:bo} (hn:256<=au/\au<=4096) (ht:Cg t):∃ r,zf au t=some (r,0)/\eo r=Lz (yC au t):=by
 obtain ⟨y,hy,_⟩:=ags hn ht;obtain ⟨z,hz,h⟩:=amW hn ht;have e0:yi au t=some 0:=AG ht.e0;have e3:yj au t=some 0:=AG ht.e1;have e4:yk au t=some 0:=AG ht.e2;have b1:(kJ au t).by (.exit 0)=true:=by rw [hy]; rfl
 have b2:(rZ au t).by (.exit 2)=true:=by rw [hz]; rfl
 have b3:(rZ au t).st=z:=by rw [hz]; rfl
 refine ⟨z.out,?_,h⟩;unfold zf s4 A7 aF;simp only [e0,e3,e4,b1,b2,b3,aH,bN,bG,aj,hO,aq,ax (show ¬ au < 256 by omega),ax (show ¬ au > 4096 by omega)]
theorem agt {au:Int} {a b p:bK} (hn:256<=au/\au<=4096) (ha:kU a) (hb:kU b) (h:p∈sS au a b):kU p/\au<=p.p.z:=by
 unfold sS at h;by_cases c1:a.p.z >= au
 ·by_cases c2:b.p.z >= au
  ·rw [ao c1,ao c2] at h
   rw [List.mem_singleton.1 h];exact ⟨ha,c1⟩
  ·rw [ao c1,ax c2] at h
   rcases eL.1 h with h | h
   ·rw [h]; exact ⟨ha,c1⟩
   ·rw [List.mem_singleton.1 h]
    exact ⟨(yA hn hb ha (by omega) c1).2,Int.le_refl _⟩
 ·by_cases c2:b.p.z >= au
  ·rw [ax c1,ao c2] at h
   rw [List.mem_singleton.1 h];exact ⟨(yA hn ha hb (by omega) c2).2,Int.le_refl _⟩
  ·rw [ax c1,ax c2] at h
   simp at h
theorem agu {au:Int} {t:bo} {p:bK} (hn:256<=au/\au<=4096) (ht:Cg t) (h:p∈yC au t):kU p/\au<=p.p.z:=by
 unfold yC at h;rcases oM.1 h with h | h
 ·rcases oM.1 h with h | h
  ·exact agt hn ht.e0 ht.e1 h
  ·exact agt hn ht.e1 ht.e2 h
 ·exact agt hn ht.e2 ht.e0 h
theorem abA {α:Type} {L:List α} {i:Nat} {d:α} (h:i < L.length):L.getD i d∈L:=by
 rw [gK,dz h];exact List.getElem_mem h
theorem an7 {au:Int} {t q:bo} (hn:256<=au/\au<=4096) (ht:Cg t) (h:q∈Lz (yC au t)):(kU q.e0/\au<=q.e0.p.z)/\(kU q.e1/\au<=q.e1.p.z)/\kU q.e2/\au<=q.e2.p.z:=by
 unfold Lz at h;obtain ⟨k,hk,rfl⟩:=Fy.1 h;have:=pt.1 hk;exact ⟨agu hn ht (abA (by omega)),agu hn ht (abA (by omega)),agu hn ht (abA (by omega))⟩
end Go.Proofs.YtchbpckkmgcgkaaGreat.b
end
