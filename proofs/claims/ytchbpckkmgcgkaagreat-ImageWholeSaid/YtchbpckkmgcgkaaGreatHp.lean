/- Part of the proof of ImageWhole: the machine, shown to be the model's, and plain models. No conditions. -/
import Derived.Test.YtchbpckkmgcgkaaGreatGp
set_option linter.unusedSimpArgs false
set_option linter.unusedVariables false
section
namespace Go.Proofs.YtchbpckkmgcgkaaGreat.b
open Go.K
open Go.aF (aq)
theorem aj {n:Int} (h : -4611686018427387904<=n:=by omega) (h' : n<=4611686018427387904:=by omega):ak n=n:=Dl (by omega) (by omega)
theorem Sb (lo hi:Int) (l:Sl Int) (hn:l.n<=1000):∃ b,rC lo hi l=some b/\(b=true↔∀ i,i < l.n->lo<=l.get i/\l.get i<=hi):=by
 obtain ⟨e,x',h1,h2⟩:=bn (step:=oS) (x:=⟨lo,hi,false,l,((l.n:Nat):Int),(0:Int)⟩)
  (fun j x=>x=⟨lo,hi,false,l,((l.n:Nat):Int),(j:Int)⟩/\j<=l.n/\∀ i,i < j->lo<=l.get i/\l.get i<=hi)
  (fun e x=>(e = .exit 0/\∀ i,i < l.n->lo<=l.get i/\l.get i<=hi)\/(e = .ret/\x.t6=false/\¬ ∀ i,i < l.n->lo<=l.get i/\l.get i<=hi)) l.n (by have:gd=1000000000000:=rfl; omega)
  (fun j x hj ⟨hx,hle,hI⟩=>by
   subst hx;unfold oS bj;by_cases bt:j < l.n
   ·have e1:decide ((j:Int) < ((l.n:Nat):Int))=true:=av (by omega)
    have e2:decide ((0:Int)<=(j:Int))=true:=av (by omega);simp only [e1,e2,ai,bD,bU];cases ha:decide (l.get j < lo) with
    | true=>
     right;refine ⟨_,_,rfl,rfl,.inr ⟨rfl,rfl,fun h=>?_⟩⟩;have:=h j bt; have:=rl ha; omega
    | false=>
     cases hb:decide (l.get j > hi) with
     | true=>
      right;refine ⟨_,_,rfl,rfl,.inr ⟨rfl,rfl,fun h=>?_⟩⟩;have:=h j bt; have:=rl hb; omega
     | false=>
      left;refine ⟨_,rfl,by omega,?_,by omega,fun i Yq=>?_⟩
      ·rw [aj (by omega) (by omega)]; rfl
      ·by_cases vD:i=j
       ·subst vD
        have:=of_decide_eq_false ha; have:=of_decide_eq_false hb; omega
       ·exact hI i (by omega)
   ·have e1:decide ((j:Int) < ((l.n:Nat):Int))=false:=az (by omega)
    simp only [e1,aw];right;exact ⟨_,_,rfl,rfl,.inl ⟨rfl,fun i Yq=>hI i (by omega)⟩⟩)
  ⟨rfl,by omega,fun i Yq=>by omega⟩
 have h0:Bn lo hi l = .out e x':=h1;unfold rC;rw [h0,aJ.kO,aJ.kO,aJ.lG];rcases h2 with ⟨rfl,h2⟩ | ⟨rfl,h3,h2⟩
 ·exact ⟨true,rfl,by simpa using h2⟩
 ·exact ⟨false,by simp [gj,h3],by simpa using h2⟩
theorem aia (di:Int) (l:Sl Int) (hn:l.n<=1000) (hm:0<=di/\di<=1000000):∃ b,Em di l=some b/\(b=true↔∀ i,i < l.n->-di<=l.get i/\l.get i<=di):=by
 have hw:ak (0 - di) = -di:=by rw [aj (by omega) (by omega)]; omega
 obtain ⟨e,x',h1,h2⟩:=bn (step:=uI) (x:=⟨di,false,l,((l.n:Nat):Int),(0:Int)⟩)
  (fun j x=>x=⟨di,false,l,((l.n:Nat):Int),(j:Int)⟩/\j<=l.n/\∀ i,i < j->-di<=l.get i/\l.get i<=di)
  (fun e x=>(e = .exit 0/\∀ i,i < l.n->-di<=l.get i/\l.get i<=di)\/(e = .ret/\x.t4=false/\¬ ∀ i,i < l.n->-di<=l.get i/\l.get i<=di)) l.n (by have:gd=1000000000000:=rfl; omega)
  (fun j x hj ⟨hx,hle,hI⟩=>by
   subst hx;unfold uI bj;by_cases bt:j < l.n
   ·have e1:decide ((j:Int) < ((l.n:Nat):Int))=true:=av (by omega)
    have e2:decide ((0:Int)<=(j:Int))=true:=av (by omega);simp only [e1,e2,ai,bD,bU,hw];cases ha:decide (l.get j < -di) with
    | true=>
     right;refine ⟨_,_,rfl,rfl,.inr ⟨rfl,rfl,fun h=>?_⟩⟩;have:=h j bt; have:=rl ha; omega
    | false=>
     cases hb:decide (l.get j > di) with
     | true=>
      right;refine ⟨_,_,rfl,rfl,.inr ⟨rfl,rfl,fun h=>?_⟩⟩;have:=h j bt; have:=rl hb; omega
     | false=>
      left;refine ⟨_,rfl,by omega,?_,by omega,fun i Yq=>?_⟩
      ·rw [aj (by omega) (by omega)]; rfl
      ·by_cases vD:i=j
       ·subst vD
        have:=of_decide_eq_false ha; have:=of_decide_eq_false hb; omega
       ·exact hI i (by omega)
   ·have e1:decide ((j:Int) < ((l.n:Nat):Int))=false:=az (by omega)
    simp only [e1,aw];right;exact ⟨_,_,rfl,rfl,.inl ⟨rfl,fun i Yq=>hI i (by omega)⟩⟩)
  ⟨rfl,by omega,fun i Yq=>by omega⟩
 have h0:Nn di l = .out e x':=h1;unfold Em;rw [h0,aJ.kO,aJ.kO,aJ.lG];rcases h2 with ⟨rfl,h2⟩ | ⟨rfl,h3,h2⟩
 ·exact ⟨true,rfl,by simpa using h2⟩
 ·exact ⟨false,by simp [gj,h3],by simpa using h2⟩
def zc (v:iP):Prop:=-4096<=v.x/\v.x<=4096/\-4096<=v.y/\v.y<=4096/\-4096<=v.z/\v.z<=4096
theorem avj {p:Int->Prop} (a b c:Int):(∀ i,i < (Sl.lit [a,b,c]).n->p ((Sl.lit [a,b,c]).get i))↔p a/\p b/\p c:=by
 constructor
 ·intro h
  exact ⟨h 0 (show 0 < 3 by omega),h 1 (show 1 < 3 by omega),h 2 (show 2 < 3 by omega)⟩
 ·rintro ⟨h1,h2,h3⟩ i hi
  have hi:i < 3:=hi
  match i,hi with
  | 0,_=>exact h1
  | 1,_=>exact h2
  | 2,_=>exact h3
theorem avk {p:Int->Prop} (a b:Int):(∀ i,i < (Sl.lit [a,b]).n->p ((Sl.lit [a,b]).get i))↔p a/\p b:=by
 constructor
 ·intro h
  exact ⟨h 0 (show 0 < 2 by omega),h 1 (show 1 < 2 by omega)⟩
 ·rintro ⟨h1,h2⟩ i hi
  have hi:i < 2:=hi
  match i,hi with
  | 0,_=>exact h1
  | 1,_=>exact h2
theorem awT {p:Int->Prop} (a:Int):(∀ i,i < (Sl.lit [a]).n->p ((Sl.lit [a]).get i))↔p a:=by
 constructor
 ·intro h
  exact h 0 (show 0 < 1 by omega)
 ·intro h1 i hi
  have hi:i < 1:=hi
  match i,hi with
  | 0,_=>exact h1
theorem Ak (v:iP):∃ e,sM v=some e/\(e=0↔zc v):=by
 obtain ⟨b,h1,h2⟩:=aia 4096 (Sl.lit [v.x,v.y,v.z]) (show 3<=1000 by omega) (by omega);rw [avj (p:=fun n=>-4096<=n/\n<=4096)] at h2;unfold sM Fq;rw [h1];cases b with
 | true=>exact ⟨0,rfl,by simpa [zc,and_assoc] using h2⟩
 | false=>exact ⟨20,rfl,by simp only [xI,false_iff] at h2; simp only [zc]; omega⟩
def KA (s:oT):Prop:=(-131072<=s.x/\s.x<=131072)/\(-131072<=s.y/\s.y<=131072)/\(1<=s.d/\s.d<=65536)/\(0<=s.u/\s.u<=255)/\0<=s.v/\s.v<=255
theorem Jj (s:oT):∃ e,sZ s=some e/\(e=0↔KA s):=by
 obtain ⟨b,h1,h2⟩:=Sb (-131072) 131072 (Sl.lit [s.x,s.y]) (show 2<=1000 by omega);rw [avk (p:=fun n=>-131072<=n/\n<=131072)] at h2;obtain ⟨c,h3,h4⟩:=Sb 1 65536 (Sl.lit [s.d]) (show 1<=1000 by omega);rw [awT (p:=fun n=>1<=n/\n<=65536)] at h4;obtain ⟨d,h5,h6⟩:=Sb 0 255 (Sl.lit [s.u,s.v]) (show 2<=1000 by omega);rw [avk (p:=fun n=>0<=n/\n<=255)] at h6;unfold sZ Dn Dp Dq;rw [h1,h3,h5];unfold KA;cases b with
 | false=>exact ⟨8,rfl,by simp only [xI,false_iff] at h2; omega⟩
 | true=>
  simp only [true_iff] at h2;cases c with
  | false=>exact ⟨8,rfl,by simp only [xI,false_iff] at h4; omega⟩
  | true=>
   simp only [true_iff] at h4;cases d with
   | false=>exact ⟨8,rfl,by simp only [xI,false_iff] at h6; omega⟩
   | true=>
    simp only [true_iff] at h6;exact ⟨0,rfl,by simp only [true_iff]; exact ⟨h2.1,h2.2,h4,h6.1,h6.2⟩⟩
def Sc (t:aK):Prop:=KA t.e0/\KA t.e1/\KA t.e2
def su (t:aK):Int:=(t.e1.x - t.e0.x) * (t.e2.y - t.e0.y) - (t.e2.x - t.e0.x) * (t.e1.y - t.e0.y)
theorem mq {a b c d:Int} (hc:0<=c) (h1 : -c<=a/\a<=c) (h2 : -d<=b/\b<=d) : -(c * d)<=a * b/\a * b<=c * d:=by
 have hd:0<=d:=by omega
 have h3:a.natAbs * b.natAbs<=c.natAbs * d.natAbs:=Nat.mul_le_mul (by omega) (by omega);have h4:(a * b).natAbs=a.natAbs * b.natAbs:=Int.natAbs_mul a b;have h5:(c * d).natAbs=c.natAbs * d.natAbs:=Int.natAbs_mul c d;have h6:0<=c * d:=wi hc hd;omega
theorem FL (t:aK):(Sc t/\rp t=some (su t,0))\/(¬ Sc t/\∃ e,rp t=some (0,e)/\e≠0):=by
 obtain ⟨e0,h1,h2⟩:=Jj t.e0;obtain ⟨e1,h3,h4⟩:=Jj t.e1;obtain ⟨e2,h5,h6⟩:=Jj t.e2;unfold rp Fm Fo Fp;rw [h1,h3,h5];unfold Sc;by_cases GM:e0=0
 ·by_cases Pd:e1=0
  ·by_cases I6:e2=0
   ·left
    have g0:=h2.1 GM; have g1:=h4.1 Pd; have g2:=h6.1 I6;refine ⟨⟨g0,g1,g2⟩,?_⟩;subst GM Pd I6;obtain ⟨a1,a2,_⟩:=g0;obtain ⟨b1,b2,_⟩:=g1;obtain ⟨c1,c2,_⟩:=g2;have m1:=mq (a:=t.e1.x - t.e0.x) (b:=t.e2.y - t.e0.y) (c:=262144) (d:=262144) (by omega) (by omega) (by omega);have m2:=mq (a:=t.e2.x - t.e0.x) (b:=t.e1.y - t.e0.y) (c:=262144) (d:=262144) (by omega) (by omega) (by omega);show some (ak (ak (ak (t.e1.x - t.e0.x) * ak (t.e2.y - t.e0.y)) - ak (ak (t.e2.x - t.e0.x) * ak (t.e1.y - t.e0.y))),(0:Int))=some (su t,0);rw [aj (n:=t.e1.x - t.e0.x),aj (n:=t.e2.y - t.e0.y),aj (n:=t.e2.x - t.e0.x),aj (n:=t.e1.y - t.e0.y),
     aj (n:=(t.e1.x - t.e0.x) * (t.e2.y - t.e0.y)),aj (n:=(t.e2.x - t.e0.x) * (t.e1.y - t.e0.y))]
    rw [aj (by omega) (by omega)];rfl
   ·right
    refine ⟨fun h=>I6 (h6.2 h.2.2),e2,?_,I6⟩;subst GM Pd;have:(e2 != (0:Int))=true:=by simpa using I6
    simp [this]
  ·right
   refine ⟨fun h=>Pd (h4.2 h.2.1),e1,?_,Pd⟩;subst GM;have:(e1 != (0:Int))=true:=by simpa using Pd
   simp [this]
 ·right
  refine ⟨fun h=>GM (h2.2 h.1),e0,?_,GM⟩;have:(e0 != (0:Int))=true:=by simpa using GM
  simp [this]
theorem Eo (a b:Int) (hb:1<=b) (ha : -4611686018427387904<=a/\a<=4611686018427387904):cR a b=some (a / b,0):=by
 have h1:decide (b < 1)=false:=az (by omega);have h2:decide (b=0)=false:=az (by omega);have h3:=Int.mul_tdiv_add_tmod a b;have h4:=Int.natAbs_tdiv_le_natAbs a b;have h5:(Int.tmod a b).natAbs < b.natAbs:=by rw [Int.natAbs_tmod]; exact Nat.mod_lt _ (by omega)
 unfold cR;simp only [h1,h2,aw,rK,ai];cases hr:decide (Int.tmod a b < 0) with
 | true=>
  have hr:=rl hr;have e:a / b=Int.tdiv a b - 1:=((Int.ediv_emod_unique (by omega:0 < b)).2 ⟨(show (Int.tmod a b+b)+b * (Int.tdiv a b - 1)=a by rw [Int.mul_sub]; omega),by omega,by omega⟩).1;rw [ai,aj (n:=Int.tdiv a b),Dl (by omega) (by omega),e]
 | false=>
  have hr:=of_decide_eq_false hr;have e:a / b=Int.tdiv a b:=((Int.ediv_emod_unique (by omega:0 < b)).2 ⟨(show Int.tmod a b+b * Int.tdiv a b=a by omega),by omega,by omega⟩).1;rw [aw,aj (by omega) (by omega),e]
theorem IK (a b:Int):∃ r,cR a b=some r:=by
 unfold cR;cases h1:decide (b < 1) with
 | true=>exact ⟨_,rfl⟩
 | false=>
  have h1:=of_decide_eq_false h1;have h2:decide (b=0)=false:=az (by omega);simp only [h2,aw,rK,ai];cases decide (Int.tmod a b < 0) <;> exact ⟨_,rfl⟩
end Go.Proofs.YtchbpckkmgcgkaaGreat.b
end
section
namespace Go.Proofs.YtchbpckkmgcgkaaGreat.b
open Go.K
def DS (t:aK):Prop:=Sc t/\0 < su t
theorem aeG (t:aK):∃ e,wP t=some e/\(e=0↔DS t):=by
 unfold wP tu DS;rcases FL t with ⟨h1,h2⟩ | ⟨h1,e,h2,h3⟩
 ·rw [h2]
  cases hb:decide (su t<=0) with
  | true=>
   have:=rl hb;refine ⟨6,by simp [hb],by simp; omega⟩
  | false=>
   have:=of_decide_eq_false hb;exact ⟨0,by simp [hb],by simp [h1]; omega⟩
 ·rw [h2]
  have:(e==(0:Int))=false:=by simpa using h3
  exact ⟨e,by simp [this],by simp [h1,h3]⟩
def Pix (x y:Int):Prop:=(0<=x/\x < 64)/\0<=y/\y < 64
theorem aeH (x y:Int):∃ b,wQ x y=some b/\(b=true↔Pix x y):=by
 unfold wQ Pix;cases hb:decide (min x y >= 0) with
 | true=>
  have:=rl hb;refine ⟨decide (max x y < 64),rfl,?_⟩;rw [lA];omega
 | false=>
  have:=of_decide_eq_false hb;refine ⟨false,rfl,?_⟩;simp only [xI,false_iff];omega
def W0 (t:aK) (p q:Int):Int:=(t.e2.x - t.e1.x) * (q - t.e1.y) - (p - t.e1.x) * (t.e2.y - t.e1.y)
def W1 (t:aK) (p q:Int):Int:=(t.e0.x - t.e2.x) * (q - t.e2.y) - (p - t.e2.x) * (t.e0.y - t.e2.y)
def W2 (t:aK) (p q:Int):Int:=(t.e1.x - t.e0.x) * (q - t.e0.y) - (p - t.e0.x) * (t.e1.y - t.e0.y)
theorem alH {a b c d p q:Int} (ha : -131072<=a/\a<=131072) (hb : -131072<=b/\b<=131072) (hc : -131072<=c/\c<=131072) (hd : -131072<=d/\d<=131072) (hp:0<=p/\p<=1000) (hq:0<=q/\q<=1000) :
  ak (ak (ak (c - a) * ak (q - b)) - ak (ak (p - a) * ak (d - b)))=(c - a) * (q - b) - (p - a) * (d - b):=by
 have m1:=mq (a:=c - a) (b:=q - b) (c:=262144) (d:=262144) (by omega) (by omega) (by omega);have m2:=mq (a:=p - a) (b:=d - b) (c:=262144) (d:=262144) (by omega) (by omega) (by omega);rw [aj (n:=c - a),aj (n:=q - b),aj (n:=p - a),aj (n:=d - b),aj (n:=(c - a) * (q - b)),aj (n:=(p - a) * (d - b)),aj (by omega) (by omega)]
theorem NA (t:aK) (x y:Int):(DS t/\Pix x y/\ml t x y=some (⟨W0 t (8 * x+4) (8 * y+4),W1 t (8 * x+4) (8 * y+4),W2 t (8 * x+4) (8 * y+4)⟩,0))\/∃ w e,ml t x y=some (w,e)/\e≠0:=by
 obtain ⟨e,h1,h2⟩:=aeG t;obtain ⟨b,h3,h4⟩:=aeH x y;unfold ml wR Bp;rw [h1,h3];by_cases he:e=0
 ·have hf:=h2.1 he
  subst he;cases b with
  | true=>
   have hp:=h4.1 rfl;left;refine ⟨hf,hp,?_⟩;obtain ⟨hp1,hp2⟩:=hp;have e2:Bq t x y=some (8 * y+4):=by
    show some (ak (ak (8 * y)+4))=_;rw [aj (n:=8 * y),aj (by omega) (by omega)]
   have e3:Br t x y=some (8 * x+4):=by
    show some (ak (ak (8 * x)+4))=_;rw [aj (n:=8 * x),aj (by omega) (by omega)]
   obtain ⟨⟨⟨a1,a2,_⟩,⟨b1,b2,_⟩,c1,c2,_⟩,_⟩:=hf;rw [e2,e3];simp only [bx,ai,bq,jk,aw,jO];rw [alH b1 b2 c1 c2 (by omega) (by omega),alH c1 c2 a1 a2 (by omega) (by omega),alH a1 a2 b1 b2 (by omega) (by omega)];rfl
  | false=>right; exact ⟨_,2,rfl,by omega⟩
 ·right
  have:(e != (0:Int))=true:=by simpa using he
  simp only [bx,ai,bq];rw [this];exact ⟨_,e,rfl,he⟩
def akC (u v w:Int) (r:Option (Bool×Int)):Prop:=r=some (false,0)\/(r=some (true,0)/\0<=u/\0<=v/\0<=w)
theorem akC.ite {u v w:Int} {c:Prop} [Decidable c] {a b:Option (Bool×Int)} (h1:c->akC u v w a) (h2 : ¬ c->akC u v w b):akC u v w (if c then a else b):=by
 by_cases h:c
 ·rw [aV h]; exact h1 h
 ·rw [ay h]; exact h2 h
theorem aa3 (t:aK) (x y:Int):∃ c e,qj t x y=some (c,e)/\(c=true->e=0->DS t/\Pix x y/\0<=W0 t (8 * x+4) (8 * y+4)/\0<=W1 t (8 * x+4) (8 * y+4)/\0<=W2 t (8 * x+4) (8 * y+4)):=by
 unfold qj mn mm ct;rcases NA t x y with ⟨h1,h2,h3⟩ | ⟨w,e,h3,h4⟩
 ·rw [h3]
  simp only [bx,ai,bq,jO,aw];generalize W0 t (8 * x+4) (8 * y+4)=u;generalize W1 t (8 * x+4) (8 * y+4)=v;generalize W2 t (8 * x+4) (8 * y+4)=w;simp only [h1,h2,true_and];simp only [Bool.cond_eq_ite,nD,lA,decide_eq_false_iff_not,beq_iff_eq];have key:∀ r:Option (Bool×Int),akC u v w r->∃ c e,r=some (c,e)/\(c=true->e=0->0<=u/\0<=v/\0<=w):=by
   rintro r (rfl | ⟨rfl,h⟩)
   ·exact ⟨false,0,rfl,fun h=>by simp at h⟩
   ·exact ⟨true,0,rfl,fun _ _=>h⟩
  apply key
  repeat' (refine akC.ite (fun _=>?_) (fun _=>?_))
  all_goals first | exact .inl rfl | exact .inr ⟨rfl,by omega⟩
 ·rw [h3]
  have:(e != (0:Int))=true:=by simpa using h4
  exact ⟨false,e,by simp [this],fun h=>by simp at h⟩
theorem aib (a b c d e f x y:Int):((e-c)*(y-d)-(x-c)*(f-d))+((a-e)*(y-f)-(x-e)*(b-f))+((c-a)*(y-b)-(x-a)*(d-b))=(c-a)*(f-b)-(e-a)*(d-b):=by grind
theorem avS (a b c d e f x y:Int):((e-c)*(y-d)-(x-c)*(f-d))*(a-x)+((a-e)*(y-f)-(x-e)*(b-f))*(c-x)+((c-a)*(y-b)-(x-a)*(d-b))*(e-x)=0:=by grind
theorem avT (a b c d e f x y:Int):((e-c)*(y-d)-(x-c)*(f-d))*(b-y)+((a-e)*(y-f)-(x-e)*(b-f))*(d-y)+((c-a)*(y-b)-(x-a)*(d-b))*(f-y)=0:=by grind
theorem aic (p q r u v w:Int) (hp:0<=p) (hq:0<=q) (hr:0<=r) (hs:0 < p+q+r) (h:p * u+q * v+r * w=0):u<=0\/v<=0\/w<=0:=by
 by_cases h1:u<=0
 ·exact .inl h1
 by_cases h2:v<=0
 ·exact .inr (.inl h2)
 by_cases h3:w<=0
 ·exact .inr (.inr h3)
 exfalso;have a1:p * 1<=p * u:=Int.mul_le_mul_of_nonneg_left (by omega) hp;have a2:q * 1<=q * v:=Int.mul_le_mul_of_nonneg_left (by omega) hq;have a3:r * 1<=r * w:=Int.mul_le_mul_of_nonneg_left (by omega) hr;omega
theorem anX (p q r u v w:Int) (hp:0<=p) (hq:0<=q) (hr:0<=r) (hs:0 < p+q+r) (h:p * u+q * v+r * w=0):0<=u\/0<=v\/0<=w:=by
 have:=aic p q r (-u) (-v) (-w) hp hq hr hs (by rw [Int.mul_neg,Int.mul_neg,Int.mul_neg]; omega);omega
theorem between (t:aK) (p q:Int) (hf:DS t) (h0:0<=W0 t p q) (h1:0<=W1 t p q) (h2:0<=W2 t p q) :
  (min (min t.e0.x t.e1.x) t.e2.x<=p/\p<=max (max t.e0.x t.e1.x) t.e2.x)/\min (min t.e0.y t.e1.y) t.e2.y<=q/\q<=max (max t.e0.y t.e1.y) t.e2.y:=by
 have hs:0 < W0 t p q+W1 t p q+W2 t p q:=by
  have:=aib t.e0.x t.e0.y t.e1.x t.e1.y t.e2.x t.e2.y p q;have h:=hf.2;unfold su at h;unfold W0 W1 W2;omega
 have hx:=avS t.e0.x t.e0.y t.e1.x t.e1.y t.e2.x t.e2.y p q;have hy:=avT t.e0.x t.e0.y t.e1.x t.e1.y t.e2.x t.e2.y p q;have a1:=aic _ _ _ _ _ _ h0 h1 h2 hs hx;have a2:=anX _ _ _ _ _ _ h0 h1 h2 hs hx;have a3:=aic _ _ _ _ _ _ h0 h1 h2 hs hy;have a4:=anX _ _ _ _ _ _ h0 h1 h2 hs hy;omega
theorem aeI (t:aK) (x y:Int):∃ s e,lj t x y=some (s,e)/\(e=0->DS t/\Pix x y/\0<=W0 t (8 * x+4) (8 * y+4)/\0<=W1 t (8 * x+4) (8 * y+4)/\0<=W2 t (8 * x+4) (8 * y+4)):=by
 obtain ⟨c,e,h1,h2⟩:=aa3 t x y;have hE:∃ w e,ml t x y=some (w,e):=by
  rcases NA t x y with ⟨_,_,h⟩ | ⟨w,e,h,_⟩
  ·exact ⟨_,_,h⟩
  ·exact ⟨_,_,h⟩
 obtain ⟨w,e',h3⟩:=hE;unfold lj;have e0:vG t x y=some (c,e):=h1;have e1:dN t x y=some (w,e'):=h3;rw [e0,e1];simp only [bx,ai,bq];by_cases he:e=0
 ·subst he
  cases c with
  | true=>
   simp only [jO,aw,jk];obtain ⟨r2,g2⟩:∃ r,yP t x y=some r:=IK _ _;obtain ⟨r3,g3⟩:∃ r,vH t x y=some r:=IK _ _;obtain ⟨r4,g4⟩:∃ r,vI t x y=some r:=IK _ _;rw [g2,g3,g4];cases hb:(e' != (0:Int)) with
   | true=>exact ⟨_,_,rfl,fun _=>h2 rfl rfl⟩
   | false=>exact ⟨_,_,rfl,fun _=>h2 rfl rfl⟩
  | false=>exact ⟨_,6,rfl,fun h=>by omega⟩
 ·have:(e != (0:Int))=true:=by simpa using he
  rw [this];exact ⟨_,e,rfl,fun h=>absurd h he⟩
end Go.Proofs.YtchbpckkmgcgkaaGreat.b
end
section
namespace Go.Proofs.YtchbpckkmgcgkaaGreat.b
open Go.K
open Go.aF (aq)
theorem np {α:Type} {c:Bool} {a b:Option α} (ha:c=true->a.isSome=true) (hb:c=false->b.isSome=true):(cond c a b).isSome=true:=by
 cases c with
 | true=>exact ha rfl
 | false=>exact hb rfl
theorem avU {α:Type} {a:Option α} (h:∃ r,a=some r):a.isSome=true:=by obtain ⟨r,h⟩:=h; rw [h]; rfl
theorem OD {α:Type} {a:Option α} (h:a.isSome=true):∃ r,a=some r:=afO.1 h
theorem OE (p:bK):(kY p).isSome=true:=by
 unfold kY
 repeat' (refine np (fun _=>?_) (fun _=>?_))
 all_goals rfl
theorem arz (ax:Int) (l:Sl bK) (hn:l.n<=1000):(s6 ax l).isSome=true:=by
 obtain ⟨e,x',h1,h2⟩:=bn (step:=lh) (x:=⟨0,l,((l.n:Nat):Int),(0:Int)⟩)
  (fun j x=>x=⟨0,l,((l.n:Nat):Int),(j:Int)⟩/\j<=l.n)
  (fun e _=>e = .exit 0\/e = .ret) l.n (by have:gd=1000000000000:=rfl; omega)
  (fun j x hj ⟨hx,hle⟩=>by
   subst hx;unfold lh bj;by_cases bt:j < l.n
   ·have e1:decide ((j:Int) < ((l.n:Nat):Int))=true:=av (by omega)
    have e2:decide ((0:Int)<=(j:Int))=true:=av (by omega);obtain ⟨r,hr⟩:=OD (OE (l.get j));have e3:qN ⟨0,l,((l.n:Nat):Int),(j:Int)⟩=some r:=hr;simp only [e1,e2,e3,ai,bD,bx,bq];cases (r != (0:Int)) with
    | true=>right; exact ⟨_,_,rfl,rfl,.inr rfl⟩
    | false=>
     left;refine ⟨_,rfl,by omega,?_,by omega⟩;rw [aj (by omega) (by omega)]; rfl
   ·have e1:decide ((j:Int) < ((l.n:Nat):Int))=false:=az (by omega)
    simp only [e1,aw];right;exact ⟨_,_,rfl,rfl,.inl rfl⟩)
  ⟨rfl,by omega⟩
 have h0:sa ax l = .out e x':=h1;unfold s6;rw [h0,aJ.kO,aJ.kO,aJ.lG];refine np (fun _=>rfl) (fun _=>np (fun _=>rfl) (fun _=>?_));rcases h2 with rfl | rfl <;> rfl
theorem Bv (a b:Int):(cR a b).isSome=true:=avU (IK a b)
theorem auG (ax:Int) (a b:bK):(fk ax a b).isSome=true:=by
 have e0:(yO ax a b).isSome=true:=arz _ _ (show 2<=1000 by omega);have e1:(H6 ax a b).isSome=true:=Bv _ _;have e2:(H7 ax a b).isSome=true:=Bv _ _;have e3:(H8 ax a b).isSome=true:=Bv _ _;have e4:(H9 ax a b).isSome=true:=Bv _ _;unfold fk;simp only [e0,e1,e2,e3,e4,ai]
 repeat' (refine np (fun _=>?_) (fun _=>?_))
 all_goals rfl
theorem atq (m:cN):(xC m).isSome=true:=by
 unfold xC
 repeat' (refine np (fun _=>?_) (fun _=>?_))
 all_goals rfl
theorem atr (m:cN) (v:jz):(Ae m v).isSome=true:=by
 have e0:(H2 m v).isSome=true:=Bv _ _;have e1:(H3 m v).isSome=true:=Bv _ _;have e2:(H4 m v).isSome=true:=Bv _ _;unfold Ae;simp only [e0,e1,e2,ai];rfl
theorem avV (di:Int) (l:Sl Int) (hn:l.n<=1000) (hm:0<=di/\di<=1000000):(Em di l).isSome=true:=by
 obtain ⟨b,h,_⟩:=aia di l hn hm;rw [h]; rfl
theorem ats (m:cN) (v:iP):(Af m v).isSome=true:=by
 have e0:(H5 m v).isSome=true:=atq _;have e1:(C1 m v).isSome=true:=avV _ _ (show 3<=1000 by omega) (by omega);have e2:(vF m v).isSome=true:=atr _ _;unfold Af;simp only [e0,e1,e2,ai]
 repeat' (refine np (fun _=>?_) (fun _=>?_))
 all_goals rfl
theorem aa4 (v:iP):(sM v).isSome=true:=by obtain ⟨e,h,_⟩:=Ak v; rw [h]; rfl
theorem aid (n a b:Int):eD n a b=some (decide (a<=n/\n<=b)):=by
 unfold eD;by_cases h:n >= a
 ·simp only [av h,ai]
  congr 1;by_cases h2:n<=b
  ·rw [av h2,av ⟨h,h2⟩]
  ·rw [az h2,az (fun q=>h2 q.2)]
 ·simp only [az h,aw]
  rw [az (fun q=>h q.1)]
def Vg (c:aE):Prop:=zc c.pos/\(1<=c.sN/\c.sN<=64)/\(256<=c.ax/\c.ax<=4096)/\(1<=c.w/\c.w<=64)/\1<=c.h/\c.h<=64
theorem vf (c:aE):∃ e,jD c=some e/\(e=0->Vg c):=by
 obtain ⟨e,h1,h2⟩:=Ak c.pos;unfold jD zo zp zq zr zt zu zv zw zx zy xY xZ x4 x5;simp only [aid,h1,bx,bq,ai];have key:∀ (b:Bool) (r:Option Int),(b=true->∃ e,r=some e/\(e=0->Vg c))->∃ e,cond b r (some 150)=some e/\(e=0->Vg c):=by
  intro b r h;cases b with
  | true=>exact h rfl
  | false=>exact ⟨150,rfl,fun h=>by omega⟩
 refine key _ _ fun g0=>key _ _ fun g1=>key _ _ fun g2=>key _ _ fun g3=>key _ _ fun g4=>?_;have cq:Vg c:=by
  simp only [lA] at g1 g2 g3 g4;exact ⟨h2.1 (by simpa using g0),g1,g2,g3,g4⟩
 repeat' (refine key _ _ fun _=>?_)
 cases (!decide (-256<=c.m.e2.e2/\c.m.e2.e2<=256)) with
 | true=>exact ⟨150,rfl,fun h=>by omega⟩
 | false=>exact ⟨0,rfl,fun _=>cq⟩
theorem afh (c:aE):(jD c).isSome=true:=by obtain ⟨e,h,_⟩:=vf c; rw [h]; rfl
theorem aie (c:aE) (v:iP):(mj c v).isSome=true:=by
 have e0:(wN c v).isSome=true:=afh _;have e1:(wO c v).isSome=true:=aa4 _;have e2:(tt c v).isSome=true:=ats _ _;unfold mj;simp only [e0,e1,e2,ai]
 repeat' (refine np (fun _=>?_) (fun _=>?_))
 all_goals rfl
theorem anY (t:aK):(rp t).isSome=true:=by
 rcases FL t with ⟨_,h⟩ | ⟨_,e,h,_⟩ <;> rw [h] <;> rfl
theorem akD (t:aK) (k:Int):(rq t k).isSome=true:=by
 have e0:(oi t k).isSome=true:=anY t;unfold rq;simp only [e0,ai]
 repeat' (refine np (fun _=>?_) (fun _=>?_))
 all_goals rfl
theorem arA (t:aK):(s4 t).isSome=true:=by
 have e0:(r8 t).isSome=true:=anY t;unfold s4;simp only [e0,ai]
 repeat' (refine np (fun _=>?_) (fun _=>?_))
 all_goals rfl
theorem eZ {b n m:Nat} (hb:b<=1000:=by omega) (hn:n<=1000000:=by omega) (hm:0 < m/\m<=1000:=by omega):ij b n m=true:=vc (by omega) (by omega) (by omega) (.inl hm.1)
def NQ (j:Nat) (x:bB) (r:aJ bB):Prop:=∃ x',r = .next x'/\x'.t23=((j+1:Nat):Int)/\x'.l.n<=x.l.n+2/\x'.out=x.out/\x'.ax=x.ax
theorem NQ.cond {j:Nat} {x:bB} {c:Bool} {a b:aJ bB} (h1:c=true->NQ j x a) (h2:c=false->NQ j x b):NQ j x (_root_.cond c a b):=by
 cases c with
 | true=>exact h1 rfl
 | false=>exact h2 rfl
theorem apj (j:Nat) (hj:j < 3) (x:bB) (hx:x.t23=(j:Int)) (hl:x.l.n<=10):NQ j x (dK x):=by
 have c:∀ (ax:Int) (a b:bK),(fk ax a b).isSome=true:=auG;have e0:(LN x).isSome=true:=c _ _ _;have e1:(LO x).isSome=true:=c _ _ _;have e2:(DP x).isSome=true:=c _ _ _;have e3:(DQ x).isSome=true:=c _ _ _;have e4:(LP x).isSome=true:=c _ _ _;have e5:(LQ x).isSome=true:=c _ _ _;have e6:(LR x).isSome=true:=c _ _ _;have e7:(LS x).isSome=true:=c _ _ _;have e8:(LU x).isSome=true:=c _ _ _;have e9:(LV x).isSome=true:=c _ _ _;have e10:(Cg x).isSome=true:=c _ _ _;have e11:(Ch x).isSome=true:=c _ _ _;have e12:(Ci x).isSome=true:=c _ _ _;have e13:(Cj x).isSome=true:=c _ _ _;have e14:(JV x).isSome=true:=c _ _ _;have e15:(JW x).isSome=true:=c _ _ _;have e16:(JX x).isSome=true:=c _ _ _;have e17:(JY x).isSome=true:=c _ _ _;have a1:ij 40 x.l.n 1=true:=eZ;have a2:ij 40 (x.l.n+1) 1=true:=eZ;have hw:ak ((j:Int)+1)=((j+1:Nat):Int):=by rw [aj (by omega) (by omega)]; rfl
 unfold dK eo nm aC;simp only [e0,e1,e2,e3,e4,e5,e6,e7,e8,e9,e10,e11,e12,e13,e14,e15,e16,e17,a1,a2,aG,ai,bD,hx,hw]
 match j,hj with
 | 0,_=>
  have d1:decide (((0:Nat):Int) < 3)=true:=by decide
  have d2:decide (((0:Nat):Int)=0)=true:=by decide
  have d3:decide (Int.tmod ((0+1:Nat):Int) 3=0)=false:=by decide
  have d4:decide (Int.tmod ((0+1:Nat):Int) 3=1)=true:=by decide
  simp only [d1,d2,d3,d4,ai,aw]
  repeat' (refine NQ.cond (fun _=>?_) (fun _=>?_))
  all_goals exact ⟨_,rfl,rfl,by first | (simp only [Sl.RQ]; omega) | omega,rfl,rfl⟩
 | 1,_=>
  have d1:decide (((1:Nat):Int) < 3)=true:=by decide
  have d2:decide (((1:Nat):Int)=0)=false:=by decide
  have d5:decide (((1:Nat):Int)=1)=true:=by decide
  have d3:decide (Int.tmod ((1+1:Nat):Int) 3=0)=false:=by decide
  have d4:decide (Int.tmod ((1+1:Nat):Int) 3=1)=false:=by decide
  have d6:decide (Int.tmod ((1+1:Nat):Int) 3=2)=true:=by decide
  simp only [d1,d2,d3,d4,d5,d6,ai,aw]
  repeat' (refine NQ.cond (fun _=>?_) (fun _=>?_))
  all_goals exact ⟨_,rfl,rfl,by first | (simp only [Sl.RQ]; omega) | omega,rfl,rfl⟩
 | 2,_=>
  have d1:decide (((2:Nat):Int) < 3)=true:=by decide
  have d2:decide (((2:Nat):Int)=0)=false:=by decide
  have d5:decide (((2:Nat):Int)=1)=false:=by decide
  have d7:decide (((2:Nat):Int)=2)=true:=by decide
  have d3:decide (Int.tmod ((2+1:Nat):Int) 3=0)=true:=by decide
  simp only [d1,d2,d3,d5,d7,ai,aw]
  repeat' (refine NQ.cond (fun _=>?_) (fun _=>?_))
  all_goals exact ⟨_,rfl,rfl,by first | (simp only [Sl.RQ]; omega) | omega,rfl,rfl⟩
theorem akE (ax:Int) (t:bk):∃ x',il ax t = .out (.exit 0) x'/\x'.l.n<=6/\x'.out.n=0:=by
 have key:∀ x:bB,_->_:=fun x h0=>bn (x:=x) (h0:=h0) (step:=dK) (fun j x=>x.t23=(j:Int)/\x.l.n<=2 * j/\x.out.n=0) (fun e x=>e = .exit 0/\x.l.n<=6/\x.out.n=0) 3 (by decide)
  (fun j x hj ⟨hx,hl,ho⟩=>by
   by_cases h:j < 3
   ·obtain ⟨x',h1,h2,h3,h4,_⟩:=apj j h x hx (by omega)
    exact .inl ⟨x',h1,h,h2,by omega,by rw [h4]; exact ho⟩
   ·have h3:j=3:=by omega
    subst h3;refine .inr ⟨.exit 0,x,?_,rfl,rfl,by omega,ho⟩;unfold dK eo nm aC;simp only [hx,aG,ai,show decide (((3:Nat):Int) < 3)=false from by decide,aw])
 have fin:∃ e x',il ax t = .out e x'/\(e = .exit 0/\x'.l.n<=6/\x'.out.n=0):=by
  unfold il;exact key _ ⟨rfl,aW _,rfl⟩
 obtain ⟨e,x',h1,rfl,h2,h3⟩:=fin;exact ⟨x',h1,h2,h3⟩
theorem arB (ax:Int) (t:bk):∃ x',kJ ax t = .out (.exit 2) x'/\x'.out.n<=6:=by
 obtain ⟨y,hy,hl,ho⟩:=akE ax t;have key:∀ x:oV,_->_:=fun x h0=>bn (x:=x) (h0:=h0) (step:=lk) (fun j x=>x.i=((2+j:Nat):Int)/\x.l.n<=6/\x.out.n=j/\(x.i<=(x.l.n:Int)\/j=0)) (fun e x=>e = .exit 2/\x.out.n<=6) 6 (by decide)
  (fun j x hj ⟨hx,hl,ho,hi⟩=>by
   unfold lk bj nm aC;by_cases h:x.i < ((x.l.n:Nat):Int)
   ·have w1:ak (x.i - 1)=x.i - 1:=aj
    have w2:ak (x.i+1)=x.i+1:=aj;have a1:ij 120 x.out.n 1=true:=eZ;refine .inl ⟨⟨(x.out.push (⟨(x.l.get 0),(x.l.get (Int.toNat (ak (x.i - (1:Int))))),(x.l.get (Int.toNat x.i))⟩:bk)),x.e,x.l,(ak (x.i+(1:Int)))⟩,?_,by omega,?_,hl,?_,?_⟩
    ·simp only [w1,w2,a1,aG,ai,bD,av h,av (show (0:Int) < ((x.l.n:Nat):Int) by omega),av (show (0:Int)<=x.i - 1 by omega),av (show x.i - 1 < ((x.l.n:Nat):Int) by omega),av (show (0:Int)<=x.i by omega)]
    ·show ak (x.i+1)=_
     omega
    ·simp only [Sl.RQ]; omega
    ·exact .inl (by show ak (x.i+1)<=((x.l.n:Nat):Int); omega)
   ·refine .inr ⟨.exit 2,x,?_,rfl,rfl,by omega⟩
    simp only [aG,ai,aw,az h])
 have fin:∃ e x',kJ ax t = .out e x'/\(e = .exit 2/\x'.out.n<=6):=by
  unfold kJ;rw [hy];exact key _ ⟨rfl,hl,ho,.inr rfl⟩
 obtain ⟨e,x',h1,rfl,h2⟩:=fin;exact ⟨x',h1,h2⟩
theorem att (ax:Int) (t:bk):∃ r,vd ax t=some r/\r.1.n<=6:=by
 obtain ⟨y,hy,hl,ho⟩:=akE ax t;obtain ⟨z,hz,hn⟩:=arB ax t;have c:∀ (p:bK),(kY p).isSome=true:=OE;have e0:(wS ax t).isSome=true:=c _;have e3:(wT ax t).isSome=true:=c _;have e4:(wU ax t).isSome=true:=c _;unfold vd se yw aC;have b1:(il ax t).by (.exit 0)=true:=by rw [hy]; rfl
 have b2:(kJ ax t).by (.exit 2)=true:=by rw [hz]; rfl
 have s2:(kJ ax t).st=z:=by rw [hz]; rfl
 simp only [e0,e3,e4,b1,b2,s2,aG,ai];have q:∀ {c:Bool} {a b:Option (Sl bk×Int)},(∃ r,a=some r/\r.1.n<=6)->(∃ r,b=some r/\r.1.n<=6)->∃ r,_root_.cond c a b=some r/\r.1.n<=6:=fun {c} {a} {b} h1 h2=>by
  cases c with
  | true=>exact h1
  | false=>exact h2
 repeat' (refine q ?_ ?_)
 all_goals first | exact ⟨_,rfl,cP _⟩ | exact ⟨(z.out,0),rfl,hn⟩
theorem ac2 (c:aE) (p:bK):(px c p).isSome=true:=by
 obtain ⟨e,h1,h2⟩:=vf c;have e0:yz c p=some e:=h1;have e1:(yA c p).isSome=true:=OE _;have e2:(Ds c p).isSome=true:=Bv _ _;have e3:(Dt c p).isSome=true:=Bv _ _;unfold px;simp only [e0,e1,e2,e3,ai,bx,bq];refine np (fun _=>rfl) (fun he=>np (fun _=>rfl) (fun _=>np (fun _=>rfl) (fun hz=>?_)));have Iq:e=0:=by simpa using he
 obtain ⟨_,_,hn,_⟩:=h2 Iq;have hz' : ¬ p.p.z < c.ax:=of_decide_eq_false hz;have q:decide (p.p.z=(0:Int))=false:=az (by omega);rw [q];rfl
def Qd (x:Item):Prop:=x.uV.n=x.aH.n/\∀ i,i < x.bf.n->(0<=(x.bf.get i).e0/\(x.bf.get i).e0 < (x.aH.n:Int))/\(0<=(x.bf.get i).e1/\(x.bf.get i).e1 < (x.aH.n:Int))/\0<=(x.bf.get i).e2/\(x.bf.get i).e2 < (x.aH.n:Int)
theorem apk (x:fq) (h0:x.t74=0) (h1:x.t73=(x.t72.n:Int)) (h2:x.t72.n<=6) (h3:x.out.n=0):∃ x',goN gS x = .out (.exit 2) x'/\x'.out.n<=6:=by
 have key:=bn (step:=gS) (x:=x) (fun j x=>x.t74=(j:Int)/\x.t73=(x.t72.n:Int)/\x.t72.n<=6/\x.out.n<=j/\j<=x.t72.n) (fun e x=>e = .exit 2/\x.out.n<=6) 6 (by decide)
  (fun j x hj ⟨hx,ht,hn,ho,hjn⟩=>by
   have e0:(oX x).isSome=true:=ac2 _ _;have e1:(oY x).isSome=true:=ac2 _ _;have e2:(oZ x).isSome=true:=ac2 _ _;have e3:(o4 x).isSome=true:=akD _ _;have e4:(rD x).isSome=true:=arA _;have w1:ak (x.t74+1)=x.t74+1:=aj;have a1:ij 120 x.out.n 1=true:=eZ;unfold gS bj nm aC;by_cases h:x.t74 < x.t73
   ·simp only [e0,e1,e2,e3,e4,w1,a1,aG,ai,bD,av h,av (show (0:Int)<=x.t74 by omega),av (show x.t74 < ((x.t72.n:Nat):Int) by omega)]
    left;cases ((o4 x).getD default).fst with
    | true=>exact ⟨_,rfl,by omega,by show x.t74+1=_; omega,ht,hn,by simp only [Sl.RQ]; omega,by show j+1<=x.t72.n; omega⟩
    | false=>exact ⟨_,rfl,by omega,by show x.t74+1=_; omega,ht,hn,by show x.out.n<=_; omega,by show j+1<=x.t72.n; omega⟩
   ·simp only [aG,ai,aw,az h]
    exact .inr ⟨_,_,rfl,rfl,rfl,by omega⟩)
  ⟨h0,h1,h2,by omega,cP _⟩
 obtain ⟨e,x',h1,rfl,h2⟩:=key;exact ⟨x',h1,h2⟩
theorem aeJ (s:Show) (c:aE) (i j:Nat) (hi:i < s.items.n) (hj:j < (s.items.get i).bf.n) (ok:Qd (s.items.get i)):∃ r,kM s c (i:Int) (j:Int)=some r/\r.n<=6:=by
 obtain ⟨hu,hv⟩:=ok;obtain ⟨⟨v1,v2⟩,⟨v3,v4⟩,v5,v6⟩:=hv j hj;have e0:(o5 s c i j).isSome=true:=aie _ _;have e1:(o6 s c i j).isSome=true:=aie _ _;have e2:(o7 s c i j).isSome=true:=aie _ _;obtain ⟨r,hr,hn⟩:∃ r,mT s c i j=some r/\r.1.n<=6:=att _ _;obtain ⟨z,hz,MS⟩:∃ x',hZ s c i j = .out (.exit 2) x'/\x'.out.n<=6:=by
  unfold hZ;rw [hr];exact apk _ rfl rfl hn rfl
 have b1:(hZ s c i j).by (.exit 2)=true:=by rw [hz]; rfl
 have b2:(hZ s c i j).st=z:=by rw [hz]; rfl
 refine ⟨z.out,?_,MS⟩;unfold kM bj;simp only [e0,e1,e2,hr,b1,b2,hu,bU,bx,ai,bD,av v1,av v2,av v3,av v4,av v5,av v6,av (show (0:Int)<=(i:Int) by omega),av (show (0:Int)<=(j:Int) by omega),av (show (i:Int) < ((s.items.n:Nat):Int) by omega),av (show (j:Int) < (((s.items.get i).bf.n:Nat):Int) by omega)]
theorem ac3 (n:Int):(yQ n).isSome=true:=by
 unfold yQ;exact np (fun _=>rfl) (fun _=>rfl)
theorem auH (l:Sl iP) (hn:l.n<=4096):∃ e x',fJ l = .out e x'/\(e = .ret\/e = .exit 0/\x'.l=l):=by
 unfold fJ;refine bn (step:=qk) (fun j x=>x.l=l/\x.t17=l/\x.t18=(l.n:Int)/\x.t19=(j:Int)/\j<=l.n) (fun e x'=>e = .ret\/e = .exit 0/\x'.l=l) l.n (by have:gd=1000000000000:=rfl; omega) (fun j x hj ⟨h1,h2,h3,h4,h5⟩=>?_) ⟨rfl,rfl,rfl,rfl,cP _⟩;have e0:(wV x).isSome=true:=ac3 _;have e1:(wW x).isSome=true:=ac3 _;have e2:(wX x).isSome=true:=ac3 _;have w1:ak (x.t19+1)=x.t19+1:=aj;unfold qk qO bj;by_cases h:x.t19 < x.t18
 ·simp only [e0,e1,e2,w1,ai,bD,av h,av (show (0:Int)<=x.t19 by omega),av (show x.t19 < ((x.t17.n:Nat):Int) by rw [h2]; omega)]
  cases (!((wV x).getD default)) with
  | true=>exact .inr ⟨_,_,rfl,rfl,.inl rfl⟩
  | false=>
   cases (!((wW x).getD default)) with
   | true=>exact .inr ⟨_,_,rfl,rfl,.inl rfl⟩
   | false=>
    cases (!((wX x).getD default)) with
    | true=>exact .inr ⟨_,_,rfl,rfl,.inl rfl⟩
    | false=>exact .inl ⟨_,rfl,by omega,h1,h2,h3,by show x.t19+1=_; omega,by omega⟩
 ·simp only [aw,az h]
  exact .inr ⟨_,_,rfl,rfl,.inr ⟨rfl,h1⟩⟩
theorem atu (x:s7) (hn:x.t49.n<=4096) (h0:x.t50=(x.t49.n:Int)) (h1:x.t51=0):∃ x',goN mR x = .out (.exit 2) x':=by
 obtain ⟨e,x',h,rfl⟩:=bn (step:=mR) (x:=x) (fun j y=>y.t49=x.t49/\y.t50=(x.t49.n:Int)/\y.t51=(j:Int)/\j<=x.t49.n) (fun e _=>e = .exit 2) x.t49.n (by have:gd=1000000000000:=rfl; omega) (fun j y hj ⟨h2,h3,h4,h5⟩=>by
  have w1:ak (y.t51+1)=y.t51+1:=aj;unfold mR bj;by_cases h:y.t51 < y.t50
  ·simp only [w1,ai,bD,av h,av (show (0:Int)<=y.t51 by omega),av (show y.t51 < ((y.t49.n:Nat):Int) by rw [h2]; omega)]
   exact .inl ⟨_,rfl,by omega,h2,h3,by show y.t51+1=_; omega,by omega⟩
  ·simp only [aw,az h]
   exact .inr ⟨_,_,rfl,rfl,rfl⟩) ⟨rfl,h0,h1,cP _⟩
 exact ⟨x',h⟩
theorem arC (l:Sl iP):(Bt l).isSome=true:=by
 unfold Bt Bs;refine np (fun _=>rfl) (fun h0=>np (fun _=>rfl) (fun h1=>?_));have hz:l.n≠0:=fun h=>by
  rw [h] at h0;exact absurd h0 (by decide)
 have hn:l.n<=4096:=by
  have:=of_decide_eq_false h1;omega
 obtain ⟨e,x',hx,h⟩:=auH l hn;rcases h with rfl | ⟨rfl,hl⟩
 ·have b1:(fJ l).by (.exit 0)=false:=by rw [hx]; rfl
  have b2:(fJ l).by .ret=true:=by rw [hx]; rfl
  simp only [b1,b2,ai,aw];rfl
 ·have b1:(fJ l).by (.exit 0)=true:=by rw [hx]; rfl
  have b2:(fJ l).st.l=l:=by rw [hx]; exact hl
  obtain ⟨y,hy⟩:∃ y,ve l = .out (.exit 2) y:=by
   unfold ve;simp only [b2];exact atu _ (by show Int.toNat _ - 1<=4096; omega) rfl rfl
  have b3:(ve l).by (.exit 2)=true:=by rw [hy]; rfl
  simp only [b1,b2,b3,ai,bD,av (show (0:Int) < ((l.n:Nat):Int) by omega),av (show (1:Int)<=((l.n:Nat):Int) by omega),av (show ((l.n:Nat):Int)<=((l.n:Nat):Int) by omega)];rfl
theorem aa5 (n:Int):(kK n).isSome=true:=by
 unfold kK;exact np (fun _=>rfl) (fun _=>rfl)
theorem aa6 (t:bF):(eS t).isSome=true:=by
 have e0:(tQ t).isSome=true:=aa5 _;have e1:(tR t).isSome=true:=aa5 _;unfold eS;simp only [e0,e1,ai]
 repeat' (refine np (fun _=>?_) (fun _=>?_))
 all_goals rfl
theorem OG (l:Sl bF):(gf l).isSome=true:=by
 unfold gf;refine np (fun _=>rfl) (fun h0=>?_);have hn:l.n<=16:=by
  have:=of_decide_eq_false h0;omega
 obtain ⟨e,x',h1,h2⟩:∃ e x',dL l = .out e x'/\(e = .ret\/e = .exit 0):=by
  unfold dL;refine bn (step:=fO) (fun j x=>x.t9=l/\x.t10=(l.n:Int)/\x.t11=(j:Int)/\j<=l.n) (fun e _=>e = .ret\/e = .exit 0) l.n (by have:gd=1000000000000:=rfl; omega) (fun j x hj ⟨h2,h3,h4,h5⟩=>?_) ⟨rfl,rfl,rfl,cP _⟩;have e0:(iW x).isSome=true:=aa6 _;have w1:ak (x.t11+1)=x.t11+1:=aj;unfold fO bj;by_cases h:x.t11 < x.t10
  ·simp only [e0,w1,ai,bD,av h,av (show (0:Int)<=x.t11 by omega),av (show x.t11 < ((x.t9.n:Nat):Int) by rw [h2]; omega)]
   cases (((iW x).getD default) != (0:Int)) with
   | true=>exact .inr ⟨_,_,rfl,rfl,.inl rfl⟩
   | false=>exact .inl ⟨_,rfl,by omega,h2,h3,by show x.t11+1=_; omega,by omega⟩
  ·simp only [aw,az h]
   exact .inr ⟨_,_,rfl,rfl,.inr rfl⟩
 rcases h2 with rfl | rfl
 ·have b1:(dL l).by (.exit 0)=false:=by rw [h1]; rfl
  have b2:(dL l).by .ret=true:=by rw [h1]; rfl
  simp only [b1,b2,ai,aw];rfl
 ·have b1:(dL l).by (.exit 0)=true:=by rw [h1]; rfl
  simp only [b1,ai];rfl
theorem aif (l:yx) (t:Int):(eO l t).isSome=true:=by
 unfold eO
 repeat' (refine np (fun _=>?_) (fun _=>?_))
 all_goals rfl
theorem atv (x:Item) (t:Int) (hn:x.aH.n<=64) (hu:x.uV.n=x.aH.n):∃ e x',ek x t = .out e x'/\(e = .ret/\x'.t4=false\/e = .exit 0/\x'.n=(x.aH.n:Int)/\x'.x=x/\x'.t4=false):=by
 unfold ek;refine bn (step:=ll) (fun j y=>y.x=x/\y.t38=x.aH/\y.t39=(x.aH.n:Int)/\y.t40=(j:Int)/\j<=x.aH.n/\y.n=(x.aH.n:Int)/\y.t4=false) (fun e y=>e = .ret/\y.t4=false\/e = .exit 0/\y.n=(x.aH.n:Int)/\y.x=x/\y.t4=false) x.aH.n (by have:gd=1000000000000:=rfl; omega) (fun j y hj ⟨h1,h2,h3,h4,h5,h6,h7⟩=>?_) ⟨rfl,rfl,rfl,rfl,cP _,rfl,rfl⟩;have e0:(qP y).isSome=true:=aa4 _;have w1:ak (y.t40+1)=y.t40+1:=aj;unfold ll bj;by_cases h:y.t40 < y.t39
 ·simp only [e0,w1,ai,bD,av h,av (show (0:Int)<=y.t40 by omega),av (show y.t40 < ((y.t38.n:Nat):Int) by rw [h2]; omega),av (show y.t40 < ((y.x.uV.n:Nat):Int) by rw [h1]; omega)]
  cases (((qP y).getD default) != (0:Int)) with
  | true=>exact .inr ⟨_,_,rfl,rfl,.inl ⟨rfl,rfl⟩⟩
  | false=>
   cases (decide ((min (y.x.uV.get (Int.toNat y.t40)).e0 (y.x.uV.get (Int.toNat y.t40)).e1) < (0:Int))) with
   | true=>exact .inr ⟨_,_,rfl,rfl,.inl ⟨rfl,rfl⟩⟩
   | false=>
    cases (decide ((max (y.x.uV.get (Int.toNat y.t40)).e0 (y.x.uV.get (Int.toNat y.t40)).e1) > (255:Int))) with
    | true=>exact .inr ⟨_,_,rfl,rfl,.inl ⟨rfl,rfl⟩⟩
    | false=>exact .inl ⟨_,rfl,by omega,h1,h2,h3,by show y.t40+1=_; omega,by omega,h6,h7⟩
 ·simp only [aw,az h]
  exact .inr ⟨_,_,rfl,rfl,.inr ⟨rfl,h6,h1,h7⟩⟩
def pt (l:Sl jz) (n:Int) (i:Nat):Prop:=(0<=(l.get i).e0/\(l.get i).e0 < n)/\(0<=(l.get i).e1/\(l.get i).e1 < n)/\0<=(l.get i).e2/\(l.get i).e2 < n
theorem atw (x:mS) (hn:x.t82.n<=64) (h0:x.t83=(x.t82.n:Int)) (h1:x.t84=0) (h2:x.t4=false):∃ e x',goN iD x = .out e x'/\(e = .ret/\x'.t4=false\/e = .exit 2/\x'.n=x.n/\x'.x=x.x/\∀ i,i < x.t82.n->pt x.t82 x.n i):=by
 refine bn (step:=iD) (fun j y=>y.x=x.x/\y.t82=x.t82/\y.t83=(x.t82.n:Int)/\y.t84=(j:Int)/\j<=x.t82.n/\y.n=x.n/\y.t4=false/\∀ i,i < j->pt x.t82 x.n i) (fun e y=>e = .ret/\y.t4=false\/e = .exit 2/\y.n=x.n/\y.x=x.x/\∀ i,i < x.t82.n->pt x.t82 x.n i) x.t82.n (by have:gd=1000000000000:=rfl; omega) (fun j y hj ⟨h1,h2,h3,h4,h5,h6,h7,h8⟩=>?_) ⟨rfl,rfl,h0,h1,cP _,rfl,h2,fun i h=>absurd h (mJ _)⟩;have w1:ak (y.t84+1)=y.t84+1:=aj;unfold iD bj;by_cases h:y.t84 < y.t83
 ·simp only [w1,ai,bD,av h,av (show (0:Int)<=y.t84 by omega),av (show y.t84 < ((y.t82.n:Nat):Int) by rw [h2]; omega)]
  cases g1:decide ((min (min (y.t82.get (Int.toNat y.t84)).e0 (y.t82.get (Int.toNat y.t84)).e1) (y.t82.get (Int.toNat y.t84)).e2) < (0:Int)) with
  | true=>exact .inr ⟨_,_,rfl,rfl,.inl ⟨rfl,rfl⟩⟩
  | false=>
   cases g2:decide ((max (max (y.t82.get (Int.toNat y.t84)).e0 (y.t82.get (Int.toNat y.t84)).e1) (y.t82.get (Int.toNat y.t84)).e2) >= y.n) with
   | true=>exact .inr ⟨_,_,rfl,rfl,.inl ⟨rfl,rfl⟩⟩
   | false=>
    refine .inl ⟨_,rfl,by omega,h1,h2,h3,by show y.t84+1=_; omega,by omega,h6,h7,fun i hi=>?_⟩;by_cases vD:i < j
    ·exact h8 i vD
    ·have e:i=j:=by omega
     subst e;have g1':=of_decide_eq_false g1;have g2':=of_decide_eq_false g2;rw [h2,h4,bU] at g1' g2';rw [h6] at g2';unfold pt;omega
 ·simp only [aw,az h]
  exact .inr ⟨_,_,rfl,rfl,.inr ⟨rfl,h6,h1,fun i hi=>h8 i (by omega)⟩⟩
theorem akF (x:Item) (t:Int):∃ b,om x t=some b/\(b=true->x.aH.n<=64/\x.bf.n<=64/\Qd x):=by
 have no:∃ b,(some false:Option Bool)=some b/\(b=true->x.aH.n<=64/\x.bf.n<=64/\Qd x):=⟨false,rfl,fun h=>absurd h (by decide)⟩
 unfold om;cases g1:decide (((x.aH.n:Nat):Int) > (64:Int)) with
 | true=>exact no
 | false=>
 cases g2:(((x.uV.n:Nat):Int) != ((x.aH.n:Nat):Int)) with
 | true=>exact no
 | false=>
 cases g3:decide (((x.bf.n:Nat):Int) > (64:Int)) with
 | true=>exact no
 | false=>
 have e0:(wY x t).isSome=true:=aif _ _;simp only [aw,ai,e0];cases (((wY x t).getD default) != (0:Int)) with
 | true=>exact no
 | false=>
 have hv:x.aH.n<=64:=by
  have:=of_decide_eq_false g1;omega
 have ht:x.bf.n<=64:=by
  have:=of_decide_eq_false g3;omega
 have hu:x.uV.n=x.aH.n:=by
  have:((x.uV.n:Nat):Int)=((x.aH.n:Nat):Int):=by simpa using g2
  omega
 obtain ⟨e,y,hy,h⟩:=atv x t hv hu;rcases h with ⟨rfl,hf⟩ | ⟨rfl,hn,hx,hf⟩
 ·have b1:(ek x t).by (.exit 0)=false:=by rw [hy]; rfl
  have b2:(ek x t).by .ret=true:=by rw [hy]; rfl
  have b3:(ek x t).st.t4=false:=by rw [hy]; exact hf
  simp only [b1,b2,b3,ai,aw];exact no
 ·have b1:(ek x t).by (.exit 0)=true:=by rw [hy]; rfl
  have s1:(ek x t).st=y:=by rw [hy]; rfl
  obtain ⟨e,z,hz,h⟩:∃ e z,dv x t = .out e z/\(e = .ret/\z.t4=false\/e = .exit 2/\z.n=(x.aH.n:Int)/\z.x=x/\∀ i,i < x.bf.n->pt x.bf (x.aH.n:Int) i):=by
   unfold dv;rw [s1,hn,hx];exact atw _ ht rfl rfl hf
  rcases h with ⟨rfl,hf'⟩ | ⟨rfl,_,hx',qD⟩
  ·have b2:(dv x t).by (.exit 2)=false:=by rw [hz]; rfl
   have b3:(dv x t).by .ret=true:=by rw [hz]; rfl
   have b4:(dv x t).st.t4=false:=by rw [hz]; exact hf'
   simp only [b1,b2,b3,b4,ai,aw];exact no
  ·have b2:(dv x t).by (.exit 2)=true:=by rw [hz]; rfl
   have e3:(jF x t).isSome=true:=arC _;simp only [b1,b2,e3,ai];have ok:x.aH.n<=64/\x.bf.n<=64/\Qd x:=⟨hv,ht,hu,qD⟩
   have q:∀ {c:Bool} {a b:Option Bool},(∃ r,a=some r/\(r=true->x.aH.n<=64/\x.bf.n<=64/\Qd x))->(∃ r,b=some r/\(r=true->x.aH.n<=64/\x.bf.n<=64/\Qd x))->∃ r,_root_.cond c a b=some r/\(r=true->x.aH.n<=64/\x.bf.n<=64/\Qd x):=fun {c} {a} {b} h1 h2=>by
    cases c with
    | true=>exact h1
    | false=>exact h2
   repeat' (refine q ?_ ?_)
   all_goals first | exact no | exact ⟨_,rfl,fun _=>ok⟩
def aa7 (s:Show):Prop:=s.items.n<=256/\∀ i,i < s.items.n->(s.items.get i).aH.n<=64/\(s.items.get i).bf.n<=64/\Qd (s.items.get i)
theorem S0 (s:Show):∃ e,iX s=some e/\(e=0->aa7 s):=by
 have no:∀ k:Int,k≠0->∃ e,(some k:Option Int)=some e/\(e=0->aa7 s):=fun k hk=>⟨k,rfl,fun h=>absurd h hk⟩
 unfold iX;cases g1:decide (((s.items.n:Nat):Int) > (256:Int)) with
 | true=>exact no 4 (by decide)
 | false=>
 cases decide (((s.au.n:Nat):Int) > (16:Int)) with
 | true=>exact no 4 (by decide)
 | false=>
 have hn:s.items.n<=256:=by
  have:=of_decide_eq_false g1;omega
 have e0:(tv s).isSome=true:=OG _;simp only [e0,ai,aw];cases (((tv s).getD default) != (0:Int)) with
 | true=>exact no 8 (by decide)
 | false=>
 obtain ⟨e,x',hx,h⟩:∃ e x',dU s = .out e x'/\(e = .ret/\x'.t4 >= 0\/e = .exit 0/\∀ i,i < s.items.n->(s.items.get i).aH.n<=64/\(s.items.get i).bf.n<=64/\Qd (s.items.get i)):=by
  unfold dU;refine bn (step:=cj) (fun j y=>y.s=s.items/\y.t7=(s.items.n:Int)/\y.t8=(j:Int)/\j<=s.items.n/\∀ i,i < j->(s.items.get i).aH.n<=64/\(s.items.get i).bf.n<=64/\Qd (s.items.get i)) (fun e x'=>e = .ret/\x'.t4 >= 0\/e = .exit 0/\∀ i,i < s.items.n->(s.items.get i).aH.n<=64/\(s.items.get i).bf.n<=64/\Qd (s.items.get i)) s.items.n (by have:gd=1000000000000:=rfl; omega) (fun j y hj ⟨h1,h2,h3,h4,h5⟩=>?_) ⟨rfl,rfl,rfl,cP _,fun i h=>absurd h (mJ _)⟩;obtain ⟨b,hb,cq⟩:=akF (y.s.get (Int.toNat y.t8)) ((y.ah9.au.n:Nat):Int);have e0:gW y=some b:=hb;have w1:ak (y.t8+1)=y.t8+1:=aj;unfold cj bj;by_cases h:y.t8 < y.t7
  ·simp only [e0,w1,ai,bD,bx,bq,av h,av (show (0:Int)<=y.t8 by omega),av (show y.t8 < ((y.s.n:Nat):Int) by rw [h1]; omega)]
   cases b with
   | false=>exact .inr ⟨_,_,rfl,rfl,.inl ⟨rfl,by show y.t8 >= 0; omega⟩⟩
   | true=>
    refine .inl ⟨_,rfl,by omega,h1,h2,by show y.t8+1=_; omega,by omega,fun i hi=>?_⟩;by_cases vD:i < j
    ·exact h5 i vD
    ·have e:i=j:=by omega
     subst e;have:=cq rfl;rw [h1,h3,bU] at this;exact this
  ·simp only [aw,az h]
   exact .inr ⟨_,_,rfl,rfl,.inr ⟨rfl,fun i hi=>h5 i (by omega)⟩⟩
 rcases h with ⟨rfl,hp⟩ | ⟨rfl,qD⟩
 ·have b1:(dU s).by (.exit 0)=false:=by rw [hx]; rfl
  have b2:(dU s).by .ret=true:=by rw [hx]; rfl
  have b3:decide ((dU s).st.t4 >= (0:Int))=true:=by rw [hx]; exact av hp
  simp only [b1,b2,b3,ai,aw];exact no 8 (by decide)
 ·have b1:(dU s).by (.exit 0)=true:=by rw [hx]; rfl
  simp only [b1,ai];exact ⟨0,rfl,fun _=>⟨hn,qD⟩⟩
theorem aeK (s:Show) (c:aE):∃ e,dw s c=some e/\(e=0->aa7 s/\Vg c):=by
 obtain ⟨e,h1,h2⟩:=S0 s;obtain ⟨f,h3,h4⟩:=vf c;have e0:qQ s c=some e:=h1;have e1:tw s c=some f:=h3;unfold dw;simp only [e0,e1,bx,bq,ai];by_cases he:e=0
 ·subst he
  exact ⟨f,rfl,fun hf=>⟨h2 rfl,h4 hf⟩⟩
 ·have:(e != (0:Int))=true:=by simpa using he
  rw [this];exact ⟨e,rfl,fun h=>absurd h he⟩
def bH {α:Type} (l:Sl α):List α:=(List.range l.n).map l.get
theorem ki {α:Type} [Inhabited α] (l:Sl α) (v:α):bH (l.push v)=bH l++[v]:=by
 unfold bH;rw [Sl.RQ,QP,HM];congr 1
 ·exact List.map_congr_left fun i hi=>Sl.acI (A4.1 hi)
 ·exact congrArg (fun a=>[a]) Sl.acJ
theorem gg {α:Type} (l:Sl α):(bH l).length=l.n:=by simp [bH]
theorem K0 {α:Type} (l:Sl α) (j:Nat) (h:j < l.n):(bH l).take (j+1)=(bH l).take j++[l.get j]:=by
 rw [List.take_add_one];congr 1;unfold bH;simp [h]
end Go.Proofs.YtchbpckkmgcgkaaGreat.b
end
section
namespace Go.Proofs.YtchbpckkmgcgkaaGreat.b
open Go.K
noncomputable section
structure aU where
 d:Int
 item:Int
 cl:Int
 part:Int
 u:Int
 v:Int
instance:Inhabited aU:=⟨by constructor<;>exact default⟩
def Ze (x:aU):List KV:=[.int .i64 x.d,.int .i64 x.item,.int .i64 x.cl,.int .i64 x.part,.int .i64 x.u,.int .i64 x.v]
def iY (x:aU):KV:=.agg (Ze x)
def Zf (c:Nat->KV):aU:=⟨intOf (c 0),intOf (c 1),intOf (c 2),intOf (c 3),intOf (c 4),intOf (c 5)⟩
def im (v:KV):aU:=Zf fun k=>v.cells.getD k .bG
theorem aih (x:aU):im (iY x)=x:=rfl
theorem atx:im .bG=default:=rfl
theorem aii (s:Sl aU) (v:aU):s.push v=kX im (s.n+1) (dS s.n (fun i=>iY (s.get i)) (qy [iY v])):=(yN aih atx s v).symm
theorem WI (s:Sl aU) (i:Nat) (v:aU):s.set i v=kX im s.n (xN (fun j=>iY (s.get j)) i (iY v)):=(ahQ aih s i v).symm
theorem WJ (m n' i:Nat) (acc:Nat->KV) (v:KV):kX im m (xN (fun j=>iY ((kX im n' acc).get j)) i v)=kX im m (xN acc i v):=anG aih ..
structure eT where
 t:aK
 dX:aU
instance:Inhabited eT:=⟨⟨default,default⟩⟩
def alI (x:eT):List KV:=[.int .i64 x.t.e0.x,.int .i64 x.t.e0.y,.int .i64 x.t.e0.d,.int .i64 x.t.e0.u,.int .i64 x.t.e0.v,.int .i64 x.t.e1.x,.int .i64 x.t.e1.y,.int .i64 x.t.e1.d,.int .i64 x.t.e1.u,.int .i64 x.t.e1.v,.int .i64 x.t.e2.x,.int .i64 x.t.e2.y,.int .i64 x.t.e2.d,.int .i64 x.t.e2.u,.int .i64 x.t.e2.v,.int .i64 x.dX.d,.int .i64 x.dX.item,.int .i64 x.dX.cl,.int .i64 x.dX.part,.int .i64 x.dX.u,.int .i64 x.dX.v]
def Bw (x:eT):KV:=.agg (alI x)
def alJ (c:Nat->KV):eT:=⟨⟨⟨intOf (c 0),intOf (c 1),intOf (c 2),intOf (c 3),intOf (c 4)⟩,⟨intOf (c 5),intOf (c 6),intOf (c 7),intOf (c 8),intOf (c 9)⟩,⟨intOf (c 10),intOf (c 11),intOf (c 12),intOf (c 13),intOf (c 14)⟩⟩,⟨intOf (c 15),intOf (c 16),intOf (c 17),intOf (c 18),intOf (c 19),intOf (c 20)⟩⟩
def Bx (v:KV):eT:=alJ fun k=>v.cells.getD k .bG
theorem aij (x:eT):Bx (Bw x)=x:=rfl
theorem aik:Bx .bG=default:=rfl
theorem ac4 (s:Sl eT) (v:eT):s.push v=kX Bx (s.n+1) (dS s.n (fun i=>Bw (s.get i)) (qy [Bw v])):=(yN aij aik s v).symm
structure aI where
 dc:Show
 parts:(Sl eT)
instance:Inhabited aI:=⟨⟨default,default⟩⟩
def cJ (x:aI):List KV:=[fL 111 FD x.dc.items,fL 114 iy x.dc.au,fL 197 Bw x.parts]
def yR (x:aI):KV:=.agg (cJ x)
def cK (c:Nat->KV):aI:=⟨⟨fg x6 (c 0),fg en (c 1)⟩,fg Bx (c 2)⟩
def vJ (v:KV):aI:=cK fun k=>v.cells.getD k .bG
structure pQ where
 t14:(Sl Item)
 t15:Int
 t16:Int
 s:Show
 c:aE
 t4:aI
 out:aI
instance:Inhabited pQ:=⟨by constructor<;>exact default⟩
def Jk (x:pQ):List KV:=[fL 111 FD x.t14,.int .i64 x.t15,.int .i64 x.t16]
def Jl (x:pQ):List (List KV):=[sP x.s,wL x.c,cJ x.t4,cJ x.out]
def S1 (vs:List KV) (rs:List (List KV)):pQ:=⟨fg x6 (v9 vs 0),intOf (v9 vs 1),intOf (v9 vs 2),sQ (r9 rs 0),wM (r9 rs 1),cK (r9 rs 2),cK (r9 rs 3)⟩
def Vh:aQ:=⟨[(14,w9 (n9 111)),(15,w9 i9),(16,w9 i9)],[(2,[n9 111,n9 114],1),(3,[i9,i9,i9,i9,i9,i9,i9,i9,i9,i9,i9,i9,i9,i9,i9,i9],1),(4,[n9 111,n9 114,.aZ 197],1),(5,[n9 111,n9 114,.aZ 197],1)],[(2,0,0),(3,1,0),(4,2,0),(5,3,0)]⟩
structure jR where
 i:Int
 t14:(Sl Item)
 t15:Int
 t16:Int
 t23:Int
 t24:Int
 s:Show
 c:aE
 t4:aI
 out:aI
 x:Item
instance:Inhabited jR:=⟨by constructor<;>exact default⟩
def DT (x:jR):List KV:=[.int .i64 x.i,fL 111 FD x.t14,.int .i64 x.t15,.int .i64 x.t16,.int .i64 x.t23,.int .i64 x.t24]
def DU (x:jR):List (List KV):=[sP x.s,wL x.c,cJ x.t4,cJ x.out,Cl x.x]
def L3 (vs:List KV) (rs:List (List KV)):jR:=⟨intOf (v9 vs 0),fg x6 (v9 vs 1),intOf (v9 vs 2),intOf (v9 vs 3),intOf (v9 vs 4),intOf (v9 vs 5),sQ (r9 rs 0),wM (r9 rs 1),cK (r9 rs 2),cK (r9 rs 3),DR (r9 rs 4)⟩
def NB:aQ:=⟨[(6,w9 i9),(14,w9 (n9 111)),(15,w9 i9),(16,w9 i9),(23,w9 i9),(24,w9 i9)],[(2,[n9 111,n9 114],1),(3,[i9,i9,i9,i9,i9,i9,i9,i9,i9,i9,i9,i9,i9,i9,i9,i9],1),(4,[n9 111,n9 114,.aZ 197],1),(5,[n9 111,n9 114,.aZ 197],1),(7,[n9 27,n9 181,n9 28,u9,u9,u9,u9,i9,u9,i9,b9,i9,i9,i9,i9,i9,i9,i9],1)],[(2,0,0),(3,1,0),(4,2,0),(5,3,0),(7,4,0)]⟩
structure ln where
 i:Int
 k:Int
 t14:(Sl Item)
 t15:Int
 t16:Int
 t23:Int
 t24:Int
 t31:(Sl aK)
 t32:Int
 t33:Int
 s:Show
 c:aE
 t4:aI
 out:aI
 x:Item
instance:Inhabited ln:=⟨by constructor<;>exact default⟩
def Al (x:ln):List KV:=[.int .i64 x.i,.int .i64 x.k,fL 111 FD x.t14,.int .i64 x.t15,.int .i64 x.t16,.int .i64 x.t23,.int .i64 x.t24,fL 62 gx x.t31,.int .i64 x.t32,.int .i64 x.t33]
def Ao (x:ln):List (List KV):=[sP x.s,wL x.c,cJ x.t4,cJ x.out,Cl x.x]
def IL (vs:List KV) (rs:List (List KV)):ln:=⟨intOf (v9 vs 0),intOf (v9 vs 1),fg x6 (v9 vs 2),intOf (v9 vs 3),intOf (v9 vs 4),intOf (v9 vs 5),intOf (v9 vs 6),fg eM (v9 vs 7),intOf (v9 vs 8),intOf (v9 vs 9),sQ (r9 rs 0),wM (r9 rs 1),cK (r9 rs 2),cK (r9 rs 3),DR (r9 rs 4)⟩
def J0:aQ:=⟨[(6,w9 i9),(8,w9 i9),(14,w9 (n9 111)),(15,w9 i9),(16,w9 i9),(23,w9 i9),(24,w9 i9),(31,w9 (n9 62)),(32,w9 i9),(33,w9 i9)],[(2,[n9 111,n9 114],1),(3,[i9,i9,i9,i9,i9,i9,i9,i9,i9,i9,i9,i9,i9,i9,i9,i9],1),(4,[n9 111,n9 114,.aZ 197],1),(5,[n9 111,n9 114,.aZ 197],1),(7,[n9 27,n9 181,n9 28,u9,u9,u9,u9,i9,u9,i9,b9,i9,i9,i9,i9,i9,i9,i9],1)],[(2,0,0),(3,1,0),(4,2,0),(5,3,0),(7,4,0)]⟩
def Vi:=uj [(48,Aj)] [] 69 3827302 J0
def kv (x:ln):aJ ln:=(cond (decide (x.t33 < x.t32)) (cond (bj x.t33 x.t31.n) (cond (nm 168 x.out.parts.n 1) (cond (cond (aC (x.out.parts.n+1)) (aC x.t4.parts.n) false) (.next ⟨x.i,x.k,x.t14,x.t15,x.t16,x.t23,x.t24,x.t31,x.t32,(ak (x.t33+1)),x.s,x.c,x.t4,⟨x.out.dc,(x.out.parts.push ⟨(x.t31.get (Int.toNat x.t33)),⟨x.x.look.FC,x.i,x.k,x.t33,0,0⟩⟩)⟩,x.x⟩) .fail) .fail) .fail) (cond (cond (aC x.out.parts.n) (aC x.t4.parts.n) false) (.out (aF.aq.exit 4) x) .fail))
theorem Sd (x:ln):Vi (Al x) (Ao x)=aJ.enc Al Ao (kv x):=by
 unfold kv bj nm aC
 try simp only [aJ.bz,ac4]
 kernel_rfl
def vZ:Lp:=⟨69,3827302,J0,fun vs rs=>bT Al Ao (goN kv (IL vs rs)) [aF.aq.exit 4],false⟩
theorem Ap:vZ.Ok PG:=tl (ao.cons zA ao.nil) aL.nil (pa:=IL) Sd
def Zg:=uj [(48,Aj)] [vZ] 69 14950 NB
def sv (x:jR):=kM x.s x.c x.i x.t24
def cT (x:jR):=goN kv ⟨x.i,x.t24,x.t14,x.t15,x.t16,x.t23,x.t24,((sv x).getD default),(((sv x).getD default).n:Int),0,x.s,x.c,x.t4,x.out,x.x⟩
def mr (x:jR):aJ jR:=(cond (decide (x.t24 < x.t23)) (cond (sv x).isSome (cond (cond (aC x.out.parts.n) (aC x.t4.parts.n) false) (cond ((cT x).by (aF.aq.exit 4)) (cond (cond (aC (cT x).st.out.parts.n) (aC (cT x).st.t4.parts.n) false) (.next ⟨(cT x).st.i,(cT x).st.t14,(cT x).st.t15,(cT x).st.t16,(cT x).st.t23,(ak ((cT x).st.t24+1)),(cT x).st.s,(cT x).st.c,(cT x).st.t4,(cT x).st.out,(cT x).st.x⟩) .fail) .fail) .fail) .fail) (cond (cond (aC x.out.parts.n) (aC x.t4.parts.n) false) (.out (aF.aq.exit 2) x) .fail))
theorem Vj (x:jR):Zg (DT x) (DU x)=aJ.enc DT DU (mr x):=by
 unfold mr aC
 try simp only [aJ.bz]
 kernel_rfl
def FM:Lp:=⟨69,14950,NB,fun vs rs=>bT DT DU (goN mr (L3 vs rs)) [aF.aq.exit 2],false⟩
theorem L5:FM.Ok PG:=tl (ao.cons zA ao.nil) (hH Ap aL.nil) (pa:=L3) Vj
def afi:=uj [(48,Aj)] [vZ,FM] 69 58 Vh
def gM (x:pQ):=goN mr ⟨x.t16,x.t14,x.t15,x.t16,((x.t14.get (Int.toNat x.t16)).bf.n:Int),0,x.s,x.c,x.t4,x.out,(x.t14.get (Int.toNat x.t16))⟩
def pR (x:pQ):aJ pQ:=(cond (decide (x.t16 < x.t15)) (cond (bj x.t16 x.t14.n) (cond (cond (aC x.out.parts.n) (aC x.t4.parts.n) false) (cond ((gM x).by (aF.aq.exit 2)) (cond (cond (aC (gM x).st.out.parts.n) (aC (gM x).st.t4.parts.n) false) (.next ⟨(gM x).st.t14,(gM x).st.t15,(ak ((gM x).st.t16+1)),(gM x).st.s,(gM x).st.c,(gM x).st.t4,(gM x).st.out⟩) .fail) .fail) .fail) .fail) (cond (cond (aC x.out.parts.n) (aC x.t4.parts.n) false) (.out (aF.aq.exit 0) x) .fail))
theorem aa8 (x:pQ):afi (Jk x) (Jl x)=aJ.enc Jk Jl (pR x):=by
 unfold pR bj aC
 try simp only [aJ.bz]
 kernel_rfl
def Vk:Lp:=⟨69,58,Vh,fun vs rs=>bT Jk Jl (goN pR (S1 vs rs)) [aF.aq.exit 0],false⟩
theorem afj:Vk.Ok PG:=tl (ao.cons zA ao.nil) (hH Ap (hH L5 aL.nil)) (pa:=S1) aa8
def Ia (s:Show) (c:aE):=goN pR ⟨s.items,(s.items.n:Int),0,s,c,⟨⟨⟨0,(fun i=>⟨⟨0,(fun i=>⟨0,0,0⟩)⟩,⟨0,(fun i=>⟨0,0⟩)⟩,⟨0,(fun i=>⟨0,0,0⟩)⟩,⟨⟨0,0,0,0⟩,0,0,0,false,0⟩,⟨⟨0,0,0⟩,⟨0,0,0⟩⟩⟩)⟩,⟨0,(fun i=>⟨0,0,⟨0,(fun i=>⟨0,0,0,0⟩)⟩⟩)⟩⟩,⟨0,(fun i=>⟨⟨⟨0,0,0,0,0⟩,⟨0,0,0,0,0⟩,⟨0,0,0,0,0⟩⟩,⟨0,0,0,0,0,0⟩⟩)⟩⟩,⟨s,⟨0,(fun i=>⟨⟨⟨0,0,0,0,0⟩,⟨0,0,0,0,0⟩,⟨0,0,0,0,0⟩⟩,⟨0,0,0,0,0,0⟩⟩)⟩⟩⟩
def xD (s:Show) (c:aE):Option (aI):=(cond ((Ia s c).by (aF.aq.exit 0)) (some ((Ia s c).st.out)) none)
theorem ajs (s:Show) (c:aE):hJ [(48,Aj)] [vZ,FM,Vk] 69 [uB s,qF c] = (xD s c).map yR:=by
 unfold xD
 try simp only [aY]
 kernel_rfl
def NC:List KV->KR KV:=bd PG 69 (bg yR fun vs=>xD (kL (v9 vs 0)) (gZ (v9 vs 1)))
theorem L6:a9 PG 69 NC:=bM (ao.cons zA ao.nil) (hH Ap (hH L5 (hH afj aL.nil))) fun w=>ajs (kL (g0 25 (w 0))) (gZ (g0 31 (w 1)))
structure sf where
 l:(Sl bF)
 t2:Bool
 n:Int
 i:Int
instance:Inhabited sf:=⟨⟨default,default,default,default⟩⟩
def G9 (x:sf):List KV:=[fL 114 iy x.l,.bool x.t2,.int .i64 x.n,.int .i64 x.i]
def Ha (x:sf):List (List KV):=[]
def Qe (vs:List KV) (rs:List (List KV)):sf:=⟨fg en (v9 vs 0),kN (v9 vs 1),intOf (v9 vs 2),intOf (v9 vs 3)⟩
def S2:aQ:=⟨[(0,w9 (n9 114)),(2,w9 b9),(3,w9 i9),(4,w9 i9)],[],[]⟩
def ac5:=uj [] [] 45 58 S2
def mu (x:sf):aJ sf:=(cond (decide (x.i < (x.l.n:Int))) (cond (decide (x.i < 100)) (cond (bj x.i x.l.n) (.next ⟨x.l,x.t2,(ak (x.n+(min ((x.l.get (Int.toNat x.i)).dH.n:Int) 100000))),(ak (x.i+1))⟩) .fail) (.out (aF.aq.exit 0) x)) (.out (aF.aq.exit 0) x))
theorem Zh (x:sf):ac5 (G9 x) (Ha x)=aJ.enc G9 Ha (mu x):=by
 unfold mu bj
 try simp only [aJ.bz]
 kernel_rfl
def S3:Lp:=⟨45,58,S2,fun vs rs=>bT G9 Ha (goN mu (Qe vs rs)) [aF.aq.exit 0],false⟩
theorem ac6:S3.Ok PG:=tl ao.nil aL.nil (pa:=Qe) Zh
def nW (l:(Sl bF)):=goN mu ⟨l,false,0,0⟩
def sR (l:(Sl bF)):Option (Bool):=(cond ((nW l).by (aF.aq.exit 0)) (cond (decide (((nW l).st.l.n:Int) > 40)) (some (true)) (some ((decide ((nW l).st.n > 20000))))) none)
theorem ail (l:(Sl bF)):hJ [] [S3] 45 [(fL 114 iy) l] = (sR l).map kB:=by
 unfold sR
 try simp only [aY]
 kernel_rfl
def Se:List KV->KR KV:=bd PG 45 (bg kB fun vs=>sR ((fg en) (v9 vs 0)))
theorem S4:a9 PG 45 Se:=bM ao.nil (hH ac6 aL.nil) fun w=>ail ((fg en) (g0 23 (w 0)))
structure sg where
 t2:Bool
 n:Int
 i:Int
 s:Show
instance:Inhabited sg:=⟨⟨default,default,default,default⟩⟩
def Hb (x:sg):List KV:=[.bool x.t2,.int .i64 x.n,.int .i64 x.i]
def Hc (x:sg):List (List KV):=[sP x.s]
def Qf (vs:List KV) (rs:List (List KV)):sg:=⟨kN (v9 vs 0),intOf (v9 vs 1),intOf (v9 vs 2),sQ (r9 rs 0)⟩
def S9:aQ:=⟨[(2,w9 b9),(3,w9 i9),(4,w9 i9)],[(1,[n9 111,n9 114],1)],[(1,0,0)]⟩
def ac7:=uj [(45,Se)] [] 8 58 S9
def mv (x:sg):aJ sg:=(cond (decide (x.i < (x.s.items.n:Int))) (cond (decide (x.i < 300)) (cond (bj x.i x.s.items.n) (cond (bj x.i x.s.items.n) (cond (bj x.i x.s.items.n) (.next ⟨x.t2,(ak ((ak ((ak (x.n+(min ((x.s.items.get (Int.toNat x.i)).aH.n:Int) 10000)))+(min ((x.s.items.get (Int.toNat x.i)).uV.n:Int) 10000)))+(ak (2 * (min ((x.s.items.get (Int.toNat x.i)).bf.n:Int) 10000))))),(ak (x.i+1)),x.s⟩) .fail) .fail) .fail) (.out (aF.aq.exit 0) x)) (.out (aF.aq.exit 0) x))
theorem Zi (x:sg):ac7 (Hb x) (Hc x)=aJ.enc Hb Hc (mv x):=by
 unfold mv bj
 try simp only [aJ.bz]
 kernel_rfl
def Ta:Lp:=⟨8,58,S9,fun vs rs=>bT Hb Hc (goN mv (Qf vs rs)) [aF.aq.exit 0],false⟩
theorem ac8:Ta.Ok PG:=tl (ao.cons S4 ao.nil) aL.nil (pa:=Qf) Zi
def mw (s:Show):=goN mv ⟨false,0,0,s⟩
def Aq (s:Show):=sR (mw s).st.s.au
def vg (s:Show):Option (Bool):=(cond ((mw s).by (aF.aq.exit 0)) (cond (decide (((mw s).st.s.items.n:Int) > 260)) (some (true)) (cond (decide ((mw s).st.n > 800)) (some (true)) (cond (Aq s).isSome (some (((Aq s).getD default))) none))) none)
theorem aim (s:Show):hJ [(45,Se)] [Ta] 8 [uB s] = (vg s).map kB:=by
 unfold vg
 try simp only [aY]
 kernel_rfl
def aa9:List KV->KR KV:=bd PG 8 (bg kB fun vs=>vg (kL (v9 vs 0)))
theorem afk:a9 PG 8 aa9:=bM (ao.cons S4 ao.nil) (hH ac8 aL.nil) fun w=>aim (kL (g0 25 (w 0)))
end
end Go.Proofs.YtchbpckkmgcgkaaGreat.b
end
section
namespace Go.Proofs.YtchbpckkmgcgkaaGreat.b
open Go.K
open Go.aF (aq)
def C2 (s:Show) (c:aE) (i k:Nat):Sl aK:=(kM s c (i:Int) (k:Int)).getD default
def partAt (s:Show) (c:aE) (i k n:Nat):eT:=⟨(C2 s c i k).get n,⟨(s.items.get i).look.FC,(i:Int),(k:Int),(n:Int),0,0⟩⟩
def ND (s:Show) (c:aE) (i k:Nat):List eT:=(List.range (C2 s c i k).n).map (partAt s c i k)
def Jm (s:Show) (c:aE) (i:Nat):List eT:=(List.range (s.items.get i).bf.n).flatMap (ND s c i)
def jc (s:Show) (c:aE):List eT:=(List.range s.items.n).flatMap (Jm s c)
theorem IM {α:Type} (f:Nat->List α) (n:Nat):(List.range (n+1)).flatMap f=(List.range n).flatMap f++f n:=by
 rw [QP,List.flatMap_append]; simp
theorem auI (s:Show) (c:aE) (i k:Nat) (x:ln) (hi:x.i=(i:Int)) (hk:x.k=(k:Int)) (hr:x.t31=C2 s c i k) (hb:x.x=s.items.get i) (hn:x.t31.n<=6) (h2:x.t32=(x.t31.n:Int)) (h3:x.t33=0) (hs:x.out.parts.n<=200000) :
  ∃ e y,goN kv x = .out e y/\(e = .exit 4/\y.i=x.i/\y.t14=x.t14/\y.t15=x.t15/\y.t16=x.t16/\y.t23=x.t23/\y.t24=x.t24/\y.s=x.s/\y.c=x.c/\y.t4=x.t4/\y.x=x.x/\y.out.dc=x.out.dc/\bH y.out.parts=bH x.out.parts++ND s c i k/\y.out.parts.n<=x.out.parts.n+6):=by
 refine bn (step:=kv) (fun j y=>(y.i=x.i/\y.t14=x.t14/\y.t15=x.t15/\y.t16=x.t16/\y.t23=x.t23/\y.t24=x.t24/\y.s=x.s/\y.c=x.c/\y.t4=x.t4/\y.x=x.x/\y.out.dc=x.out.dc)/\y.k=x.k/\y.t31=x.t31/\y.t32=(x.t31.n:Int)/\y.t33=(j:Int)/\j<=x.t31.n/\bH y.out.parts=bH x.out.parts++(List.range j).map (partAt s c i k)/\y.out.parts.n<=x.out.parts.n+j) (fun e y=>e = .exit 4/\y.i=x.i/\y.t14=x.t14/\y.t15=x.t15/\y.t16=x.t16/\y.t23=x.t23/\y.t24=x.t24/\y.s=x.s/\y.c=x.c/\y.t4=x.t4/\y.x=x.x/\y.out.dc=x.out.dc/\bH y.out.parts=bH x.out.parts++ND s c i k/\y.out.parts.n<=x.out.parts.n+6) x.t31.n (by have:gd=1000000000000:=rfl; omega) (fun j y hj ⟨hf,Ca,h4,h5,h6,h7,h8,h9⟩=>?_) ⟨⟨rfl,rfl,rfl,rfl,rfl,rfl,rfl,rfl,rfl,rfl,rfl⟩,rfl,rfl,h2,h3,cP _,by simp,by omega⟩;have w1:ak (y.t33+1)=y.t33+1:=aj;have a1:ij 168 y.out.parts.n 1=true:=vc (by omega) (by omega) (by omega) (.inl (by omega));obtain ⟨f1,f2,f3,f4,f5,f6,f7,f8,f9,f10,f11⟩:=hf;unfold kv bj nm aC;by_cases h:y.t33 < y.t32
 ·simp only [w1,a1,aG,ai,bD,av h,av (show (0:Int)<=y.t33 by omega),av (show y.t33 < ((y.t31.n:Nat):Int) by rw [h4]; omega)]
  refine .inl ⟨_,rfl,by omega,⟨f1,f2,f3,f4,f5,f6,f7,f8,f9,f10,f11⟩,Ca,h4,h5,by show y.t33+1=_; omega,by omega,?_,by simp only [Sl.RQ]; omega⟩;show bH (Sl.push _ _)=_;rw [ki,h8,QP,HM,<- HJ];have e1:(⟨(y.t31.get (Int.toNat y.t33)),(⟨y.x.look.FC,y.i,y.k,y.t33,(0:Int),(0:Int)⟩:aU)⟩:eT)=partAt s c i k j:=by
   unfold partAt;rw [h4,h6,bU,hr,f10,hb,f1,Ca,hi,hk]
  rw [e1];rfl
 ·simp only [aG,ai,aw,az h]
  refine .inr ⟨_,_,rfl,rfl,rfl,f1,f2,f3,f4,f5,f6,f7,f8,f9,f10,f11,?_,by omega⟩;rw [h8,show j=x.t31.n by omega,hr];rfl
theorem aty (s:Show) (c:aE) (n:Nat) (hn:n < s.items.n) (cq:Qd (s.items.get n)) (ht:(s.items.get n).bf.n<=64) (x:jR) (hs:x.s=s) (hc:x.c=c) (hx:x.x=s.items.get n) (hi:x.i=(n:Int)) (h2:x.t23=((s.items.get n).bf.n:Int)) (h3:x.t24=0) (gI:x.out.parts.n<=150000) :
  ∃ e y,goN mr x = .out e y/\(e = .exit 2/\y.t14=x.t14/\y.t15=x.t15/\y.t16=x.t16/\y.s=s/\y.c=c/\y.t4=x.t4/\y.out.dc=x.out.dc/\bH y.out.parts=bH x.out.parts++Jm s c n/\y.out.parts.n<=x.out.parts.n+384):=by
 refine bn (step:=mr) (fun j y=>(y.i=x.i/\y.t14=x.t14/\y.t15=x.t15/\y.t16=x.t16/\y.t23=x.t23/\y.s=s/\y.c=c/\y.t4=x.t4/\y.x=x.x/\y.out.dc=x.out.dc)/\y.t24=(j:Int)/\j<=(s.items.get n).bf.n/\bH y.out.parts=bH x.out.parts++(List.range j).flatMap (ND s c n)/\y.out.parts.n<=x.out.parts.n+6 * j) (fun e y=>e = .exit 2/\y.t14=x.t14/\y.t15=x.t15/\y.t16=x.t16/\y.s=s/\y.c=c/\y.t4=x.t4/\y.out.dc=x.out.dc/\bH y.out.parts=bH x.out.parts++Jm s c n/\y.out.parts.n<=x.out.parts.n+384) (s.items.get n).bf.n (by have:gd=1000000000000:=rfl; omega) (fun j y hj ⟨⟨f1,f2,f3,f4,f5,f6,f7,f8,f9,f10⟩,h4,h5,h6,h7⟩=>?_) ⟨⟨rfl,rfl,rfl,rfl,rfl,hs,hc,rfl,rfl,rfl⟩,h3,cP _,by simp,by omega⟩;unfold mr aC;by_cases h:y.t24 < y.t23
 ·obtain ⟨r,hr,hrn⟩:=aeJ s c n j hn (by omega) cq
  have e0:sv y=some r:=by
   unfold sv;rw [f6,f7,f1,hi,h4];exact hr
  have ep:C2 s c n j=r:=by unfold C2; rw [hr]; rfl
  obtain ⟨e,z,hz,rfl,g1,g2,g3,g4,g5,g6,g7,g8,g9,g10,awU,g11,g12⟩:∃ e z,cT y = .out e z/\(e = .exit 4/\z.i=y.i/\z.t14=y.t14/\z.t15=y.t15/\z.t16=y.t16/\z.t23=y.t23/\z.t24=y.t24/\z.s=y.s/\z.c=y.c/\z.t4=y.t4/\z.x=y.x/\z.out.dc=y.out.dc/\bH z.out.parts=bH y.out.parts++ND s c n j/\z.out.parts.n<=y.out.parts.n+6):=by
   unfold cT;rw [e0];exact auI s c n j _ (by show y.i=_; rw [f1,hi]) h4 ep.symm (by show y.x=_; rw [f9,hx]) hrn rfl rfl (by show y.out.parts.n<=200000; omega)
  have b1:(cT y).by (.exit 4)=true:=by rw [hz]; rfl
  have b2:(cT y).st=z:=by rw [hz]; rfl
  have w1:ak (z.t24+1)=z.t24+1:=aj;simp only [e0,b1,b2,w1,aG,ai,bx,av h];refine .inl ⟨_,rfl,by omega,⟨g1.trans f1,g2.trans f2,g3.trans f3,g4.trans f4,g5.trans f5,g7.trans f6,g8.trans f7,g9.trans f8,g10.trans f9,awU.trans f10⟩,by show z.t24+1=_; omega,by omega,?_,by show z.out.parts.n<=_; omega⟩;show bH z.out.parts=_;rw [g11,h6,IM,HJ]
 ·simp only [aG,ai,aw,az h]
  refine .inr ⟨_,_,rfl,rfl,rfl,f2,f3,f4,f6,f7,f8,f10,?_,by omega⟩;rw [h6,show j=(s.items.get n).bf.n by omega];rfl
theorem atz (s:Show) (c:aE) (hs:aa7 s) (x:pQ) (h14:x.t14=s.items) (h15:x.t15=(s.items.n:Int)) (h16:x.t16=0) (hxs:x.s=s) (hxc:x.c=c) (h0:x.out.parts.n=0) :
  ∃ e y,goN pR x = .out e y/\(e = .exit 0/\y.out.dc=x.out.dc/\bH y.out.parts=jc s c/\y.out.parts.n<=98304):=by
 obtain ⟨hs1,mN⟩:=hs;refine bn (step:=pR) (fun j y=>y.t14=s.items/\y.t15=(s.items.n:Int)/\y.t16=(j:Int)/\y.s=s/\y.c=c/\y.out.dc=x.out.dc/\j<=s.items.n/\bH y.out.parts=(List.range j).flatMap (Jm s c)/\y.out.parts.n<=384 * j) (fun e y=>e = .exit 0/\y.out.dc=x.out.dc/\bH y.out.parts=jc s c/\y.out.parts.n<=98304) s.items.n (by have:gd=1000000000000:=rfl; omega) (fun j y hj ⟨f1,f2,f3,f4,f5,f5',f6,f7,f8⟩=>?_) ⟨h14,h15,h16,hxs,hxc,rfl,cP _,by simp only [List.range_zero,List.flatMap_nil]; exact qv.1 (by rw [gg,h0]),by omega⟩;unfold pR bj aC;by_cases h:y.t16 < y.t15
 ·have eH:j < s.items.n:=by omega
  obtain ⟨_,ht,cq⟩:=mN j eH;have hg:y.t14.get (Int.toNat y.t16)=s.items.get j:=by rw [f1,f3,bU]
  obtain ⟨e,z,hz,rfl,g1,g2,g3,g4,g5,_,g6,g7,g8⟩:∃ e z,gM y = .out e z/\(e = .exit 2/\z.t14=y.t14/\z.t15=y.t15/\z.t16=y.t16/\z.s=s/\z.c=c/\z.t4=y.t4/\z.out.dc=y.out.dc/\bH z.out.parts=bH y.out.parts++Jm s c j/\z.out.parts.n<=y.out.parts.n+384):=by
   unfold gM;exact aty s c j eH cq ht _ f4 f5 hg f3 (by show (((y.t14.get (Int.toNat y.t16)).bf.n:Nat):Int)=_; rw [hg]) rfl (by show y.out.parts.n<=150000; omega)
  have b1:(gM y).by (.exit 2)=true:=by rw [hz]; rfl
  have b2:(gM y).st=z:=by rw [hz]; rfl
  have w1:ak (z.t16+1)=z.t16+1:=aj;simp only [b1,b2,w1,aG,ai,bD,av h,av (show (0:Int)<=y.t16 by omega),av (show y.t16 < ((y.t14.n:Nat):Int) by rw [f1]; omega)];refine .inl ⟨_,rfl,eH,g1.trans f1,g2.trans f2,by show z.t16+1=_; omega,g4,g5,g6.trans f5',by omega,?_,by show z.out.parts.n<=_; omega⟩;show bH z.out.parts=_;rw [g7,f7,IM]
 ·simp only [aG,ai,aw,az h]
  refine .inr ⟨_,_,rfl,rfl,rfl,f5',?_,by omega⟩;rw [f7,show j=s.items.n by omega];rfl
theorem arD (s:Show) (c:aE) (hs:aa7 s):∃ r,xD s c=some r/\r.dc=s/\bH r.parts=jc s c/\r.parts.n<=98304:=by
 obtain ⟨e,y,hy,rfl,h0,h1,h2⟩:∃ e y,Ia s c = .out e y/\(e = .exit 0/\y.out.dc=s/\bH y.out.parts=jc s c/\y.out.parts.n<=98304):=by
  unfold Ia;exact atz s c hs _ rfl rfl rfl rfl rfl rfl
 refine ⟨y.out,?_,h0,h1,h2⟩;unfold xD;rw [hy];rfl
theorem Ep {α:Type} (l:Sl α) (j:Nat) (h:j < l.n):(bH l)[j]? = some (l.get j):=by
 unfold bH;rw [AZ,List.getElem?_range h];rfl
theorem atA {α:Type} {l:Sl α} {v:α} (h:v∈bH l):∃ j,j < l.n/\l.get j=v:=by
 unfold bH at h;obtain ⟨j,h1,h2⟩:=HK.1 h;exact ⟨j,A4.1 h1,h2⟩
theorem FN {α:Type} {l:Sl α} {j:Nat} (h:j < l.n):l.get j∈bH l:=HK.2 ⟨j,A4.2 h,rfl⟩
def rO (x y:Int) (p:eT):Option aU:=
 match lj p.t x y with
 | some (sp,e)=>cond (e==0) (some ⟨ak (p.dX.d+sp.d),p.dX.item,p.dX.cl,p.dX.part,sp.u,sp.v⟩) none
 | none=>none
def ru (x y:Int) (l:List eT):List aU:=l.filterMap (rO x y)
theorem akG {x y:Int} (l:Sl eT) (j:Nat) (h:j < l.n):ru x y ((bH l).take (j+1))=ru x y ((bH l).take j)++(rO x y (l.get j)).toList:=by
 unfold ru;rw [K0 l j h,List.filterMap_append];congr 1
theorem aeL (t:aK) (x y:Int):∃ s e,lj t x y=some (s,e):=by
 obtain ⟨s,e,h,_⟩:=aeI t x y;exact ⟨s,e,h⟩
theorem atB (x y:Int) (l:List eT):(ru x y l).length<=l.length:=List.length_filterMap_le _ _
end Go.Proofs.YtchbpckkmgcgkaaGreat.b
end
section
namespace Go.Proofs.YtchbpckkmgcgkaaGreat.b
open Go.K Go.K.hY
open Go.aF (aq)
theorem qR {p d:Int} (hp:0<=p/\p<=137438953472) (hd:1<=d/\d<=65536):p<=p * d/\p * d<=p * 65536:=by
 have h1:p * 1<=p * d:=Int.mul_le_mul_of_nonneg_left hd.1 hp.1;have h2:p * d<=p * 65536:=Int.mul_le_mul_of_nonneg_left hd.2 hp.1;omega
theorem KB {a u:Int} (ha:0<=a) (hu:0<=u/\u<=255):0<=a * u/\a * u<=a * 255:=⟨wi ha hu.1,Int.mul_le_mul_of_nonneg_left hu.2 ha⟩
theorem ain {p q r d0 d1 d2 u0 u1 u2:Int} (hp:0<=p) (hq:0<=q) (hr:0<=r) (hs:1<=p+q+r/\p+q+r<=137438953472) (h0:1<=d0/\d0<=65536) (h1:1<=d1/\d1<=65536) (h2:1<=d2/\d2<=65536) (k0:0<=u0/\u0<=255) (k1:0<=u1/\u1<=255) (k2:0<=u2/\u2<=255) :
  ∃ m,cR (ak ((ak ((ak ((0:Int)+(ak ((ak (p * d0)) * u0))))+(ak ((ak (q * d1)) * u1))))+(ak ((ak (r * d2)) * u2)))) (ak ((ak ((ak ((0:Int)+(ak ((ak (p * d0)) * (1:Int)))))+(ak ((ak (q * d1)) * (1:Int)))))+(ak ((ak (r * d2)) * (1:Int)))))=some (m,0)/\0<=m/\m<=255:=by
 have a0:=qR ⟨hp,by omega⟩ h0;have a1:=qR ⟨hq,by omega⟩ h1;have a2:=qR ⟨hr,by omega⟩ h2;have b0:=KB (show 0<=p * d0 by omega) k0;have b1:=KB (show 0<=q * d1 by omega) k1;have b2:=KB (show 0<=r * d2 by omega) k2;rw [aj (n:=p * d0),aj (n:=q * d1),aj (n:=r * d2)];generalize p * d0=A0 at *;generalize q * d1=A1 at *;generalize r * d2=A2 at *;generalize A0 * u0=B0 at *;generalize A1 * u1=B1 at *;generalize A2 * u2=B2 at *;rw [Int.mul_one,Int.mul_one,Int.mul_one,aj (n:=A0),aj (n:=A1),aj (n:=A2),aj (n:=B0),aj (n:=B1),aj (n:=B2),
  aj (n:=0+A0),aj (n:=0+A0+A1),aj (n:=0+A0+A1+A2),aj (n:=0+B0),aj (n:=0+B0+B1),aj (n:=0+B0+B1+B2)]
 rw [Eo _ _ (by omega) (by omega)];refine ⟨_,rfl,Int.ediv_nonneg (by omega) (by omega),?_⟩;have:(0+B0+B1+B2) / (0+A0+A1+A2) < 256:=Int.ediv_lt_of_lt_mul (by omega) (by omega);omega
theorem arE {t:aK} {x y:Int} {sp:oT} (h:lj t x y=some (sp,0)):(0<=sp.u/\sp.u<=255)/\0<=sp.v/\sp.v<=255:=by
 obtain ⟨s',e0,hs,hq⟩:=aeI t x y;rw [h] at hs;injection hs with hs;injection hs with hs1 mN;obtain ⟨hf,hpix,g0,g1,g2⟩:=hq mN.symm;obtain ⟨⟨⟨x0,y0,d0,u0,v0⟩,⟨x1,y1,d1,u1,v1⟩,x2,y2,d2,u2,v2⟩,apl⟩:=hf;have hsum:W0 t (8 * x+4) (8 * y+4)+W1 t (8 * x+4) (8 * y+4)+W2 t (8 * x+4) (8 * y+4)=su t:=aib _ _ _ _ _ _ _ _;have hab:su t<=137438953472:=by
  unfold su;have m1:=mq (a:=t.e1.x - t.e0.x) (b:=t.e2.y - t.e0.y) (c:=262144) (d:=262144) (by omega) (by omega) (by omega);have m2:=mq (a:=t.e2.x - t.e0.x) (b:=t.e1.y - t.e0.y) (c:=262144) (d:=262144) (by omega) (by omega) (by omega);omega
 obtain ⟨c,e,h1,h2⟩:=aa3 t x y;have E0:vG t x y=some (c,e):=h1;unfold lj at h;rw [E0] at h;simp only [bx,ai,bq] at h;cases he:(e != (0:Int)) with
 | true=>
  rw [he,ai] at h;injection h with h;injection h with _ h;simp [h] at he
 | false=>
 rw [he,aw] at h;cases c with
 | false=>
  simp only [rK,ai] at h;injection h with h;injection h with _ h;exact absurd h (by decide)
 | true=>
 simp only [jk,aw] at h;rcases NA t x y with ⟨_,_,hE⟩ | ⟨w,e',hE,Iq⟩
 ·have E1:dN t x y=some (⟨W0 t (8 * x+4) (8 * y+4),W1 t (8 * x+4) (8 * y+4),W2 t (8 * x+4) (8 * y+4)⟩,0):=hE
  obtain ⟨r2,G2⟩:∃ r,yP t x y=some r:=IK _ _;obtain ⟨m,G3,m0,m1⟩:∃ m,vH t x y=some (m,0)/\0<=m/\m<=255:=by
   unfold vH;rw [E1];exact ain (p:=W0 t (8 * x+4) (8 * y+4)) (q:=W1 t (8 * x+4) (8 * y+4)) (r:=W2 t (8 * x+4) (8 * y+4)) g0 g1 g2 (by omega) d0 d1 d2 u0 u1 u2
  obtain ⟨n,G4,n0,n1⟩:∃ m,vI t x y=some (m,0)/\0<=m/\m<=255:=by
   unfold vI;rw [E1];exact ain (p:=W0 t (8 * x+4) (8 * y+4)) (q:=W1 t (8 * x+4) (8 * y+4)) (r:=W2 t (8 * x+4) (8 * y+4)) g0 g1 g2 (by omega) d0 d1 d2 v0 v1 v2
  rw [E1,G2,G3,G4] at h;simp only [bx,ai,bq,jO,aw] at h;injection h with h;injection h with h _;subst h;exact ⟨⟨m0,m1⟩,n0,n1⟩
 ·have E1:dN t x y=some (w,e'):=hE
  rw [E1] at h;simp only [bx,ai,bq,show (e' != (0:Int))=true by simpa using Iq] at h;injection h with h;injection h with _ h;exact absurd h Iq
theorem anZ {x y:Int} {p:eT} {f:aU} (h:rO x y p=some f):(0<=f.u/\f.u<=255)/\0<=f.v/\f.v<=255:=by
 unfold rO at h;split at h
 ·rename_i sp e hp
  cases he:(e==(0:Int)) with
  | true=>
   have he:e=0:=by simpa using he
   subst he;rw [show ((0:Int)==0)=true from rfl,ai] at h;injection h with h;subst h;exact arE hp
  | false=>rw [he,aw] at h; simp at h
 ·simp at h
end Go.Proofs.YtchbpckkmgcgkaaGreat.b
end
section
namespace Go.Proofs.YtchbpckkmgcgkaaGreat.b
open Go.K
noncomputable section
def jS (a:oT) (b:oT) (x:Int) (y:Int):Option (Int):=(some ((ak ((ak ((ak (b.x - a.x)) * (ak ((ak ((ak (8 * y))+4)) - a.y)))) - (ak ((ak ((ak ((ak (8 * x))+4)) - a.x)) * (ak (b.y - a.y))))))))
theorem afl (a:oT) (b:oT) (x:Int) (y:Int):hJ [] [] 207 [Fl a,Fl b,(kI .i64) x,(kI .i64) y] = (jS a b x y).map (kI .i64):=by
 unfold jS
 kernel_rfl
def Yf:List KV->KR KV:=bd PG 207 (bg (kI .i64) fun vs=>jS (Jh (v9 vs 0)) (Jh (v9 vs 1)) (intOf (v9 vs 2)) (intOf (v9 vs 3)))
theorem ac9:a9 PG 207 Yf:=bM ao.nil aL.nil fun w=>afl (Jh (g0 61 (w 0))) (Jh (g0 61 (w 1))) (intOf (g0 3 (w 2))) (intOf (g0 3 (w 3)))
def ada (t:aK) (x:Int) (y:Int):=jS t.e1 t.e2 x y
def adb (t:aK) (x:Int) (y:Int):=jS t.e2 t.e0 x y
def ade (t:aK) (x:Int) (y:Int):=jS t.e0 t.e1 x y
def L7 (t:aK) (x:Int) (y:Int):Option (jz):=(some (⟨((ada t x y).getD default),((adb t x y).getD default),((ade t x y).getD default)⟩))
theorem adf (t:aK) (x:Int) (y:Int):hJ [(207,Yf)] [] 170 [gx t,(kI .i64) x,(kI .i64) y] = (L7 t x y).map tP:=by
 unfold L7
 kernel_rfl
def L8:List KV->KR KV:=bd PG 170 (bg tP fun vs=>L7 (eM (v9 vs 0)) (intOf (v9 vs 1)) (intOf (v9 vs 2)))
theorem NF:a9 PG 170 L8:=bM (ao.cons ac9 ao.nil) aL.nil fun w=>adf (eM (g0 62 (w 0))) (intOf (g0 3 (w 1))) (intOf (g0 3 (w 2)))
def xE (a:oT) (b:oT):Option (Bool):=(cond (decide (b.y < a.y)) (some (true)) (cond (b.y==a.y) (some ((decide (b.x > a.x)))) (some (false))))
theorem ajt (a:oT) (b:oT):hJ [] [] 171 [Fl a,Fl b] = (xE a b).map kB:=by
 unfold xE
 try simp only [aY]
 kernel_rfl
def aeM:List KV->KR KV:=bd PG 171 (bg kB fun vs=>xE (Jh (v9 vs 0)) (Jh (v9 vs 1)))
theorem aio:a9 PG 171 aeM:=bM ao.nil aL.nil fun w=>ajt (Jh (g0 61 (w 0))) (Jh (g0 61 (w 1)))
def Sf (t:aK) (x:Int) (y:Int):=jS t.e1 t.e2 x y
def Sg (t:aK) (x:Int) (y:Int):=xE t.e1 t.e2
def Sh (t:aK) (x:Int) (y:Int):=jS t.e2 t.e0 x y
def Si (t:aK) (x:Int) (y:Int):=xE t.e2 t.e0
def Sj (t:aK) (x:Int) (y:Int):=jS t.e0 t.e1 x y
def Sk (t:aK) (x:Int) (y:Int):=xE t.e0 t.e1
def Ib (t:aK) (x:Int) (y:Int):Option (Bool):=(cond (decide (((Sj t x y).getD default) < 0)) (some (false)) (cond (((Sj t x y).getD default)==0) (cond (Sk t x y).isSome (cond (!((Sk t x y).getD default)) (some (false)) (some (true))) none) (some (true))))
def Ic (t:aK) (x:Int) (y:Int):Option (Bool):=(cond (decide (((Sh t x y).getD default) < 0)) (some (false)) (cond (((Sh t x y).getD default)==0) (cond (Si t x y).isSome (cond (!((Si t x y).getD default)) (some (false))
   (Ib t x y)) none)
  (Ib t x y)))
def Hd (t:aK) (x:Int) (y:Int):Option (Bool):=(cond (decide (((Sf t x y).getD default) < 0)) (some (false)) (cond (((Sf t x y).getD default)==0) (cond (Sg t x y).isSome (cond (!((Sg t x y).getD default)) (some (false))
   (Ic t x y)) none)
  (Ic t x y)))
theorem alK (t:aK) (x:Int) (y:Int):hJ [(171,aeM),(170,L8)] [] 111 [gx t,(kI .i64) x,(kI .i64) y] = (Hd t x y).map kB:=by
 unfold Hd Ic Ib
 try simp only [aY]
 kernel_rfl
def Zj:List KV->KR KV:=bd PG 111 (bg kB fun vs=>Hd (eM (v9 vs 0)) (intOf (v9 vs 1)) (intOf (v9 vs 2)))
theorem Yg:a9 PG 111 Zj:=bM (ao.cons aio (ao.cons NF ao.nil)) aL.nil fun w=>alK (eM (g0 62 (w 0))) (intOf (g0 3 (w 1))) (intOf (g0 3 (w 2)))
def nF (a:Int) (b:Int):Option (Int):=(cond (!(decide (b=0))) (cond (decide ((ak ((ak (Int.tdiv a b)) * b)) > a)) (some ((ak ((ak (Int.tdiv a b)) - 1)))) (some ((ak (Int.tdiv a b))))) none)
theorem aju (a:Int) (b:Int):hJ [] [] 172 [(kI .i64) a,(kI .i64) b] = (nF a b).map (kI .i64):=by
 unfold nF
 try simp only [aY]
 kernel_rfl
def Er:List KV->KR KV:=bd PG 172 (bg (kI .i64) fun vs=>nF (intOf (v9 vs 0)) (intOf (v9 vs 1)))
theorem Ar:a9 PG 172 Er:=bM ao.nil aL.nil fun w=>aju (intOf (g0 3 (w 0))) (intOf (g0 3 (w 1)))
def Au (t:aK) (x:Int) (y:Int):=jS t.e1 t.e2 x y
def Av (t:aK) (x:Int) (y:Int):=jS t.e2 t.e0 x y
def Aw (t:aK) (x:Int) (y:Int):=jS t.e0 t.e1 x y
def NG (t:aK) (x:Int) (y:Int):=nF (ak ((ak ((ak (0+(ak (((Au t x y).getD default) * t.e0.d))))+(ak (((Av t x y).getD default) * t.e1.d))))+(ak (((Aw t x y).getD default) * t.e2.d)))) (ak ((ak ((ak (0+((Au t x y).getD default)))+((Av t x y).getD default)))+((Aw t x y).getD default)))
def NH (t:aK) (x:Int) (y:Int):=nF (ak ((ak ((ak (0+(ak ((ak (((Au t x y).getD default) * t.e0.d)) * t.e0.u))))+(ak ((ak (((Av t x y).getD default) * t.e1.d)) * t.e1.u))))+(ak ((ak (((Aw t x y).getD default) * t.e2.d)) * t.e2.u)))) (ak ((ak ((ak (0+(ak (((Au t x y).getD default) * t.e0.d))))+(ak (((Av t x y).getD default) * t.e1.d))))+(ak (((Aw t x y).getD default) * t.e2.d))))
def NI (t:aK) (x:Int) (y:Int):=nF (ak ((ak ((ak (0+(ak ((ak (((Au t x y).getD default) * t.e0.d)) * t.e0.v))))+(ak ((ak (((Av t x y).getD default) * t.e1.d)) * t.e1.v))))+(ak ((ak (((Aw t x y).getD default) * t.e2.d)) * t.e2.v)))) (ak ((ak ((ak (0+(ak (((Au t x y).getD default) * t.e0.d))))+(ak (((Av t x y).getD default) * t.e1.d))))+(ak (((Aw t x y).getD default) * t.e2.d))))
def K1 (t:aK) (x:Int) (y:Int):Option (oT):=(cond (NG t x y).isSome (cond (NH t x y).isSome (cond (NI t x y).isSome (some (⟨(ak ((ak (8 * x))+4)),(ak ((ak (8 * y))+4)),((NG t x y).getD default),((NH t x y).getD default),((NI t x y).getD default)⟩)) none) none) none)
theorem an0 (t:aK) (x:Int) (y:Int):hJ [(172,Er),(170,L8)] [] 112 [gx t,(kI .i64) x,(kI .i64) y] = (K1 t x y).map Fl:=by
 unfold K1
 try simp only [aY]
 kernel_rfl
def adg:List KV->KR KV:=bd PG 112 (bg Fl fun vs=>K1 (eM (v9 vs 0)) (intOf (v9 vs 1)) (intOf (v9 vs 2)))
theorem aba:a9 PG 112 adg:=bM (ao.cons Ar (ao.cons NF ao.nil)) aL.nil fun w=>an0 (eM (g0 62 (w 0))) (intOf (g0 3 (w 1))) (intOf (g0 3 (w 2)))
def Ax (s:oT):Option (Bool):=(cond (decide (s.x >= (-(131072:Int)))) (cond (decide (s.x<=131072)) (cond (decide (s.y >= (-(131072:Int)))) (cond (decide (s.y<=131072)) (cond (decide (s.d >= 1)) (cond (decide (s.d<=65536)) (cond (decide (s.u >= 0)) (cond (decide (s.u<=255)) (cond (decide (s.v >= 0)) (some ((decide (s.v<=255)))) (some (false))) (some (false))) (some (false))) (some (false))) (some (false))) (some (false))) (some (false))) (some (false))) (some (false)))
theorem alL (s:oT):hJ [] [] 206 [Fl s] = (Ax s).map kB:=by
 unfold Ax
 try simp only [aY]
 kernel_rfl
def aip:List KV->KR KV:=bd PG 206 (bg kB fun vs=>Ax (Jh (v9 vs 0)))
theorem ajv:a9 PG 206 aip:=bM ao.nil aL.nil fun w=>alL (Jh (g0 61 (w 0)))
def Sm (t:aK):=Ax t.e0
def Sn (t:aK):=Ax t.e1
def Sp (t:aK):=Ax t.e2
def Hf (t:aK):Option (Bool):=(cond (Sm t).isSome (cond ((Sm t).getD default) (cond (Sn t).isSome (cond ((Sn t).getD default) (cond (Sp t).isSome (some (((Sp t).getD default))) none) (some (false))) none) (some (false))) none)
theorem alM (t:aK):hJ [(206,aip)] [] 168 [gx t] = (Hf t).map kB:=by
 unfold Hf
 try simp only [aY]
 kernel_rfl
def aiq:List KV->KR KV:=bd PG 168 (bg kB fun vs=>Hf (eM (v9 vs 0)))
theorem ajw:a9 PG 168 aiq:=bM (ao.cons ajv ao.nil) aL.nil fun w=>alM (eM (g0 62 (w 0)))
def x9 (t:aK):Option (Int):=(some ((ak ((ak ((ak (t.e1.x - t.e0.x)) * (ak (t.e2.y - t.e0.y)))) - (ak ((ak (t.e2.x - t.e0.x)) * (ak (t.e1.y - t.e0.y))))))))
theorem air (t:aK):hJ [] [] 169 [gx t] = (x9 t).map (kI .i64):=by
 unfold x9
 kernel_rfl
def Sq:List KV->KR KV:=bd PG 169 (bg (kI .i64) fun vs=>x9 (eM (v9 vs 0)))
theorem Tb:a9 PG 169 Sq:=bM ao.nil aL.nil fun w=>air (eM (g0 62 (w 0)))
def L9 (t:aK) (cA:Int):=Hf t
def Ma (t:aK) (cA:Int):=x9 t
def Du (t:aK) (cA:Int):Option (Bool×Int):=(cond (decide (((Ma t cA).getD default) < 0)) (some ((cA != 1),0)) (some (false,0)))
def Bz (t:aK) (cA:Int):Option (Bool×Int):=(cond (L9 t cA).isSome (cond (!((L9 t cA).getD default)) (some (false,8)) (cond (decide (cA > 2)) (some (false,2)) (cond (decide (((Ma t cA).getD default) > 0)) (cond (cA != 2) (some (true,0))
    (Du t cA))
   (Du t cA)))) none)
theorem ais (t:aK) (cA:Int):hJ [(169,Sq),(168,aiq)] [] 109 [gx t,(kI .u8) cA] = (Bz t cA).map (fun (r:Bool×Int)=>KV.lP [kB r.1,(kI .i64) r.2]):=by
 unfold Bz Du
 try simp only [aY]
 kernel_rfl
def Sr:List KV->KR KV:=bd PG 109 (bg (fun (r:Bool×Int)=>KV.lP [kB r.1,(kI .i64) r.2]) fun vs=>Bz (eM (v9 vs 0)) (intOf (v9 vs 1)))
theorem Td:a9 PG 109 Sr:=bM (ao.cons Tb (ao.cons ajw ao.nil)) aL.nil fun w=>ais (eM (g0 62 (w 0))) (intOf (g0 5 (w 1)))
def Qg (t:aK):=x9 t
def w4 (t:aK):Option (aK):=(cond (decide (((Qg t).getD default) < 0)) (some (⟨t.e0,t.e2,t.e1⟩)) (some (t)))
theorem adh (t:aK):hJ [(169,Sq)] [] 110 [gx t] = (w4 t).map gx:=by
 unfold w4
 try simp only [aY]
 kernel_rfl
def Mb:List KV->KR KV:=bd PG 110 (bg gx fun vs=>w4 (eM (v9 vs 0)))
theorem NJ:a9 PG 110 Mb:=bM (ao.cons Tb ao.nil) aL.nil fun w=>adh (eM (g0 62 (w 0)))
def Jn (c:aE) (x:Int) (z:Int):=nF (ak ((ak (8 * c.sN)) * x)) z
def C3 (c:aE) (x:Int) (z:Int):Option (Int):=(cond (Jn c x z).isSome (some ((ak (((Jn c x z).getD default)+(ak (4 * c.w)))))) none)
theorem afm (c:aE) (x:Int) (z:Int):hJ [(172,Er)] [] 166 [qF c,(kI .i64) x,(kI .i64) z] = (C3 c x z).map (kI .i64):=by
 unfold C3
 try simp only [aY]
 kernel_rfl
def Yh:List KV->KR KV:=bd PG 166 (bg (kI .i64) fun vs=>C3 (gZ (v9 vs 0)) (intOf (v9 vs 1)) (intOf (v9 vs 2)))
theorem adi:a9 PG 166 Yh:=bM (ao.cons Ar ao.nil) aL.nil fun w=>afm (gZ (g0 31 (w 0))) (intOf (g0 3 (w 1))) (intOf (g0 3 (w 2)))
def OH (c:aE) (y:Int) (z:Int):=nF (ak ((ak (8 * c.sN)) * y)) z
def IP (c:aE) (y:Int) (z:Int):Option (Int):=(cond (OH c y z).isSome (some ((ak ((ak (4 * c.h)) - ((OH c y z).getD default))))) none)
theorem ajx (c:aE) (y:Int) (z:Int):hJ [(172,Er)] [] 167 [qF c,(kI .i64) y,(kI .i64) z] = (IP c y z).map (kI .i64):=by
 unfold IP
 try simp only [aY]
 kernel_rfl
def aeN:List KV->KR KV:=bd PG 167 (bg (kI .i64) fun vs=>IP (gZ (v9 vs 0)) (intOf (v9 vs 1)) (intOf (v9 vs 2)))
theorem ait:a9 PG 167 aeN:=bM (ao.cons Ar ao.nil) aL.nil fun w=>ajx (gZ (g0 31 (w 0))) (intOf (g0 3 (w 1))) (intOf (g0 3 (w 2)))
def Dv (c:aE) (p:bK):=C3 c p.p.x p.p.z
def Dw (c:aE) (p:bK):=IP c p.p.y p.p.z
def s9 (c:aE) (p:bK):Option (oT):=(cond (Dv c p).isSome (cond (Dw c p).isSome (cond (!(decide (p.p.z=0))) (some (⟨((Dv c p).getD default),((Dw c p).getD default),(ak (Int.tdiv 16777216 p.p.z)),p.u,p.v⟩)) none) none) none)
theorem afn (c:aE) (p:bK):hJ [(167,aeN),(166,Yh)] [] 108 [qF c,pN p] = (s9 c p).map Fl:=by
 unfold s9
 try simp only [aY]
 kernel_rfl
def OI:List KV->KR KV:=bd PG 108 (bg Fl fun vs=>s9 (gZ (v9 vs 0)) (kP (v9 vs 1)))
theorem Qh:a9 PG 108 OI:=bM (ao.cons ait (ao.cons adi ao.nil)) aL.nil fun w=>afn (gZ (g0 31 (w 0))) (kP (g0 177 (w 1)))
def Vl (row:jz) (v:iP):=nF (ak ((ak ((ak (row.e0 * v.x))+(ak (row.e1 * v.y))))+(ak (row.e2 * v.z)))) 256
def Es (row:jz) (v:iP):Option (Int):=(cond (Vl row v).isSome (some (((Vl row v).getD default))) none)
theorem an1 (row:jz) (v:iP):hJ [(172,Er)] [] 204 [tP row,rf v] = (Es row v).map (kI .i64):=by
 unfold Es
 try simp only [aY]
 kernel_rfl
def akH:List KV->KR KV:=bd PG 204 (bg (kI .i64) fun vs=>Es (ID (v9 vs 0)) (rN (v9 vs 1)))
theorem alN:a9 PG 204 akH:=bM (ao.cons Ar ao.nil) aL.nil fun w=>an1 (ID (g0 28 (w 0))) (rN (g0 27 (w 1)))
def Jo (m:cN) (v:iP):=Es m.e0 v
def Jp (m:cN) (v:iP):=Es m.e1 v
def Jq (m:cN) (v:iP):=Es m.e2 v
def C4 (m:cN) (v:iP):Option (iP):=(cond (Jo m v).isSome (cond (Jp m v).isSome (cond (Jq m v).isSome (some (⟨((Jo m v).getD default),((Jp m v).getD default),((Jq m v).getD default)⟩)) none) none) none)
theorem afo (m:cN) (v:iP):hJ [(204,akH)] [] 164 [IE m,rf v] = (C4 m v).map rf:=by
 unfold C4
 try simp only [aY]
 kernel_rfl
def Yi:List KV->KR KV:=bd PG 164 (bg rf fun vs=>C4 (s5 (v9 vs 0)) (rN (v9 vs 1)))
theorem adj:a9 PG 164 Yi:=bM (ao.cons alN ao.nil) aL.nil fun w=>afo (s5 (g0 29 (w 0))) (rN (g0 27 (w 1)))
def Ie (c:aE) (v:iP):=C4 c.m ⟨(ak (v.x - c.pos.x)),(ak (v.y - c.pos.y)),(ak (v.z - c.pos.z))⟩
def xF (c:aE) (v:iP):Option (iP):=(cond (Ie c v).isSome (some (((Ie c v).getD default))) none)
theorem ajy (c:aE) (v:iP):hJ [(164,Yi)] [] 106 [qF c,rf v] = (xF c v).map rf:=by
 unfold xF
 try simp only [aY]
 kernel_rfl
def Vm:List KV->KR KV:=bd PG 106 (bg rf fun vs=>xF (gZ (v9 vs 0)) (rN (v9 vs 1)))
theorem Vn:a9 PG 106 Vm:=bM (ao.cons adj ao.nil) aL.nil fun w=>ajy (gZ (g0 31 (w 0))) (rN (g0 27 (w 1)))
def o8 (n:Int) (di:Int):Option (Bool):=(cond (decide (n >= (ak (0 - di)))) (some ((decide (n<=di)))) (some (false)))
theorem an2 (n:Int) (di:Int):hJ [] [] 180 [(kI .i64) n,(kI .i64) di] = (o8 n di).map kB:=by
 unfold o8
 try simp only [aY]
 kernel_rfl
def adk:List KV->KR KV:=bd PG 180 (bg kB fun vs=>o8 (intOf (v9 vs 0)) (intOf (v9 vs 1)))
theorem abb:a9 PG 180 adk:=bM ao.nil aL.nil fun w=>an2 (intOf (g0 3 (w 0))) (intOf (g0 3 (w 1)))
def Ss (v:iP) (di:Int):=o8 v.x di
def Su (v:iP) (di:Int):=o8 v.y di
def Sv (v:iP) (di:Int):=o8 v.z di
def DV (v:iP) (di:Int):Option (Bool):=(cond (Ss v di).isSome (cond ((Ss v di).getD default) (cond (Su v di).isSome (cond ((Su v di).getD default) (cond (Sv v di).isSome (some (((Sv v di).getD default))) none) (some (false))) none) (some (false))) none)
theorem alO (v:iP) (di:Int):hJ [(180,adk)] [] 130 [rf v,(kI .i64) di] = (DV v di).map kB:=by
 unfold DV
 try simp only [aY]
 kernel_rfl
def Mc:List KV->KR KV:=bd PG 130 (bg kB fun vs=>DV (rN (v9 vs 0)) (intOf (v9 vs 1)))
theorem Ig:a9 PG 130 Mc:=bM (ao.cons abb ao.nil) aL.nil fun w=>alO (rN (g0 27 (w 0))) (intOf (g0 3 (w 1)))
def OJ (m:cN) (di:Int):=o8 m.e0.e0 di
def OK (m:cN) (di:Int):=o8 m.e0.e1 di
def OL (m:cN) (di:Int):=o8 m.e0.e2 di
def OM (m:cN) (di:Int):=o8 m.e1.e0 di
def OO (m:cN) (di:Int):=o8 m.e1.e1 di
def OP (m:cN) (di:Int):=o8 m.e1.e2 di
def OQ (m:cN) (di:Int):=o8 m.e2.e0 di
def OS (m:cN) (di:Int):=o8 m.e2.e1 di
def OT (m:cN) (di:Int):=o8 m.e2.e2 di
def Et (m:cN) (di:Int):Option (Bool):=(cond (OJ m di).isSome (cond (!((OJ m di).getD default)) (some (false)) (cond (OK m di).isSome (cond (!((OK m di).getD default)) (some (false)) (cond (OL m di).isSome (cond (!((OL m di).getD default)) (some (false)) (cond (OM m di).isSome (cond (!((OM m di).getD default)) (some (false)) (cond (OO m di).isSome (cond (!((OO m di).getD default)) (some (false)) (cond (OP m di).isSome (cond (!((OP m di).getD default)) (some (false)) (cond (OQ m di).isSome (cond (!((OQ m di).getD default)) (some (false)) (cond (OS m di).isSome (cond (!((OS m di).getD default)) (some (false)) (cond (OT m di).isSome (cond (!((OT m di).getD default)) (some (false)) (some (true))) none)) none)) none)) none)) none)) none)) none)) none)) none)
theorem ajz (m:cN) (di:Int):hJ [(180,adk)] [] 154 [IE m,(kI .i64) di] = (Et m di).map kB:=by
 unfold Et
 try simp only [aY]
 kernel_rfl
def aeO:List KV->KR KV:=bd PG 154 (bg kB fun vs=>Et (s5 (v9 vs 0)) (intOf (v9 vs 1)))
theorem aiu:a9 PG 154 aeO:=bM (ao.cons abb ao.nil) aL.nil fun w=>ajz (s5 (g0 29 (w 0))) (intOf (g0 3 (w 1)))
def Md (c:aE):=DV c.pos 4096
def Mf (c:aE):=Et c.m 256
def BA (c:aE):Option (Int):=(cond (Md c).isSome (cond (!((Md c).getD default)) (some (150)) (cond (Mf c).isSome (cond (!((Mf c).getD default)) (some (150)) (cond (decide (c.sN < 1)) (some (150)) (cond (decide (c.sN > 64)) (some (150)) (cond (decide (c.ax < 256)) (some (150)) (cond (decide (c.ax > 4096)) (some (150)) (cond (decide (c.w < 1)) (some (150)) (cond (decide (c.w > 64)) (some (150)) (cond (decide (c.h < 1)) (some (150)) (cond (decide (c.h > 64)) (some (150)) (some (0))))))))))) none)) none)
theorem aiv (c:aE):hJ [(154,aeO),(130,Mc)] [] 89 [qF c] = (BA c).map (kI .i64):=by
 unfold BA
 try simp only [aY]
 kernel_rfl
def abc:List KV->KR KV:=bd PG 89 (bg (kI .i64) fun vs=>BA (gZ (v9 vs 0)))
theorem afp:a9 PG 89 abc:=bM (ao.cons aiu (ao.cons Ig ao.nil)) aL.nil fun w=>aiv (gZ (g0 31 (w 0)))
structure tT where
 t4:Bool
 i:Int
 a:bF
 b:bF
instance:Inhabited tT:=⟨⟨default,default,default,default⟩⟩
def Jr (x:tT):List KV:=[.bool x.t4,.int .i64 x.i]
def Js (x:tT):List (List KV):=[acX x.a,acX x.b]
def Te (vs:List KV) (rs:List (List KV)):tT:=⟨kN (v9 vs 0),intOf (v9 vs 1),acY (r9 rs 0),acY (r9 rs 1)⟩
def Vo:aQ:=⟨[(4,w9 b9),(5,w9 i9)],[(2,[i9,i9,n9 33],1),(3,[i9,i9,n9 33],1)],[(2,0,0),(3,1,0)]⟩
def afq:=uj [] [] 132 58 Vo
def rP (x:tT):aJ tT:=(cond (decide (x.i < (x.a.dH.n:Int))) (cond (bj x.i x.a.dH.n) (cond (bj x.i x.b.dH.n) (cond (!(((x.a.dH.get (Int.toNat x.i)).e0==(x.b.dH.get (Int.toNat x.i)).e0)&&(((x.a.dH.get (Int.toNat x.i)).e1==(x.b.dH.get (Int.toNat x.i)).e1)&&(((x.a.dH.get (Int.toNat x.i)).e2==(x.b.dH.get (Int.toNat x.i)).e2)&&(((x.a.dH.get (Int.toNat x.i)).e3==(x.b.dH.get (Int.toNat x.i)).e3)&&true))))) (.out aF.aq.ret ⟨false,x.i,x.a,x.b⟩) (.next ⟨x.t4,(ak (x.i+1)),x.a,x.b⟩)) .fail) .fail) (.out (aF.aq.exit 0) x))
theorem abd (x:tT):afq (Jr x) (Js x)=aJ.enc Jr Js (rP x):=by
 unfold rP bj
 try simp only [aJ.bz]
 kernel_rfl
def Vp:Lp:=⟨132,58,Vo,fun vs rs=>bT Jr Js (goN rP (Te vs rs)) [aF.aq.exit 0,aF.aq.ret],false⟩
theorem afr:Vp.Ok PG:=tl ao.nil aL.nil (pa:=Te) abd
def yS (a:bF) (b:bF):=goN rP ⟨false,0,a,b⟩
def Eu (a:bF) (b:bF):Option (Bool):=(cond (a.w != b.w) (some (false)) (cond (a.h != b.h) (some (false)) (cond ((a.dH.n:Int) != (b.dH.n:Int)) (some (false)) (cond ((yS a b).by (aF.aq.exit 0)) (some (true)) (cond ((yS a b).by aF.aq.ret) (some ((yS a b).st.t4)) none)))))
theorem ajA (a:bF) (b:bF):hJ [] [Vp] 132 [iy a,iy b] = (Eu a b).map kB:=by
 unfold Eu
 try simp only [aY]
 kernel_rfl
def Vq:List KV->KR KV:=bd PG 132 (bg kB fun vs=>Eu (en (v9 vs 0)) (en (v9 vs 1)))
theorem Vr:a9 PG 132 Vq:=bM ao.nil (hH afr aL.nil) fun w=>ajA (en (g0 114 (w 0))) (en (g0 114 (w 1)))
structure nG where
 a:(Sl bF)
 b:(Sl bF)
 t4:Bool
 i:Int
instance:Inhabited nG:=⟨⟨default,default,default,default⟩⟩
def DW (x:nG):List KV:=[fL 114 iy x.a,fL 114 iy x.b,.bool x.t4,.int .i64 x.i]
def DX (x:nG):List (List KV):=[]
def Mg (vs:List KV) (rs:List (List KV)):nG:=⟨fg en (v9 vs 0),fg en (v9 vs 1),kN (v9 vs 2),intOf (v9 vs 3)⟩
def NK:aQ:=⟨[(0,w9 (n9 114)),(1,w9 (n9 114)),(4,w9 b9),(5,w9 i9)],[],[]⟩
def Zk:=uj [(132,Vq)] [] 67 58 NK
def v7 (x:nG):=Eu (x.a.get (Int.toNat x.i)) (x.b.get (Int.toNat x.i))
def o9 (x:nG):aJ nG:=(cond (decide (x.i < (x.a.n:Int))) (cond (bj x.i x.a.n) (cond (bj x.i x.b.n) (cond (v7 x).isSome (cond (!((v7 x).getD default)) (.out aF.aq.ret ⟨x.a,x.b,false,x.i⟩) (.next ⟨x.a,x.b,x.t4,(ak (x.i+1))⟩)) .fail) .fail) .fail) (.out (aF.aq.exit 0) x))
theorem Vs (x:nG):Zk (DW x) (DX x)=aJ.enc DW DX (o9 x):=by
 unfold o9 bj
 try simp only [aJ.bz]
 kernel_rfl
def NL:Lp:=⟨67,58,NK,fun vs rs=>bT DW DX (goN o9 (Mg vs rs)) [aF.aq.exit 0,aF.aq.ret],false⟩
theorem Zl:NL.Ok PG:=tl (ao.cons Vr ao.nil) aL.nil (pa:=Mg) Vs
def tz (a:(Sl bF)) (b:(Sl bF)):=goN o9 ⟨a,b,false,0⟩
def w5 (a:(Sl bF)) (b:(Sl bF)):Option (Bool):=(cond ((a.n:Int) != (b.n:Int)) (some (false)) (cond ((tz a b).by (aF.aq.exit 0)) (some (true)) (cond ((tz a b).by aF.aq.ret) (some ((tz a b).st.t4)) none)))
theorem adl (a:(Sl bF)) (b:(Sl bF)):hJ [(132,Vq)] [NL] 67 [(fL 114 iy) a,(fL 114 iy) b] = (w5 a b).map kB:=by
 unfold w5
 try simp only [aY]
 kernel_rfl
def Mh:List KV->KR KV:=bd PG 67 (bg kB fun vs=>w5 ((fg en) (v9 vs 0)) ((fg en) (v9 vs 1)))
theorem NM:a9 PG 67 Mh:=bM (ao.cons Vr ao.nil) (hH Zl aL.nil) fun w=>adl ((fg en) (g0 23 (w 0))) ((fg en) (g0 23 (w 1)))
structure oH where
 t4:Bool
 i:Int
 a:Item
 b:Item
instance:Inhabited oH:=⟨⟨default,default,default,default⟩⟩
def Cp (x:oH):List KV:=[.bool x.t4,.int .i64 x.i]
def Cq (x:oH):List (List KV):=[Cl x.a,Cl x.b]
def J1 (vs:List KV) (rs:List (List KV)):oH:=⟨kN (v9 vs 0),intOf (v9 vs 1),DR (r9 rs 0),DR (r9 rs 1)⟩
def Mi:aQ:=⟨[(4,w9 b9),(5,w9 i9)],[(2,[n9 27,n9 181,n9 28,u9,u9,u9,u9,i9,u9,i9,b9,i9,i9,i9,i9,i9,i9,i9],1),(3,[n9 27,n9 181,n9 28,u9,u9,u9,u9,i9,u9,i9,b9,i9,i9,i9,i9,i9,i9,i9],1)],[(2,0,0),(3,1,0)]⟩
def Xc:=uj [] [] 68 58 Mi
def nN (x:oH):aJ oH:=(cond (decide (x.i < (x.a.aH.n:Int))) (cond (bj x.i x.a.aH.n) (cond (bj x.i x.b.aH.n) (cond (!(((x.a.aH.get (Int.toNat x.i)).x==(x.b.aH.get (Int.toNat x.i)).x)&&(((x.a.aH.get (Int.toNat x.i)).y==(x.b.aH.get (Int.toNat x.i)).y)&&(((x.a.aH.get (Int.toNat x.i)).z==(x.b.aH.get (Int.toNat x.i)).z)&&true)))) (.out aF.aq.ret ⟨false,x.i,x.a,x.b⟩) (.next ⟨x.t4,(ak (x.i+1)),x.a,x.b⟩)) .fail) .fail) (.out (aF.aq.exit 0) x))
theorem TI (x:oH):Xc (Cp x) (Cq x)=aJ.enc Cp Cq (nN x):=by
 unfold nN bj
 try simp only [aJ.bz]
 kernel_rfl
def yc:Lp:=⟨68,58,Mi,fun vs rs=>bT Cp Cq (goN nN (J1 vs rs)) [aF.aq.exit 0,aF.aq.ret],false⟩
theorem Cr:yc.Ok PG:=tl ao.nil aL.nil (pa:=J1) TI
structure ns where
 t4:Bool
 i:Int
 a:Item
 b:Item
instance:Inhabited ns:=⟨⟨default,default,default,default⟩⟩
def Ay (x:ns):List KV:=[.bool x.t4,.int .i64 x.i]
def Az (x:ns):List (List KV):=[Cl x.a,Cl x.b]
def IQ (vs:List KV) (rs:List (List KV)):ns:=⟨kN (v9 vs 0),intOf (v9 vs 1),DR (r9 rs 0),DR (r9 rs 1)⟩
def J2:aQ:=⟨[(4,w9 b9),(6,w9 i9)],[(2,[n9 27,n9 181,n9 28,u9,u9,u9,u9,i9,u9,i9,b9,i9,i9,i9,i9,i9,i9,i9],1),(3,[n9 27,n9 181,n9 28,u9,u9,u9,u9,i9,u9,i9,b9,i9,i9,i9,i9,i9,i9,i9],1)],[(2,0,0),(3,1,0)]⟩
def Vt:=uj [] [yc] 68 122 J2
def mU (x:ns):aJ ns:=(cond (decide (x.i < (x.a.uV.n:Int))) (cond (bj x.i x.a.uV.n) (cond (bj x.i x.b.uV.n) (cond (!(((x.a.uV.get (Int.toNat x.i)).e0==(x.b.uV.get (Int.toNat x.i)).e0)&&(((x.a.uV.get (Int.toNat x.i)).e1==(x.b.uV.get (Int.toNat x.i)).e1)&&true))) (.out aF.aq.ret ⟨false,x.i,x.a,x.b⟩) (.next ⟨x.t4,(ak (x.i+1)),x.a,x.b⟩)) .fail) .fail) (.out (aF.aq.exit 2) x))
theorem Sx (x:ns):Vt (Ay x) (Az x)=aJ.enc Ay Az (mU x):=by
 unfold mU bj
 try simp only [aJ.bz]
 kernel_rfl
def Cs:Lp:=⟨68,122,J2,fun vs rs=>bT Ay Az (goN mU (IQ vs rs)) [aF.aq.exit 2,aF.aq.ret],false⟩
theorem IU:Cs.Ok PG:=tl ao.nil (hH Cr aL.nil) (pa:=IQ) Sx
structure nu where
 t4:Bool
 i:Int
 a:Item
 b:Item
instance:Inhabited nu:=⟨⟨default,default,default,default⟩⟩
def AA (x:nu):List KV:=[.bool x.t4,.int .i64 x.i]
def AB (x:nu):List (List KV):=[Cl x.a,Cl x.b]
def IV (vs:List KV) (rs:List (List KV)):nu:=⟨kN (v9 vs 0),intOf (v9 vs 1),DR (r9 rs 0),DR (r9 rs 1)⟩
def J3:aQ:=⟨[(4,w9 b9),(7,w9 i9)],[(2,[n9 27,n9 181,n9 28,u9,u9,u9,u9,i9,u9,i9,b9,i9,i9,i9,i9,i9,i9,i9],1),(3,[n9 27,n9 181,n9 28,u9,u9,u9,u9,i9,u9,i9,b9,i9,i9,i9,i9,i9,i9,i9],1)],[(2,0,0),(3,1,0)]⟩
def Vu:=uj [] [yc,Cs] 68 250 J3
def mV (x:nu):aJ nu:=(cond (decide (x.i < (x.a.bf.n:Int))) (cond (bj x.i x.a.bf.n) (cond (bj x.i x.b.bf.n) (cond (!(((x.a.bf.get (Int.toNat x.i)).e0==(x.b.bf.get (Int.toNat x.i)).e0)&&(((x.a.bf.get (Int.toNat x.i)).e1==(x.b.bf.get (Int.toNat x.i)).e1)&&(((x.a.bf.get (Int.toNat x.i)).e2==(x.b.bf.get (Int.toNat x.i)).e2)&&true)))) (.out aF.aq.ret ⟨false,x.i,x.a,x.b⟩) (.next ⟨x.t4,(ak (x.i+1)),x.a,x.b⟩)) .fail) .fail) (.out (aF.aq.exit 4) x))
theorem Sy (x:nu):Vu (AA x) (AB x)=aJ.enc AA AB (mV x):=by
 unfold mV bj
 try simp only [aJ.bz]
 kernel_rfl
def J4:Lp:=⟨68,250,J3,fun vs rs=>bT AA AB (goN mV (IV vs rs)) [aF.aq.exit 4,aF.aq.ret],false⟩
theorem Vv:J4.Ok PG:=tl ao.nil (hH Cr (hH IU aL.nil)) (pa:=IV) Sy
def jT (a:Item) (b:Item):=goN nN ⟨false,0,a,b⟩
def jU (a:Item) (b:Item):=goN mU ⟨(jT a b).st.t4,0,(jT a b).st.a,(jT a b).st.b⟩
def rQ (a:Item) (b:Item):=goN mV ⟨(jU a b).st.t4,0,(jU a b).st.a,(jU a b).st.b⟩
def uJ (a:Item) (b:Item):Option (Bool):=(cond ((a.aH.n:Int) != (b.aH.n:Int)) (some (false)) (cond ((a.uV.n:Int) != (b.uV.n:Int)) (some (false)) (cond ((a.bf.n:Int) != (b.bf.n:Int)) (some (false)) (cond (!((a.look.color.e0==b.look.color.e0)&&((a.look.color.e1==b.look.color.e1)&&((a.look.color.e2==b.look.color.e2)&&((a.look.color.e3==b.look.color.e3)&&((a.look.iG==b.look.iG)&&((a.look.cA==b.look.cA)&&((a.look.FC==b.look.FC)&&((a.look.Ai==b.look.Ai)&&((a.look.bin==b.look.bin)&&true)))))))))) (some (false)) (cond (!((a.box.low.x==b.box.low.x)&&((a.box.low.y==b.box.low.y)&&((a.box.low.z==b.box.low.z)&&((a.box.high.x==b.box.high.x)&&((a.box.high.y==b.box.high.y)&&((a.box.high.z==b.box.high.z)&&true))))))) (some (false)) (cond ((jT a b).by (aF.aq.exit 0)) (cond ((jU a b).by (aF.aq.exit 2)) (cond ((rQ a b).by (aF.aq.exit 4)) (some (true)) (cond ((rQ a b).by aF.aq.ret) (some ((rQ a b).st.t4)) none)) (cond ((jU a b).by aF.aq.ret) (some ((jU a b).st.t4)) none)) (cond ((jT a b).by aF.aq.ret) (some ((jT a b).st.t4)) none)))))))
theorem abe (a:Item) (b:Item):hJ [] [yc,Cs,J4] 68 [FD a,FD b] = (uJ a b).map kB:=by
 unfold uJ
 try simp only [aY]
 kernel_rfl
def Jt:List KV->KR KV:=bd PG 68 (bg kB fun vs=>uJ (x6 (v9 vs 0)) (x6 (v9 vs 1)))
theorem Mj:a9 PG 68 Jt:=bM ao.nil (hH Cr (hH IU (hH Vv aL.nil))) fun w=>abe (x6 (g0 111 (w 0))) (x6 (g0 111 (w 1)))
structure mz where
 t4:Bool
 i:Int
 a:Show
 b:Show
instance:Inhabited mz:=⟨⟨default,default,default,default⟩⟩
def Ct (x:mz):List KV:=[.bool x.t4,.int .i64 x.i]
def Cu (x:mz):List (List KV):=[sP x.a,sP x.b]
def J5 (vs:List KV) (rs:List (List KV)):mz:=⟨kN (v9 vs 0),intOf (v9 vs 1),sQ (r9 rs 0),sQ (r9 rs 1)⟩
def Ml:aQ:=⟨[(4,w9 b9),(5,w9 i9)],[(2,[n9 111,n9 114],1),(3,[n9 111,n9 114],1)],[(2,0,0),(3,1,0)]⟩
def Xd:=uj [(68,Jt),(67,Mh)] [] 21 58 Ml
def vh (x:mz):=uJ (x.a.items.get (Int.toNat x.i)) (x.b.items.get (Int.toNat x.i))
def nP (x:mz):aJ mz:=(cond (decide (x.i < (x.a.items.n:Int))) (cond (bj x.i x.a.items.n) (cond (bj x.i x.b.items.n) (cond (vh x).isSome (cond (!((vh x).getD default)) (.out aF.aq.ret ⟨false,x.i,x.a,x.b⟩) (.next ⟨x.t4,(ak (x.i+1)),x.a,x.b⟩)) .fail) .fail) .fail) (.out (aF.aq.exit 0) x))
theorem TJ (x:mz):Xd (Ct x) (Cu x)=aJ.enc Ct Cu (nP x):=by
 unfold nP bj
 try simp only [aJ.bz]
 kernel_rfl
def Mm:Lp:=⟨21,58,Ml,fun vs rs=>bT Ct Cu (goN nP (J5 vs rs)) [aF.aq.exit 0,aF.aq.ret],false⟩
theorem Xe:Mm.Ok PG:=tl (ao.cons Mj (ao.cons NM ao.nil)) aL.nil (pa:=J5) TJ
def FO (a:Show) (b:Show):=w5 a.au b.au
def rR (a:Show) (b:Show):=goN nP ⟨false,0,a,b⟩
def uK (a:Show) (b:Show):Option (Bool):=(cond ((a.items.n:Int) != (b.items.n:Int)) (some (false)) (cond (FO a b).isSome (cond (!((FO a b).getD default)) (some (false)) (cond ((rR a b).by (aF.aq.exit 0)) (some (true)) (cond ((rR a b).by aF.aq.ret) (some ((rR a b).st.t4)) none))) none))
theorem abf (a:Show) (b:Show):hJ [(68,Jt),(67,Mh)] [Mm] 21 [uB a,uB b] = (uK a b).map kB:=by
 unfold uK
 try simp only [aY]
 kernel_rfl
def Tf:List KV->KR KV:=bd PG 21 (bg kB fun vs=>uK (kL (v9 vs 0)) (kL (v9 vs 1)))
theorem Zm:a9 PG 21 Tf:=bM (ao.cons Mj (ao.cons NM ao.nil)) (hH Xe aL.nil) fun w=>abf (kL (g0 25 (w 0))) (kL (g0 25 (w 1)))
def qS (x:Int):Option (Bool):=(some ((x != x)))
theorem Zn (x:Int):zW PG (iK PG [] [] (fun q=>Nat.beq q 48)) 9 9 134 [(kI .i64) x] = (qS x).map kB:=by
 unfold qS
 kernel_rfl
def Qi:List KV->KR KV:=bd PG 134 (bg kB fun vs=>qS (intOf (v9 vs 0)))
theorem Xf:a9 PG 134 Qi:=bM ao.nil aL.nil fun w=>Zn (intOf (g0 3 (w 0)))
def Cv (x:Int) (y:Int):=qS x
def v8 (x:Int) (y:Int):=qS y
def fv (x:Int) (y:Int):Option (Int):=(cond ((Cv x y).getD default) (cond ((v8 x y).getD default) (some (0)) (some ((-(1:Int))))) (cond ((v8 x y).getD default) (some (1)) (cond (decide (x < y)) (some ((-(1:Int)))) (cond (decide (x > y)) (some (1)) (some (0))))))
theorem Xg (x:Int) (y:Int):zW PG (iK PG [(134,Qi)] [] (fun q=>Nat.beq q 48)) 9 9 75 [(kI .i64) x,(kI .i64) y] = (fv x y).map (kI .i64):=by
 unfold fv
 try simp only [aY]
 kernel_rfl
def cu:List KV->KR KV:=bd PG 75 (bg (kI .i64) fun vs=>fv (intOf (v9 vs 0)) (intOf (v9 vs 1)))
theorem bP:a9 PG 75 cu:=bM (ao.cons Xf ao.nil) aL.nil fun w=>Xg (intOf (g0 3 (w 0))) (intOf (g0 3 (w 1)))
structure dh where
 data:(Sl aU)
 a:Int
 b:Int
 n:Int
 held:aI
instance:Inhabited dh:=⟨⟨default,default,default,default,default⟩⟩
def lU (x:dh):List KV:=[fL 48 iY x.data,.int .i64 x.a,.int .i64 x.b,.int .i64 x.n,.fn (.func 119) [] [.ptr 0 0]]
def lV (x:dh):List (List KV):=[cJ x.held]
def vP (vs:List KV) (rs:List (List KV)):dh:=⟨fg im (v9 vs 0),intOf (v9 vs 1),intOf (v9 vs 2),intOf (v9 vs 3),cK (r9 rs 0)⟩
def w6:aQ:=⟨[(0,⟨false,[.arr 48]⟩),(1,w9 i9),(2,w9 i9),(3,w9 i9),(4,⟨false,[.ref (.fn (.func 119) [] [.ptr 0 0])]⟩)],[(100004,[n9 111,n9 114,n9 197],1)],[]⟩
structure fy where
 data:(Sl aU)
 a:Int
 b:Int
 n:Int
 i:Int
 iL:aI
instance:Inhabited fy:=⟨by constructor<;>exact default⟩
def kQ (x:fy):List KV:=[fL 48 iY x.data,.int .i64 x.a,.int .i64 x.b,.int .i64 x.n,.fn (.func 119) [] [.ptr 0 0],.int .i64 x.i]
def kR (x:fy):List (List KV):=[cJ x.iL]
def um (vs:List KV) (rs:List (List KV)):fy:=⟨fg im (v9 vs 0),intOf (v9 vs 1),intOf (v9 vs 2),intOf (v9 vs 3),intOf (v9 vs 5),cK (r9 rs 0)⟩
def vi:aQ:=⟨[(0,⟨false,[.arr 48]⟩),(1,w9 i9),(2,w9 i9),(3,w9 i9),(4,⟨false,[.ref (.fn (.func 119) [] [.ptr 0 0])]⟩),(10,w9 i9)],[(100004,[n9 111,n9 114,n9 197],1)],[]⟩
def EF:=uh PG (iK PG [(75,cu)] [] (fun q=>Nat.beq q 48)) 9 9 220 6 (pn PG 220 6) vi
def dz (x:fy):aJ fy:=(cond (decide (x.i < x.n)) (cond (bj (ak (x.b+x.i)) x.data.n) (cond (bj (ak (x.a+x.i)) x.data.n) (cond (bj (ak (x.a+x.i)) x.data.n) (cond (bj (ak (x.b+x.i)) x.data.n) (cond (aC x.data.n) (.next ⟨((x.data.set (0+(Int.toNat (ak (x.a+x.i)))) (x.data.get (0+(Int.toNat (ak (x.b+x.i)))))).set (0+(Int.toNat (ak (x.b+x.i)))) (x.data.get (0+(Int.toNat (ak (x.a+x.i)))))),x.a,x.b,x.n,(ak (x.i+1)),x.iL⟩) .fail) .fail) .fail) .fail) .fail) (cond (aC x.data.n) (.out (aF.aq.exit 0) x) .fail))
theorem C5 (x:fy):EF (kQ x) (kR x)=aJ.enc kQ kR (dz x):=by
 unfold dz bj aC
 try simp only [aJ.bz,WJ,WI]
 kernel_rfl
def vj:Lp:=⟨220,6,vi,fun vs rs=>bT kQ kR (goN dz (um vs rs)) [aF.aq.exit 0],true⟩
theorem EG:vj.Ok PG:=oh funcs mixed (ao.cons bP ao.nil) aL.nil (L:=9) (n:=9) (step:=dz) (ev:=kQ) (er:=kR) (pa:=um) rfl (fun wv wr=>⟨by kernel_rfl,by kernel_rfl⟩) C5
def Gj:=Oq PG (iK PG [(75,cu)] [vj] (fun q=>Nat.beq q 48)) 9 9 220 w6
def eA (x:dh):=goN dz ⟨x.data,x.a,x.b,x.n,0,x.held⟩
def kS (x:dh):aJ dh:=(cond (aC x.data.n) (cond ((eA x).by (aF.aq.exit 0)) (cond (aC (eA x).st.data.n) (.out aF.aq.ret ⟨(eA x).st.data,(eA x).st.a,(eA x).st.b,(eA x).st.n,(eA x).st.iL⟩) .fail) .fail) .fail)
theorem EH (x:dh):Gj (lU x) (lV x)=aJ.enc lU lV (kS x):=by
 unfold kS aC
 try simp only [aJ.bz]
 kernel_rfl
def gk (x:dh):aJ dh:=kS x
def qT:Fc:=⟨220,w6,fun vs rs=>bT lU lV (gk (vP vs rs)) [aF.aq.ret]⟩
theorem vk:qT.Ok PG:=IB funcs mixed (ao.cons bP ao.nil) (hH EG aL.nil) (L:=9) (n:=9) (step:=gk) (ev:=lU) (er:=lV) (pa:=vP) rfl (fun wv wr=>⟨by kernel_rfl,by kernel_rfl⟩) EH
structure dx where
 data:(Sl aU)
 a:Int
 m:Int
 b:Int
 held:aI
instance:Inhabited dx:=⟨⟨default,default,default,default,default⟩⟩
def oo (x:dx):List KV:=[fL 48 iY x.data,.int .i64 x.a,.int .i64 x.m,.int .i64 x.b,.fn (.func 119) [] [.ptr 0 0]]
def oq (x:dx):List (List KV):=[cJ x.held]
def yC (vs:List KV) (rs:List (List KV)):dx:=⟨fg im (v9 vs 0),intOf (v9 vs 1),intOf (v9 vs 2),intOf (v9 vs 3),cK (r9 rs 0)⟩
def zB:aQ:=⟨[(0,⟨false,[.arr 48]⟩),(1,w9 i9),(2,w9 i9),(3,w9 i9),(4,⟨false,[.ref (.fn (.func 119) [] [.ptr 0 0])]⟩)],[(100004,[n9 111,n9 114,n9 197],1)],[]⟩
structure dV where
 data:(Sl aU)
 a:Int
 m:Int
 b:Int
 i:Int
 j:Int
 iL:aI
instance:Inhabited dV:=⟨by constructor<;>exact default⟩
def lW (x:dV):List KV:=[fL 48 iY x.data,.int .i64 x.a,.int .i64 x.m,.int .i64 x.b,.fn (.func 119) [] [.ptr 0 0],.int .i64 x.i,.int .i64 x.j]
def lX (x:dV):List (List KV):=[cJ x.iL]
def vQ (vs:List KV) (rs:List (List KV)):dV:=⟨fg im (v9 vs 0),intOf (v9 vs 1),intOf (v9 vs 2),intOf (v9 vs 3),intOf (v9 vs 5),intOf (v9 vs 6),cK (r9 rs 0)⟩
def w7:aQ:=⟨[(0,⟨false,[.arr 48]⟩),(1,w9 i9),(2,w9 i9),(3,w9 i9),(4,⟨false,[.ref (.fn (.func 119) [] [.ptr 0 0])]⟩),(10,w9 i9),(11,w9 i9)],[(100004,[n9 111,n9 114,n9 197],1)],[]⟩
def Gk:=uh PG (iK PG [(75,cu)] [] (fun q=>Nat.beq q 48) false false [qT]) 9 9 215 28 (pn PG 215 28) w7
def gN (x:dV):=gk ⟨x.data,(ak (x.m - x.i)),x.m,x.j,x.iL⟩
def gP (x:dV):=gk ⟨x.data,(ak (x.m - x.i)),(ak ((ak (x.m+x.j)) - x.i)),x.i,x.iL⟩
def dY (x:dV):aJ dV:=(cond (x.i != x.j) (cond (decide (x.i > x.j)) (cond (aC x.data.n) (cond ((gN x).by aF.aq.ret) (cond (ik (gN x).st.data.n x.data.n) (.next ⟨(gN x).st.data,x.a,x.m,x.b,(ak (x.i - x.j)),x.j,(gN x).st.held⟩) .fail) .fail) .fail) (cond (aC x.data.n) (cond ((gP x).by aF.aq.ret) (cond (ik (gP x).st.data.n x.data.n) (.next ⟨(gP x).st.data,x.a,x.m,x.b,x.i,(ak (x.j - x.i)),(gP x).st.held⟩) .fail) .fail) .fail)) (cond (aC x.data.n) (.out (aF.aq.exit 0) x) .fail))
theorem EI (x:dV):Gk (lW x) (lX x)=aJ.enc lW lX (dY x):=by
 unfold dY aC
 try simp only [aJ.bz]
 kernel_rfl
def xc:Lp:=⟨215,28,w7,fun vs rs=>bT lW lX (goN dY (vQ vs rs)) [aF.aq.exit 0],true⟩
theorem Gl:xc.Ok PG:=oh funcs mixed (ao.cons bP ao.nil) aL.nil (L:=9) (n:=9) (step:=dY) (ev:=lW) (er:=lX) (pa:=vQ) rfl (fun wv wr=>⟨by kernel_rfl,by kernel_rfl⟩) EI (Jg:=(gT.cons vk gT.nil))
def Ju:=Oq PG (iK PG [(75,cu)] [xc] (fun q=>Nat.beq q 48) false false [qT]) 9 9 215 zB
def bR (x:dx):=goN dY ⟨x.data,x.a,x.m,x.b,(ak (x.m - x.a)),(ak (x.b - x.m)),x.held⟩
def iz (x:dx):=gk ⟨(bR x).st.data,(ak ((bR x).st.m - (bR x).st.i)),(bR x).st.m,(bR x).st.i,(bR x).st.iL⟩
def mW (x:dx):aJ dx:=(cond (aC x.data.n) (cond ((bR x).by (aF.aq.exit 0)) (cond (aC (bR x).st.data.n) (cond ((iz x).by aF.aq.ret) (cond (ik (iz x).st.data.n (bR x).st.data.n) (.out aF.aq.ret ⟨(iz x).st.data,(bR x).st.a,(bR x).st.m,(bR x).st.b,(iz x).st.held⟩) .fail) .fail) .fail) .fail) .fail)
theorem Hg (x:dx):Ju (oo x) (oq x)=aJ.enc oo oq (mW x):=by
 unfold mW aC
 try simp only [aJ.bz]
 kernel_rfl
def eV (x:dx):aJ dx:=mW x
def gh:Fc:=⟨215,zB,fun vs rs=>bT oo oq (eV (yC vs rs)) [aF.aq.ret]⟩
theorem gA:gh.Ok PG:=IB funcs mixed (ao.cons bP ao.nil) (hH Gl aL.nil) (L:=9) (n:=9) (step:=eV) (ev:=oo) (er:=oq) (pa:=yC) rfl (fun wv wr=>⟨by kernel_rfl,by kernel_rfl⟩) Hg (Jg:=(gT.cons vk gT.nil))
structure cz where
 data:(Sl aU)
 a:Int
 b:Int
 held:aI
instance:Inhabited cz:=⟨⟨default,default,default,default⟩⟩
def jV (x:cz):List KV:=[fL 48 iY x.data,.int .i64 x.a,.int .i64 x.b,.fn (.func 119) [] [.ptr 0 0]]
def jW (x:cz):List (List KV):=[cJ x.held]
def ta (vs:List KV) (rs:List (List KV)):cz:=⟨fg im (v9 vs 0),intOf (v9 vs 1),intOf (v9 vs 2),cK (r9 rs 0)⟩
def tU:aQ:=⟨[(0,⟨false,[.arr 48]⟩),(1,w9 i9),(2,w9 i9),(3,⟨false,[.ref (.fn (.func 119) [] [.ptr 0 0])]⟩)],[(100003,[n9 111,n9 114,n9 197],1)],[]⟩
structure dj where
 data:(Sl aU)
 a:Int
 b:Int
 i:Int
 jG:aI
instance:Inhabited dj:=⟨⟨default,default,default,default,default⟩⟩
def jl (x:dj):List KV:=[fL 48 iY x.data,.int .i64 x.a,.int .i64 x.b,.fn (.func 119) [] [.ptr 0 0],.int .i64 x.i]
def jm (x:dj):List (List KV):=[cJ x.jG]
def rS (vs:List KV) (rs:List (List KV)):dj:=⟨fg im (v9 vs 0),intOf (v9 vs 1),intOf (v9 vs 2),intOf (v9 vs 4),cK (r9 rs 0)⟩
def sA:aQ:=⟨[(0,⟨false,[.arr 48]⟩),(1,w9 i9),(2,w9 i9),(3,⟨false,[.ref (.fn (.func 119) [] [.ptr 0 0])]⟩),(8,w9 i9)],[(100003,[n9 111,n9 114,n9 197],1)],[]⟩
structure cS where
 data:(Sl aU)
 a:Int
 b:Int
 i:Int
 j:Int
 jG:aI
instance:Inhabited cS:=⟨by constructor<;>exact default⟩
def iI (x:cS):List KV:=[fL 48 iY x.data,.int .i64 x.a,.int .i64 x.b,.fn (.func 119) [] [.ptr 0 0],.int .i64 x.i,.int .i64 x.j]
def iJ (x:cS):List (List KV):=[cJ x.jG]
def rh (vs:List KV) (rs:List (List KV)):cS:=⟨fg im (v9 vs 0),intOf (v9 vs 1),intOf (v9 vs 2),intOf (v9 vs 4),intOf (v9 vs 5),cK (r9 rs 0)⟩
def rE:aQ:=⟨[(0,⟨false,[.arr 48]⟩),(1,w9 i9),(2,w9 i9),(3,⟨false,[.ref (.fn (.func 119) [] [.ptr 0 0])]⟩),(8,w9 i9),(9,w9 i9)],[(100003,[n9 111,n9 114,n9 197],1)],[]⟩
def zI:=uh PG (iK PG [(75,cu)] [] (fun q=>Nat.beq q 48)) 9 9 208 402 (pn PG 208 402) rE
def iv (x:cS):=fv (x.jG.dc.items.get (Int.toNat (x.data.get (0+(Int.toNat x.j))).item)).look.bin (x.jG.dc.items.get (Int.toNat (x.data.get (0+(Int.toNat (ak (x.j - 1))))).item)).look.bin
def cC (x:cS):aJ cS:=(cond (decide (x.j > x.a)) (cond (bj x.j x.data.n) (cond (bj (ak (x.j - 1)) x.data.n) (cond (bj (x.data.get (0+(Int.toNat x.j))).item x.jG.dc.items.n) (cond (bj (x.data.get (0+(Int.toNat (ak (x.j - 1))))).item x.jG.dc.items.n) (cond (iv x).isSome (cond (decide (((iv x).getD default) < 0)) (cond (bj (ak (x.j - 1)) x.data.n) (cond (bj x.j x.data.n) (cond (bj x.j x.data.n) (cond (bj (ak (x.j - 1)) x.data.n) (cond (aC x.data.n) (.next ⟨((x.data.set (0+(Int.toNat x.j)) (x.data.get (0+(Int.toNat (ak (x.j - 1)))))).set (0+(Int.toNat (ak (x.j - 1)))) (x.data.get (0+(Int.toNat x.j)))),x.a,x.b,x.i,(ak (x.j - 1)),x.jG⟩) .fail) .fail) .fail) .fail) .fail) (cond (aC x.data.n) (.out (aF.aq.exit 2) x) .fail)) .fail) .fail) .fail) .fail) .fail) (cond (aC x.data.n) (.out (aF.aq.exit 2) x) .fail))
theorem yD (x:cS):zI (iI x) (iJ x)=aJ.enc iI iJ (cC x):=by
 unfold cC bj aC
 try simp only [aJ.bz,WJ,WI]
 kernel_rfl
def mA:Lp:=⟨208,402,rE,fun vs rs=>bT iI iJ (goN cC (rh vs rs)) [aF.aq.exit 2],true⟩
theorem ri:mA.Ok PG:=oh funcs mixed (ao.cons bP ao.nil) aL.nil (L:=9) (n:=9) (step:=cC) (ev:=iI) (er:=iJ) (pa:=rh) rfl (fun wv wr=>⟨by kernel_rfl,by kernel_rfl⟩) yD
def BB:=uh PG (iK PG [(75,cu)] [mA] (fun q=>Nat.beq q 48)) 9 9 208 6 (pn PG 208 6) sA
def cv (x:dj):=goN cC ⟨x.data,x.a,x.b,x.i,x.i,x.jG⟩
def cH (x:dj):aJ dj:=(cond (decide (x.i < x.b)) (cond (aC x.data.n) (cond ((cv x).by (aF.aq.exit 2)) (cond (aC (cv x).st.data.n) (.next ⟨(cv x).st.data,(cv x).st.a,(cv x).st.b,(ak ((cv x).st.i+1)),(cv x).st.jG⟩) .fail) .fail) .fail) (cond (aC x.data.n) (.out (aF.aq.exit 0) x) .fail))
theorem zJ (x:dj):BB (jl x) (jm x)=aJ.enc jl jm (cH x):=by
 unfold cH aC
 try simp only [aJ.bz]
 kernel_rfl
def sB:Lp:=⟨208,6,sA,fun vs rs=>bT jl jm (goN cH (rS vs rs)) [aF.aq.exit 0],true⟩
theorem BC:sB.Ok PG:=oh funcs mixed (ao.cons bP ao.nil) (hH ri aL.nil) (L:=9) (n:=9) (step:=cH) (ev:=jl) (er:=jm) (pa:=rS) rfl (fun wv wr=>⟨by kernel_rfl,by kernel_rfl⟩) zJ
def C6:=Oq PG (iK PG [(75,cu)] [mA,sB] (fun q=>Nat.beq q 48)) 9 9 208 tU
def dk (x:cz):=goN cH ⟨x.data,x.a,x.b,(ak (x.a+1)),x.held⟩
def jn (x:cz):aJ cz:=(cond (aC x.data.n) (cond ((dk x).by (aF.aq.exit 0)) (cond (aC (dk x).st.data.n) (.out aF.aq.ret ⟨(dk x).st.data,(dk x).st.a,(dk x).st.b,(dk x).st.jG⟩) .fail) .fail) .fail)
theorem BD (x:cz):C6 (jV x) (jW x)=aJ.enc jV jW (jn x):=by
 unfold jn aC
 try simp only [aJ.bz]
 kernel_rfl
def gm (x:cz):aJ cz:=jn x
def iq:Fc:=⟨208,tU,fun vs rs=>bT jV jW (gm (ta vs rs)) [aF.aq.ret]⟩
theorem jB:iq.Ok PG:=IB funcs mixed (ao.cons bP ao.nil) (hH ri (hH BC aL.nil)) (L:=9) (n:=9) (step:=gm) (ev:=jV) (er:=jW) (pa:=ta) rfl (fun wv wr=>⟨by kernel_rfl,by kernel_rfl⟩) BD
structure aa where
 data:(Sl aU)
 a:Int
 m:Int
 b:Int
 held:aI
instance:Inhabited aa:=⟨⟨default,default,default,default,default⟩⟩
def jH (x:aa):List KV:=[fL 48 iY x.data,.int .i64 x.a,.int .i64 x.m,.int .i64 x.b,.fn (.func 119) [] [.ptr 0 0]]
def jI (x:aa):List (List KV):=[cJ x.held]
def qU (vs:List KV) (rs:List (List KV)):aa:=⟨fg im (v9 vs 0),intOf (v9 vs 1),intOf (v9 vs 2),intOf (v9 vs 3),cK (r9 rs 0)⟩
def rF:aQ:=⟨[(0,⟨false,[.arr 48]⟩),(1,w9 i9),(2,w9 i9),(3,w9 i9),(4,⟨false,[.ref (.fn (.func 119) [] [.ptr 0 0])]⟩)],[(100004,[n9 111,n9 114,n9 197],1)],[]⟩
structure dZ where
 data:(Sl aU)
 a:Int
 m:Int
 b:Int
 i:Int
 j:Int
 iL:aI
instance:Inhabited dZ:=⟨by constructor<;>exact default⟩
def kx (x:dZ):List KV:=[fL 48 iY x.data,.int .i64 x.a,.int .i64 x.m,.int .i64 x.b,.fn (.func 119) [] [.ptr 0 0],.int .i64 x.i,.int .i64 x.j]
def ky (x:dZ):List (List KV):=[cJ x.iL]
def tV (vs:List KV) (rs:List (List KV)):dZ:=⟨fg im (v9 vs 0),intOf (v9 vs 1),intOf (v9 vs 2),intOf (v9 vs 3),intOf (v9 vs 5),intOf (v9 vs 6),cK (r9 rs 0)⟩
def uo:aQ:=⟨[(0,⟨false,[.arr 48]⟩),(1,w9 i9),(2,w9 i9),(3,w9 i9),(4,⟨false,[.ref (.fn (.func 119) [] [.ptr 0 0])]⟩),(10,w9 i9),(11,w9 i9)],[(100004,[n9 111,n9 114,n9 197],1)],[]⟩
def DY:=uh PG (iK PG [(75,cu)] [] (fun q=>Nat.beq q 48) false false [gh]) 9 9 209 172 (pn PG 209 172) uo
def jX (x:dZ):=fv (x.iL.dc.items.get (Int.toNat (x.data.get (0+(Int.toNat (ak (Int.fdiv (uk (ak (x.i+x.j))) 2))))).item)).look.bin (x.iL.dc.items.get (Int.toNat (x.data.get (0+(Int.toNat x.a))).item)).look.bin
def dm (x:dZ):aJ dZ:=(cond (decide (x.i < x.j)) (cond (bj (ak (Int.fdiv (uk (ak (x.i+x.j))) 2)) x.data.n) (cond (bj x.a x.data.n) (cond (bj (x.data.get (0+(Int.toNat (ak (Int.fdiv (uk (ak (x.i+x.j))) 2))))).item x.iL.dc.items.n) (cond (bj (x.data.get (0+(Int.toNat x.a))).item x.iL.dc.items.n) (cond (jX x).isSome (cond (decide (((jX x).getD default) < 0)) (cond (aC x.data.n) (.next ⟨x.data,x.a,x.m,x.b,(ak ((ak (Int.fdiv (uk (ak (x.i+x.j))) 2))+1)),x.j,x.iL⟩) .fail) (cond (aC x.data.n) (.next ⟨x.data,x.a,x.m,x.b,x.i,(ak (Int.fdiv (uk (ak (x.i+x.j))) 2)),x.iL⟩) .fail)) .fail) .fail) .fail) .fail) .fail) (cond (aC x.data.n) (.out (aF.aq.exit 0) x) .fail))
theorem Cw (x:dZ):DY (kx x) (ky x)=aJ.enc kx ky (dm x):=by
 unfold dm bj aC
 try simp only [aJ.bz]
 kernel_rfl
def fa:Lp:=⟨209,172,uo,fun vs rs=>bT kx ky (goN dm (tV vs rs)) [aF.aq.exit 0],true⟩
theorem gn:fa.Ok PG:=oh funcs mixed (ao.cons bP ao.nil) aL.nil (L:=9) (n:=9) (step:=dm) (ev:=kx) (er:=ky) (pa:=tV) rfl (fun wv wr=>⟨by kernel_rfl,by kernel_rfl⟩) Cw (Jg:=(gT.cons gA gT.nil))
structure ef where
 data:(Sl aU)
 a:Int
 m:Int
 b:Int
 i:Int
 j:Int
 iL:aI
instance:Inhabited ef:=⟨by constructor<;>exact default⟩
def kz (x:ef):List KV:=[fL 48 iY x.data,.int .i64 x.a,.int .i64 x.m,.int .i64 x.b,.fn (.func 119) [] [.ptr 0 0],.int .i64 x.i,.int .i64 x.j]
def kA (x:ef):List (List KV):=[cJ x.iL]
def tW (vs:List KV) (rs:List (List KV)):ef:=⟨fg im (v9 vs 0),intOf (v9 vs 1),intOf (v9 vs 2),intOf (v9 vs 3),intOf (v9 vs 5),intOf (v9 vs 6),cK (r9 rs 0)⟩
def uq:aQ:=⟨[(0,⟨false,[.arr 48]⟩),(1,w9 i9),(2,w9 i9),(3,w9 i9),(4,⟨false,[.ref (.fn (.func 119) [] [.ptr 0 0])]⟩),(14,w9 i9),(15,w9 i9)],[(100004,[n9 111,n9 114,n9 197],1)],[]⟩
def DZ:=uh PG (iK PG [(75,cu)] [fa] (fun q=>Nat.beq q 48) false false [gh]) 9 9 209 428 (pn PG 209 428) uq
def jY (x:ef):=fv (x.iL.dc.items.get (Int.toNat (x.data.get (0+(Int.toNat x.m))).item)).look.bin (x.iL.dc.items.get (Int.toNat (x.data.get (0+(Int.toNat (ak (Int.fdiv (uk (ak (x.i+x.j))) 2))))).item)).look.bin
def dp (x:ef):aJ ef:=(cond (decide (x.i < x.j)) (cond (bj x.m x.data.n) (cond (bj (ak (Int.fdiv (uk (ak (x.i+x.j))) 2)) x.data.n) (cond (bj (x.data.get (0+(Int.toNat x.m))).item x.iL.dc.items.n) (cond (bj (x.data.get (0+(Int.toNat (ak (Int.fdiv (uk (ak (x.i+x.j))) 2))))).item x.iL.dc.items.n) (cond (jY x).isSome (cond (!(decide (((jY x).getD default) < 0))) (cond (aC x.data.n) (.next ⟨x.data,x.a,x.m,x.b,(ak ((ak (Int.fdiv (uk (ak (x.i+x.j))) 2))+1)),x.j,x.iL⟩) .fail) (cond (aC x.data.n) (.next ⟨x.data,x.a,x.m,x.b,x.i,(ak (Int.fdiv (uk (ak (x.i+x.j))) 2)),x.iL⟩) .fail)) .fail) .fail) .fail) .fail) .fail) (cond (aC x.data.n) (.out (aF.aq.exit 4) x) .fail))
theorem Cx (x:ef):DZ (kz x) (kA x)=aJ.enc kz kA (dp x):=by
 unfold dp bj aC
 try simp only [aJ.bz]
 kernel_rfl
def gz:Lp:=⟨209,428,uq,fun vs rs=>bT kz kA (goN dp (tW vs rs)) [aF.aq.exit 4],true⟩
theorem ir:gz.Ok PG:=oh funcs mixed (ao.cons bP ao.nil) (hH gn aL.nil) (L:=9) (n:=9) (step:=dp) (ev:=kz) (er:=kA) (pa:=tW) rfl (fun wv wr=>⟨by kernel_rfl,by kernel_rfl⟩) Cx (Jg:=(gT.cons gA gT.nil))
structure fc where
 data:(Sl aU)
 a:Int
 m:Int
 b:Int
 i:Int
 k:Int
 iL:aI
instance:Inhabited fc:=⟨by constructor<;>exact default⟩
def kC (x:fc):List KV:=[fL 48 iY x.data,.int .i64 x.a,.int .i64 x.m,.int .i64 x.b,.fn (.func 119) [] [.ptr 0 0],.int .i64 x.i,.int .i64 x.k]
def kD (x:fc):List (List KV):=[cJ x.iL]
def tX (vs:List KV) (rs:List (List KV)):fc:=⟨fg im (v9 vs 0),intOf (v9 vs 1),intOf (v9 vs 2),intOf (v9 vs 3),intOf (v9 vs 5),intOf (v9 vs 6),cK (r9 rs 0)⟩
def ur:aQ:=⟨[(0,⟨false,[.arr 48]⟩),(1,w9 i9),(2,w9 i9),(3,w9 i9),(4,⟨false,[.ref (.fn (.func 119) [] [.ptr 0 0])]⟩),(10,w9 i9),(13,w9 i9)],[(100004,[n9 111,n9 114,n9 197],1)],[]⟩
def D4:=uh PG (iK PG [(75,cu)] [fa,gz] (fun q=>Nat.beq q 48) false false [gh]) 9 9 209 698 (pn PG 209 698) ur
def dq (x:fc):aJ fc:=(cond (decide (x.k < (ak (x.i - 1)))) (cond (bj (ak (x.k+1)) x.data.n) (cond (bj x.k x.data.n) (cond (bj x.k x.data.n) (cond (bj (ak (x.k+1)) x.data.n) (cond (aC x.data.n) (.next ⟨((x.data.set (0+(Int.toNat x.k)) (x.data.get (0+(Int.toNat (ak (x.k+1)))))).set (0+(Int.toNat (ak (x.k+1)))) (x.data.get (0+(Int.toNat x.k)))),x.a,x.m,x.b,x.i,(ak (x.k+1)),x.iL⟩) .fail) .fail) .fail) .fail) .fail) (cond (aC x.data.n) (.out (aF.aq.exit 2) x) .fail))
theorem Cy (x:fc):D4 (kC x) (kD x)=aJ.enc kC kD (dq x):=by
 unfold dq bj aC
 try simp only [aJ.bz,WJ,WI]
 kernel_rfl
def iH:Lp:=⟨209,698,ur,fun vs rs=>bT kC kD (goN dq (tX vs rs)) [aF.aq.exit 2],true⟩
theorem kE:iH.Ok PG:=oh funcs mixed (ao.cons bP ao.nil) (hH gn (hH ir aL.nil)) (L:=9) (n:=9) (step:=dq) (ev:=kC) (er:=kD) (pa:=tX) rfl (fun wv wr=>⟨by kernel_rfl,by kernel_rfl⟩) Cy (Jg:=(gT.cons gA gT.nil))
structure ch where
 data:(Sl aU)
 a:Int
 m:Int
 b:Int
 cM:Int
 n:Int
 start:Int
 r:Int
 p:Int
 iL:aI
instance:Inhabited ch:=⟨by constructor<;>exact default⟩
def jZ (x:ch):List KV:=[fL 48 iY x.data,.int .i64 x.a,.int .i64 x.m,.int .i64 x.b,.fn (.func 119) [] [.ptr 0 0],.int .i64 x.cM,.int .i64 x.n,.int .i64 x.start,.int .i64 x.r,.int .i64 x.p]
def j6 (x:ch):List (List KV):=[cJ x.iL]
def te (vs:List KV) (rs:List (List KV)):ch:=⟨fg im (v9 vs 0),intOf (v9 vs 1),intOf (v9 vs 2),intOf (v9 vs 3),intOf (v9 vs 5),intOf (v9 vs 6),intOf (v9 vs 7),intOf (v9 vs 8),intOf (v9 vs 9),cK (r9 rs 0)⟩
def tY:aQ:=⟨[(0,⟨false,[.arr 48]⟩),(1,w9 i9),(2,w9 i9),(3,w9 i9),(4,⟨false,[.ref (.fn (.func 119) [] [.ptr 0 0])]⟩),(18,w9 i9),(19,w9 i9),(20,w9 i9),(21,w9 i9),(22,w9 i9)],[(100004,[n9 111,n9 114,n9 197],1)],[]⟩
def C7:=uh PG (iK PG [(75,cu)] [fa,gz,iH] (fun q=>Nat.beq q 48) false false [gh]) 9 9 209 1020 (pn PG 209 1020) tY
def jC (x:ch):=fv (x.iL.dc.items.get (Int.toNat (x.data.get (0+(Int.toNat (ak (x.p - (ak (Int.fdiv (uk (ak (x.start+x.r))) 2))))))).item)).look.bin (x.iL.dc.items.get (Int.toNat (x.data.get (0+(Int.toNat (ak (Int.fdiv (uk (ak (x.start+x.r))) 2))))).item)).look.bin
def cE (x:ch):aJ ch:=(cond (decide (x.start < x.r)) (cond (bj (ak (x.p - (ak (Int.fdiv (uk (ak (x.start+x.r))) 2)))) x.data.n) (cond (bj (ak (Int.fdiv (uk (ak (x.start+x.r))) 2)) x.data.n) (cond (bj (x.data.get (0+(Int.toNat (ak (x.p - (ak (Int.fdiv (uk (ak (x.start+x.r))) 2))))))).item x.iL.dc.items.n) (cond (bj (x.data.get (0+(Int.toNat (ak (Int.fdiv (uk (ak (x.start+x.r))) 2))))).item x.iL.dc.items.n) (cond (jC x).isSome (cond (!(decide (((jC x).getD default) < 0))) (cond (aC x.data.n) (.next ⟨x.data,x.a,x.m,x.b,x.cM,x.n,(ak ((ak (Int.fdiv (uk (ak (x.start+x.r))) 2))+1)),x.r,x.p,x.iL⟩) .fail) (cond (aC x.data.n) (.next ⟨x.data,x.a,x.m,x.b,x.cM,x.n,x.start,(ak (Int.fdiv (uk (ak (x.start+x.r))) 2)),x.p,x.iL⟩) .fail)) .fail) .fail) .fail) .fail) .fail) (cond (aC x.data.n) (.out (aF.aq.exit 8) x) .fail))
theorem BF (x:ch):C7 (jZ x) (j6 x)=aJ.enc jZ j6 (cE x):=by
 unfold cE bj aC
 try simp only [aJ.bz]
 kernel_rfl
def kF:Lp:=⟨209,1020,tY,fun vs rs=>bT jZ j6 (goN cE (te vs rs)) [aF.aq.exit 8],true⟩
theorem nX:kF.Ok PG:=oh funcs mixed (ao.cons bP ao.nil) (hH gn (hH ir (hH kE aL.nil))) (L:=9) (n:=9) (step:=cE) (ev:=jZ) (er:=j6) (pa:=te) rfl (fun wv wr=>⟨by kernel_rfl,by kernel_rfl⟩) BF (Jg:=(gT.cons gA gT.nil))
structure eP where
 data:(Sl aU)
 a:Int
 m:Int
 b:Int
 i:Int
 k:Int
 iL:aI
instance:Inhabited eP:=⟨by constructor<;>exact default⟩
def j7 (x:eP):List KV:=[fL 48 iY x.data,.int .i64 x.a,.int .i64 x.m,.int .i64 x.b,.fn (.func 119) [] [.ptr 0 0],.int .i64 x.i,.int .i64 x.k]
def j8 (x:eP):List (List KV):=[cJ x.iL]
def tf (vs:List KV) (rs:List (List KV)):eP:=⟨fg im (v9 vs 0),intOf (v9 vs 1),intOf (v9 vs 2),intOf (v9 vs 3),intOf (v9 vs 5),intOf (v9 vs 6),cK (r9 rs 0)⟩
def tZ:aQ:=⟨[(0,⟨false,[.arr 48]⟩),(1,w9 i9),(2,w9 i9),(3,w9 i9),(4,⟨false,[.ref (.fn (.func 119) [] [.ptr 0 0])]⟩),(14,w9 i9),(17,w9 i9)],[(100004,[n9 111,n9 114,n9 197],1)],[]⟩
def C8:=uh PG (iK PG [(75,cu)] [fa,gz,iH,kF] (fun q=>Nat.beq q 48) false false [gh]) 9 9 209 1722 (pn PG 209 1722) tZ
def cZ (x:eP):aJ eP:=(cond (decide (x.k > x.i)) (cond (bj (ak (x.k - 1)) x.data.n) (cond (bj x.k x.data.n) (cond (bj x.k x.data.n) (cond (bj (ak (x.k - 1)) x.data.n) (cond (aC x.data.n) (.next ⟨((x.data.set (0+(Int.toNat x.k)) (x.data.get (0+(Int.toNat (ak (x.k - 1)))))).set (0+(Int.toNat (ak (x.k - 1)))) (x.data.get (0+(Int.toNat x.k)))),x.a,x.m,x.b,x.i,(ak (x.k - 1)),x.iL⟩) .fail) .fail) .fail) .fail) .fail) (cond (aC x.data.n) (.out (aF.aq.exit 6) x) .fail))
theorem BG (x:eP):C8 (j7 x) (j8 x)=aJ.enc j7 j8 (cZ x):=by
 unfold cZ bj aC
 try simp only [aJ.bz,WJ,WI]
 kernel_rfl
def oI:Lp:=⟨209,1722,tZ,fun vs rs=>bT j7 j8 (goN cZ (tf vs rs)) [aF.aq.exit 6],true⟩
theorem tg:oI.Ok PG:=oh funcs mixed (ao.cons bP ao.nil) (hH gn (hH ir (hH kE (hH nX aL.nil)))) (L:=9) (n:=9) (step:=cZ) (ev:=j7) (er:=j8) (pa:=tf) rfl (fun wv wr=>⟨by kernel_rfl,by kernel_rfl⟩) BG (Jg:=(gT.cons gA gT.nil))
def Hh (rc:aa->aJ aa):=Oq PG (iK PG [(75,cu)] [fa,gz,iH,kF,oI] (fun q=>Nat.beq q 48) false false ((⟨209,rF,fun vs rs=>bT jH jI (rc (qU vs rs)) [aF.aq.ret]⟩:Fc)::[gh])) 9 9 209 rF
def cW (rc:aa->aJ aa) (x:aa):=goN dm ⟨x.data,x.a,x.m,x.b,x.m,x.b,x.held⟩
def dI (rc:aa->aJ aa) (x:aa):=goN dq ⟨(cW rc x).st.data,(cW rc x).st.a,(cW rc x).st.m,(cW rc x).st.b,(cW rc x).st.i,(cW rc x).st.a,(cW rc x).st.iL⟩
def cX (rc:aa->aJ aa) (x:aa):=goN dp ⟨x.data,x.a,x.m,x.b,x.a,x.m,x.held⟩
def dJ (rc:aa->aJ aa) (x:aa):=goN cZ ⟨(cX rc x).st.data,(cX rc x).st.a,(cX rc x).st.m,(cX rc x).st.b,(cX rc x).st.i,(cX rc x).st.m,(cX rc x).st.iL⟩
def ah (rc:aa->aJ aa) (x:aa):=goN cE ⟨x.data,x.a,x.m,x.b,(ak (Int.fdiv (uk (ak (x.a+x.b))) 2)),(ak ((ak (Int.fdiv (uk (ak (x.a+x.b))) 2))+x.m)),(ak ((ak ((ak (Int.fdiv (uk (ak (x.a+x.b))) 2))+x.m)) - x.b)),(ak (Int.fdiv (uk (ak (x.a+x.b))) 2)),(ak ((ak ((ak (Int.fdiv (uk (ak (x.a+x.b))) 2))+x.m)) - 1)),x.held⟩
def cY (rc:aa->aJ aa) (x:aa):=eV ⟨(ah rc x).st.data,(ah rc x).st.start,(ah rc x).st.m,(ak ((ah rc x).st.n - (ah rc x).st.start)),(ah rc x).st.iL⟩
def fM (rc:aa->aJ aa) (x:aa):=rc ⟨(cY rc x).st.data,(ah rc x).st.a,(ah rc x).st.start,(ah rc x).st.cM,(cY rc x).st.held⟩
def lY (rc:aa->aJ aa) (x:aa):=rc ⟨(fM rc x).st.data,(ah rc x).st.cM,(ak ((ah rc x).st.n - (ah rc x).st.start)),(ah rc x).st.b,(fM rc x).st.held⟩
def lZ (rc:aa->aJ aa) (x:aa):=rc ⟨(cY rc x).st.data,(ah rc x).st.cM,(ak ((ah rc x).st.n - (ah rc x).st.start)),(ah rc x).st.b,(cY rc x).st.held⟩
def fN (rc:aa->aJ aa) (x:aa):=rc ⟨(ah rc x).st.data,(ah rc x).st.a,(ah rc x).st.start,(ah rc x).st.cM,(ah rc x).st.iL⟩
def lH (rc:aa->aJ aa) (x:aa):=rc ⟨(fN rc x).st.data,(ah rc x).st.cM,(ak ((ah rc x).st.n - (ah rc x).st.start)),(ah rc x).st.b,(fN rc x).st.held⟩
def lI (rc:aa->aJ aa) (x:aa):=rc ⟨(ah rc x).st.data,(ah rc x).st.cM,(ak ((ah rc x).st.n - (ah rc x).st.start)),(ah rc x).st.b,(ah rc x).st.iL⟩
def ae (rc:aa->aJ aa) (x:aa):=goN cE ⟨x.data,x.a,x.m,x.b,(ak (Int.fdiv (uk (ak (x.a+x.b))) 2)),(ak ((ak (Int.fdiv (uk (ak (x.a+x.b))) 2))+x.m)),x.a,x.m,(ak ((ak ((ak (Int.fdiv (uk (ak (x.a+x.b))) 2))+x.m)) - 1)),x.held⟩
def cL (rc:aa->aJ aa) (x:aa):=eV ⟨(ae rc x).st.data,(ae rc x).st.start,(ae rc x).st.m,(ak ((ae rc x).st.n - (ae rc x).st.start)),(ae rc x).st.iL⟩
def fA (rc:aa->aJ aa) (x:aa):=rc ⟨(cL rc x).st.data,(ae rc x).st.a,(ae rc x).st.start,(ae rc x).st.cM,(cL rc x).st.held⟩
def lJ (rc:aa->aJ aa) (x:aa):=rc ⟨(fA rc x).st.data,(ae rc x).st.cM,(ak ((ae rc x).st.n - (ae rc x).st.start)),(ae rc x).st.b,(fA rc x).st.held⟩
def lK (rc:aa->aJ aa) (x:aa):=rc ⟨(cL rc x).st.data,(ae rc x).st.cM,(ak ((ae rc x).st.n - (ae rc x).st.start)),(ae rc x).st.b,(cL rc x).st.held⟩
def fB (rc:aa->aJ aa) (x:aa):=rc ⟨(ae rc x).st.data,(ae rc x).st.a,(ae rc x).st.start,(ae rc x).st.cM,(ae rc x).st.iL⟩
def lL (rc:aa->aJ aa) (x:aa):=rc ⟨(fB rc x).st.data,(ae rc x).st.cM,(ak ((ae rc x).st.n - (ae rc x).st.start)),(ae rc x).st.b,(fB rc x).st.held⟩
def lM (rc:aa->aJ aa) (x:aa):=rc ⟨(ae rc x).st.data,(ae rc x).st.cM,(ak ((ae rc x).st.n - (ae rc x).st.start)),(ae rc x).st.b,(ae rc x).st.iL⟩
def fD (rc:aa->aJ aa) (x:aa):aJ aa:=(cond (ik (fM rc x).st.data.n (ah rc x).st.data.n) (.out aF.aq.ret ⟨(fM rc x).st.data,(ah rc x).st.a,(ah rc x).st.m,(ah rc x).st.b,(fM rc x).st.held⟩) .fail)
def fE (rc:aa->aJ aa) (x:aa):aJ aa:=(cond (ik (cY rc x).st.data.n (ah rc x).st.data.n) (.out aF.aq.ret ⟨(cY rc x).st.data,(ah rc x).st.a,(ah rc x).st.m,(ah rc x).st.b,(cY rc x).st.held⟩) .fail)
def fF (rc:aa->aJ aa) (x:aa):aJ aa:=(cond (decide ((ah rc x).st.cM < (ak ((ah rc x).st.n - (ah rc x).st.start)))) (cond (decide ((ak ((ah rc x).st.n - (ah rc x).st.start)) < (ah rc x).st.b)) (cond (ik (cY rc x).st.data.n (ah rc x).st.data.n) (cond ((lZ rc x).by aF.aq.ret) (cond (ik (lZ rc x).st.data.n (ah rc x).st.data.n) (.out aF.aq.ret ⟨(lZ rc x).st.data,(ah rc x).st.a,(ah rc x).st.m,(ah rc x).st.b,(lZ rc x).st.held⟩) .fail) .fail) .fail)
  (fE rc x))
  (fE rc x))
def fG (rc:aa->aJ aa) (x:aa):aJ aa:=(cond (ik (fN rc x).st.data.n (ah rc x).st.data.n) (.out aF.aq.ret ⟨(fN rc x).st.data,(ah rc x).st.a,(ah rc x).st.m,(ah rc x).st.b,(fN rc x).st.held⟩) .fail)
def fP (rc:aa->aJ aa) (x:aa):aJ aa:=(cond (aC (ah rc x).st.data.n) (.out aF.aq.ret ⟨(ah rc x).st.data,(ah rc x).st.a,(ah rc x).st.m,(ah rc x).st.b,(ah rc x).st.iL⟩) .fail)
def fQ (rc:aa->aJ aa) (x:aa):aJ aa:=(cond (decide ((ah rc x).st.cM < (ak ((ah rc x).st.n - (ah rc x).st.start)))) (cond (decide ((ak ((ah rc x).st.n - (ah rc x).st.start)) < (ah rc x).st.b)) (cond (aC (ah rc x).st.data.n) (cond ((lI rc x).by aF.aq.ret) (cond (ik (lI rc x).st.data.n (ah rc x).st.data.n) (.out aF.aq.ret ⟨(lI rc x).st.data,(ah rc x).st.a,(ah rc x).st.m,(ah rc x).st.b,(lI rc x).st.held⟩) .fail) .fail) .fail)
  (fP rc x))
  (fP rc x))
def fR (rc:aa->aJ aa) (x:aa):aJ aa:=(cond (decide ((ah rc x).st.a < (ah rc x).st.start)) (cond (decide ((ah rc x).st.start < (ah rc x).st.cM)) (cond (aC (ah rc x).st.data.n) (cond ((fN rc x).by aF.aq.ret) (cond (decide ((ah rc x).st.cM < (ak ((ah rc x).st.n - (ah rc x).st.start)))) (cond (decide ((ak ((ah rc x).st.n - (ah rc x).st.start)) < (ah rc x).st.b)) (cond (ik (fN rc x).st.data.n (ah rc x).st.data.n) (cond ((lH rc x).by aF.aq.ret) (cond (ik (lH rc x).st.data.n (ah rc x).st.data.n) (.out aF.aq.ret ⟨(lH rc x).st.data,(ah rc x).st.a,(ah rc x).st.m,(ah rc x).st.b,(lH rc x).st.held⟩) .fail) .fail) .fail)
    (fG rc x))
    (fG rc x)) .fail) .fail)
  (fQ rc x))
  (fQ rc x))
def fS (rc:aa->aJ aa) (x:aa):aJ aa:=(cond (ik (fA rc x).st.data.n (ae rc x).st.data.n) (.out aF.aq.ret ⟨(fA rc x).st.data,(ae rc x).st.a,(ae rc x).st.m,(ae rc x).st.b,(fA rc x).st.held⟩) .fail)
def fT (rc:aa->aJ aa) (x:aa):aJ aa:=(cond (ik (cL rc x).st.data.n (ae rc x).st.data.n) (.out aF.aq.ret ⟨(cL rc x).st.data,(ae rc x).st.a,(ae rc x).st.m,(ae rc x).st.b,(cL rc x).st.held⟩) .fail)
def fU (rc:aa->aJ aa) (x:aa):aJ aa:=(cond (decide ((ae rc x).st.cM < (ak ((ae rc x).st.n - (ae rc x).st.start)))) (cond (decide ((ak ((ae rc x).st.n - (ae rc x).st.start)) < (ae rc x).st.b)) (cond (ik (cL rc x).st.data.n (ae rc x).st.data.n) (cond ((lK rc x).by aF.aq.ret) (cond (ik (lK rc x).st.data.n (ae rc x).st.data.n) (.out aF.aq.ret ⟨(lK rc x).st.data,(ae rc x).st.a,(ae rc x).st.m,(ae rc x).st.b,(lK rc x).st.held⟩) .fail) .fail) .fail)
  (fT rc x))
  (fT rc x))
def fV (rc:aa->aJ aa) (x:aa):aJ aa:=(cond (ik (fB rc x).st.data.n (ae rc x).st.data.n) (.out aF.aq.ret ⟨(fB rc x).st.data,(ae rc x).st.a,(ae rc x).st.m,(ae rc x).st.b,(fB rc x).st.held⟩) .fail)
def fW (rc:aa->aJ aa) (x:aa):aJ aa:=(cond (aC (ae rc x).st.data.n) (.out aF.aq.ret ⟨(ae rc x).st.data,(ae rc x).st.a,(ae rc x).st.m,(ae rc x).st.b,(ae rc x).st.iL⟩) .fail)
def fX (rc:aa->aJ aa) (x:aa):aJ aa:=(cond (decide ((ae rc x).st.cM < (ak ((ae rc x).st.n - (ae rc x).st.start)))) (cond (decide ((ak ((ae rc x).st.n - (ae rc x).st.start)) < (ae rc x).st.b)) (cond (aC (ae rc x).st.data.n) (cond ((lM rc x).by aF.aq.ret) (cond (ik (lM rc x).st.data.n (ae rc x).st.data.n) (.out aF.aq.ret ⟨(lM rc x).st.data,(ae rc x).st.a,(ae rc x).st.m,(ae rc x).st.b,(lM rc x).st.held⟩) .fail) .fail) .fail)
  (fW rc x))
  (fW rc x))
def fY (rc:aa->aJ aa) (x:aa):aJ aa:=(cond (decide ((ae rc x).st.a < (ae rc x).st.start)) (cond (decide ((ae rc x).st.start < (ae rc x).st.cM)) (cond (aC (ae rc x).st.data.n) (cond ((fB rc x).by aF.aq.ret) (cond (decide ((ae rc x).st.cM < (ak ((ae rc x).st.n - (ae rc x).st.start)))) (cond (decide ((ak ((ae rc x).st.n - (ae rc x).st.start)) < (ae rc x).st.b)) (cond (ik (fB rc x).st.data.n (ae rc x).st.data.n) (cond ((lL rc x).by aF.aq.ret) (cond (ik (lL rc x).st.data.n (ae rc x).st.data.n) (.out aF.aq.ret ⟨(lL rc x).st.data,(ae rc x).st.a,(ae rc x).st.m,(ae rc x).st.b,(lL rc x).st.held⟩) .fail) .fail) .fail)
    (fV rc x))
    (fV rc x)) .fail) .fail)
  (fX rc x))
  (fX rc x))
def eB (rc:aa->aJ aa) (x:aa):aJ aa:=(cond ((ak (x.m - x.a))==1) (cond (aC x.data.n) (cond ((cW rc x).by (aF.aq.exit 0)) (cond (aC (cW rc x).st.data.n) (cond ((dI rc x).by (aF.aq.exit 2)) (cond (aC (dI rc x).st.data.n) (.out aF.aq.ret ⟨(dI rc x).st.data,(dI rc x).st.a,(dI rc x).st.m,(dI rc x).st.b,(dI rc x).st.iL⟩) .fail) .fail) .fail) .fail) .fail) (cond ((ak (x.b - x.m))==1) (cond (aC x.data.n) (cond ((cX rc x).by (aF.aq.exit 4)) (cond (aC (cX rc x).st.data.n) (cond ((dJ rc x).by (aF.aq.exit 6)) (cond (aC (dJ rc x).st.data.n) (.out aF.aq.ret ⟨(dJ rc x).st.data,(dJ rc x).st.a,(dJ rc x).st.m,(dJ rc x).st.b,(dJ rc x).st.iL⟩) .fail) .fail) .fail) .fail) .fail) (cond (decide (x.m > (ak (Int.fdiv (uk (ak (x.a+x.b))) 2)))) (cond (aC x.data.n) (cond ((ah rc x).by (aF.aq.exit 8)) (cond (decide ((ah rc x).st.start < (ah rc x).st.m)) (cond (decide ((ah rc x).st.m < (ak ((ah rc x).st.n - (ah rc x).st.start)))) (cond (aC (ah rc x).st.data.n) (cond ((cY rc x).by aF.aq.ret) (cond (decide ((ah rc x).st.a < (ah rc x).st.start)) (cond (decide ((ah rc x).st.start < (ah rc x).st.cM)) (cond (ik (cY rc x).st.data.n (ah rc x).st.data.n) (cond ((fM rc x).by aF.aq.ret) (cond (decide ((ah rc x).st.cM < (ak ((ah rc x).st.n - (ah rc x).st.start)))) (cond (decide ((ak ((ah rc x).st.n - (ah rc x).st.start)) < (ah rc x).st.b)) (cond (ik (fM rc x).st.data.n (ah rc x).st.data.n) (cond ((lY rc x).by aF.aq.ret) (cond (ik (lY rc x).st.data.n (ah rc x).st.data.n) (.out aF.aq.ret ⟨(lY rc x).st.data,(ah rc x).st.a,(ah rc x).st.m,(ah rc x).st.b,(lY rc x).st.held⟩) .fail) .fail) .fail)
         (fD rc x))
        (fD rc x)) .fail) .fail)
       (fF rc x))
      (fF rc x)) .fail) .fail)
     (fR rc x))
    (fR rc x)) .fail) .fail) (cond (aC x.data.n) (cond ((ae rc x).by (aF.aq.exit 8)) (cond (decide ((ae rc x).st.start < (ae rc x).st.m)) (cond (decide ((ae rc x).st.m < (ak ((ae rc x).st.n - (ae rc x).st.start)))) (cond (aC (ae rc x).st.data.n) (cond ((cL rc x).by aF.aq.ret) (cond (decide ((ae rc x).st.a < (ae rc x).st.start)) (cond (decide ((ae rc x).st.start < (ae rc x).st.cM)) (cond (ik (cL rc x).st.data.n (ae rc x).st.data.n) (cond ((fA rc x).by aF.aq.ret) (cond (decide ((ae rc x).st.cM < (ak ((ae rc x).st.n - (ae rc x).st.start)))) (cond (decide ((ak ((ae rc x).st.n - (ae rc x).st.start)) < (ae rc x).st.b)) (cond (ik (fA rc x).st.data.n (ae rc x).st.data.n) (cond ((lJ rc x).by aF.aq.ret) (cond (ik (lJ rc x).st.data.n (ae rc x).st.data.n) (.out aF.aq.ret ⟨(lJ rc x).st.data,(ae rc x).st.a,(ae rc x).st.m,(ae rc x).st.b,(lJ rc x).st.held⟩) .fail) .fail) .fail)
         (fS rc x))
        (fS rc x)) .fail) .fail)
       (fU rc x))
      (fU rc x)) .fail) .fail)
     (fY rc x))
    (fY rc x)) .fail) .fail))))
theorem FQ (rc:aa->aJ aa) (x:aa):Hh rc (jH x) (jI x)=aJ.enc jH jI (eB rc x):=by
 unfold eB fY fX fW fV fU fT fS fR fQ fP fG fF fE fD aC
 try simp only [aJ.bz]
 kernel_rfl
def iA:Nat->aa->aJ aa:=fun n=>Nat.rec (fun _=>.fail) (fun _ ih x=>eB ih x) n
def kf (n:Nat):Fc:=⟨209,rF,fun vs rs=>bT jH jI (iA n (qU vs rs)) [aF.aq.ret]⟩
theorem jq:∀ n,(kf n).Ok PG
 | 0=>apc (cfg:=iK PG [(75,cu)] [fa,gz,iH,kF,oI] (fun q=>Nat.beq q 48) false false [gh]) ((ao.cons bP ao.nil):ao PG _).pc (Wz funcs mixed (WA funcs mixed (gT.cons gA gT.nil)) (hH gn (hH ir (hH kE (hH nX (hH tg aL.nil)))))) rfl fun _ _=>rfl
 | n+1=>IB funcs mixed (ao.cons bP ao.nil) (hH gn (hH ir (hH kE (hH nX (hH tg aL.nil))))) (L:=9) (n:=9) (step:=iA (n+1)) (ev:=jH) (er:=jI) (pa:=qU) rfl (fun wv wr=>⟨by kernel_rfl,by kernel_rfl⟩) (FQ (iA n)) (Jg:=(gT.cons (jq n) (gT.cons gA gT.nil)))
structure cQ where
 data:(Sl aU)
 n:Int
 held:aI
instance:Inhabited cQ:=⟨⟨default,default,default⟩⟩
def ot (x:cQ):List KV:=[fL 48 iY x.data,.int .i64 x.n,.fn (.func 119) [] [.ptr 0 0]]
def ou (x:cQ):List (List KV):=[cJ x.held]
def yE (vs:List KV) (rs:List (List KV)):cQ:=⟨fg im (v9 vs 0),intOf (v9 vs 1),cK (r9 rs 0)⟩
def zC:aQ:=⟨[(0,⟨false,[.arr 48]⟩),(1,w9 i9),(2,⟨false,[.ref (.fn (.func 119) [] [.ptr 0 0])]⟩)],[(100002,[n9 111,n9 114,n9 197],1)],[]⟩
structure eU where
 data:(Sl aU)
 n:Int
 lv:Int
 a:Int
 b:Int
 Tg:aI
instance:Inhabited eU:=⟨by constructor<;>exact default⟩
def l7 (x:eU):List KV:=[fL 48 iY x.data,.int .i64 x.n,.fn (.func 119) [] [.ptr 0 0],.int .i64 x.lv,.int .i64 x.a,.int .i64 x.b]
def l9 (x:eU):List (List KV):=[cJ x.Tg]
def vR (vs:List KV) (rs:List (List KV)):eU:=⟨fg im (v9 vs 0),intOf (v9 vs 1),intOf (v9 vs 3),intOf (v9 vs 4),intOf (v9 vs 5),cK (r9 rs 0)⟩
def xd:aQ:=⟨[(0,⟨false,[.arr 48]⟩),(1,w9 i9),(2,⟨false,[.ref (.fn (.func 119) [] [.ptr 0 0])]⟩),(6,w9 i9),(7,w9 i9),(8,w9 i9)],[(100002,[n9 111,n9 114,n9 197],1)],[]⟩
def Gm:=uh PG (iK PG [(75,cu)] [] (fun q=>Nat.beq q 48) false false [iq,(kf UY)]) 9 9 174 28 (pn PG 174 28) xd
def iZ (x:eU):=gm ⟨x.data,x.a,x.b,x.Tg⟩
def eh (x:eU):aJ eU:=(cond (decide (x.b<=x.n)) (cond (aC x.data.n) (cond ((iZ x).by aF.aq.ret) (cond (ik (iZ x).st.data.n x.data.n) (.next ⟨(iZ x).st.data,x.n,x.lv,x.b,(ak (x.b+x.lv)),(iZ x).st.held⟩) .fail) .fail) .fail) (cond (aC x.data.n) (.out (aF.aq.exit 0) x) .fail))
theorem EJ (x:eU):Gm (l7 x) (l9 x)=aJ.enc l7 l9 (eh x):=by
 unfold eh aC
 try simp only [aJ.bz]
 kernel_rfl
def mX:Lp:=⟨174,28,xd,fun vs rs=>bT l7 l9 (goN eh (vR vs rs)) [aF.aq.exit 0],true⟩
theorem qu:mX.Ok PG:=oh funcs mixed (ao.cons bP ao.nil) aL.nil (L:=9) (n:=9) (step:=eh) (ev:=l7) (er:=l9) (pa:=vR) rfl (fun wv wr=>⟨by kernel_rfl,by kernel_rfl⟩) EJ (Jg:=(gT.cons jB (gT.cons (jq UY) gT.nil)))
structure dW where
 data:(Sl aU)
 n:Int
 lv:Int
 Tg:aI
instance:Inhabited dW:=⟨⟨default,default,default,default⟩⟩
def mf (x:dW):List KV:=[fL 48 iY x.data,.int .i64 x.n,.fn (.func 119) [] [.ptr 0 0],.int .i64 x.lv]
def mg (x:dW):List (List KV):=[cJ x.Tg]
def vS (vs:List KV) (rs:List (List KV)):dW:=⟨fg im (v9 vs 0),intOf (v9 vs 1),intOf (v9 vs 3),cK (r9 rs 0)⟩
def xe:aQ:=⟨[(0,⟨false,[.arr 48]⟩),(1,w9 i9),(2,⟨false,[.ref (.fn (.func 119) [] [.ptr 0 0])]⟩),(6,w9 i9)],[(100002,[n9 111,n9 114,n9 197],1)],[]⟩
structure eC where
 data:(Sl aU)
 n:Int
 lv:Int
 a:Int
 b:Int
 Tg:aI
instance:Inhabited eC:=⟨by constructor<;>exact default⟩
def kT (x:eC):List KV:=[fL 48 iY x.data,.int .i64 x.n,.fn (.func 119) [] [.ptr 0 0],.int .i64 x.lv,.int .i64 x.a,.int .i64 x.b]
def kU (x:eC):List (List KV):=[cJ x.Tg]
def uu (vs:List KV) (rs:List (List KV)):eC:=⟨fg im (v9 vs 0),intOf (v9 vs 1),intOf (v9 vs 3),intOf (v9 vs 4),intOf (v9 vs 5),cK (r9 rs 0)⟩
def vl:aQ:=⟨[(0,⟨false,[.arr 48]⟩),(1,w9 i9),(2,⟨false,[.ref (.fn (.func 119) [] [.ptr 0 0])]⟩),(6,w9 i9),(7,w9 i9),(8,w9 i9)],[(100002,[n9 111,n9 114,n9 197],1)],[]⟩
def EK:=uh PG (iK PG [(75,cu)] [mX] (fun q=>Nat.beq q 48) false false [iq,(kf UY)]) 9 9 174 3988 (pn PG 174 3988) vl
def gp (x:eC):=iA 64 ⟨x.data,x.a,(ak (x.a+x.lv)),x.b,x.Tg⟩
def dA (x:eC):aJ eC:=(cond (decide (x.b<=x.n)) (cond (aC x.data.n) (cond ((gp x).by aF.aq.ret) (cond (ik (gp x).st.data.n x.data.n) (.next ⟨(gp x).st.data,x.n,x.lv,x.b,(ak (x.b+(ak (2 * x.lv)))),(gp x).st.held⟩) .fail) .fail) .fail) (cond (aC x.data.n) (.out (aF.aq.exit 4) x) .fail))
theorem C9 (x:eC):EK (kT x) (kU x)=aJ.enc kT kU (dA x):=by
 unfold dA aC
 try simp only [aJ.bz]
 kernel_rfl
def pS:Lp:=⟨174,3988,vl,fun vs rs=>bT kT kU (goN dA (uu vs rs)) [aF.aq.exit 4],true⟩
theorem uw:pS.Ok PG:=oh funcs mixed (ao.cons bP ao.nil) (hH qu aL.nil) (L:=9) (n:=9) (step:=dA) (ev:=kT) (er:=kU) (pa:=uu) rfl (fun wv wr=>⟨by kernel_rfl,by kernel_rfl⟩) C9 (Jg:=(gT.cons jB (gT.cons (jq UY) gT.nil)))
def Gn:=uh PG (iK PG [(75,cu)] [mX,pS] (fun q=>Nat.beq q 48) false false [iq,(kf UY)]) 9 9 174 62 (pn PG 174 62) xe
def aX (x:dW):=goN dA ⟨x.data,x.n,x.lv,0,(ak (2 * x.lv)),x.Tg⟩
def gQ (x:dW):=iA 64 ⟨(aX x).st.data,(aX x).st.a,(ak ((aX x).st.a+(aX x).st.lv)),(aX x).st.n,(aX x).st.Tg⟩
def ei (x:dW):aJ dW:=(cond (decide (x.lv < x.n)) (cond (aC x.data.n) (cond ((aX x).by (aF.aq.exit 4)) (cond (decide ((ak ((aX x).st.a+(aX x).st.lv)) < (aX x).st.n)) (cond (aC (aX x).st.data.n) (cond ((gQ x).by aF.aq.ret) (cond (ik (gQ x).st.data.n (aX x).st.data.n) (.next ⟨(gQ x).st.data,(aX x).st.n,(ak ((aX x).st.lv * 2)),(gQ x).st.held⟩) .fail) .fail) .fail) (cond (aC (aX x).st.data.n) (.next ⟨(aX x).st.data,(aX x).st.n,(ak ((aX x).st.lv * 2)),(aX x).st.Tg⟩) .fail)) .fail) .fail) (cond (aC x.data.n) (.out (aF.aq.exit 2) x) .fail))
theorem EL (x:dW):Gn (mf x) (mg x)=aJ.enc mf mg (ei x):=by
 unfold ei aC
 try simp only [aJ.bz]
 kernel_rfl
def xf:Lp:=⟨174,62,xe,fun vs rs=>bT mf mg (goN ei (vS vs rs)) [aF.aq.exit 2],true⟩
theorem Gp:xf.Ok PG:=oh funcs mixed (ao.cons bP ao.nil) (hH qu (hH uw aL.nil)) (L:=9) (n:=9) (step:=ei) (ev:=mf) (er:=mg) (pa:=vS) rfl (fun wv wr=>⟨by kernel_rfl,by kernel_rfl⟩) EL (Jg:=(gT.cons jB (gT.cons (jq UY) gT.nil)))
def Jv:=Oq PG (iK PG [(75,cu)] [mX,pS,xf] (fun q=>Nat.beq q 48) false false [iq,(kf UY)]) 9 9 174 zC
def dB (x:cQ):=goN eh ⟨x.data,x.n,20,0,20,x.held⟩
def iB (x:cQ):=gm ⟨(dB x).st.data,(dB x).st.a,(dB x).st.n,(dB x).st.Tg⟩
def gC (x:cQ):=goN ei ⟨(iB x).st.data,(dB x).st.n,(dB x).st.lv,(iB x).st.held⟩
def mZ (x:cQ):aJ cQ:=(cond (aC x.data.n) (cond ((dB x).by (aF.aq.exit 0)) (cond (aC (dB x).st.data.n) (cond ((iB x).by aF.aq.ret) (cond (ik (iB x).st.data.n (dB x).st.data.n) (cond ((gC x).by (aF.aq.exit 2)) (cond (aC (gC x).st.data.n) (.out aF.aq.ret ⟨(gC x).st.data,(gC x).st.n,(gC x).st.Tg⟩) .fail) .fail) .fail) .fail) .fail) .fail) .fail)
theorem Hi (x:cQ):Jv (ot x) (ou x)=aJ.enc ot ou (mZ x):=by
 unfold mZ aC
 try simp only [aJ.bz]
 kernel_rfl
def lN (x:cQ):aJ cQ:=mZ x
def pr:Fc:=⟨174,zC,fun vs rs=>bT ot ou (lN (yE vs rs)) [aF.aq.ret]⟩
theorem rG:pr.Ok PG:=IB funcs mixed (ao.cons bP ao.nil) (hH qu (hH uw (hH Gp aL.nil))) (L:=9) (n:=9) (step:=lN) (ev:=ot) (er:=ou) (pa:=yE) rfl (fun wv wr=>⟨by kernel_rfl,by kernel_rfl⟩) Hi (Jg:=(gT.cons jB (gT.cons (jq UY) gT.nil)))
structure qV where
 t2:Int
 zero:Int
 t6:(Sl Int)
 t7:Int
 t8:Int
instance:Inhabited qV:=⟨⟨default,default,default,default,default⟩⟩
def FT (x:qV):List KV:=[.int .i64 x.t2,.int .i64 x.zero,fL 3 (kI .i64) x.t6,.int .i64 x.t7,.int .i64 x.t8]
def FU (x:qV):List (List KV):=[]
def NN (vs:List KV) (rs:List (List KV)):qV:=⟨intOf (v9 vs 0),intOf (v9 vs 1),fg intOf (v9 vs 2),intOf (v9 vs 3),intOf (v9 vs 4)⟩
def Qj:aQ:=⟨[(2,w9 i9),(3,w9 i9),(6,w9 (n9 3)),(7,w9 i9),(8,w9 i9)],[],[]⟩
def abg:=uj [] [] 173 58 Qj
def qb (x:qV):aJ qV:=(cond (decide (x.t8 < x.t7)) (cond (bj x.t8 x.t6.n) (cond ((x.t6.get (Int.toNat x.t8)) != x.zero) (.out aF.aq.ret ⟨(x.t6.get (Int.toNat x.t8)),x.zero,x.t6,x.t7,x.t8⟩) (.next ⟨x.t2,x.zero,x.t6,x.t7,(ak (x.t8+1))⟩)) .fail) (.out (aF.aq.exit 0) x))
theorem Xh (x:qV):abg (FT x) (FU x)=aJ.enc FT FU (qb x):=by
 unfold qb bj
 try simp only [aJ.bz]
 kernel_rfl
def Qk:Lp:=⟨173,58,Qj,fun vs rs=>bT FT FU (goN qb (NN vs rs)) [aF.aq.exit 0,aF.aq.ret],false⟩
theorem abh:Qk.Ok PG:=tl ao.nil aL.nil (pa:=NN) Xh
def uL (eI:(Sl Int)):=goN qb ⟨0,0,eI,(eI.n:Int),0⟩
def yT (eI:(Sl Int)):Option (Int):=(cond ((uL eI).by (aF.aq.exit 0)) (some ((uL eI).st.zero)) (cond ((uL eI).by aF.aq.ret) (some ((uL eI).st.t2)) none))
theorem afs (eI:(Sl Int)):hJ [] [Qk] 173 [(fL 3 (kI .i64)) eI] = (yT eI).map (kI .i64):=by
 unfold yT
 try simp only [aY]
 kernel_rfl
def Yj:List KV->KR KV:=bd PG 173 (bg (kI .i64) fun vs=>yT ((fg intOf) (v9 vs 0)))
theorem adm:a9 PG 173 Yj:=bM ao.nil (hH abh aL.nil) fun w=>afs ((fg intOf) (g0 66 (w 0)))
def FV (a:aU) (b:aU):=fv b.d a.d
def FW (a:aU) (b:aU):=fv a.item b.item
def FX (a:aU) (b:aU):=fv a.cl b.cl
def FY (a:aU) (b:aU):=fv a.part b.part
def vm (a:aU) (b:aU):=yT (Sl.lit [((FV a b).getD default),((FW a b).getD default),((FX a b).getD default),((FY a b).getD default)])
def uM (a:aU) (b:aU):Option (Bool):=(cond (FV a b).isSome (cond (FW a b).isSome (cond (FX a b).isSome (cond (FY a b).isSome (cond (vm a b).isSome (some ((decide (((vm a b).getD default) < 0)))) none) none) none) none) none)
theorem abi (a:aU) (b:aU):hJ [(173,Yj),(75,cu)] [] 114 [iY a,iY b] = (uM a b).map kB:=by
 unfold uM
 try simp only [aY,vm,UZ]
 kernel_rfl
def Jw:List KV->KR KV:=bd PG 114 (bg kB fun vs=>uM (im (v9 vs 0)) (im (v9 vs 1)))
theorem Mn:a9 PG 114 Jw:=bM (ao.cons adm (ao.cons bP ao.nil)) aL.nil fun w=>abi (im (g0 48 (w 0))) (im (g0 48 (w 1)))
structure aR where
 x:Int
 y:Int
 t14:(Sl eT)
 t15:Int
 t16:Int
 jG:aI
 yF:Bool
 xg:aU
instance:Inhabited aR:=⟨by constructor<;>exact default⟩
def jf (x:aR):List KV:=[.int .i64 x.x,.int .i64 x.y,.fn (.func 113) [] [.ptr 0 0,.ptr 1 0,.ptr 2 0],fL 197 Bw x.t14,.int .i64 x.t15,.int .i64 x.t16]
def jg (x:aR):List (List KV):=[cJ x.jG,[.bool x.yF],Ze x.xg]
def nY (vs:List KV) (rs:List (List KV)):aR:=⟨intOf (v9 vs 0),intOf (v9 vs 1),fg Bx (v9 vs 3),intOf (v9 vs 4),intOf (v9 vs 5),cK (r9 rs 0),kN ((rs.getD 1 []).getD 0 .bG),Zf (r9 rs 2)⟩
def oy:aQ:=⟨[(1,w9 i9),(2,w9 i9),(3,⟨false,[.ref (.fn (.func 113) [] [.ptr 0 0,.ptr 1 0,.ptr 2 0])]⟩),(14,w9 (n9 197)),(15,w9 i9),(16,w9 i9)],[(100003,[n9 111,n9 114,n9 197],1),(200003,[b9],1),(300003,[i9,i9,i9,i9,i9,i9],1)],[]⟩
def vK:=uj [(85,En),(114,Jw)] [] 52 14 oy
def bw (x:aR):=lj (x.t14.get (Int.toNat x.t16)).t x.x x.y
def gi (x:aR):=uM ⟨(ak ((x.t14.get (Int.toNat x.t16)).dX.d+((bw x).getD default).fst.d)),(x.t14.get (Int.toNat x.t16)).dX.item,(x.t14.get (Int.toNat x.t16)).dX.cl,(x.t14.get (Int.toNat x.t16)).dX.part,((bw x).getD default).fst.u,((bw x).getD default).fst.v⟩ x.xg
def ff (x:aR):aJ aR:=(.next ⟨x.x,x.y,x.t14,x.t15,(ak (x.t16+1)),x.jG,true,⟨(ak ((x.t14.get (Int.toNat x.t16)).dX.d+((bw x).getD default).fst.d)),(x.t14.get (Int.toNat x.t16)).dX.item,(x.t14.get (Int.toNat x.t16)).dX.cl,(x.t14.get (Int.toNat x.t16)).dX.part,((bw x).getD default).fst.u,((bw x).getD default).fst.v⟩⟩)
def dE (x:aR):aJ aR:=(.next ⟨x.x,x.y,x.t14,x.t15,(ak (x.t16+1)),x.jG,x.yF,x.xg⟩)
def cp (x:aR):aJ aR:=(cond (decide (x.t16 < x.t15)) (cond (bj x.t16 x.t14.n) (cond (bw x).isSome (cond (((bw x).getD default).snd==0) (cond (bj (x.t14.get (Int.toNat x.t16)).dX.item x.jG.dc.items.n) (cond (!(x.jG.dc.items.get (Int.toNat (x.t14.get (Int.toNat x.t16)).dX.item)).look.Ai) (cond (!x.yF)
     (ff x) (cond (gi x).isSome (cond ((gi x).getD default)
      (ff x)
      (dE x)) .fail))
    (dE x)) .fail)
   (dE x)) .fail) .fail) (.out (aF.aq.exit 0) x))
theorem uC (x:aR):vK (jf x) (jg x)=aJ.enc jf jg (cp x):=by
 unfold cp dE ff bj
 try simp only [aJ.bz]
 kernel_rfl
def oz:Lp:=⟨52,14,oy,fun vs rs=>bT jf jg (goN cp (nY vs rs)) [aF.aq.exit 0],false⟩
theorem vL:oz.Ok PG:=tl (ao.cons Ag (ao.cons Mn ao.nil)) aL.nil (pa:=nY) uC
def pb (s:aI) (x:Int) (y:Int):=goN cp ⟨x,y,s.parts,(s.parts.n:Int),0,s,false,⟨(-(2048:Int)),(-(1:Int)),(-(1:Int)),0,0,0⟩⟩
def jt (s:aI) (x:Int) (y:Int):Option (aU×Bool):=(cond ((pb s x y).by (aF.aq.exit 0)) (some ((pb s x y).st.xg,(pb s x y).st.yF)) none)
theorem Ql (s:aI) (x:Int) (y:Int):hJ [(85,En),(114,Jw)] [oz] 57 [yR s,(kI .i64) x,(kI .i64) y] = (jt s x y).map (fun (r:aU×Bool)=>KV.lP [iY r.1,kB r.2]):=by
 unfold jt
 try simp only [aY]
 kernel_rfl
def lx:List KV->KR KV:=bd PG 57 (bg (fun (r:aU×Bool)=>KV.lP [iY r.1,kB r.2]) fun vs=>jt (vJ (v9 vs 0)) (intOf (v9 vs 1)) (intOf (v9 vs 2)))
theorem kZ:a9 PG 57 lx:=bM (ao.cons Ag (ao.cons Mn ao.nil)) (hH vL aL.nil) fun w=>Ql (vJ (g0 121 (w 0))) (intOf (g0 3 (w 1))) (intOf (g0 3 (w 2)))
end
end Go.Proofs.YtchbpckkmgcgkaaGreat.b
end
