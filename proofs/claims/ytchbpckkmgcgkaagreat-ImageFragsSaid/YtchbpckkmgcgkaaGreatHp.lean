/- Part of the proof of ImageFrags: the machine, shown to be the model's, and plain models. No conditions. -/
import Derived.Test.YtchbpckkmgcgkaaGreatGp
set_option linter.unusedSimpArgs false
set_option linter.unusedVariables false
section
namespace Go.Proofs.YtchbpckkmgcgkaaGreat.b
open Go.K
open Go.aE (aq)
theorem nh {α:Type} {c:Bool} {a b:Option α} (ha:c=true->a.isSome=true) (hb:c=false->b.isSome=true):(cond c a b).isSome=true:=by
 cases c with
 | true=>exact ha rfl
 | false=>exact hb rfl
theorem avY {α:Type} {a:Option α} (h:∃ r,a=some r):a.isSome=true:=by obtain ⟨r,h⟩:=h; rw [h]; rfl
theorem OO {α:Type} {a:Option α} (h:a.isSome=true):∃ r,a=some r:=afI.1 h
theorem OP (p:bM):(kY p).isSome=true:=by
 unfold kY
 repeat' (refine nh (fun _=>?_) (fun _=>?_))
 all_goals rfl
theorem arp (ax:Int) (l:Sl bM) (hn:l.n<=1000):(te ax l).isSome=true:=by
 obtain ⟨e,x',h1,h2⟩:=bt (step:=lg) (x:=⟨0,l,((l.n:Nat):Int),(0:Int)⟩)
  (fun j x=>x=⟨0,l,((l.n:Nat):Int),(j:Int)⟩/\j<=l.n)
  (fun e _=>e = .exit 0\/e = .ret) l.n (by have:gv=1000000000000:=rfl; omega)
  (fun j x hj ⟨hx,hle⟩=>by
   subst hx;unfold lg bh;by_cases bu:j < l.n
   ·have e1:decide ((j:Int) < ((l.n:Nat):Int))=true:=au (by omega)
    have e2:decide ((0:Int)<=(j:Int))=true:=au (by omega);obtain ⟨r,hr⟩:=OO (OP (l.get j));have e3:qI ⟨0,l,((l.n:Nat):Int),(j:Int)⟩=some r:=hr;simp only [e1,e2,e3,ai,bC,bj,bc];cases (r != (0:Int)) with
    | true=>right; exact ⟨_,_,rfl,rfl,.inr rfl⟩
    | false=>
     left;refine ⟨_,rfl,by omega,?_,by omega⟩;rw [aj (by omega) (by omega)]; rfl
   ·have e1:decide ((j:Int) < ((l.n:Nat):Int))=false:=ay (by omega)
    simp only [e1,aw];right;exact ⟨_,_,rfl,rfl,.inl rfl⟩)
  ⟨rfl,by omega⟩
 have h0:se ax l = .out e x':=h1;unfold te;rw [h0,aK.lF,aK.lF,aK.lU];refine nh (fun _=>rfl) (fun _=>nh (fun _=>rfl) (fun _=>?_));rcases h2 with rfl | rfl <;> rfl
theorem BA (a b:Int):(cM a b).isSome=true:=avY (IK a b)
theorem auE (ax:Int) (a b:bM):(fc ax a b).isSome=true:=by
 have e0:(yT ax a b).isSome=true:=arp _ _ (show 2<=1000 by omega);have e1:(H6 ax a b).isSome=true:=BA _ _;have e2:(H7 ax a b).isSome=true:=BA _ _;have e3:(H8 ax a b).isSome=true:=BA _ _;have e4:(H9 ax a b).isSome=true:=BA _ _;unfold fc;simp only [e0,e1,e2,e3,e4,ai]
 repeat' (refine nh (fun _=>?_) (fun _=>?_))
 all_goals rfl
theorem atj (m:cJ):(xH m).isSome=true:=by
 unfold xH
 repeat' (refine nh (fun _=>?_) (fun _=>?_))
 all_goals rfl
theorem atk (m:cJ) (v:jw):(Ag m v).isSome=true:=by
 have e0:(H2 m v).isSome=true:=BA _ _;have e1:(H3 m v).isSome=true:=BA _ _;have e2:(H4 m v).isSome=true:=BA _ _;unfold Ag;simp only [e0,e1,e2,ai];rfl
theorem avZ (df:Int) (l:Sl Int) (hn:l.n<=1000) (hm:0<=df/\df<=1000000):(Em df l).isSome=true:=by
 obtain ⟨b,h,_⟩:=ah0 df l hn hm;rw [h]; rfl
theorem atl (m:cJ) (v:iP):(Ah m v).isSome=true:=by
 have e0:(H5 m v).isSome=true:=atj _;have e1:(CX m v).isSome=true:=avZ _ _ (show 3<=1000 by omega) (by omega);have e2:(vN m v).isSome=true:=atk _ _;unfold Ah;simp only [e0,e1,e2,ai]
 repeat' (refine nh (fun _=>?_) (fun _=>?_))
 all_goals rfl
theorem aa5 (v:iP):(sQ v).isSome=true:=by obtain ⟨e,h,_⟩:=Ak v; rw [h]; rfl
theorem ah3 (n a b:Int):eA n a b=some (decide (a<=n/\n<=b)):=by
 unfold eA;by_cases h:n >= a
 ·simp only [au h,ai]
  congr 1;by_cases h2:n<=b
  ·rw [au h2,au ⟨h,h2⟩]
  ·rw [ay h2,ay (fun q=>h2 q.2)]
 ·simp only [ay h,aw]
  rw [ay (fun q=>h q.1)]
def OQ (c:az):Prop:=zg c.pos/\(1<=c.sR/\c.sR<=64)/\(256<=c.ax/\c.ax<=4096)/\(1<=c.w/\c.w<=64)/\1<=c.h/\c.h<=64
theorem vo (c:az):∃ e,jz c=some e/\(e=0->OQ c):=by
 obtain ⟨e,h1,h2⟩:=Ak c.pos;unfold jz zp zq zr zt zu zv zw zx zy zz x6 x7 x8 x9;simp only [ah3,h1,bj,bc,ai];have key:∀ (b:Bool) (r:Option Int),(b=true->∃ e,r=some e/\(e=0->OQ c))->∃ e,cond b r (some 150)=some e/\(e=0->OQ c):=by
  intro b r h;cases b with
  | true=>exact h rfl
  | false=>exact ⟨150,rfl,fun h=>by omega⟩
 refine key _ _ fun g0=>key _ _ fun g1=>key _ _ fun g2=>key _ _ fun g3=>key _ _ fun g4=>?_;have cm:OQ c:=by
  simp only [lz] at g1 g2 g3 g4;exact ⟨h2.1 (by simpa using g0),g1,g2,g3,g4⟩
 repeat' (refine key _ _ fun _=>?_)
 cases (!decide (-256<=c.m.e2.e2/\c.m.e2.e2<=256)) with
 | true=>exact ⟨150,rfl,fun h=>by omega⟩
 | false=>exact ⟨0,rfl,fun _=>cm⟩
theorem afb (c:az):(jz c).isSome=true:=by obtain ⟨e,h,_⟩:=vo c; rw [h]; rfl
theorem ah4 (c:az) (v:iP):(mj c v).isSome=true:=by
 have e0:(wT c v).isSome=true:=afb _;have e1:(wU c v).isSome=true:=aa5 _;have e2:(tz c v).isSome=true:=atl _ _;unfold mj;simp only [e0,e1,e2,ai]
 repeat' (refine nh (fun _=>?_) (fun _=>?_))
 all_goals rfl
theorem anV (t:aF):(rl t).isSome=true:=by
 rcases FL t with ⟨_,h⟩ | ⟨_,e,h,_⟩ <;> rw [h] <;> rfl
theorem akt (t:aF) (k:Int):(rm t k).isSome=true:=by
 have e0:(oa t k).isSome=true:=anV t;unfold rm;simp only [e0,ai]
 repeat' (refine nh (fun _=>?_) (fun _=>?_))
 all_goals rfl
theorem arq (t:aF):(s9 t).isSome=true:=by
 have e0:(sa t).isSome=true:=anV t;unfold s9;simp only [e0,ai]
 repeat' (refine nh (fun _=>?_) (fun _=>?_))
 all_goals rfl
theorem iJ {b n m:Nat} (hb:b<=1000:=by omega) (hn:n<=1000000:=by omega) (hm:0 < m/\m<=1000:=by omega):j6 b n m=true:=sU (by omega) (by omega) (by omega) (.inl hm.1)
def NQ (j:Nat) (x:bD) (r:aK bD):Prop:=∃ x',r = .next x'/\x'.t23=((j+1:Nat):Int)/\x'.l.n<=x.l.n+2/\x'.out=x.out/\x'.ax=x.ax
theorem NQ.cond {j:Nat} {x:bD} {c:Bool} {a b:aK bD} (h1:c=true->NQ j x a) (h2:c=false->NQ j x b):NQ j x (_root_.cond c a b):=by
 cases c with
 | true=>exact h1 rfl
 | false=>exact h2 rfl
theorem ape (j:Nat) (hj:j < 3) (x:bD) (hx:x.t23=(j:Int)) (hl:x.l.n<=10):NQ j x (dI x):=by
 have c:∀ (ax:Int) (a b:bM),(fc ax a b).isSome=true:=auE;have e0:(LP x).isSome=true:=c _ _ _;have e1:(LQ x).isSome=true:=c _ _ _;have e2:(DQ x).isSome=true:=c _ _ _;have e3:(DR x).isSome=true:=c _ _ _;have e4:(LR x).isSome=true:=c _ _ _;have e5:(LS x).isSome=true:=c _ _ _;have e6:(LU x).isSome=true:=c _ _ _;have e7:(LV x).isSome=true:=c _ _ _;have e8:(LW x).isSome=true:=c _ _ _;have e9:(LX x).isSome=true:=c _ _ _;have e10:(Ci x).isSome=true:=c _ _ _;have e11:(Cj x).isSome=true:=c _ _ _;have e12:(Ck x).isSome=true:=c _ _ _;have e13:(Cl x).isSome=true:=c _ _ _;have e14:(JZ x).isSome=true:=c _ _ _;have e15:(J0 x).isSome=true:=c _ _ _;have e16:(J1 x).isSome=true:=c _ _ _;have e17:(J2 x).isSome=true:=c _ _ _;have a1:j6 40 x.l.n 1=true:=iJ;have a2:j6 40 (x.l.n+1) 1=true:=iJ;have hw:ak ((j:Int)+1)=((j+1:Nat):Int):=by rw [aj (by omega) (by omega)]; rfl
 unfold dI ek qH aR;simp only [e0,e1,e2,e3,e4,e5,e6,e7,e8,e9,e10,e11,e12,e13,e14,e15,e16,e17,a1,a2,aI,ai,bC,hx,hw]
 match j,hj with
 | 0,_=>
  have d1:decide (((0:Nat):Int) < 3)=true:=by decide
  have d2:decide (((0:Nat):Int)=0)=true:=by decide
  have d3:decide (Int.tmod ((0+1:Nat):Int) 3=0)=false:=by decide
  have d4:decide (Int.tmod ((0+1:Nat):Int) 3=1)=true:=by decide
  simp only [d1,d2,d3,d4,ai,aw]
  repeat' (refine NQ.cond (fun _=>?_) (fun _=>?_))
  all_goals exact ⟨_,rfl,rfl,by first | (simp only [Sl.NH]; omega) | omega,rfl,rfl⟩
 | 1,_=>
  have d1:decide (((1:Nat):Int) < 3)=true:=by decide
  have d2:decide (((1:Nat):Int)=0)=false:=by decide
  have d5:decide (((1:Nat):Int)=1)=true:=by decide
  have d3:decide (Int.tmod ((1+1:Nat):Int) 3=0)=false:=by decide
  have d4:decide (Int.tmod ((1+1:Nat):Int) 3=1)=false:=by decide
  have d6:decide (Int.tmod ((1+1:Nat):Int) 3=2)=true:=by decide
  simp only [d1,d2,d3,d4,d5,d6,ai,aw]
  repeat' (refine NQ.cond (fun _=>?_) (fun _=>?_))
  all_goals exact ⟨_,rfl,rfl,by first | (simp only [Sl.NH]; omega) | omega,rfl,rfl⟩
 | 2,_=>
  have d1:decide (((2:Nat):Int) < 3)=true:=by decide
  have d2:decide (((2:Nat):Int)=0)=false:=by decide
  have d5:decide (((2:Nat):Int)=1)=false:=by decide
  have d7:decide (((2:Nat):Int)=2)=true:=by decide
  have d3:decide (Int.tmod ((2+1:Nat):Int) 3=0)=true:=by decide
  simp only [d1,d2,d3,d5,d7,ai,aw]
  repeat' (refine NQ.cond (fun _=>?_) (fun _=>?_))
  all_goals exact ⟨_,rfl,rfl,by first | (simp only [Sl.NH]; omega) | omega,rfl,rfl⟩
theorem aku (ax:Int) (t:bn):∃ x',ig ax t = .out (.exit 0) x'/\x'.l.n<=6/\x'.out.n=0:=by
 have key:∀ x:bD,_->_:=fun x h0=>bt (x:=x) (h0:=h0) (step:=dI) (fun j x=>x.t23=(j:Int)/\x.l.n<=2 * j/\x.out.n=0) (fun e x=>e = .exit 0/\x.l.n<=6/\x.out.n=0) 3 (by decide)
  (fun j x hj ⟨hx,hl,ho⟩=>by
   by_cases h:j < 3
   ·obtain ⟨x',h1,h2,h3,h4,_⟩:=ape j h x hx (by omega)
    exact .inl ⟨x',h1,h,h2,by omega,by rw [h4]; exact ho⟩
   ·have h3:j=3:=by omega
    subst h3;refine .inr ⟨.exit 0,x,?_,rfl,rfl,by omega,ho⟩;unfold dI ek qH aR;simp only [hx,aI,ai,show decide (((3:Nat):Int) < 3)=false from by decide,aw])
 have fin:∃ e x',ig ax t = .out e x'/\(e = .exit 0/\x'.l.n<=6/\x'.out.n=0):=by
  unfold ig;exact key _ ⟨rfl,aX _,rfl⟩
 obtain ⟨e,x',h1,rfl,h2,h3⟩:=fin;exact ⟨x',h1,h2,h3⟩
theorem art (ax:Int) (t:bn):∃ x',kM ax t = .out (.exit 2) x'/\x'.out.n<=6:=by
 obtain ⟨y,hy,hl,ho⟩:=aku ax t;have key:∀ x:oM,_->_:=fun x h0=>bt (x:=x) (h0:=h0) (step:=lh) (fun j x=>x.i=((2+j:Nat):Int)/\x.l.n<=6/\x.out.n=j/\(x.i<=(x.l.n:Int)\/j=0)) (fun e x=>e = .exit 2/\x.out.n<=6) 6 (by decide)
  (fun j x hj ⟨hx,hl,ho,hi⟩=>by
   unfold lh bh qH aR;by_cases h:x.i < ((x.l.n:Nat):Int)
   ·have w1:ak (x.i - 1)=x.i - 1:=aj
    have w2:ak (x.i+1)=x.i+1:=aj;have a1:j6 120 x.out.n 1=true:=iJ;refine .inl ⟨⟨(x.out.push (⟨(x.l.get 0),(x.l.get (Int.toNat (ak (x.i - (1:Int))))),(x.l.get (Int.toNat x.i))⟩:bn)),x.e,x.l,(ak (x.i+(1:Int)))⟩,?_,by omega,?_,hl,?_,?_⟩
    ·simp only [w1,w2,a1,aI,ai,bC,au h,au (show (0:Int) < ((x.l.n:Nat):Int) by omega),au (show (0:Int)<=x.i - 1 by omega),au (show x.i - 1 < ((x.l.n:Nat):Int) by omega),au (show (0:Int)<=x.i by omega)]
    ·show ak (x.i+1)=_
     omega
    ·simp only [Sl.NH]; omega
    ·exact .inl (by show ak (x.i+1)<=((x.l.n:Nat):Int); omega)
   ·refine .inr ⟨.exit 2,x,?_,rfl,rfl,by omega⟩
    simp only [aI,ai,aw,ay h])
 have fin:∃ e x',kM ax t = .out e x'/\(e = .exit 2/\x'.out.n<=6):=by
  unfold kM;rw [hy];exact key _ ⟨rfl,hl,ho,.inr rfl⟩
 obtain ⟨e,x',h1,rfl,h2⟩:=fin;exact ⟨x',h1,h2⟩
theorem atm (ax:Int) (t:bn):∃ r,vk ax t=some r/\r.1.n<=6:=by
 obtain ⟨y,hy,hl,ho⟩:=aku ax t;obtain ⟨z,hz,hn⟩:=art ax t;have c:∀ (p:bM),(kY p).isSome=true:=OP;have e0:(wY ax t).isSome=true:=c _;have e3:(wZ ax t).isSome=true:=c _;have e4:(w4 ax t).isSome=true:=c _;unfold vk sf yC aR;have b1:(ig ax t).by (.exit 0)=true:=by rw [hy]; rfl
 have b2:(kM ax t).by (.exit 2)=true:=by rw [hz]; rfl
 have s2:(kM ax t).st=z:=by rw [hz]; rfl
 simp only [e0,e3,e4,b1,b2,s2,aI,ai];have q:∀ {c:Bool} {a b:Option (Sl bn×Int)},(∃ r,a=some r/\r.1.n<=6)->(∃ r,b=some r/\r.1.n<=6)->∃ r,_root_.cond c a b=some r/\r.1.n<=6:=fun {c} {a} {b} h1 h2=>by
  cases c with
  | true=>exact h1
  | false=>exact h2
 repeat' (refine q ?_ ?_)
 all_goals first | exact ⟨_,rfl,dq _⟩ | exact ⟨(z.out,0),rfl,hn⟩
theorem acY (c:az) (p:bM):(pn c p).isSome=true:=by
 obtain ⟨e,h1,h2⟩:=vo c;have e0:yE c p=some e:=h1;have e1:(yF c p).isSome=true:=OP _;have e2:(Dp c p).isSome=true:=BA _ _;have e3:(Dq c p).isSome=true:=BA _ _;unfold pn;simp only [e0,e1,e2,e3,ai,bj,bc];refine nh (fun _=>rfl) (fun he=>nh (fun _=>rfl) (fun _=>nh (fun _=>rfl) (fun hz=>?_)));have Ir:e=0:=by simpa using he
 obtain ⟨_,_,hn,_⟩:=h2 Ir;have hz' : ¬ p.p.z < c.ax:=of_decide_eq_false hz;have q:decide (p.p.z=(0:Int))=false:=ay (by omega);rw [q];rfl
def Qn (x:Item):Prop:=x.uV.n=x.aG.n/\∀ i,i < x.bd.n->(0<=(x.bd.get i).e0/\(x.bd.get i).e0 < (x.aG.n:Int))/\(0<=(x.bd.get i).e1/\(x.bd.get i).e1 < (x.aG.n:Int))/\0<=(x.bd.get i).e2/\(x.bd.get i).e2 < (x.aG.n:Int)
theorem apf (x:fj) (h0:x.t74=0) (h1:x.t73=(x.t72.n:Int)) (h2:x.t72.n<=6) (h3:x.out.n=0):∃ x',goN gS x = .out (.exit 2) x'/\x'.out.n<=6:=by
 have key:=bt (step:=gS) (x:=x) (fun j x=>x.t74=(j:Int)/\x.t73=(x.t72.n:Int)/\x.t72.n<=6/\x.out.n<=j/\j<=x.t72.n) (fun e x=>e = .exit 2/\x.out.n<=6) 6 (by decide)
  (fun j x hj ⟨hx,ht,hn,ho,hjn⟩=>by
   have e0:(oP x).isSome=true:=acY _ _;have e1:(oQ x).isSome=true:=acY _ _;have e2:(oS x).isSome=true:=acY _ _;have e3:(oT x).isSome=true:=akt _ _;have e4:(rC x).isSome=true:=arq _;have w1:ak (x.t74+1)=x.t74+1:=aj;have a1:j6 120 x.out.n 1=true:=iJ;unfold gS bh qH aR;by_cases h:x.t74 < x.t73
   ·simp only [e0,e1,e2,e3,e4,w1,a1,aI,ai,bC,au h,au (show (0:Int)<=x.t74 by omega),au (show x.t74 < ((x.t72.n:Nat):Int) by omega)]
    left;cases ((oT x).getD default).fst with
    | true=>exact ⟨_,rfl,by omega,by show x.t74+1=_; omega,ht,hn,by simp only [Sl.NH]; omega,by show j+1<=x.t72.n; omega⟩
    | false=>exact ⟨_,rfl,by omega,by show x.t74+1=_; omega,ht,hn,by show x.out.n<=_; omega,by show j+1<=x.t72.n; omega⟩
   ·simp only [aI,ai,aw,ay h]
    exact .inr ⟨_,_,rfl,rfl,rfl,by omega⟩)
  ⟨h0,h1,h2,by omega,dq _⟩
 obtain ⟨e,x',h1,rfl,h2⟩:=key;exact ⟨x',h1,h2⟩
theorem aeD (s:Show) (c:az) (i j:Nat) (hi:i < s.items.n) (hj:j < (s.items.get i).bd.n) (ok:Qn (s.items.get i)):∃ r,jD s c (i:Int) (j:Int)=some r/\r.n<=6:=by
 obtain ⟨hu,hv⟩:=ok;obtain ⟨⟨v1,v2⟩,⟨v3,v4⟩,v5,v6⟩:=hv j hj;have e0:(oU s c i j).isSome=true:=ah4 _ _;have e1:(oV s c i j).isSome=true:=ah4 _ _;have e2:(oW s c i j).isSome=true:=ah4 _ _;obtain ⟨r,hr,hn⟩:∃ r,mS s c i j=some r/\r.1.n<=6:=atm _ _;obtain ⟨z,hz,MX⟩:∃ x',hQ s c i j = .out (.exit 2) x'/\x'.out.n<=6:=by
  unfold hQ;rw [hr];exact apf _ rfl rfl hn rfl
 have b1:(hQ s c i j).by (.exit 2)=true:=by rw [hz]; rfl
 have b2:(hQ s c i j).st=z:=by rw [hz]; rfl
 refine ⟨z.out,?_,MX⟩;unfold jD bh;simp only [e0,e1,e2,hr,b1,b2,hu,bU,bj,ai,bC,au v1,au v2,au v3,au v4,au v5,au v6,au (show (0:Int)<=(i:Int) by omega),au (show (0:Int)<=(j:Int) by omega),au (show (i:Int) < ((s.items.n:Nat):Int) by omega),au (show (j:Int) < (((s.items.get i).bd.n:Nat):Int) by omega)]
theorem acZ (n:Int):(yV n).isSome=true:=by
 unfold yV;exact nh (fun _=>rfl) (fun _=>rfl)
theorem auF (l:Sl iP) (hn:l.n<=4096):∃ e x',fF l = .out e x'/\(e = .ret\/e = .exit 0/\x'.l=l):=by
 unfold fF;refine bt (step:=qh) (fun j x=>x.l=l/\x.t17=l/\x.t18=(l.n:Int)/\x.t19=(j:Int)/\j<=l.n) (fun e x'=>e = .ret\/e = .exit 0/\x'.l=l) l.n (by have:gv=1000000000000:=rfl; omega) (fun j x hj ⟨h1,h2,h3,h4,h5⟩=>?_) ⟨rfl,rfl,rfl,rfl,dq _⟩;have e0:(w5 x).isSome=true:=acZ _;have e1:(w6 x).isSome=true:=acZ _;have e2:(w7 x).isSome=true:=acZ _;have w1:ak (x.t19+1)=x.t19+1:=aj;unfold qh qJ bh;by_cases h:x.t19 < x.t18
 ·simp only [e0,e1,e2,w1,ai,bC,au h,au (show (0:Int)<=x.t19 by omega),au (show x.t19 < ((x.t17.n:Nat):Int) by rw [h2]; omega)]
  cases (!((w5 x).getD default)) with
  | true=>exact .inr ⟨_,_,rfl,rfl,.inl rfl⟩
  | false=>
   cases (!((w6 x).getD default)) with
   | true=>exact .inr ⟨_,_,rfl,rfl,.inl rfl⟩
   | false=>
    cases (!((w7 x).getD default)) with
    | true=>exact .inr ⟨_,_,rfl,rfl,.inl rfl⟩
    | false=>exact .inl ⟨_,rfl,by omega,h1,h2,h3,by show x.t19+1=_; omega,by omega⟩
 ·simp only [aw,ay h]
  exact .inr ⟨_,_,rfl,rfl,.inr ⟨rfl,h1⟩⟩
theorem atn (x:tf) (hn:x.t49.n<=4096) (h0:x.t50=(x.t49.n:Int)) (h1:x.t51=0):∃ x',goN mQ x = .out (.exit 2) x':=by
 obtain ⟨e,x',h,rfl⟩:=bt (step:=mQ) (x:=x) (fun j y=>y.t49=x.t49/\y.t50=(x.t49.n:Int)/\y.t51=(j:Int)/\j<=x.t49.n) (fun e _=>e = .exit 2) x.t49.n (by have:gv=1000000000000:=rfl; omega) (fun j y hj ⟨h2,h3,h4,h5⟩=>by
  have w1:ak (y.t51+1)=y.t51+1:=aj;unfold mQ bh;by_cases h:y.t51 < y.t50
  ·simp only [w1,ai,bC,au h,au (show (0:Int)<=y.t51 by omega),au (show y.t51 < ((y.t49.n:Nat):Int) by rw [h2]; omega)]
   exact .inl ⟨_,rfl,by omega,h2,h3,by show y.t51+1=_; omega,by omega⟩
  ·simp only [aw,ay h]
   exact .inr ⟨_,_,rfl,rfl,rfl⟩) ⟨rfl,h0,h1,dq _⟩
 exact ⟨x',h⟩
theorem aru (l:Sl iP):(Bw l).isSome=true:=by
 unfold Bw Bv;refine nh (fun _=>rfl) (fun h0=>nh (fun _=>rfl) (fun h1=>?_));have hz:l.n≠0:=fun h=>by
  rw [h] at h0;exact absurd h0 (by decide)
 have hn:l.n<=4096:=by
  have:=of_decide_eq_false h1;omega
 obtain ⟨e,x',hx,h⟩:=auF l hn;rcases h with rfl | ⟨rfl,hl⟩
 ·have b1:(fF l).by (.exit 0)=false:=by rw [hx]; rfl
  have b2:(fF l).by .ret=true:=by rw [hx]; rfl
  simp only [b1,b2,ai,aw];rfl
 ·have b1:(fF l).by (.exit 0)=true:=by rw [hx]; rfl
  have b2:(fF l).st.l=l:=by rw [hx]; exact hl
  obtain ⟨y,hy⟩:∃ y,vl l = .out (.exit 2) y:=by
   unfold vl;simp only [b2];exact atn _ (by show Int.toNat _ - 1<=4096; omega) rfl rfl
  have b3:(vl l).by (.exit 2)=true:=by rw [hy]; rfl
  simp only [b1,b2,b3,ai,bC,au (show (0:Int) < ((l.n:Nat):Int) by omega),au (show (1:Int)<=((l.n:Nat):Int) by omega),au (show ((l.n:Nat):Int)<=((l.n:Nat):Int) by omega)];rfl
theorem aa6 (n:Int):(kN n).isSome=true:=by
 unfold kN;exact nh (fun _=>rfl) (fun _=>rfl)
theorem aa7 (t:bG):(eO t).isSome=true:=by
 have e0:(tT t).isSome=true:=aa6 _;have e1:(tU t).isSome=true:=aa6 _;unfold eO;simp only [e0,e1,ai]
 repeat' (refine nh (fun _=>?_) (fun _=>?_))
 all_goals rfl
theorem OS (l:Sl bG):(fY l).isSome=true:=by
 unfold fY;refine nh (fun _=>rfl) (fun h0=>?_);have hn:l.n<=16:=by
  have:=of_decide_eq_false h0;omega
 obtain ⟨e,x',h1,h2⟩:∃ e x',dJ l = .out e x'/\(e = .ret\/e = .exit 0):=by
  unfold dJ;refine bt (step:=fK) (fun j x=>x.t9=l/\x.t10=(l.n:Int)/\x.t11=(j:Int)/\j<=l.n) (fun e _=>e = .ret\/e = .exit 0) l.n (by have:gv=1000000000000:=rfl; omega) (fun j x hj ⟨h2,h3,h4,h5⟩=>?_) ⟨rfl,rfl,rfl,dq _⟩;have e0:(iX x).isSome=true:=aa7 _;have w1:ak (x.t11+1)=x.t11+1:=aj;unfold fK bh;by_cases h:x.t11 < x.t10
  ·simp only [e0,w1,ai,bC,au h,au (show (0:Int)<=x.t11 by omega),au (show x.t11 < ((x.t9.n:Nat):Int) by rw [h2]; omega)]
   cases (((iX x).getD default) != (0:Int)) with
   | true=>exact .inr ⟨_,_,rfl,rfl,.inl rfl⟩
   | false=>exact .inl ⟨_,rfl,by omega,h2,h3,by show x.t11+1=_; omega,by omega⟩
  ·simp only [aw,ay h]
   exact .inr ⟨_,_,rfl,rfl,.inr rfl⟩
 rcases h2 with rfl | rfl
 ·have b1:(dJ l).by (.exit 0)=false:=by rw [h1]; rfl
  have b2:(dJ l).by .ret=true:=by rw [h1]; rfl
  simp only [b1,b2,ai,aw];rfl
 ·have b1:(dJ l).by (.exit 0)=true:=by rw [h1]; rfl
  simp only [b1,ai];rfl
theorem ah5 (l:yD) (t:Int):(eL l t).isSome=true:=by
 unfold eL
 repeat' (refine nh (fun _=>?_) (fun _=>?_))
 all_goals rfl
theorem ato (x:Item) (t:Int) (hn:x.aG.n<=64) (hu:x.uV.n=x.aG.n):∃ e x',eh x t = .out e x'/\(e = .ret/\x'.t4=false\/e = .exit 0/\x'.n=(x.aG.n:Int)/\x'.x=x/\x'.t4=false):=by
 unfold eh;refine bt (step:=lj) (fun j y=>y.x=x/\y.t38=x.aG/\y.t39=(x.aG.n:Int)/\y.t40=(j:Int)/\j<=x.aG.n/\y.n=(x.aG.n:Int)/\y.t4=false) (fun e y=>e = .ret/\y.t4=false\/e = .exit 0/\y.n=(x.aG.n:Int)/\y.x=x/\y.t4=false) x.aG.n (by have:gv=1000000000000:=rfl; omega) (fun j y hj ⟨h1,h2,h3,h4,h5,h6,h7⟩=>?_) ⟨rfl,rfl,rfl,rfl,dq _,rfl,rfl⟩;have e0:(qK y).isSome=true:=aa5 _;have w1:ak (y.t40+1)=y.t40+1:=aj;unfold lj bh;by_cases h:y.t40 < y.t39
 ·simp only [e0,w1,ai,bC,au h,au (show (0:Int)<=y.t40 by omega),au (show y.t40 < ((y.t38.n:Nat):Int) by rw [h2]; omega),au (show y.t40 < ((y.x.uV.n:Nat):Int) by rw [h1]; omega)]
  cases (((qK y).getD default) != (0:Int)) with
  | true=>exact .inr ⟨_,_,rfl,rfl,.inl ⟨rfl,rfl⟩⟩
  | false=>
   cases (decide ((min (y.x.uV.get (Int.toNat y.t40)).e0 (y.x.uV.get (Int.toNat y.t40)).e1) < (0:Int))) with
   | true=>exact .inr ⟨_,_,rfl,rfl,.inl ⟨rfl,rfl⟩⟩
   | false=>
    cases (decide ((max (y.x.uV.get (Int.toNat y.t40)).e0 (y.x.uV.get (Int.toNat y.t40)).e1) > (255:Int))) with
    | true=>exact .inr ⟨_,_,rfl,rfl,.inl ⟨rfl,rfl⟩⟩
    | false=>exact .inl ⟨_,rfl,by omega,h1,h2,h3,by show y.t40+1=_; omega,by omega,h6,h7⟩
 ·simp only [aw,ay h]
  exact .inr ⟨_,_,rfl,rfl,.inr ⟨rfl,h6,h1,h7⟩⟩
def pj (l:Sl jw) (n:Int) (i:Nat):Prop:=(0<=(l.get i).e0/\(l.get i).e0 < n)/\(0<=(l.get i).e1/\(l.get i).e1 < n)/\0<=(l.get i).e2/\(l.get i).e2 < n
theorem atp (x:mR) (hn:x.t82.n<=64) (h0:x.t83=(x.t82.n:Int)) (h1:x.t84=0) (h2:x.t4=false):∃ e x',goN iA x = .out e x'/\(e = .ret/\x'.t4=false\/e = .exit 2/\x'.n=x.n/\x'.x=x.x/\∀ i,i < x.t82.n->pj x.t82 x.n i):=by
 refine bt (step:=iA) (fun j y=>y.x=x.x/\y.t82=x.t82/\y.t83=(x.t82.n:Int)/\y.t84=(j:Int)/\j<=x.t82.n/\y.n=x.n/\y.t4=false/\∀ i,i < j->pj x.t82 x.n i) (fun e y=>e = .ret/\y.t4=false\/e = .exit 2/\y.n=x.n/\y.x=x.x/\∀ i,i < x.t82.n->pj x.t82 x.n i) x.t82.n (by have:gv=1000000000000:=rfl; omega) (fun j y hj ⟨h1,h2,h3,h4,h5,h6,h7,h8⟩=>?_) ⟨rfl,rfl,h0,h1,dq _,rfl,h2,fun i h=>absurd h (xL _)⟩;have w1:ak (y.t84+1)=y.t84+1:=aj;unfold iA bh;by_cases h:y.t84 < y.t83
 ·simp only [w1,ai,bC,au h,au (show (0:Int)<=y.t84 by omega),au (show y.t84 < ((y.t82.n:Nat):Int) by rw [h2]; omega)]
  cases g1:decide ((min (min (y.t82.get (Int.toNat y.t84)).e0 (y.t82.get (Int.toNat y.t84)).e1) (y.t82.get (Int.toNat y.t84)).e2) < (0:Int)) with
  | true=>exact .inr ⟨_,_,rfl,rfl,.inl ⟨rfl,rfl⟩⟩
  | false=>
   cases g2:decide ((max (max (y.t82.get (Int.toNat y.t84)).e0 (y.t82.get (Int.toNat y.t84)).e1) (y.t82.get (Int.toNat y.t84)).e2) >= y.n) with
   | true=>exact .inr ⟨_,_,rfl,rfl,.inl ⟨rfl,rfl⟩⟩
   | false=>
    refine .inl ⟨_,rfl,by omega,h1,h2,h3,by show y.t84+1=_; omega,by omega,h6,h7,fun i hi=>?_⟩;by_cases vK:i < j
    ·exact h8 i vK
    ·have e:i=j:=by omega
     subst e;have g1':=of_decide_eq_false g1;have g2':=of_decide_eq_false g2;rw [h2,h4,bU] at g1' g2';rw [h6] at g2';unfold pj;omega
 ·simp only [aw,ay h]
  exact .inr ⟨_,_,rfl,rfl,.inr ⟨rfl,h6,h1,fun i hi=>h8 i (by omega)⟩⟩
theorem akv (x:Item) (t:Int):∃ b,od x t=some b/\(b=true->x.aG.n<=64/\x.bd.n<=64/\Qn x):=by
 have no:∃ b,(some false:Option Bool)=some b/\(b=true->x.aG.n<=64/\x.bd.n<=64/\Qn x):=⟨false,rfl,fun h=>absurd h (by decide)⟩
 unfold od;cases g1:decide (((x.aG.n:Nat):Int) > (64:Int)) with
 | true=>exact no
 | false=>
 cases g2:(((x.uV.n:Nat):Int) != ((x.aG.n:Nat):Int)) with
 | true=>exact no
 | false=>
 cases g3:decide (((x.bd.n:Nat):Int) > (64:Int)) with
 | true=>exact no
 | false=>
 have e0:(xc x t).isSome=true:=ah5 _ _;simp only [aw,ai,e0];cases (((xc x t).getD default) != (0:Int)) with
 | true=>exact no
 | false=>
 have hv:x.aG.n<=64:=by
  have:=of_decide_eq_false g1;omega
 have ht:x.bd.n<=64:=by
  have:=of_decide_eq_false g3;omega
 have hu:x.uV.n=x.aG.n:=by
  have:((x.uV.n:Nat):Int)=((x.aG.n:Nat):Int):=by simpa using g2
  omega
 obtain ⟨e,y,hy,h⟩:=ato x t hv hu;rcases h with ⟨rfl,hf⟩ | ⟨rfl,hn,hx,hf⟩
 ·have b1:(eh x t).by (.exit 0)=false:=by rw [hy]; rfl
  have b2:(eh x t).by .ret=true:=by rw [hy]; rfl
  have b3:(eh x t).st.t4=false:=by rw [hy]; exact hf
  simp only [b1,b2,b3,ai,aw];exact no
 ·have b1:(eh x t).by (.exit 0)=true:=by rw [hy]; rfl
  have s1:(eh x t).st=y:=by rw [hy]; rfl
  obtain ⟨e,z,hz,h⟩:∃ e z,du x t = .out e z/\(e = .ret/\z.t4=false\/e = .exit 2/\z.n=(x.aG.n:Int)/\z.x=x/\∀ i,i < x.bd.n->pj x.bd (x.aG.n:Int) i):=by
   unfold du;rw [s1,hn,hx];exact atp _ ht rfl rfl hf
  rcases h with ⟨rfl,hf'⟩ | ⟨rfl,_,hx',qw⟩
  ·have b2:(du x t).by (.exit 2)=false:=by rw [hz]; rfl
   have b3:(du x t).by .ret=true:=by rw [hz]; rfl
   have b4:(du x t).st.t4=false:=by rw [hz]; exact hf'
   simp only [b1,b2,b3,b4,ai,aw];exact no
  ·have b2:(du x t).by (.exit 2)=true:=by rw [hz]; rfl
   have e3:(jC x t).isSome=true:=aru _;simp only [b1,b2,e3,ai];have ok:x.aG.n<=64/\x.bd.n<=64/\Qn x:=⟨hv,ht,hu,qw⟩
   have q:∀ {c:Bool} {a b:Option Bool},(∃ r,a=some r/\(r=true->x.aG.n<=64/\x.bd.n<=64/\Qn x))->(∃ r,b=some r/\(r=true->x.aG.n<=64/\x.bd.n<=64/\Qn x))->∃ r,_root_.cond c a b=some r/\(r=true->x.aG.n<=64/\x.bd.n<=64/\Qn x):=fun {c} {a} {b} h1 h2=>by
    cases c with
    | true=>exact h1
    | false=>exact h2
   repeat' (refine q ?_ ?_)
   all_goals first | exact no | exact ⟨_,rfl,fun _=>ok⟩
def KC (s:Show):Prop:=s.items.n<=256/\∀ i,i < s.items.n->(s.items.get i).aG.n<=64/\(s.items.get i).bd.n<=64/\Qn (s.items.get i)
theorem Tf (s:Show):∃ e,ij s=some e/\(e=0->KC s):=by
 have no:∀ k:Int,k≠0->∃ e,(some k:Option Int)=some e/\(e=0->KC s):=fun k hk=>⟨k,rfl,fun h=>absurd h hk⟩
 unfold ij;cases g1:decide (((s.items.n:Nat):Int) > (256:Int)) with
 | true=>exact no 4 (by decide)
 | false=>
 cases decide (((s.av.n:Nat):Int) > (16:Int)) with
 | true=>exact no 4 (by decide)
 | false=>
 have hn:s.items.n<=256:=by
  have:=of_decide_eq_false g1;omega
 have e0:(tB s).isSome=true:=OS _;simp only [e0,ai,aw];cases (((tB s).getD default) != (0:Int)) with
 | true=>exact no 8 (by decide)
 | false=>
 obtain ⟨e,x',hx,h⟩:∃ e x',dR s = .out e x'/\(e = .ret/\x'.t4 >= 0\/e = .exit 0/\∀ i,i < s.items.n->(s.items.get i).aG.n<=64/\(s.items.get i).bd.n<=64/\Qn (s.items.get i)):=by
  unfold dR;refine bt (step:=ch) (fun j y=>y.s=s.items/\y.t7=(s.items.n:Int)/\y.t8=(j:Int)/\j<=s.items.n/\∀ i,i < j->(s.items.get i).aG.n<=64/\(s.items.get i).bd.n<=64/\Qn (s.items.get i)) (fun e x'=>e = .ret/\x'.t4 >= 0\/e = .exit 0/\∀ i,i < s.items.n->(s.items.get i).aG.n<=64/\(s.items.get i).bd.n<=64/\Qn (s.items.get i)) s.items.n (by have:gv=1000000000000:=rfl; omega) (fun j y hj ⟨h1,h2,h3,h4,h5⟩=>?_) ⟨rfl,rfl,rfl,dq _,fun i h=>absurd h (xL _)⟩;obtain ⟨b,hb,cm⟩:=akv (y.s.get (Int.toNat y.t8)) ((y.ahZ.av.n:Nat):Int);have e0:gW y=some b:=hb;have w1:ak (y.t8+1)=y.t8+1:=aj;unfold ch bh;by_cases h:y.t8 < y.t7
  ·simp only [e0,w1,ai,bC,bj,bc,au h,au (show (0:Int)<=y.t8 by omega),au (show y.t8 < ((y.s.n:Nat):Int) by rw [h1]; omega)]
   cases b with
   | false=>exact .inr ⟨_,_,rfl,rfl,.inl ⟨rfl,by show y.t8 >= 0; omega⟩⟩
   | true=>
    refine .inl ⟨_,rfl,by omega,h1,h2,by show y.t8+1=_; omega,by omega,fun i hi=>?_⟩;by_cases vK:i < j
    ·exact h5 i vK
    ·have e:i=j:=by omega
     subst e;have:=cm rfl;rw [h1,h3,bU] at this;exact this
  ·simp only [aw,ay h]
   exact .inr ⟨_,_,rfl,rfl,.inr ⟨rfl,fun i hi=>h5 i (by omega)⟩⟩
 rcases h with ⟨rfl,hp⟩ | ⟨rfl,qw⟩
 ·have b1:(dR s).by (.exit 0)=false:=by rw [hx]; rfl
  have b2:(dR s).by .ret=true:=by rw [hx]; rfl
  have b3:decide ((dR s).st.t4 >= (0:Int))=true:=by rw [hx]; exact au hp
  simp only [b1,b2,b3,ai,aw];exact no 8 (by decide)
 ·have b1:(dR s).by (.exit 0)=true:=by rw [hx]; rfl
  simp only [b1,ai];exact ⟨0,rfl,fun _=>⟨hn,qw⟩⟩
theorem Vm (s:Show) (c:az):∃ e,cX s c=some e/\(e=0->KC s/\OQ c):=by
 obtain ⟨e,h1,h2⟩:=Tf s;obtain ⟨f,h3,h4⟩:=vo c;have e0:qL s c=some e:=h1;have e1:tC s c=some f:=h3;unfold cX;simp only [e0,e1,bj,bc,ai];by_cases he:e=0
 ·subst he
  exact ⟨f,rfl,fun hf=>⟨h2 rfl,h4 hf⟩⟩
 ·have:(e != (0:Int))=true:=by simpa using he
  rw [this];exact ⟨e,rfl,fun h=>absurd h he⟩
def bB {α:Type} (l:Sl α):List α:=(List.range l.n).map l.get
theorem jE {α:Type} [Inhabited α] (l:Sl α) (v:α):bB (l.push v)=bB l++[v]:=by
 unfold bB;rw [Sl.NH,QY,HM];congr 1
 ·exact List.map_congr_left fun i hi=>Sl.akq (A6.1 hi)
 ·exact congrArg (fun a=>[a]) Sl.akr
theorem eP {α:Type} (l:Sl α):(bB l).length=l.n:=by simp [bB]
theorem K2 {α:Type} (l:Sl α) (j:Nat) (h:j < l.n):(bB l).take (j+1)=(bB l).take j++[l.get j]:=by
 rw [List.take_add_one];congr 1;unfold bB;simp [h]
end Go.Proofs.YtchbpckkmgcgkaaGreat.b
end
section
namespace Go.Proofs.YtchbpckkmgcgkaaGreat.b
open Go.K
noncomputable section
structure aL where
 d:Int
 item:Int
 aZ:Int
 part:Int
 u:Int
 v:Int
instance:Inhabited aL:=⟨by constructor<;>exact default⟩
def Zf (x:aL):List KV:=[.int .i64 x.d,.int .i64 x.item,.int .i64 x.aZ,.int .i64 x.part,.int .i64 x.u,.int .i64 x.v]
def fH (x:aL):KV:=.agg (Zf x)
def Zg (c:Nat->KV):aL:=⟨intOf (c 0),intOf (c 1),intOf (c 2),intOf (c 3),intOf (c 4),intOf (c 5)⟩
def gn (v:KV):aL:=Zg fun k=>v.cells.getD k .bJ
theorem ah6 (x:aL):gn (fH x)=x:=rfl
theorem atq:gn .bJ=default:=rfl
theorem Zh (s:Sl aL) (v:aL):s.push v=lv gn (s.n+1) (dZ s.n (fun i=>fH (s.get i)) (ri [fH v])):=(Bp ah6 atq s v).symm
theorem WQ (s:Sl aL) (i:Nat) (v:aL):s.set i v=lv gn s.n (xR (fun j=>fH (s.get j)) i (fH v)):=(ahI ah6 s i v).symm
theorem WR (m n' i:Nat) (acc:Nat->KV) (v:KV):lv gn m (xR (fun j=>fH ((lv gn n' acc).get j)) i v)=lv gn m (xR acc i v):=anE ah6 ..
structure eF where
 t:aF
 dp:aL
instance:Inhabited eF:=⟨⟨default,default⟩⟩
def alC (x:eF):List KV:=[.int .i64 x.t.e0.x,.int .i64 x.t.e0.y,.int .i64 x.t.e0.d,.int .i64 x.t.e0.u,.int .i64 x.t.e0.v,.int .i64 x.t.e1.x,.int .i64 x.t.e1.y,.int .i64 x.t.e1.d,.int .i64 x.t.e1.u,.int .i64 x.t.e1.v,.int .i64 x.t.e2.x,.int .i64 x.t.e2.y,.int .i64 x.t.e2.d,.int .i64 x.t.e2.u,.int .i64 x.t.e2.v,.int .i64 x.dp.d,.int .i64 x.dp.item,.int .i64 x.dp.aZ,.int .i64 x.dp.part,.int .i64 x.dp.u,.int .i64 x.dp.v]
def yf (x:eF):KV:=.agg (alC x)
def alD (c:Nat->KV):eF:=⟨⟨⟨intOf (c 0),intOf (c 1),intOf (c 2),intOf (c 3),intOf (c 4)⟩,⟨intOf (c 5),intOf (c 6),intOf (c 7),intOf (c 8),intOf (c 9)⟩,⟨intOf (c 10),intOf (c 11),intOf (c 12),intOf (c 13),intOf (c 14)⟩⟩,⟨intOf (c 15),intOf (c 16),intOf (c 17),intOf (c 18),intOf (c 19),intOf (c 20)⟩⟩
def yg (v:KV):eF:=alD fun k=>v.cells.getD k .bJ
theorem ah7 (x:eF):yg (yf x)=x:=rfl
theorem ah8:yg .bJ=default:=rfl
theorem ac0 (s:Sl eF) (v:eF):s.push v=lv yg (s.n+1) (dZ s.n (fun i=>yf (s.get i)) (ri [yf v])):=(Bp ah7 ah8 s v).symm
structure aH where
 cQ:Show
 parts:(Sl eF)
instance:Inhabited aH:=⟨⟨default,default⟩⟩
def db (x:aH):List KV:=[eZ 111 FD x.cQ.items,eZ 114 iu x.cQ.av,eZ 197 yf x.parts]
def tg (x:aH):KV:=.agg (db x)
def dc (c:Nat->KV):aH:=⟨⟨fg yc (c 0),fg ej (c 1)⟩,fg yg (c 2)⟩
def vR (v:KV):aH:=dc fun k=>v.cells.getD k .bJ
structure pM where
 t14:(Sl Item)
 t15:Int
 t16:Int
 s:Show
 c:az
 t4:aH
 out:aH
instance:Inhabited pM:=⟨by constructor<;>exact default⟩
def Jn (x:pM):List KV:=[eZ 111 FD x.t14,.int .i64 x.t15,.int .i64 x.t16]
def Jo (x:pM):List (List KV):=[sS x.s,Fs x.c,db x.t4,db x.out]
def Tg (vs:List KV) (rs:List (List KV)):pM:=⟨fg yc (v9 vs 0),intOf (v9 vs 1),intOf (v9 vs 2),sT (r9 rs 0),Ft (r9 rs 1),dc (r9 rs 2),dc (r9 rs 3)⟩
def Vn:aU:=⟨[(14,w9 (n9 111)),(15,w9 i9),(16,w9 i9)],[(2,[n9 111,n9 114],1),(3,[i9,i9,i9,i9,i9,i9,i9,i9,i9,i9,i9,i9,i9,i9,i9,i9],1),(4,[n9 111,n9 114,.bm 197],1),(5,[n9 111,n9 114,.bm 197],1)],[(2,0,0),(3,1,0),(4,2,0),(5,3,0)]⟩
structure jO where
 i:Int
 t14:(Sl Item)
 t15:Int
 t16:Int
 t23:Int
 t24:Int
 s:Show
 c:az
 t4:aH
 out:aH
 x:Item
instance:Inhabited jO:=⟨by constructor<;>exact default⟩
def DU (x:jO):List KV:=[.int .i64 x.i,eZ 111 FD x.t14,.int .i64 x.t15,.int .i64 x.t16,.int .i64 x.t23,.int .i64 x.t24]
def DV (x:jO):List (List KV):=[sS x.s,Fs x.c,db x.t4,db x.out,Cn x.x]
def L8 (vs:List KV) (rs:List (List KV)):jO:=⟨intOf (v9 vs 0),fg yc (v9 vs 1),intOf (v9 vs 2),intOf (v9 vs 3),intOf (v9 vs 4),intOf (v9 vs 5),sT (r9 rs 0),Ft (r9 rs 1),dc (r9 rs 2),dc (r9 rs 3),DS (r9 rs 4)⟩
def NJ:aU:=⟨[(6,w9 i9),(14,w9 (n9 111)),(15,w9 i9),(16,w9 i9),(23,w9 i9),(24,w9 i9)],[(2,[n9 111,n9 114],1),(3,[i9,i9,i9,i9,i9,i9,i9,i9,i9,i9,i9,i9,i9,i9,i9,i9],1),(4,[n9 111,n9 114,.bm 197],1),(5,[n9 111,n9 114,.bm 197],1),(7,[n9 27,n9 181,n9 28,u9,u9,u9,u9,i9,u9,i9,b9,i9,i9,i9,i9,i9,i9,i9],1)],[(2,0,0),(3,1,0),(4,2,0),(5,3,0),(7,4,0)]⟩
structure lk where
 i:Int
 k:Int
 t14:(Sl Item)
 t15:Int
 t16:Int
 t23:Int
 t24:Int
 t31:(Sl aF)
 t32:Int
 t33:Int
 s:Show
 c:az
 t4:aH
 out:aH
 x:Item
instance:Inhabited lk:=⟨by constructor<;>exact default⟩
def Al (x:lk):List KV:=[.int .i64 x.i,.int .i64 x.k,eZ 111 FD x.t14,.int .i64 x.t15,.int .i64 x.t16,.int .i64 x.t23,.int .i64 x.t24,eZ 62 eJ x.t31,.int .i64 x.t32,.int .i64 x.t33]
def Ao (x:lk):List (List KV):=[sS x.s,Fs x.c,db x.t4,db x.out,Cn x.x]
def IL (vs:List KV) (rs:List (List KV)):lk:=⟨intOf (v9 vs 0),intOf (v9 vs 1),fg yc (v9 vs 2),intOf (v9 vs 3),intOf (v9 vs 4),intOf (v9 vs 5),intOf (v9 vs 6),fg ei (v9 vs 7),intOf (v9 vs 8),intOf (v9 vs 9),sT (r9 rs 0),Ft (r9 rs 1),dc (r9 rs 2),dc (r9 rs 3),DS (r9 rs 4)⟩
def J4:aU:=⟨[(6,w9 i9),(8,w9 i9),(14,w9 (n9 111)),(15,w9 i9),(16,w9 i9),(23,w9 i9),(24,w9 i9),(31,w9 (n9 62)),(32,w9 i9),(33,w9 i9)],[(2,[n9 111,n9 114],1),(3,[i9,i9,i9,i9,i9,i9,i9,i9,i9,i9,i9,i9,i9,i9,i9,i9],1),(4,[n9 111,n9 114,.bm 197],1),(5,[n9 111,n9 114,.bm 197],1),(7,[n9 27,n9 181,n9 28,u9,u9,u9,u9,i9,u9,i9,b9,i9,i9,i9,i9,i9,i9,i9],1)],[(2,0,0),(3,1,0),(4,2,0),(5,3,0),(7,4,0)]⟩
def Vo:=vL [(48,xe)] [] 69 3827302 J4
def kz (x:lk):aK lk:=(cond (decide (x.t33 < x.t32)) (cond (bh x.t33 x.t31.n) (cond (qH 168 x.out.parts.n 1) (cond (cond (aR (x.out.parts.n+1)) (aR x.t4.parts.n) false) (.next ⟨x.i,x.k,x.t14,x.t15,x.t16,x.t23,x.t24,x.t31,x.t32,(ak (x.t33+1)),x.s,x.c,x.t4,⟨x.out.cQ,(x.out.parts.push ⟨(x.t31.get (Int.toNat x.t33)),⟨x.x.look.FC,x.i,x.k,x.t33,0,0⟩⟩)⟩,x.x⟩) .fail) .fail) .fail) (cond (cond (aR x.out.parts.n) (aR x.t4.parts.n) false) (.out (aE.aq.exit 4) x) .fail))
theorem Si (x:lk):Vo (Al x) (Ao x)=aK.enc Al Ao (kz x):=by
 unfold kz bh qH aR
 try simp only [aK.bI,ac0]
 kernel_rfl
def wm:Lp:=⟨69,3827302,J4,fun vs rs=>cc Al Ao (goN kz (IL vs rs)) [aE.aq.exit 4],false⟩
theorem Ap:wm.Ok PG:=uJ (ao.cons vm ao.nil) aJ.nil (pa:=IL) Si
def Zi:=vL [(48,xe)] [wm] 69 14950 NJ
def sv (x:jO):=jD x.s x.c x.i x.t24
def cO (x:jO):=goN kz ⟨x.i,x.t24,x.t14,x.t15,x.t16,x.t23,x.t24,((sv x).getD default),(((sv x).getD default).n:Int),0,x.s,x.c,x.t4,x.out,x.x⟩
def mr (x:jO):aK jO:=(cond (decide (x.t24 < x.t23)) (cond (sv x).isSome (cond (cond (aR x.out.parts.n) (aR x.t4.parts.n) false) (cond ((cO x).by (aE.aq.exit 4)) (cond (cond (aR (cO x).st.out.parts.n) (aR (cO x).st.t4.parts.n) false) (.next ⟨(cO x).st.i,(cO x).st.t14,(cO x).st.t15,(cO x).st.t16,(cO x).st.t23,(ak ((cO x).st.t24+1)),(cO x).st.s,(cO x).st.c,(cO x).st.t4,(cO x).st.out,(cO x).st.x⟩) .fail) .fail) .fail) .fail) (cond (cond (aR x.out.parts.n) (aR x.t4.parts.n) false) (.out (aE.aq.exit 2) x) .fail))
theorem Vp (x:jO):Zi (DU x) (DV x)=aK.enc DU DV (mr x):=by
 unfold mr aR
 try simp only [aK.bI]
 kernel_rfl
def FM:Lp:=⟨69,14950,NJ,fun vs rs=>cc DU DV (goN mr (L8 vs rs)) [aE.aq.exit 2],false⟩
theorem L9:FM.Ok PG:=uJ (ao.cons vm ao.nil) (ie Ap aJ.nil) (pa:=L8) Vp
def afc:=vL [(48,xe)] [wm,FM] 69 58 Vn
def gM (x:pM):=goN mr ⟨x.t16,x.t14,x.t15,x.t16,((x.t14.get (Int.toNat x.t16)).bd.n:Int),0,x.s,x.c,x.t4,x.out,(x.t14.get (Int.toNat x.t16))⟩
def pN (x:pM):aK pM:=(cond (decide (x.t16 < x.t15)) (cond (bh x.t16 x.t14.n) (cond (cond (aR x.out.parts.n) (aR x.t4.parts.n) false) (cond ((gM x).by (aE.aq.exit 2)) (cond (cond (aR (gM x).st.out.parts.n) (aR (gM x).st.t4.parts.n) false) (.next ⟨(gM x).st.t14,(gM x).st.t15,(ak ((gM x).st.t16+1)),(gM x).st.s,(gM x).st.c,(gM x).st.t4,(gM x).st.out⟩) .fail) .fail) .fail) .fail) (cond (cond (aR x.out.parts.n) (aR x.t4.parts.n) false) (.out (aE.aq.exit 0) x) .fail))
theorem aa8 (x:pM):afc (Jn x) (Jo x)=aK.enc Jn Jo (pN x):=by
 unfold pN bh aR
 try simp only [aK.bI]
 kernel_rfl
def Vq:Lp:=⟨69,58,Vn,fun vs rs=>cc Jn Jo (goN pN (Tg vs rs)) [aE.aq.exit 0],false⟩
theorem afd:Vq.Ok PG:=uJ (ao.cons vm ao.nil) (ie Ap (ie L9 aJ.nil)) (pa:=Tg) aa8
def Ia (s:Show) (c:az):=goN pN ⟨s.items,(s.items.n:Int),0,s,c,⟨⟨⟨0,(fun i=>⟨⟨0,(fun i=>⟨0,0,0⟩)⟩,⟨0,(fun i=>⟨0,0⟩)⟩,⟨0,(fun i=>⟨0,0,0⟩)⟩,⟨⟨0,0,0,0⟩,0,0,0,false,0⟩,⟨⟨0,0,0⟩,⟨0,0,0⟩⟩⟩)⟩,⟨0,(fun i=>⟨0,0,⟨0,(fun i=>⟨0,0,0,0⟩)⟩⟩)⟩⟩,⟨0,(fun i=>⟨⟨⟨0,0,0,0,0⟩,⟨0,0,0,0,0⟩,⟨0,0,0,0,0⟩⟩,⟨0,0,0,0,0,0⟩⟩)⟩⟩,⟨s,⟨0,(fun i=>⟨⟨⟨0,0,0,0,0⟩,⟨0,0,0,0,0⟩,⟨0,0,0,0,0⟩⟩,⟨0,0,0,0,0,0⟩⟩)⟩⟩⟩
def th (s:Show) (c:az):Option (aH):=(cond ((Ia s c).by (aE.aq.exit 0)) (some ((Ia s c).st.out)) none)
theorem ajl (s:Show) (c:az):gw [(48,xe)] [wm,FM,Vq] 69 [ph s,kc c] = (th s c).map tg:=by
 unfold th
 try simp only [aV]
 kernel_rfl
def aeE:List KV->KR KV:=a8 PG 69 (bb tg fun vs=>th (gm (v9 vs 0)) (dt (v9 vs 1)))
theorem ah9:a7 PG 69 aeE:=bH (ao.cons vm ao.nil) (ie Ap (ie L9 (ie afd aJ.nil))) fun w=>ajl (gm (g0 25 (w 0))) (dt (g0 31 (w 1)))
def CY (s:Show) (c:az) (x:Int) (y:Int):=cX s c
def Ib (s:Show) (c:az) (x:Int) (y:Int):=th s c
def tW (s:Show) (c:az) (x:Int) (y:Int):Option (aH×Int):=(some (⟨⟨⟨0,(fun i=>⟨⟨0,(fun i=>⟨0,0,0⟩)⟩,⟨0,(fun i=>⟨0,0⟩)⟩,⟨0,(fun i=>⟨0,0,0⟩)⟩,⟨⟨0,0,0,0⟩,0,0,0,false,0⟩,⟨⟨0,0,0⟩,⟨0,0,0⟩⟩⟩)⟩,⟨0,(fun i=>⟨0,0,⟨0,(fun i=>⟨0,0,0,0⟩)⟩⟩)⟩⟩,⟨0,(fun i=>⟨⟨⟨0,0,0,0,0⟩,⟨0,0,0,0,0⟩,⟨0,0,0,0,0⟩⟩,⟨0,0,0,0,0,0⟩⟩)⟩⟩,2))
def qk (s:Show) (c:az) (x:Int) (y:Int):Option (aH×Int):=(cond (CY s c x y).isSome (cond (((CY s c x y).getD default) != 0) (some (⟨⟨⟨0,(fun i=>⟨⟨0,(fun i=>⟨0,0,0⟩)⟩,⟨0,(fun i=>⟨0,0⟩)⟩,⟨0,(fun i=>⟨0,0,0⟩)⟩,⟨⟨0,0,0,0⟩,0,0,0,false,0⟩,⟨⟨0,0,0⟩,⟨0,0,0⟩⟩⟩)⟩,⟨0,(fun i=>⟨0,0,⟨0,(fun i=>⟨0,0,0,0⟩)⟩⟩)⟩⟩,⟨0,(fun i=>⟨⟨⟨0,0,0,0,0⟩,⟨0,0,0,0,0⟩,⟨0,0,0,0,0⟩⟩,⟨0,0,0,0,0,0⟩⟩)⟩⟩,((CY s c x y).getD default))) (cond (decide (x < 0))
   (tW s c x y) (cond (decide (x >= c.w))
   (tW s c x y) (cond (decide (y < 0))
    (tW s c x y) (cond (decide (y >= c.h))
    (tW s c x y) (cond (Ib s c x y).isSome (some (((Ib s c x y).getD default),0)) none)))))) none)
theorem ajm (s:Show) (c:az) (x:Int) (y:Int):gw [(69,aeE),(47,L6)] [] 51 [ph s,kc c,(kI .i64) x,(kI .i64) y] = (qk s c x y).map (fun (r:aH×Int)=>KV.jd [tg r.1,(kI .i64) r.2]):=by
 unfold qk tW
 try simp only [aV]
 kernel_rfl
def IM:List KV->KR KV:=a8 PG 51 (bb (fun (r:aH×Int)=>KV.jd [tg r.1,(kI .i64) r.2]) fun vs=>qk (gm (v9 vs 0)) (dt (v9 vs 1)) (intOf (v9 vs 2)) (intOf (v9 vs 3)))
theorem FN:a7 PG 51 IM:=bH (ao.cons ah9 (ao.cons NF ao.nil)) aJ.nil fun w=>ajm (gm (g0 25 (w 0))) (dt (g0 31 (w 1))) (intOf (g0 3 (w 2))) (intOf (g0 3 (w 3)))
structure cq where
 x:Int
 y:Int
 t14:(Sl eF)
 t15:Int
 t16:Int
 fZ:(Sl aL)
instance:Inhabited cq:=⟨by constructor<;>exact default⟩
def lP (x:cq):List KV:=[.int .i64 x.x,.int .i64 x.y,.fn (.func 53) [] [.ptr 0 0],eZ 197 yf x.t14,.int .i64 x.t15,.int .i64 x.t16]
def lQ (x:cq):List (List KV):=[[eZ 48 fH x.fZ]]
def qZ (vs:List KV) (rs:List (List KV)):cq:=⟨intOf (v9 vs 0),intOf (v9 vs 1),fg yg (v9 vs 3),intOf (v9 vs 4),intOf (v9 vs 5),fg gn ((rs.getD 0 []).getD 0 .bJ)⟩
def rD:aU:=⟨[(1,w9 i9),(2,w9 i9),(3,⟨false,[.ref (.fn (.func 53) [] [.ptr 0 0])]⟩),(14,w9 (n9 197)),(15,w9 i9),(16,w9 i9)],[(100003,[.bm 48],1)],[]⟩
def zI:=vL [(85,xI),(51,IM)] [] 52 14 rD
def dn (x:cq):=kd (x.t14.get (Int.toNat x.t16)).t x.x x.y
def cY (x:cq):aK cq:=(cond (decide (x.t16 < x.t15)) (cond (bh x.t16 x.t14.n) (cond (dn x).isSome (cond (((dn x).getD default).snd==0) (cond (qH 48 x.fZ.n 1) (cond (aR x.fZ.n) (.next ⟨x.x,x.y,x.t14,x.t15,(ak (x.t16+1)),(x.fZ.push ⟨(ak ((x.t14.get (Int.toNat x.t16)).dp.d+((dn x).getD default).fst.d)),(x.t14.get (Int.toNat x.t16)).dp.item,(x.t14.get (Int.toNat x.t16)).dp.aZ,(x.t14.get (Int.toNat x.t16)).dp.part,((dn x).getD default).fst.u,((dn x).getD default).fst.v⟩)⟩) .fail) .fail) (cond (aR x.fZ.n) (.next ⟨x.x,x.y,x.t14,x.t15,(ak (x.t16+1)),x.fZ⟩) .fail)) .fail) .fail) (cond (aR x.fZ.n) (.out (aE.aq.exit 0) x) .fail))
theorem yG (x:cq):zI (lP x) (lQ x)=aK.enc lP lQ (cY x):=by
 unfold cY bh qH aR
 try simp only [aK.bI,Zh]
 kernel_rfl
def rE:Lp:=⟨52,14,rD,fun vs rs=>cc lP lQ (goN cY (qZ vs rs)) [aE.aq.exit 0],false⟩
theorem zJ:rE.Ok PG:=uJ (ao.cons tS (ao.cons FN ao.nil)) aJ.nil (pa:=qZ) yG
def oX (s:Show) (c:az) (x:Int) (y:Int):=qk s c x y
def tD (s:Show) (c:az) (x:Int) (y:Int):=goN cY ⟨x,y,((oX s c x y).getD default).fst.parts,(((oX s c x y).getD default).fst.parts.n:Int),0,⟨0,(fun i=>⟨0,0,0,0,0,0⟩)⟩⟩
def iY (s:Show) (c:az) (x:Int) (y:Int):Option ((Sl aL)×Int):=(cond (oX s c x y).isSome (cond (((oX s c x y).getD default).snd==0) (cond ((tD s c x y).by (aE.aq.exit 0)) (some ((tD s c x y).st.fZ,((oX s c x y).getD default).snd)) none) (some (⟨0,(fun i=>⟨0,0,0,0,0,0⟩)⟩,((oX s c x y).getD default).snd))) none)
theorem ac1 (s:Show) (c:az) (x:Int) (y:Int):gw [(85,xI),(51,IM)] [rE] 12 [ph s,kc c,(kI .i64) x,(kI .i64) y] = (iY s c x y).map (fun (r:(Sl aL)×Int)=>KV.jd [(eZ 48 fH) r.1,(kI .i64) r.2]):=by
 unfold iY
 try simp only [aV]
 kernel_rfl
def Ma:List KV->KR KV:=a8 PG 12 (bb (fun (r:(Sl aL)×Int)=>KV.jd [(eZ 48 fH) r.1,(kI .i64) r.2]) fun vs=>iY (gm (v9 vs 0)) (dt (v9 vs 1)) (intOf (v9 vs 2)) (intOf (v9 vs 3)))
theorem NK:a7 PG 12 Ma:=bH (ao.cons tS (ao.cons FN ao.nil)) (ie zJ aJ.nil) fun w=>ac1 (gm (g0 25 (w 0))) (dt (g0 31 (w 1))) (intOf (g0 3 (w 2))) (intOf (g0 3 (w 3)))
structure sg where
 l:(Sl bG)
 t2:Bool
 n:Int
 i:Int
instance:Inhabited sg:=⟨⟨default,default,default,default⟩⟩
def G8 (x:sg):List KV:=[eZ 114 iu x.l,.bool x.t2,.int .i64 x.n,.int .i64 x.i]
def G9 (x:sg):List (List KV):=[]
def Qo (vs:List KV) (rs:List (List KV)):sg:=⟨fg ej (v9 vs 0),kO (v9 vs 1),intOf (v9 vs 2),intOf (v9 vs 3)⟩
def Th:aU:=⟨[(0,w9 (n9 114)),(2,w9 b9),(3,w9 i9),(4,w9 i9)],[],[]⟩
def ac2:=vL [] [] 45 58 Th
def mu (x:sg):aK sg:=(cond (decide (x.i < (x.l.n:Int))) (cond (decide (x.i < 100)) (cond (bh x.i x.l.n) (.next ⟨x.l,x.t2,(ak (x.n+(min ((x.l.get (Int.toNat x.i)).dF.n:Int) 100000))),(ak (x.i+1))⟩) .fail) (.out (aE.aq.exit 0) x)) (.out (aE.aq.exit 0) x))
theorem Zj (x:sg):ac2 (G8 x) (G9 x)=aK.enc G8 G9 (mu x):=by
 unfold mu bh
 try simp only [aK.bI]
 kernel_rfl
def Ti:Lp:=⟨45,58,Th,fun vs rs=>cc G8 G9 (goN mu (Qo vs rs)) [aE.aq.exit 0],false⟩
theorem ac3:Ti.Ok PG:=uJ ao.nil aJ.nil (pa:=Qo) Zj
def nS (l:(Sl bG)):=goN mu ⟨l,false,0,0⟩
def sV (l:(Sl bG)):Option (Bool):=(cond ((nS l).by (aE.aq.exit 0)) (cond (decide (((nS l).st.l.n:Int) > 40)) (some (true)) (some ((decide ((nS l).st.n > 20000))))) none)
theorem aia (l:(Sl bG)):gw [] [Ti] 45 [(eZ 114 iu) l] = (sV l).map kB:=by
 unfold sV
 try simp only [aV]
 kernel_rfl
def Sj:List KV->KR KV:=a8 PG 45 (bb kB fun vs=>sV ((fg ej) (v9 vs 0)))
theorem Tj:a7 PG 45 Sj:=bH ao.nil (ie ac3 aJ.nil) fun w=>aia ((fg ej) (g0 23 (w 0)))
structure sh where
 t2:Bool
 n:Int
 i:Int
 s:Show
instance:Inhabited sh:=⟨⟨default,default,default,default⟩⟩
def Ha (x:sh):List KV:=[.bool x.t2,.int .i64 x.n,.int .i64 x.i]
def Hb (x:sh):List (List KV):=[sS x.s]
def Qp (vs:List KV) (rs:List (List KV)):sh:=⟨kO (v9 vs 0),intOf (v9 vs 1),intOf (v9 vs 2),sT (r9 rs 0)⟩
def Tk:aU:=⟨[(2,w9 b9),(3,w9 i9),(4,w9 i9)],[(1,[n9 111,n9 114],1)],[(1,0,0)]⟩
def ac4:=vL [(45,Sj)] [] 8 58 Tk
def mv (x:sh):aK sh:=(cond (decide (x.i < (x.s.items.n:Int))) (cond (decide (x.i < 300)) (cond (bh x.i x.s.items.n) (cond (bh x.i x.s.items.n) (cond (bh x.i x.s.items.n) (.next ⟨x.t2,(ak ((ak ((ak (x.n+(min ((x.s.items.get (Int.toNat x.i)).aG.n:Int) 10000)))+(min ((x.s.items.get (Int.toNat x.i)).uV.n:Int) 10000)))+(ak (2 * (min ((x.s.items.get (Int.toNat x.i)).bd.n:Int) 10000))))),(ak (x.i+1)),x.s⟩) .fail) .fail) .fail) (.out (aE.aq.exit 0) x)) (.out (aE.aq.exit 0) x))
theorem Zk (x:sh):ac4 (Ha x) (Hb x)=aK.enc Ha Hb (mv x):=by
 unfold mv bh
 try simp only [aK.bI]
 kernel_rfl
def Tl:Lp:=⟨8,58,Tk,fun vs rs=>cc Ha Hb (goN mv (Qp vs rs)) [aE.aq.exit 0],false⟩
theorem ac5:Tl.Ok PG:=uJ (ao.cons Tj ao.nil) aJ.nil (pa:=Qp) Zk
def mw (s:Show):=goN mv ⟨false,0,0,s⟩
def Aq (s:Show):=sV (mw s).st.s.av
def vp (s:Show):Option (Bool):=(cond ((mw s).by (aE.aq.exit 0)) (cond (decide (((mw s).st.s.items.n:Int) > 260)) (some (true)) (cond (decide ((mw s).st.n > 800)) (some (true)) (cond (Aq s).isSome (some (((Aq s).getD default))) none))) none)
theorem aib (s:Show):gw [(45,Sj)] [Tl] 8 [ph s] = (vp s).map kB:=by
 unfold vp
 try simp only [aV]
 kernel_rfl
def Sk:List KV->KR KV:=a8 PG 8 (bb kB fun vs=>vp (gm (v9 vs 0)))
theorem Tn:a7 PG 8 Sk:=bH (ao.cons Tj ao.nil) (ie ac5 aJ.nil) fun w=>aib (gm (g0 25 (w 0)))
end
end Go.Proofs.YtchbpckkmgcgkaaGreat.b
end
section
namespace Go.Proofs.YtchbpckkmgcgkaaGreat.b
open Go.K
open Go.aE (aq)
def CZ (s:Show) (c:az) (i k:Nat):Sl aF:=(jD s c (i:Int) (k:Int)).getD default
def partAt (s:Show) (c:az) (i k n:Nat):eF:=⟨(CZ s c i k).get n,⟨(s.items.get i).look.FC,(i:Int),(k:Int),(n:Int),0,0⟩⟩
def NL (s:Show) (c:az) (i k:Nat):List eF:=(List.range (CZ s c i k).n).map (partAt s c i k)
def Jp (s:Show) (c:az) (i:Nat):List eF:=(List.range (s.items.get i).bd.n).flatMap (NL s c i)
def gx (s:Show) (c:az):List eF:=(List.range s.items.n).flatMap (Jp s c)
theorem IP {α:Type} (f:Nat->List α) (n:Nat):(List.range (n+1)).flatMap f=(List.range n).flatMap f++f n:=by
 rw [QY,List.flatMap_append]; simp
theorem auG (s:Show) (c:az) (i k:Nat) (x:lk) (hi:x.i=(i:Int)) (hk:x.k=(k:Int)) (hr:x.t31=CZ s c i k) (hb:x.x=s.items.get i) (hn:x.t31.n<=6) (h2:x.t32=(x.t31.n:Int)) (h3:x.t33=0) (hs:x.out.parts.n<=200000) :
  ∃ e y,goN kz x = .out e y/\(e = .exit 4/\y.i=x.i/\y.t14=x.t14/\y.t15=x.t15/\y.t16=x.t16/\y.t23=x.t23/\y.t24=x.t24/\y.s=x.s/\y.c=x.c/\y.t4=x.t4/\y.x=x.x/\y.out.cQ=x.out.cQ/\bB y.out.parts=bB x.out.parts++NL s c i k/\y.out.parts.n<=x.out.parts.n+6):=by
 refine bt (step:=kz) (fun j y=>(y.i=x.i/\y.t14=x.t14/\y.t15=x.t15/\y.t16=x.t16/\y.t23=x.t23/\y.t24=x.t24/\y.s=x.s/\y.c=x.c/\y.t4=x.t4/\y.x=x.x/\y.out.cQ=x.out.cQ)/\y.k=x.k/\y.t31=x.t31/\y.t32=(x.t31.n:Int)/\y.t33=(j:Int)/\j<=x.t31.n/\bB y.out.parts=bB x.out.parts++(List.range j).map (partAt s c i k)/\y.out.parts.n<=x.out.parts.n+j) (fun e y=>e = .exit 4/\y.i=x.i/\y.t14=x.t14/\y.t15=x.t15/\y.t16=x.t16/\y.t23=x.t23/\y.t24=x.t24/\y.s=x.s/\y.c=x.c/\y.t4=x.t4/\y.x=x.x/\y.out.cQ=x.out.cQ/\bB y.out.parts=bB x.out.parts++NL s c i k/\y.out.parts.n<=x.out.parts.n+6) x.t31.n (by have:gv=1000000000000:=rfl; omega) (fun j y hj ⟨hf,Cc,h4,h5,h6,h7,h8,h9⟩=>?_) ⟨⟨rfl,rfl,rfl,rfl,rfl,rfl,rfl,rfl,rfl,rfl,rfl⟩,rfl,rfl,h2,h3,dq _,by simp,by omega⟩;have w1:ak (y.t33+1)=y.t33+1:=aj;have a1:j6 168 y.out.parts.n 1=true:=sU (by omega) (by omega) (by omega) (.inl (by omega));obtain ⟨f1,f2,f3,f4,f5,f6,f7,f8,f9,f10,f11⟩:=hf;unfold kz bh qH aR;by_cases h:y.t33 < y.t32
 ·simp only [w1,a1,aI,ai,bC,au h,au (show (0:Int)<=y.t33 by omega),au (show y.t33 < ((y.t31.n:Nat):Int) by rw [h4]; omega)]
  refine .inl ⟨_,rfl,by omega,⟨f1,f2,f3,f4,f5,f6,f7,f8,f9,f10,f11⟩,Cc,h4,h5,by show y.t33+1=_; omega,by omega,?_,by simp only [Sl.NH]; omega⟩;show bB (Sl.push _ _)=_;rw [jE,h8,QY,HM,<- HJ];have e1:(⟨(y.t31.get (Int.toNat y.t33)),(⟨y.x.look.FC,y.i,y.k,y.t33,(0:Int),(0:Int)⟩:aL)⟩:eF)=partAt s c i k j:=by
   unfold partAt;rw [h4,h6,bU,hr,f10,hb,f1,Cc,hi,hk]
  rw [e1];rfl
 ·simp only [aI,ai,aw,ay h]
  refine .inr ⟨_,_,rfl,rfl,rfl,f1,f2,f3,f4,f5,f6,f7,f8,f9,f10,f11,?_,by omega⟩;rw [h8,show j=x.t31.n by omega,hr];rfl
theorem atr (s:Show) (c:az) (n:Nat) (hn:n < s.items.n) (cm:Qn (s.items.get n)) (ht:(s.items.get n).bd.n<=64) (x:jO) (hs:x.s=s) (hc:x.c=c) (hx:x.x=s.items.get n) (hi:x.i=(n:Int)) (h2:x.t23=((s.items.get n).bd.n:Int)) (h3:x.t24=0) (gI:x.out.parts.n<=150000) :
  ∃ e y,goN mr x = .out e y/\(e = .exit 2/\y.t14=x.t14/\y.t15=x.t15/\y.t16=x.t16/\y.s=s/\y.c=c/\y.t4=x.t4/\y.out.cQ=x.out.cQ/\bB y.out.parts=bB x.out.parts++Jp s c n/\y.out.parts.n<=x.out.parts.n+384):=by
 refine bt (step:=mr) (fun j y=>(y.i=x.i/\y.t14=x.t14/\y.t15=x.t15/\y.t16=x.t16/\y.t23=x.t23/\y.s=s/\y.c=c/\y.t4=x.t4/\y.x=x.x/\y.out.cQ=x.out.cQ)/\y.t24=(j:Int)/\j<=(s.items.get n).bd.n/\bB y.out.parts=bB x.out.parts++(List.range j).flatMap (NL s c n)/\y.out.parts.n<=x.out.parts.n+6 * j) (fun e y=>e = .exit 2/\y.t14=x.t14/\y.t15=x.t15/\y.t16=x.t16/\y.s=s/\y.c=c/\y.t4=x.t4/\y.out.cQ=x.out.cQ/\bB y.out.parts=bB x.out.parts++Jp s c n/\y.out.parts.n<=x.out.parts.n+384) (s.items.get n).bd.n (by have:gv=1000000000000:=rfl; omega) (fun j y hj ⟨⟨f1,f2,f3,f4,f5,f6,f7,f8,f9,f10⟩,h4,h5,h6,h7⟩=>?_) ⟨⟨rfl,rfl,rfl,rfl,rfl,hs,hc,rfl,rfl,rfl⟩,h3,dq _,by simp,by omega⟩;unfold mr aR;by_cases h:y.t24 < y.t23
 ·obtain ⟨r,hr,hrn⟩:=aeD s c n j hn (by omega) cm
  have e0:sv y=some r:=by
   unfold sv;rw [f6,f7,f1,hi,h4];exact hr
  have ep:CZ s c n j=r:=by unfold CZ; rw [hr]; rfl
  obtain ⟨e,z,hz,rfl,g1,g2,g3,g4,g5,g6,g7,g8,g9,g10,awW,g11,g12⟩:∃ e z,cO y = .out e z/\(e = .exit 4/\z.i=y.i/\z.t14=y.t14/\z.t15=y.t15/\z.t16=y.t16/\z.t23=y.t23/\z.t24=y.t24/\z.s=y.s/\z.c=y.c/\z.t4=y.t4/\z.x=y.x/\z.out.cQ=y.out.cQ/\bB z.out.parts=bB y.out.parts++NL s c n j/\z.out.parts.n<=y.out.parts.n+6):=by
   unfold cO;rw [e0];exact auG s c n j _ (by show y.i=_; rw [f1,hi]) h4 ep.symm (by show y.x=_; rw [f9,hx]) hrn rfl rfl (by show y.out.parts.n<=200000; omega)
  have b1:(cO y).by (.exit 4)=true:=by rw [hz]; rfl
  have b2:(cO y).st=z:=by rw [hz]; rfl
  have w1:ak (z.t24+1)=z.t24+1:=aj;simp only [e0,b1,b2,w1,aI,ai,bj,au h];refine .inl ⟨_,rfl,by omega,⟨g1.trans f1,g2.trans f2,g3.trans f3,g4.trans f4,g5.trans f5,g7.trans f6,g8.trans f7,g9.trans f8,g10.trans f9,awW.trans f10⟩,by show z.t24+1=_; omega,by omega,?_,by show z.out.parts.n<=_; omega⟩;show bB z.out.parts=_;rw [g11,h6,IP,HJ]
 ·simp only [aI,ai,aw,ay h]
  refine .inr ⟨_,_,rfl,rfl,rfl,f2,f3,f4,f6,f7,f8,f10,?_,by omega⟩;rw [h6,show j=(s.items.get n).bd.n by omega];rfl
theorem ats (s:Show) (c:az) (hs:KC s) (x:pM) (h14:x.t14=s.items) (h15:x.t15=(s.items.n:Int)) (h16:x.t16=0) (hxs:x.s=s) (hxc:x.c=c) (h0:x.out.parts.n=0) :
  ∃ e y,goN pN x = .out e y/\(e = .exit 0/\y.out.cQ=x.out.cQ/\bB y.out.parts=gx s c/\y.out.parts.n<=98304):=by
 obtain ⟨hs1,mM⟩:=hs;refine bt (step:=pN) (fun j y=>y.t14=s.items/\y.t15=(s.items.n:Int)/\y.t16=(j:Int)/\y.s=s/\y.c=c/\y.out.cQ=x.out.cQ/\j<=s.items.n/\bB y.out.parts=(List.range j).flatMap (Jp s c)/\y.out.parts.n<=384 * j) (fun e y=>e = .exit 0/\y.out.cQ=x.out.cQ/\bB y.out.parts=gx s c/\y.out.parts.n<=98304) s.items.n (by have:gv=1000000000000:=rfl; omega) (fun j y hj ⟨f1,f2,f3,f4,f5,f5',f6,f7,f8⟩=>?_) ⟨h14,h15,h16,hxs,hxc,rfl,dq _,by simp only [List.range_zero,List.flatMap_nil]; exact pq.1 (by rw [eP,h0]),by omega⟩;unfold pN bh aR;by_cases h:y.t16 < y.t15
 ·have fw:j < s.items.n:=by omega
  obtain ⟨_,ht,cm⟩:=mM j fw;have hg:y.t14.get (Int.toNat y.t16)=s.items.get j:=by rw [f1,f3,bU]
  obtain ⟨e,z,hz,rfl,g1,g2,g3,g4,g5,_,g6,g7,g8⟩:∃ e z,gM y = .out e z/\(e = .exit 2/\z.t14=y.t14/\z.t15=y.t15/\z.t16=y.t16/\z.s=s/\z.c=c/\z.t4=y.t4/\z.out.cQ=y.out.cQ/\bB z.out.parts=bB y.out.parts++Jp s c j/\z.out.parts.n<=y.out.parts.n+384):=by
   unfold gM;exact atr s c j fw cm ht _ f4 f5 hg f3 (by show (((y.t14.get (Int.toNat y.t16)).bd.n:Nat):Int)=_; rw [hg]) rfl (by show y.out.parts.n<=150000; omega)
  have b1:(gM y).by (.exit 2)=true:=by rw [hz]; rfl
  have b2:(gM y).st=z:=by rw [hz]; rfl
  have w1:ak (z.t16+1)=z.t16+1:=aj;simp only [b1,b2,w1,aI,ai,bC,au h,au (show (0:Int)<=y.t16 by omega),au (show y.t16 < ((y.t14.n:Nat):Int) by rw [f1]; omega)];refine .inl ⟨_,rfl,fw,g1.trans f1,g2.trans f2,by show z.t16+1=_; omega,g4,g5,g6.trans f5',by omega,?_,by show z.out.parts.n<=_; omega⟩;show bB z.out.parts=_;rw [g7,f7,IP]
 ·simp only [aI,ai,aw,ay h]
  refine .inr ⟨_,_,rfl,rfl,rfl,f5',?_,by omega⟩;rw [f7,show j=s.items.n by omega];rfl
theorem akw (s:Show) (c:az) (hs:KC s):∃ r,th s c=some r/\r.cQ=s/\bB r.parts=gx s c/\r.parts.n<=98304:=by
 obtain ⟨e,y,hy,rfl,h0,h1,h2⟩:∃ e y,Ia s c = .out e y/\(e = .exit 0/\y.out.cQ=s/\bB y.out.parts=gx s c/\y.out.parts.n<=98304):=by
  unfold Ia;exact ats s c hs _ rfl rfl rfl rfl rfl rfl
 refine ⟨y.out,?_,h0,h1,h2⟩;unfold th;rw [hy];rfl
theorem Eo {α:Type} (l:Sl α) (j:Nat) (h:j < l.n):(bB l)[j]? = some (l.get j):=by
 unfold bB;rw [A5,List.getElem?_range h];rfl
theorem att {α:Type} {l:Sl α} {v:α} (h:v∈bB l):∃ j,j < l.n/\l.get j=v:=by
 unfold bB at h;obtain ⟨j,h1,h2⟩:=HK.1 h;exact ⟨j,A6.1 h1,h2⟩
theorem FO {α:Type} {l:Sl α} {j:Nat} (h:j < l.n):l.get j∈bB l:=HK.2 ⟨j,A6.2 h,rfl⟩
def pf (x y:Int) (p:eF):Option aL:=
 match kd p.t x y with
 | some (sp,e)=>cond (e==0) (some ⟨ak (p.dp.d+sp.d),p.dp.item,p.dp.aZ,p.dp.part,sp.u,sp.v⟩) none
 | none=>none
def mI (x y:Int) (l:List eF):List aL:=l.filterMap (pf x y)
theorem ac6 {x y:Int} (l:Sl eF) (j:Nat) (h:j < l.n):mI x y ((bB l).take (j+1))=mI x y ((bB l).take j)++(pf x y (l.get j)).toList:=by
 unfold mI;rw [K2 l j h,List.filterMap_append];congr 1
theorem Vr (t:aF) (x y:Int):∃ s e,kd t x y=some (s,e):=by
 obtain ⟨s,e,h,_⟩:=aeC t x y;exact ⟨s,e,h⟩
theorem atu (x y:Int) (l:List eF):(mI x y l).length<=l.length:=List.length_filterMap_le _ _
theorem alE (x:cq) (hn:x.t14.n<=98304) (h15:x.t15=(x.t14.n:Int)) (h16:x.t16=0) (h0:x.fZ.n=0) :
  ∃ e y,goN cY x = .out e y/\(e = .exit 0/\bB y.fZ=mI x.x x.y (bB x.t14)):=by
 refine bt (step:=cY) (fun j y=>y.t14=x.t14/\y.t15=(x.t14.n:Int)/\y.t16=(j:Int)/\y.x=x.x/\y.y=x.y/\j<=x.t14.n/\y.fZ.n<=j/\bB y.fZ=mI x.x x.y ((bB x.t14).take j)) (fun e y=>e = .exit 0/\bB y.fZ=mI x.x x.y (bB x.t14)) x.t14.n (by have:gv=1000000000000:=rfl; omega) (fun j y hj ⟨f1,f2,f3,f4,f5,f6,f7,f8⟩=>?_) ⟨rfl,h15,h16,rfl,rfl,dq _,by omega,pq.1 (by rw [eP,h0])⟩;have w1:ak (y.t16+1)=y.t16+1:=aj;have a1:j6 48 y.fZ.n 1=true:=sU (by omega) (by omega) (by omega) (.inl (by omega));unfold cY bh qH aR;by_cases h:y.t16 < y.t15
 ·have fw:j < x.t14.n:=by omega
  have hg:y.t14.get (Int.toNat y.t16)=x.t14.get j:=by rw [f1,f3,bU]
  obtain ⟨sp,e,hp⟩:=Vr (x.t14.get j).t x.x x.y;have e0:dn y=some (sp,e):=by
   unfold dn;rw [hg,f4,f5];exact hp
  have tk:=ac6 (x:=x.x) (y:=x.y) x.t14 j fw;simp only [e0,w1,a1,aI,ai,bC,bj,bc,au h,au (show (0:Int)<=y.t16 by omega),au (show y.t16 < ((y.t14.n:Nat):Int) by rw [f1]; omega)];cases he:(e==(0:Int)) with
  | true=>
   have CO:pf x.x x.y (x.t14.get j)=some ⟨ak ((x.t14.get j).dp.d+sp.d),(x.t14.get j).dp.item,(x.t14.get j).dp.aZ,(x.t14.get j).dp.part,sp.u,sp.v⟩:=by
    unfold pf;rw [hp];simp only [he,ai]
   rw [ai];refine .inl ⟨_,rfl,by omega,f1,f2,by show y.t16+1=_; omega,f4,f5,by omega,by simp only [Sl.NH]; omega,?_⟩;show bB (Sl.push _ _)=_;rw [jE,f8,tk,CO,hg];rfl
  | false=>
   have CO:pf x.x x.y (x.t14.get j)=none:=by
    unfold pf;rw [hp];simp only [he,aw]
   rw [aw];refine .inl ⟨_,rfl,by omega,f1,f2,by show y.t16+1=_; omega,f4,f5,by omega,by show y.fZ.n<=_; omega,?_⟩;show bB y.fZ=_;rw [tk,CO,f8];simp
 ·simp only [aI,ai,aw,ay h]
  refine .inr ⟨_,_,rfl,rfl,rfl,?_⟩;rw [f8,show j=x.t14.n by omega,CH (by rw [eP]; exact aX _)]
theorem alF (s:Show) (c:az) (x y:Int):∃ l e,iY s c x y=some (l,e)/\
  (e≠0/\(∃ r,qk s c x y=some (r,e))\/e=0/\∃ r,qk s c x y=some (r,0)/\KC s/\OQ c/\(0<=x/\x < c.w)/\(0<=y/\y < c.h)/\cX s c=some 0/\th s c=some r/\r.cQ=s/\bB r.parts=gx s c/\r.parts.n<=98304/\bB l=mI x y (gx s c)):=by
 have at_:∃ r e,qk s c x y=some (r,e)/\(e≠0\/e=0/\KC s/\OQ c/\(0<=x/\x < c.w)/\(0<=y/\y < c.h)/\cX s c=some 0/\th s c=some r/\r.cQ=s/\bB r.parts=gx s c/\r.parts.n<=98304):=by
  obtain ⟨e,h1,h2⟩:=Vm s c;have e0:CY s c x y=some e:=h1;unfold qk tW;simp only [e0,bj,bc,ai];cases he:(e != (0:Int)) with
  | true=>exact ⟨_,_,rfl,.inl (by simpa using he)⟩
  | false=>
   have he:e=0:=by simpa using he
   subst he;obtain ⟨hs,hc⟩:=h2 rfl;rw [aw];by_cases c1:x < 0
   ·rw [au c1]; exact ⟨_,_,rfl,.inl (by decide)⟩
   by_cases c2:x >= c.w
   ·rw [ay c1,au c2]; exact ⟨_,_,rfl,.inl (by decide)⟩
   by_cases c3:y < 0
   ·rw [ay c1,ay c2,au c3]; exact ⟨_,_,rfl,.inl (by decide)⟩
   by_cases c4:y >= c.h
   ·rw [ay c1,ay c2,ay c3,au c4]; exact ⟨_,_,rfl,.inl (by decide)⟩
   obtain ⟨r,hr,h3,h4,h5⟩:=akw s c hs;have e1:Ib s c x y=some r:=hr;simp only [ay c1,ay c2,ay c3,ay c4,aw,e1,bj,bc,ai];exact ⟨_,_,rfl,.inr ⟨rfl,hs,hc,⟨by omega,by omega⟩,⟨by omega,by omega⟩,h1,hr,h3,h4,h5⟩⟩
 obtain ⟨r,e,h1,h2⟩:=at_;have e0:oX s c x y=some (r,e):=h1;rcases h2 with h2 | ⟨rfl,hs,hc,hx,hy,ha,ho,h3,h4,h5⟩
 ·unfold iY
  simp only [e0,bj,bc,ai,show (e==(0:Int))=false by simpa using h2,aw];exact ⟨_,_,rfl,.inl ⟨h2,r,h1⟩⟩
 ·obtain ⟨e,z,hz,rfl,h6⟩:∃ e z,tD s c x y = .out e z/\(e = .exit 0/\bB z.fZ=mI x y (bB r.parts)):=by
   unfold tD;rw [e0];exact alE _ h5 rfl rfl rfl
  have b1:(tD s c x y).by (.exit 0)=true:=by rw [hz]; rfl
  have b2:(tD s c x y).st=z:=by rw [hz]; rfl
  refine ⟨z.fZ,0,?_,.inr ⟨rfl,r,h1,hs,hc,hx,hy,ha,ho,h3,h4,h5,by rw [h6,h4]⟩⟩;unfold iY;simp only [e0,b1,b2,bj,bc,ai,show ((0:Int)==0)=true from rfl]
end Go.Proofs.YtchbpckkmgcgkaaGreat.b
end
section
namespace Go.K.iK
variable {α:Type}
def b2 (b:Bool):Nat:=cond b 1 0
def xX (p:α->Bool) (d:Nat->α) (a:Nat):Nat->Nat
 | 0=>0
 | k+1=>xX p d a k+b2 (p (d (a+k)))
theorem tX {p:α->Bool} {d d' : Nat->α} {a b:Nat} : ∀ {k:Nat},(∀ i,i < k->d (a+i)=d' (b+i))->xX p d a k=xX p d' b k
 | 0,_=>rfl
 | k+1,h=>by
  rw [xX,xX,tX (k:=k) fun i hi=>h i (by omega),h k (by omega)]
theorem tY {p:α->Bool} {d:Nat->α} {a k:Nat} : ∀ (l:Nat),xX p d a (k+l)=xX p d a k+xX p d (a+k) l
 | 0=>by simp [xX]
 | l+1=>by
  show xX p d a (k+l)+b2 (p (d (a+(k+l))))=xX p d a k+(xX p d (a+k) l+b2 (p (d (a+k+l))));rw [tY l,HL a k l];omega
theorem aa9 {p:α->Bool} {d:Nat->α} {a:Nat} : xX p d a 1=b2 (p (d a)):=by simp [xX]
theorem aic {p:α->Bool} {d:Nat->α} {a:Nat} : ∀ {k:Nat},0 < xX p d a k->∃ i,i < k/\p (d (a+i))=true
 | 0,h=>by simp [xX] at h
 | k+1,h=>by
  rw [xX] at h;cases hp:p (d (a+k)) with
  | true=>exact ⟨k,by omega,hp⟩
  | false=>
   rw [hp] at h;obtain ⟨i,h1,h2⟩:=aic (k:=k) (by simpa [b2] using h);exact ⟨i,by omega,h2⟩
theorem aid {p:α->Bool} {d:Nat->α} {a i:Nat} : ∀ {k:Nat},i < k->p (d (a+i))=true->0 < xX p d a k
 | 0,h,_=>by omega
 | k+1,h,hp=>by
  rw [xX];by_cases e:i=k
  ·subst e; rw [hp]; simp [b2]
  ·have:=aid (k:=k) (by omega) hp
   omega
def Perm (d d' : Nat->α) (a b:Nat):Prop:=(∀ p:α->Bool,xX p d' a (b - a)=xX p d a (b - a))/\∀ i,i < a\/b<=i->d' i=d i
theorem Perm.refl (d:Nat->α) (a b:Nat):Perm d d a b:=⟨fun _=>rfl,fun _ _=>rfl⟩
theorem Perm.trans {d d' d'' : Nat->α} {a b:Nat} (h:Perm d d' a b) (k:Perm d' d'' a b):Perm d d'' a b:=⟨fun p=>(k.1 p).trans (h.1 p),fun i hi=>(k.2 i hi).trans (h.2 i hi)⟩
theorem Perm.wide {d d' : Nat->α} {a b a' b' : Nat} (h:Perm d d' a b) (h1:a'<=a) (h2:a<=b) (h3:b<=b'):Perm d d' a' b':=by
 refine ⟨fun p=>?_,fun i hi=>h.2 i (by omega)⟩;have e:b' - a' = (a - a')+((b - a)+(b' - b)):=by omega
 rw [e,tY,tY,tY (d:=d),tY (d:=d)];rw [show a' + (a - a')=a by omega,h.1 p,show a+(b - a)=b by omega];rw [tX (d:=d') (d':=d) (a:=a') (b:=a') fun i hi=>h.2 _ (by omega),tX (d:=d') (d':=d) (a:=b) (b:=b) fun i hi=>h.2 _ (by omega)]
theorem Perm.mem {d d' : Nat->α} {a b:Nat} (h:Perm d d' a b) {i:Nat} (h1:a<=i) (h2:i < b):∃ j,a<=j/\j < b/\d' i=d j:=by
 classical
 have:=aid (p:=fun x=>decide (x=d' i)) (d:=d') (a:=a) (i:=i - a) (k:=b - a) (by omega) (by simp [show a+(i - a)=i by omega]);rw [h.1] at this;obtain ⟨j,h3,h4⟩:=aic this;exact ⟨a+j,by omega,by omega,(rh h4).symm⟩
def ins (d:Nat->α) (j i:Nat):Nat->α:=fun t=>if t < j then d t else if t=j then d i else if t<=i then d (t - 1) else d t
theorem Ds {d:Nat->α} {j i t:Nat} (h:t < j):ins d j i t=d t:=by simp [ins,h]
theorem NM {d:Nat->α} {j i:Nat} : ins d j i j=d i:=by simp [ins]
theorem Qq {d:Nat->α} {j i t:Nat} (h:j < t) (h2:t<=i):ins d j i t=d (t - 1):=by
 rw [ins,aB (by omega),aB (by omega),aW h2]
theorem af3 {d:Nat->α} {j i t:Nat} (h:j<=i) (h2:i < t):ins d j i t=d t:=by
 rw [ins,aB (by omega),aB (by omega),aB (by omega)]
theorem akx {d:Nat->α} {i:Nat} : ins d i i=d:=by
 funext t;by_cases h:t < i
 ·exact Ds h
 ·by_cases e:t=i
  ·subst e; exact NM
  ·exact af3 (aX _) (by omega)
theorem aky {d:Nat->α} {a j i:Nat} (h1:a<=j) (h2:j<=i):Perm d (ins d j i) a (i+1):=by
 refine ⟨fun p=>?_,fun t ht=>?_⟩
 ·have e:i+1 - a=(j - a)+(1+(i - j)):=by omega
  have e2:i+1 - a=(j - a)+((i - j)+1):=by omega
  rw [e,tY,tY,aa9,show a+(j - a)=j by omega,NM];rw [<- e,e2,tY,tY (k:=i - j),aa9,show a+(j - a)=j by omega,show j+(i - j)=i by omega];rw [tX (d:=ins d j i) (d':=d) (a:=a) (b:=a) fun t ht=>Ds (by omega),tX (d:=ins d j i) (d':=d) (a:=j+1) (b:=j) fun t ht=>by rw [Qq (by omega) (by omega)]; congr 1; omega];omega
 ·rcases ht with ht | ht
  ·exact Ds (by omega)
  ·exact af3 h2 (by omega)
theorem akz {d:Nat->α} {j i t:Nat} (h:j<=i) (h1:1<=j):ins d (j - 1) i t=if t=j - 1 then ins d j i j else if t=j then ins d j i (j - 1) else ins d j i t:=by
 by_cases e:t=j - 1
 ·subst e; rw [aW rfl,NM,NM]
 ·rw [aB e]
  by_cases e2:t=j
  ·subst e2; rw [aW rfl,Qq (by omega) h,Ds (by omega)]
  ·rw [aB e2]
   by_cases e3:t < j
   ·rw [Ds (by omega),Ds e3]
   ·by_cases e4:t<=i
    ·rw [Qq (by omega) e4,Qq (by omega) e4]
    ·rw [af3 (by omega) (by omega),af3 h (by omega)]
def Qr (d:Nat->α) (a k:Nat):Nat->α:=fun t=>if t < a then d t else if t < k then d (t+1) else if t=k then d a else d t
theorem af4 {d:Nat->α} {a k t:Nat} (h:t < a):Qr d a k t=d t:=by simp [Qr,h]
theorem IQ {d:Nat->α} {a k t:Nat} (h:a<=t) (h2:t < k):Qr d a k t=d (t+1):=by
 rw [Qr,aB (by omega),aW h2]
theorem WS {d:Nat->α} {a k:Nat} (h:a<=k):Qr d a k k=d a:=by
 rw [Qr,aB (by omega),aB (by omega),aW rfl]
theorem Sm {d:Nat->α} {a k t:Nat} (h:a<=k) (h2:k < t):Qr d a k t=d t:=by
 rw [Qr,aB (by omega),aB (by omega),aB (by omega)]
theorem arv {d:Nat->α} {a:Nat} : Qr d a a=d:=by
 funext t;by_cases h:t < a
 ·exact af4 h
 ·by_cases e:t=a
  ·subst e; exact WS (aX _)
  ·exact Sm (aX _) (by omega)
theorem arw {d:Nat->α} {a k:Nat} (h:a<=k):Perm d (Qr d a k) a (k+1):=by
 refine ⟨fun p=>?_,fun t ht=>?_⟩
 ·have e:k+1 - a=(k - a)+1:=by omega
  have e2:k+1 - a=1+(k - a):=by omega
  rw [e,tY,aa9,show a+(k - a)=k by omega,WS h,<- e,e2,tY,aa9];rw [tX (d:=Qr d a k) (d':=d) (a:=a) (b:=a+1) fun t ht=>by rw [IQ (by omega) (by omega)]; congr 1; omega];omega
 ·rcases ht with ht | ht
  ·exact af4 ht
  ·exact Sm h (by omega)
theorem arx {d:Nat->α} {a k t:Nat} (h:a<=k):Qr d a (k+1) t=if t=k then Qr d a k (k+1) else if t=k+1 then Qr d a k k else Qr d a k t:=by
 by_cases e:t=k
 ·subst e; rw [aW rfl,IQ h (by omega),Sm h (by omega)]
 ·rw [aB e]
  by_cases e2:t=k+1
  ·subst e2; rw [aW rfl,WS (by omega),WS h]
  ·rw [aB e2]
   by_cases e3:t < a
   ·rw [af4 e3,af4 e3]
   ·by_cases e4:t < k
    ·rw [IQ (by omega) (by omega),IQ (by omega) e4]
    ·rw [Sm (by omega) (by omega),Sm h (by omega)]
def KD (d:Nat->α) (a m b:Nat):Nat->α:=fun t=>if t < a then d t else if t < a+(b - m) then d (t+(m - a)) else if t < b then d (t - (b - m)) else d t
theorem Qs {d:Nat->α} {a m b t:Nat} (h1:a<=m) (h2:m<=b) (h:t < a\/b<=t):KD d a m b t=d t:=by
 rcases h with h | h
 ·simp [KD,h]
 ·rw [KD,aB (by omega),aB (by omega),aB (by omega)]
theorem WT {d:Nat->α} {a m b t:Nat} (h1:a<=t) (h2:t < a+(b - m)):KD d a m b t=d (t+(m - a)):=by
 rw [KD,aB (by omega),aW h2]
theorem Sn {d:Nat->α} {a m b t:Nat} (h1:a+(b - m)<=t) (h2:t < b):KD d a m b t=d (t - (b - m)):=by
 rw [KD,aB (by omega),aB (by omega),aW h2]
theorem ary {d:Nat->α} {a m b:Nat} (h1:a<=m) (h2:m<=b):Perm d (KD d a m b) a b:=by
 refine ⟨fun p=>?_,fun t ht=>Qs h1 h2 ht⟩;have e:b - a=(b - m)+(m - a):=by omega
 have e2:b - a=(m - a)+(b - m):=by omega
 rw [e,tY,<- e,e2,tY,show a+(m - a)=m by omega];rw [tX (d:=KD d a m b) (d':=d) (a:=a) (b:=m) fun t ht=>by rw [WT (by omega) (by omega)]; congr 1; omega,tX (d:=KD d a m b) (d':=d) (a:=a+(b - m)) (b:=a) fun t ht=>by rw [Sn (by omega) (by omega)]; congr 1; omega];omega
structure Ord (α:Type) where
 key:α->Int
 hZ:α->α->Prop
def Ord.lt (o:Ord α) (x y:α):Prop:=o.key x < o.key y\/(o.key x=o.key y/\o.hZ x y)
theorem Ord.auH {o:Ord α} {x y:α} (h:o.lt x y):o.key x<=o.key y:=by rcases h with h | h <;> omega
theorem Ord.apg {o:Ord α} {x y:α} (h:o.key x<=o.key y) (h0:o.hZ x y):o.lt x y:=by
 by_cases e:o.key x=o.key y
 ·exact .inr ⟨e,h0⟩
 ·exact .inl (by omega)
def hX (o:Ord α) (d:Nat->α) (a b:Nat):Prop:=∀ i j,a<=i->i < j->j < b->o.lt (d i) (d j)
def Mb (o:Ord α) (d:Nat->α) (a m b:Nat):Prop:=∀ i j,a<=i->i < m->m<=j->j < b->o.hZ (d i) (d j)
variable {o:Ord α}
theorem hX.key {d:Nat->α} {a b:Nat} (h:hX o d a b) {i j:Nat} (h1:a<=i) (h2:i<=j) (h3:j < b):o.key (d i)<=o.key (d j):=by
 by_cases e:i=j
 ·subst e; exact Int.le_refl _
 ·exact Ord.auH (h i j h1 (by omega) h3)
theorem hX.congr {d d' : Nat->α} {a b:Nat} (h:hX o d a b) (e:∀ i,a<=i->i < b->d' i=d i):hX o d' a b:=fun i j h1 h2 h3=>by
 rw [e i h1 (by omega),e j (by omega) h3]; exact h i j h1 h2 h3
theorem hX.one {d:Nat->α} {a b:Nat} (h:b<=a+1):hX o d a b:=fun i j h1 h2 h3=>by omega
theorem aeF {d:Nat->α} {a j i:Nat} (hs:hX o d a i) (hc:Mb o d a i (i+1)) (h1:a<=j) (h2:j<=i) (hl:∀ s,a<=s->s < j->o.key (d s)<=o.key (d i)) (hr:∀ t,j<=t->t < i->o.key (d i) < o.key (d t)):hX o (ins d j i) a (i+1):=by
 intro s t q1 q2 q3;by_cases ht:t < j
 ·rw [Ds ht,Ds (by omega)]
  exact hs s t q1 q2 (by omega)
 ·by_cases PO:t=j
  ·subst PO
   rw [NM,Ds q2];exact Ord.apg (hl s q1 q2) (hc s i q1 (by omega) (aX _) (by omega))
  ·rw [Qq (t:=t) (by omega) (by omega)]
   by_cases h3:s < j
   ·rw [Ds h3]; exact hs s (t - 1) q1 (by omega) (by omega)
   ·by_cases h4:s=j
    ·subst h4; rw [NM]; exact .inl (hr (t - 1) (by omega) (by omega))
    ·rw [Qq (t:=s) (by omega) (by omega)]; exact hs (s - 1) (t - 1) (by omega) (by omega) (by omega)
theorem anW {d:Nat->α} {a i b:Nat} (hs:hX o d (a+1) b) (hc:Mb o d a (a+1) b) (h1:a+1<=i) (h2:i<=b) (hl:∀ t,a+1<=t->t < i->o.key (d t) < o.key (d a)) (hr:∀ t,i<=t->t < b->o.key (d a)<=o.key (d t)):hX o (Qr d a (i - 1)) a b:=by
 intro s t q1 q2 q3;by_cases ht:t < i - 1
 ·rw [IQ (by omega) ht,IQ q1 (by omega)]
  exact hs _ _ (by omega) (by omega) (by omega)
 ·by_cases PO:t=i - 1
  ·subst PO
   rw [WS (by omega),IQ q1 q2];exact .inl (hl _ (by omega) (by omega))
  ·rw [Sm (t:=t) (by omega) (by omega)]
   by_cases h3:s < i - 1
   ·rw [IQ q1 h3]; exact hs _ _ (by omega) (by omega) q3
   ·by_cases h4:s=i - 1
    ·subst h4; rw [WS (by omega)]; exact Ord.apg (hr t (by omega) q3) (hc a t (aX _) (by omega) (by omega) q3)
    ·rw [Sm (t:=s) (by omega) (by omega)]; exact hs _ _ (by omega) q2 q3
structure Split (o:Ord α) (D:Nat->α) (a s cI e b:Nat):Prop where
 l1:hX o D a s
 l2:hX o D s cI
 l0:Mb o D a s cI
 r1:hX o D cI e
 r2:hX o D e b
 r0:Mb o D cI e b
 lr:∀ i j,a<=i->i < cI->cI<=j->j < b->o.lt (D i) (D j)
theorem aph {d:Nat->α} {a s cI m e b:Nat} (h1:hX o d a m) (h2:hX o d m b) (hc:Mb o d a m b) (q1:a<=s) (q2:s<=m) (q3:m<=e) (q4:e<=b) (q5:e+s=cI+m) (hL:∀ i j,a<=i->i < s->e<=j->j < b->o.key (d i)<=o.key (d j)) (hR:∀ i j,s<=i->i < m->m<=j->j < e->o.key (d j) < o.key (d i)) :
  Split o (KD d s m e) a s cI e b:=by
 have v1:∀ t,t < s->KD d s m e t=d t:=fun t h=>Qs q2 q3 (.inl h);have v2:∀ t,s<=t->t < cI->KD d s m e t=d (t+(m - s)):=fun t h h'=>WT h (by omega);have v3:∀ t,cI<=t->t < e->KD d s m e t=d (t - (e - m)):=fun t h h'=>Sn (by omega) h';have v4:∀ t,e<=t->KD d s m e t=d t:=fun t h=>Qs q2 q3 (.inr h);refine ⟨fun i j p1 p2 p3=>?_,fun i j p1 p2 p3=>?_,fun i j p1 p2 p3 p4=>?_,fun i j p1 p2 p3=>?_,fun i j p1 p2 p3=>?_,fun i j p1 p2 p3 p4=>?_,fun i j p1 p2 p3 p4=>?_⟩
 ·rw [v1 i (by omega),v1 j p3]; exact h1 i j p1 p2 (by omega)
 ·rw [v2 i p1 (by omega),v2 j (by omega) p3]; exact h2 _ _ (by omega) (by omega) (by omega)
 ·rw [v1 i p2,v2 j p3 p4]; exact hc _ _ p1 (by omega) (by omega) (by omega)
 ·rw [v3 i p1 (by omega),v3 j (by omega) p3]; exact h1 _ _ (by omega) (by omega) (by omega)
 ·rw [v4 i p1,v4 j (by omega)]; exact h2 _ _ (by omega) p2 p3
 ·rw [v3 i p1 p2,v4 j p3]; exact hc _ _ (by omega) (by omega) (by omega) p4
 ·by_cases hi:i < s
  ·rw [v1 i hi]
   by_cases hj:j < e
   ·rw [v3 j p3 hj]; exact h1 _ _ p1 (by omega) (by omega)
   ·rw [v4 j (by omega)]; exact Ord.apg (hL i j p1 hi (by omega) p4) (hc i j p1 (by omega) (by omega) p4)
  ·rw [v2 i (by omega) p2]
   by_cases hj:j < e
   ·rw [v3 j p3 hj]; exact .inl (hR _ _ (by omega) (by omega) (by omega) (by omega))
   ·rw [v4 j (by omega)]; exact h2 _ _ (by omega) (by omega) p4
theorem alG {D D2 D3:Nat->α} {a cI b:Nat} (h:∀ i j,a<=i->i < cI->cI<=j->j < b->o.lt (D i) (D j)) (p1:Perm D D2 a cI) (s1:hX o D2 a cI) (p2:Perm D2 D3 cI b) (s2:hX o D3 cI b):hX o D3 a b:=by
 intro i j q1 q2 q3;by_cases hj:j < cI
 ·rw [p2.2 i (.inl (by omega)),p2.2 j (.inl hj)]; exact s1 i j q1 q2 hj
 ·by_cases hi:i < cI
  ·rw [p2.2 i (.inl hi)]
   obtain ⟨i',r1,r2,e1⟩:=p1.mem q1 hi;obtain ⟨j',r3,r4,e2⟩:=p2.mem (i:=j) (by omega) q3;rw [e1,e2,p1.2 j' (.inr r3)];exact h i' j' r1 r2 r3 r4
  ·exact s2 i j (by omega) q2 q3
theorem Ye {d:Nat->α} {a s s0 r0 cI m b:Nat} (h1:hX o d a m) (h2:hX o d m b) (q1:a<=s) (q2:s<=m) (q3:m+s<=cI+m) (q4:cI+m<=b+s) (hs:(s=s0/\(s0=a\/cI+m=b+s0))\/(a < s/\cI+m < b+s/\o.key (d (s - 1))<=o.key (d (cI+m - s)))) (hr:(s=r0/\(r0=m\/r0=cI))\/(s < m/\s < cI/\o.key (d (cI+m - 1 - s)) < o.key (d s))) :
  (∀ i j,a<=i->i < s->cI+m - s<=j->j < b->o.key (d i)<=o.key (d j))/\∀ i j,s<=i->i < m->m<=j->j < cI+m - s->o.key (d j) < o.key (d i):=by
 constructor
 ·intro i j p1 p2 p3 p4
  rcases hs with ⟨e,h | h⟩ | ⟨e1,e2,e3⟩
  ·omega
  ·omega
  ·have k1:=h1.key (i:=i) (j:=s - 1) p1 (by omega) (by omega)
   have k2:=h2.key (i:=cI+m - s) (j:=j) (by omega) p3 p4;omega
 ·intro i j p1 p2 p3 p4
  rcases hr with ⟨e,h | h⟩ | ⟨e1,e2,e3⟩
  ·omega
  ·omega
  ·have k1:=h1.key (i:=s) (j:=i) q1 p1 p2
   have k2:=h2.key (i:=j) (j:=cI+m - 1 - s) p3 (by omega) (by omega);omega
def akA (o:Ord α) (g:Nat->α) (n:Nat):Prop:=∀ i j,i < j->j < n->o.hZ (g i) (g j)
theorem aeG {d g:Nat->α} {a k:Nat} (h:∀ p:α->Bool,xX p d a k=xX p g a k) {i:Nat} (h1:a<=i) (h2:i < a+k):∃ j,a<=j/\j < a+k/\d i=g j:=by
 classical
 have:=aid (p:=fun x=>decide (x=d i)) (d:=d) (a:=a) (i:=i - a) (k:=k) (by omega) (by simp [show a+(i - a)=i by omega]);rw [h] at this;obtain ⟨j,h3,h4⟩:=aic this;exact ⟨a+j,by omega,by omega,(rh h4).symm⟩
theorem akB {d g:Nat->α} {a m b n:Nat} (hg:akA o g n) (hb:b<=n) (h1:a<=m) (h2:m<=b) (c1:∀ p:α->Bool,xX p d a (m - a)=xX p g a (m - a)) (c2:∀ p:α->Bool,xX p d m (b - m)=xX p g m (b - m)):Mb o d a m b:=by
 intro i j q1 q2 q3 q4;obtain ⟨i',r1,r2,e1⟩:=aeG c1 q1 (by omega);obtain ⟨j',r3,r4,e2⟩:=aeG c2 q3 (by omega);rw [e1,e2];exact hg i' j' (by omega) (by omega)
end Go.K.iK
end
section
namespace Go.Proofs.YtchbpckkmgcgkaaGreat.b
open Go.K Go.K.iK
open Go.aE (aq)
theorem qM {p d:Int} (hp:0<=p/\p<=137438953472) (hd:1<=d/\d<=65536):p<=p * d/\p * d<=p * 65536:=by
 have h1:p * 1<=p * d:=Int.mul_le_mul_of_nonneg_left hd.1 hp.1;have h2:p * d<=p * 65536:=Int.mul_le_mul_of_nonneg_left hd.2 hp.1;omega
theorem KF {a u:Int} (ha:0<=a) (hu:0<=u/\u<=255):0<=a * u/\a * u<=a * 255:=⟨wy ha hu.1,Int.mul_le_mul_of_nonneg_left hu.2 ha⟩
theorem aie {p q r d0 d1 d2 u0 u1 u2:Int} (hp:0<=p) (hq:0<=q) (hr:0<=r) (hs:1<=p+q+r/\p+q+r<=137438953472) (h0:1<=d0/\d0<=65536) (h1:1<=d1/\d1<=65536) (h2:1<=d2/\d2<=65536) (k0:0<=u0/\u0<=255) (k1:0<=u1/\u1<=255) (k2:0<=u2/\u2<=255) :
  ∃ m,cM (ak ((ak ((ak ((0:Int)+(ak ((ak (p * d0)) * u0))))+(ak ((ak (q * d1)) * u1))))+(ak ((ak (r * d2)) * u2)))) (ak ((ak ((ak ((0:Int)+(ak ((ak (p * d0)) * (1:Int)))))+(ak ((ak (q * d1)) * (1:Int)))))+(ak ((ak (r * d2)) * (1:Int)))))=some (m,0)/\0<=m/\m<=255:=by
 have a0:=qM ⟨hp,by omega⟩ h0;have a1:=qM ⟨hq,by omega⟩ h1;have a2:=qM ⟨hr,by omega⟩ h2;have b0:=KF (show 0<=p * d0 by omega) k0;have b1:=KF (show 0<=q * d1 by omega) k1;have b2:=KF (show 0<=r * d2 by omega) k2;rw [aj (n:=p * d0),aj (n:=q * d1),aj (n:=r * d2)];generalize p * d0=A0 at *;generalize q * d1=A1 at *;generalize r * d2=A2 at *;generalize A0 * u0=B0 at *;generalize A1 * u1=B1 at *;generalize A2 * u2=B2 at *;rw [Int.mul_one,Int.mul_one,Int.mul_one,aj (n:=A0),aj (n:=A1),aj (n:=A2),aj (n:=B0),aj (n:=B1),aj (n:=B2),
  aj (n:=0+A0),aj (n:=0+A0+A1),aj (n:=0+A0+A1+A2),aj (n:=0+B0),aj (n:=0+B0+B1),aj (n:=0+B0+B1+B2)]
 rw [En _ _ (by omega) (by omega)];refine ⟨_,rfl,Int.ediv_nonneg (by omega) (by omega),?_⟩;have:(0+B0+B1+B2) / (0+A0+A1+A2) < 256:=Int.ediv_lt_of_lt_mul (by omega) (by omega);omega
theorem arz {t:aF} {x y:Int} {sp:oK} (h:kd t x y=some (sp,0)):(0<=sp.u/\sp.u<=255)/\0<=sp.v/\sp.v<=255:=by
 obtain ⟨s',e0,hs,hq⟩:=aeC t x y;rw [h] at hs;injection hs with hs;injection hs with hs1 mM;obtain ⟨hf,hpix,g0,g1,g2⟩:=hq mM.symm;obtain ⟨⟨⟨x0,y0,d0,u0,v0⟩,⟨x1,y1,d1,u1,v1⟩,x2,y2,d2,u2,v2⟩,api⟩:=hf;have hsum:W0 t (8 * x+4) (8 * y+4)+W1 t (8 * x+4) (8 * y+4)+W2 t (8 * x+4) (8 * y+4)=su t:=ah1 _ _ _ _ _ _ _ _;have hab:su t<=137438953472:=by
  unfold su;have m1:=mq (a:=t.e1.x - t.e0.x) (b:=t.e2.y - t.e0.y) (c:=262144) (d:=262144) (by omega) (by omega) (by omega);have m2:=mq (a:=t.e2.x - t.e0.x) (b:=t.e1.y - t.e0.y) (c:=262144) (d:=262144) (by omega) (by omega) (by omega);omega
 obtain ⟨c,e,h1,h2⟩:=aa4 t x y;have E0:vO t x y=some (c,e):=h1;unfold kd at h;rw [E0] at h;simp only [bj,ai,bc] at h;cases he:(e != (0:Int)) with
 | true=>
  rw [he,ai] at h;injection h with h;injection h with _ h;simp [h] at he
 | false=>
 rw [he,aw] at h;cases c with
 | false=>
  simp only [sE,ai] at h;injection h with h;injection h with _ h;exact absurd h (by decide)
 | true=>
 simp only [iR,aw] at h;rcases NI t x y with ⟨_,_,hE⟩ | ⟨w,e',hE,Ir⟩
 ·have E1:dL t x y=some (⟨W0 t (8 * x+4) (8 * y+4),W1 t (8 * x+4) (8 * y+4),W2 t (8 * x+4) (8 * y+4)⟩,0):=hE
  obtain ⟨r2,G2⟩:∃ r,yU t x y=some r:=IK _ _;obtain ⟨m,G3,m0,m1⟩:∃ m,vP t x y=some (m,0)/\0<=m/\m<=255:=by
   unfold vP;rw [E1];exact aie (p:=W0 t (8 * x+4) (8 * y+4)) (q:=W1 t (8 * x+4) (8 * y+4)) (r:=W2 t (8 * x+4) (8 * y+4)) g0 g1 g2 (by omega) d0 d1 d2 u0 u1 u2
  obtain ⟨n,G4,n0,n1⟩:∃ m,vQ t x y=some (m,0)/\0<=m/\m<=255:=by
   unfold vQ;rw [E1];exact aie (p:=W0 t (8 * x+4) (8 * y+4)) (q:=W1 t (8 * x+4) (8 * y+4)) (r:=W2 t (8 * x+4) (8 * y+4)) g0 g1 g2 (by omega) d0 d1 d2 v0 v1 v2
  rw [E1,G2,G3,G4] at h;simp only [bj,ai,bc,hU,aw] at h;injection h with h;injection h with h _;subst h;exact ⟨⟨m0,m1⟩,n0,n1⟩
 ·have E1:dL t x y=some (w,e'):=hE
  rw [E1] at h;simp only [bj,ai,bc,show (e' != (0:Int))=true by simpa using Ir] at h;injection h with h;injection h with _ h;exact absurd h Ir
theorem anX {x y:Int} {p:eF} {f:aL} (h:pf x y p=some f):(0<=f.u/\f.u<=255)/\0<=f.v/\f.v<=255:=by
 unfold pf at h;split at h
 ·rename_i sp e hp
  cases he:(e==(0:Int)) with
  | true=>
   have he:e=0:=by simpa using he
   subst he;rw [show ((0:Int)==0)=true from rfl,ai] at h;injection h with h;subst h;exact arz hp
  | false=>rw [he,aw] at h; simp at h
 ·simp at h
def In (a b:Int):Prop:=-b<=a/\a<=b
def ac7 (r:jw) (b:Int):Prop:=In r.e0 b/\In r.e1 b/\In r.e2 b
def MIn (m:cJ) (b:Int):Prop:=ac7 m.e0 b/\ac7 m.e1 b/\ac7 m.e2 b
def mz (c:az):Prop:=OQ c/\MIn c.m 256
theorem yh (c:az):∃ e,jz c=some e/\(e=0\/e=150)/\(e=0↔mz c):=by
 obtain ⟨e,h1,h2⟩:=Ak c.pos;unfold jz zp zq zr zt zu zv zw zx zy zz x6 x7 x8 x9;simp only [ah3,h1,bj,bc,ai];have key:∀ (p:Prop) (b:Bool) (r:Option Int),(b=true↔p)->(mz c->p)->(p->∃ e,r=some e/\(e=0\/e=150)/\(e=0↔mz c))->∃ e,cond b r (some 150)=some e/\(e=0\/e=150)/\(e=0↔mz c):=by
  intro p b r hp hc h;cases b with
  | true=>exact h (hp.1 rfl)
  | false=>exact ⟨150,rfl,.inr rfl,fun h=>by omega,fun h=>by have:=hp.2 (hc h); simp at this⟩
 refine key (zg c.pos) _ _ (by simpa using h2) (fun h=>h.1.1) fun g0=>?_;refine key _ _ _ decide_eq_true_iff (fun h=>h.1.2.1) fun g1=>?_;refine key _ _ _ decide_eq_true_iff (fun h=>h.1.2.2.1) fun g2=>?_;refine key _ _ _ decide_eq_true_iff (fun h=>h.1.2.2.2.1) fun g3=>?_;refine key _ _ _ decide_eq_true_iff (fun h=>h.1.2.2.2.2) fun g4=>?_;refine key _ _ _ decide_eq_true_iff (fun h=>h.2.1.1) fun m0=>?_;refine key _ _ _ decide_eq_true_iff (fun h=>h.2.1.2.1) fun m1=>?_;refine key _ _ _ decide_eq_true_iff (fun h=>h.2.1.2.2) fun m2=>?_;refine key _ _ _ decide_eq_true_iff (fun h=>h.2.2.1.1) fun m3=>?_;refine key _ _ _ decide_eq_true_iff (fun h=>h.2.2.1.2.1) fun m4=>?_;refine key _ _ _ decide_eq_true_iff (fun h=>h.2.2.1.2.2) fun m5=>?_;refine key _ _ _ decide_eq_true_iff (fun h=>h.2.2.2.1) fun m6=>?_;refine key _ _ _ decide_eq_true_iff (fun h=>h.2.2.2.2.1) fun m7=>?_;by_cases m8 : -256<=c.m.e2.e2/\c.m.e2.e2<=256
 ·rw [au m8]
  exact ⟨0,rfl,.inl rfl,fun _=>⟨⟨g0,g1,g2,g3,g4⟩,⟨m0,m1,m2⟩,⟨m3,m4,m5⟩,m6,m7,m8⟩,fun _=>rfl⟩
 ·rw [ay m8]
  exact ⟨150,rfl,.inr rfl,fun h=>by omega,fun h=>absurd h.2.2.2.2.2 m8⟩
def aeH (r:jw) (x y z:Int):Int:=r.e0 * x+r.e1 * y+r.e2 * z
def mT (c:az) (v:iP):iP:=⟨aeH c.m.e0 (v.x - c.pos.x) (v.y - c.pos.y) (v.z - c.pos.z) / 256,aeH c.m.e1 (v.x - c.pos.x) (v.y - c.pos.y) (v.z - c.pos.z) / 256,aeH c.m.e2 (v.x - c.pos.x) (v.y - c.pos.y) (v.z - c.pos.z) / 256⟩
theorem apj {m:cJ} (h:MIn m 256):xH m=some true:=by
 obtain ⟨⟨⟨a1,a2⟩,⟨a3,a4⟩,a5,a6⟩,⟨⟨b1,b2⟩,⟨b3,b4⟩,b5,b6⟩,⟨c1,c2⟩,⟨c3,c4⟩,c5,c6⟩:=h;unfold xH;simp only [ay (show ¬ m.e0.e0 < -(1024:Int) by omega),ay (show ¬ m.e0.e0 > (1024:Int) by omega),ay (show ¬ m.e0.e1 < -(1024:Int) by omega),ay (show ¬ m.e0.e1 > (1024:Int) by omega),ay (show ¬ m.e0.e2 < -(1024:Int) by omega),ay (show ¬ m.e0.e2 > (1024:Int) by omega),
  ay (show ¬ m.e1.e0 < -(1024:Int) by omega),ay (show ¬ m.e1.e0 > (1024:Int) by omega),ay (show ¬ m.e1.e1 < -(1024:Int) by omega),ay (show ¬ m.e1.e1 > (1024:Int) by omega),ay (show ¬ m.e1.e2 < -(1024:Int) by omega),ay (show ¬ m.e1.e2 > (1024:Int) by omega),
  ay (show ¬ m.e2.e0 < -(1024:Int) by omega),ay (show ¬ m.e2.e0 > (1024:Int) by omega),ay (show ¬ m.e2.e1 < -(1024:Int) by omega),ay (show ¬ m.e2.e1 > (1024:Int) by omega),ay (show ¬ m.e2.e2 < -(1024:Int) by omega),ay (show ¬ m.e2.e2 > (1024:Int) by omega),aw]
theorem aqz {r:jw} {x y z:Int} (h:ac7 r 256) (hx:In x 8192) (hy:In y 8192) (hz:In z 8192):In (r.e0 * x) 2097152/\In (r.e1 * y) 2097152/\In (r.e2 * z) 2097152:=by
 unfold In at *;have a:=mq (a:=r.e0) (b:=x) (c:=256) (d:=8192) (by omega) h.1 hx;have b:=mq (a:=r.e1) (b:=y) (c:=256) (d:=8192) (by omega) h.2.1 hy;have c:=mq (a:=r.e2) (b:=z) (c:=256) (d:=8192) (by omega) h.2.2 hz;omega
theorem Zl {r:jw} {x y z:Int} (h:ac7 r 256) (hx:In x 8192) (hy:In y 8192) (hz:In z 8192):cM (ak ((ak ((ak ((0:Int)+(ak (r.e0 * x))))+(ak (r.e1 * y))))+(ak (r.e2 * z)))) (256:Int)=some (aeH r x y z / 256,0)/\In (aeH r x y z / 256) 24576:=by
 obtain ⟨a,b,c⟩:=aqz h hx hy hz;unfold In at *;unfold aeH;generalize r.e0 * x=p at *;generalize r.e1 * y=q at *;generalize r.e2 * z=u at *;rw [aj (n:=p),aj (n:=q),aj (n:=u),aj (n:=0+p),aj (n:=0+p+q),aj (n:=0+p+q+u),En _ _ (by omega) (by omega)];rw [show 0+p+q+u=p+q+u by omega];exact ⟨rfl,by omega⟩
theorem anY {c:az} {v:iP} (hc:mz c) (hv:zg v):mj c v=some (mT c v,0)/\In (mT c v).x 24576/\In (mT c v).y 24576/\In (mT c v).z 24576:=by
 obtain ⟨⟨⟨p1,p2,p3,p4,p5,p6⟩,_⟩,m0,m1,m2⟩:=id hc;obtain ⟨v1,v2,v3,v4,v5,v6⟩:=id hv;have hx:In (v.x - c.pos.x) 8192:=by unfold In; omega
 have hy:In (v.y - c.pos.y) 8192:=by unfold In; omega
 have hz:In (v.z - c.pos.z) 8192:=by unfold In; omega
 obtain ⟨f0,i0⟩:=Zl m0 hx hy hz;obtain ⟨f1,i1⟩:=Zl m1 hx hy hz;obtain ⟨f2,i2⟩:=Zl m2 hx hy hz;refine ⟨?_,i0,i1,i2⟩;obtain ⟨e,h1,_,h2⟩:=yh c;have he:e=0:=h2.2 hc;subst he;have e0:wT c v=some 0:=h1;obtain ⟨e,h3,h4⟩:=Ak v;have he:e=0:=h4.2 hv;subst he;have e1:wU c v=some 0:=h3;have e2:tz c v=some (mT c v,0):=by
  unfold tz;rw [aj (n:=v.x - c.pos.x),aj (n:=v.y - c.pos.y),aj (n:=v.z - c.pos.z)];obtain ⟨b,EE,uE⟩:=ah0 32768 (Sl.lit [v.x - c.pos.x,v.y - c.pos.y,v.z - c.pos.z]) (by show 3<=1000; omega) (by decide);have hb:b=true:=uE.2 ((avm (p:=fun n=>-32768<=n/\n<=32768) _ _ _).2 (by unfold In at *; omega));subst hb;have t0:H5 c.m ⟨v.x - c.pos.x,v.y - c.pos.y,v.z - c.pos.z⟩=some true:=apj hc.2;have t1:CX c.m ⟨v.x - c.pos.x,v.y - c.pos.y,v.z - c.pos.z⟩=some true:=EE;have t2:vN c.m ⟨v.x - c.pos.x,v.y - c.pos.y,v.z - c.pos.z⟩=some ⟨(mT c v).x,(mT c v).y,(mT c v).z⟩:=by
   unfold vN Ag;have q0:H2 c.m ⟨v.x - c.pos.x,v.y - c.pos.y,v.z - c.pos.z⟩=some ((mT c v).x,0):=f0;have q1:H3 c.m ⟨v.x - c.pos.x,v.y - c.pos.y,v.z - c.pos.z⟩=some ((mT c v).y,0):=f1;have q2:H4 c.m ⟨v.x - c.pos.x,v.y - c.pos.y,v.z - c.pos.z⟩=some ((mT c v).z,0):=f2;simp only [q0,q1,q2,bj,bc,ai]
  unfold Ah;simp only [t0,t1,t2,bj,bc,ai,iR,aw]
 unfold mj;simp only [e0,e1,e2,bj,bc,ai,hU,aw]
structure mA (p:bM):Prop where
 x:In p.p.x 32768
 y:In p.p.y 32768
 z:In p.p.z 32768
 u:0<=p.u/\p.u<=255
 v:0<=p.v/\p.v<=255
theorem C0 {p:bM} (h:mA p):kY p=some 0:=by
 obtain ⟨⟨x1,x2⟩,⟨y1,y2⟩,⟨z1,z2⟩,⟨u1,u2⟩,v1,v2⟩:=h;unfold kY;simp only [ay (show ¬ p.p.x < -(32768:Int) by omega),ay (show ¬ p.p.x > (32768:Int) by omega),ay (show ¬ p.p.y < -(32768:Int) by omega),ay (show ¬ p.p.y > (32768:Int) by omega),ay (show ¬ p.p.z < -(32768:Int) by omega),ay (show ¬ p.p.z > (32768:Int) by omega),ay (show ¬ p.u < (0:Int) by omega),ay (show ¬ p.u > (255:Int) by omega),ay (show ¬ p.v < (0:Int) by omega),ay (show ¬ p.v > (255:Int) by omega),aw]
theorem ajn {ax:Int} {l:Sl bM} (hn:256<=ax/\ax<=4096) (hl:l.n<=1000) (h:∀ i,i < l.n->mA (l.get i)):te ax l=some 0:=by
 obtain ⟨e,z,hz,rfl⟩:∃ e z,se ax l = .out e z/\e = .exit 0:=by
  unfold se;refine bt (step:=lg) (fun j y=>y.t14=l/\y.t15=(l.n:Int)/\y.t16=(j:Int)/\j<=l.n) (fun e _=>e = .exit 0) l.n (by have:gv=1000000000000:=rfl; omega) (fun j y hj ⟨f1,f2,f3,f4⟩=>?_) ⟨rfl,rfl,rfl,dq _⟩;have w1:ak (y.t16+1)=y.t16+1:=aj;unfold lg bh;by_cases bu:y.t16 < y.t15
  ·have e0:qI y=some 0:=by
    unfold qI;rw [f1,f3,bU];exact C0 (h j (by omega))
   simp only [e0,w1,bj,bc,ai,hU,aw,bC,au bu,au (show (0:Int)<=y.t16 by omega),au (show y.t16 < ((y.t14.n:Nat):Int) by rw [f1]; omega)];exact .inl ⟨_,rfl,by omega,f1,f2,by show y.t16+1=_; omega,by omega⟩
  ·simp only [aw,ay bu]
   exact .inr ⟨_,_,rfl,rfl,rfl⟩
 have b1:(se ax l).by (.exit 0)=true:=by rw [hz]; rfl
 unfold te;simp only [b1,ai,ay (show ¬ ax < 256 by omega),ay (show ¬ ax > 4096 by omega),aw]
def rP (a b p w:Int):Int:=a+((b - a) * p) / w
theorem aba {a b p w:Int} (hp:0<=p/\p<=w) (hw:1<=w):min a b<=rP a b p w/\rP a b p w<=max a b:=by
 unfold rP;rcases Int.le_total a b with h | h
 ·have h1:0<=(b - a) * p:=wy (by omega) hp.1
  have h2:(b - a) * p<=(b - a) * w:=Int.mul_le_mul_of_nonneg_left hp.2 (by omega);have h3:0<=(b - a) * p / w:=Int.ediv_nonneg h1 (by omega);have h4:(b - a) * p / w<=b - a:=Int.ediv_le_of_le_mul (by omega) h2;omega
 ·have h1:(b - a) * p<=0:=Int.mul_nonpos_of_nonpos_of_nonneg (by omega) hp.1
  have h2:(b - a) * w<=(b - a) * p:=Int.mul_le_mul_of_nonpos_left (by omega) hp.2;have h3:b - a<=(b - a) * p / w:=Int.le_ediv_of_mul_le (by omega) h2;have h4:(b - a) * p / w<=0:=Int.ediv_le_of_le_mul (by omega) (by omega);omega
def IU (ax:Int) (a b:bM):bM:=⟨⟨rP a.p.x b.p.x (ax - a.p.z) (b.p.z - a.p.z),rP a.p.y b.p.y (ax - a.p.z) (b.p.z - a.p.z),ax⟩,rP a.u b.u (ax - a.p.z) (b.p.z - a.p.z),rP a.v b.v (ax - a.p.z) (b.p.z - a.p.z)⟩
theorem Sp {a b p w m:Int} (ha:In a m) (hb:In b m) (hm:0<=m/\m<=32768) (hp:0<=p/\p<=w) (hw:1<=w/\w<=65536):cM (ak ((ak (b - a)) * (ak p))) (ak w)=some (((b - a) * p) / w,0):=by
 unfold In at *;have h:=mq (a:=b - a) (b:=p) (c:=65536) (d:=65536) (by omega) (by omega) (by omega);rw [aj (n:=b - a),aj (n:=p),aj (n:=w),aj (n:=(b - a) * p),En _ _ (by omega) (by omega)]
theorem Ar {ax:Int} {a b:bM} (hn:256<=ax/\ax<=4096) (ha:mA a) (hb:mA b) (haz:a.p.z < ax) (hbz:ax<=b.p.z):fc ax a b=some (IU ax a b,0)/\mA (IU ax a b):=by
 have e0:yT ax a b=some 0:=ajn hn (by show 2<=1000; omega) (fun i hi=>by
  have hi:i < 2:=hi;rcases i with _ | _ | i
  ·exact ha
  ·exact hb
  ·omega)
 obtain ⟨xa,ya,za,ua,va⟩:=id ha;obtain ⟨xb,yb,zb,ub,vb⟩:=id hb;unfold In at za zb;have hp:0<=ax - a.p.z/\ax - a.p.z<=b.p.z - a.p.z:=by omega
 have hw:1<=b.p.z - a.p.z/\b.p.z - a.p.z<=65536:=by omega
 have e1:H6 ax a b=_:=Sp xa xb (by decide) hp hw;have e2:H7 ax a b=_:=Sp ya yb (by decide) hp hw;have e3:H8 ax a b=_:=Sp (m:=255) (a:=a.u) (b:=b.u) (by unfold In; omega) (by unfold In; omega) (by decide) hp hw;have e4:H9 ax a b=_:=Sp (m:=255) (a:=a.v) (b:=b.v) (by unfold In; omega) (by unfold In; omega) (by decide) hp hw;have r1:=aba (a:=a.p.x) (b:=b.p.x) hp hw.1;have r2:=aba (a:=a.p.y) (b:=b.p.y) hp hw.1;have r3:=aba (a:=a.u) (b:=b.u) hp hw.1;have r4:=aba (a:=a.v) (b:=b.v) hp hw.1;unfold In at xa ya xb yb;refine ⟨?_,⟨by show In (rP _ _ _ _) _; unfold In; omega,by show In (rP _ _ _ _) _; unfold In; omega,by show In ax _; unfold In; omega,by show 0<=rP _ _ _ _/\rP _ _ _ _<=_; omega,by show 0<=rP _ _ _ _/\rP _ _ _ _<=_; omega⟩⟩;unfold rP at r1 r2 r3 r4;unfold fc;simp only [e0,e1,e2,e3,e4,bj,bc,ai,hU,aw,ay (show ¬ a.p.z >= ax by omega),ay (show ¬ b.p.z < ax by omega)];rw [aj (n:=a.p.x+_),aj (n:=a.p.y+_),aj (n:=a.u+_),aj (n:=a.v+_)];rfl
def uK (ax:Int) (a b:bM):List bM:=cond (decide (a.p.z >= ax)) (cond (decide (b.p.z >= ax)) [a] [a,IU ax b a]) (cond (decide (b.p.z >= ax)) [IU ax a b] [])
def Au (ax:Int) (t:bn):List bM:=uK ax t.e0 t.e1++uK ax t.e1 t.e2++uK ax t.e2 t.e0
def NN (L:List bM):List bn:=(List.range (L.length - 2)).map fun k=>⟨L.getD 0 default,L.getD (k+1) default,L.getD (k+2) default⟩
structure DW (t:bn):Prop where
 e0:mA t.e0
 e1:mA t.e1
 e2:mA t.e2
theorem Hc {α:Type} [Inhabited α] (l:Sl α) (a b:α):bB ((l.push a).push b)=bB l++[a,b]:=by
 rw [jE,jE,HJ];rfl
theorem atv {ax:Int} {t:bn} (hn:256<=ax/\ax<=4096) (ht:DW t) (out:Sl bn) (ee:Int) (l:Sl bM) (hl:l.n<=10):∃ l',dI ⟨ax,out,ee,l,t,0,t⟩ = .next ⟨ax,out,ee,l',t,1,t⟩/\bB l' = bB l++uK ax t.e0 t.e1/\l'.n<=l.n+2:=by
 have w1:ak ((0:Int)+1)=1:=aj;have m1:Int.tmod (1:Int) 3=1:=rfl;have a1:j6 40 l.n 1=true:=iJ;have a2:j6 40 (l.n+1) 1=true:=iJ;unfold dI ek uK qH aR;simp only [w1,m1,a1,a2,aI,ai,aw,bC,au (show (0:Int) < 3 by omega),au (show (0:Int)=0 from rfl),au (show (1:Int)=1 from rfl),ay (show ¬ (1:Int)=0 by omega)];by_cases c1:t.e0.p.z >= ax
 ·by_cases c2:t.e1.p.z >= ax
  ·rw [au c1,au c2]
   exact ⟨_,rfl,jE _ _,Dc _⟩
  ·have e:DQ ⟨ax,out,ee,l,t,0,t⟩=some (IU ax t.e1 t.e0,0):=(Ar hn ht.e1 ht.e0 (by omega) c1).1
   rw [au c1,ay c2];simp only [e,ai,aw,bj,bc];exact ⟨_,rfl,Hc _ _ _,aX _⟩
 ·by_cases c2:t.e1.p.z >= ax
  ·have e:DR ⟨ax,out,ee,l,t,0,t⟩=some (IU ax t.e0 t.e1,0):=(Ar hn ht.e0 ht.e1 (by omega) c2).1
   rw [ay c1,au c2];simp only [e,ai,aw,bj,bc];exact ⟨_,rfl,jE _ _,Dc _⟩
  ·rw [ay c1,ay c2]
   exact ⟨_,rfl,(pr _).symm,M1 _ _⟩
theorem atw {ax:Int} {t:bn} (hn:256<=ax/\ax<=4096) (ht:DW t) (out:Sl bn) (ee:Int) (l:Sl bM) (hl:l.n<=10):∃ l',dI ⟨ax,out,ee,l,t,1,t⟩ = .next ⟨ax,out,ee,l',t,2,t⟩/\bB l' = bB l++uK ax t.e1 t.e2/\l'.n<=l.n+2:=by
 have w1:ak ((1:Int)+1)=2:=aj;have m1:Int.tmod (2:Int) 3=2:=rfl;have a1:j6 40 l.n 1=true:=iJ;have a2:j6 40 (l.n+1) 1=true:=iJ;unfold dI ek uK qH aR;simp only [w1,m1,a1,a2,aI,ai,aw,bC,au (show (1:Int) < 3 by omega),au (show (1:Int)=1 from rfl),au (show (2:Int)=2 from rfl),ay (show ¬ (1:Int)=0 by omega),ay (show ¬ (2:Int)=0 by omega),ay (show ¬ (2:Int)=1 by omega)];by_cases c1:t.e1.p.z >= ax
 ·by_cases c2:t.e2.p.z >= ax
  ·rw [au c1,au c2]
   exact ⟨_,rfl,jE _ _,Dc _⟩
  ·have e:Ci ⟨ax,out,ee,l,t,1,t⟩=some (IU ax t.e2 t.e1,0):=(Ar hn ht.e2 ht.e1 (by omega) c1).1
   rw [au c1,ay c2];simp only [e,ai,aw,bj,bc];exact ⟨_,rfl,Hc _ _ _,aX _⟩
 ·by_cases c2:t.e2.p.z >= ax
  ·have e:Cj ⟨ax,out,ee,l,t,1,t⟩=some (IU ax t.e1 t.e2,0):=(Ar hn ht.e1 ht.e2 (by omega) c2).1
   rw [ay c1,au c2];simp only [e,ai,aw,bj,bc];exact ⟨_,rfl,jE _ _,Dc _⟩
  ·rw [ay c1,ay c2]
   exact ⟨_,rfl,(pr _).symm,M1 _ _⟩
theorem atx {ax:Int} {t:bn} (hn:256<=ax/\ax<=4096) (ht:DW t) (out:Sl bn) (ee:Int) (l:Sl bM) (hl:l.n<=10):∃ l',dI ⟨ax,out,ee,l,t,2,t⟩ = .next ⟨ax,out,ee,l',t,3,t⟩/\bB l' = bB l++uK ax t.e2 t.e0/\l'.n<=l.n+2:=by
 have w1:ak ((2:Int)+1)=3:=aj;have m1:Int.tmod (3:Int) 3=0:=rfl;have a1:j6 40 l.n 1=true:=iJ;have a2:j6 40 (l.n+1) 1=true:=iJ;unfold dI ek uK qH aR;simp only [w1,m1,a1,a2,aI,ai,aw,bC,au (show (2:Int) < 3 by omega),au (show (2:Int)=2 from rfl),au (show (0:Int)=0 from rfl),ay (show ¬ (2:Int)=0 by omega),ay (show ¬ (2:Int)=1 by omega)];by_cases c1:t.e2.p.z >= ax
 ·by_cases c2:t.e0.p.z >= ax
  ·rw [au c1,au c2]
   exact ⟨_,rfl,jE _ _,Dc _⟩
  ·have e:Ck ⟨ax,out,ee,l,t,2,t⟩=some (IU ax t.e0 t.e2,0):=(Ar hn ht.e0 ht.e2 (by omega) c1).1
   rw [au c1,ay c2];simp only [e,ai,aw,bj,bc];exact ⟨_,rfl,Hc _ _ _,aX _⟩
 ·by_cases c2:t.e0.p.z >= ax
  ·have e:Cl ⟨ax,out,ee,l,t,2,t⟩=some (IU ax t.e2 t.e0,0):=(Ar hn ht.e2 ht.e0 (by omega) c2).1
   rw [ay c1,au c2];simp only [e,ai,aw,bj,bc];exact ⟨_,rfl,jE _ _,Dc _⟩
  ·rw [ay c1,ay c2]
   exact ⟨_,rfl,(pr _).symm,M1 _ _⟩
def avo (ax:Int) (t:bn):Nat->List bM
 | 0=>[]
 | 1=>uK ax t.e0 t.e1
 | 2=>uK ax t.e0 t.e1++uK ax t.e1 t.e2
 | _=>Au ax t
theorem aif {ax:Int} {t:bn} (hn:256<=ax/\ax<=4096) (ht:DW t):∃ z,ig ax t = .out (.exit 0) z/\bB z.l=Au ax t/\z.l.n<=6/\z.out.n=0:=by
 obtain ⟨e,z,hz,rfl,h⟩:∃ e z,ig ax t = .out e z/\(e = .exit 0/\bB z.l=Au ax t/\z.l.n<=6/\z.out.n=0):=by
  unfold ig;refine bt (step:=dI) (fun j y=>∃ (out:Sl bn) (ee:Int) (l:Sl bM),y=⟨ax,out,ee,l,t,(j:Int),t⟩/\out.n=0/\bB l=avo ax t j/\l.n<=2 * j/\j<=3) _ 3 (by have:gv=1000000000000:=rfl; omega) (fun j y hj ⟨out,ee,l,hy,h0,h1,h2,h3⟩=>?_) ⟨_,_,_,rfl,rfl,rfl,aX _,by omega⟩;subst hy;rcases j with _ | _ | _ | j
  ·obtain ⟨l',q1,q2,q3⟩:=atv hn ht out ee l (by omega)
   exact .inl ⟨_,q1,by omega,out,ee,l',rfl,h0,by rw [q2,h1]; rfl,by omega,by omega⟩
  ·obtain ⟨l',q1,q2,q3⟩:=atw hn ht out ee l (by omega)
   exact .inl ⟨_,q1,by omega,out,ee,l',rfl,h0,by rw [q2,h1]; rfl,by omega,by omega⟩
  ·obtain ⟨l',q1,q2,q3⟩:=atx hn ht out ee l (by omega)
   exact .inl ⟨_,q1,by omega,out,ee,l',rfl,h0,by rw [q2,h1]; rfl,by omega,by omega⟩
  ·have hj3:j=0:=by omega
   subst hj3;refine .inr ⟨.exit 0,⟨ax,out,ee,l,t,((0+1+1+1:Nat):Int),t⟩,?_,rfl,rfl,h1,by show l.n<=6; omega,h0⟩;unfold dI ek qH aR;simp only [aI,ai,aw,ay (show ¬ ((((0+1+1+1:Nat):Int)) < 3) by omega)]
 exact ⟨z,hz,h⟩
theorem K3 {α:Type} [Inhabited α] (l:Sl α) {i:Nat} (h:i < l.n):(bB l).getD i default=l.get i:=by
 rw [iQ,Eo l i h];rfl
theorem apk {ax:Int} {t:bn} (hn:256<=ax/\ax<=4096) (ht:DW t):∃ z,kM ax t = .out (.exit 2) z/\bB z.out=NN (Au ax t):=by
 obtain ⟨y,hy,y1,y2,y3⟩:=aif hn ht;have hs:(ig ax t).st=y:=by rw [hy]; rfl
 obtain ⟨e,z,hz,rfl,h⟩:∃ e z,kM ax t = .out e z/\(e = .exit 2/\bB z.out=NN (Au ax t)):=by
  unfold kM;rw [hs];refine bt (step:=lh) (fun j x=>x.l=y.l/\x.i=((j+2:Nat):Int)/\(j=0\/j+2<=y.l.n)/\x.out.n=j/\bB x.out=(List.range j).map fun k=>(⟨y.l.get 0,y.l.get (k+1),y.l.get (k+2)⟩:bn)) _ 10 (by have:gv=1000000000000:=rfl; omega) (fun j x hj ⟨f1,f2,f3,f4,f5⟩=>?_) ⟨rfl,rfl,.inl rfl,y3,pq.1 (by rw [eP,y3])⟩;have w1:ak (x.i+1)=((j+1+2:Nat):Int):=by rw [aj (by omega) (by omega)]; omega
  have w2:ak (x.i - 1)=((j+1:Nat):Int):=by rw [aj (by omega) (by omega)]; omega
  have a1:j6 120 x.out.n 1=true:=iJ;unfold lh bh qH aR;by_cases h:x.i < ((x.l.n:Nat):Int)
  ·have hln:j+2 < y.l.n:=by rw [f1] at h; omega
   simp only [w1,w2,a1,aI,ai,bC,au h,au (show (0:Int) < ((x.l.n:Nat):Int) by omega),au (show (0:Int)<=((j+1:Nat):Int) by omega),au (show ((j+1:Nat):Int) < ((x.l.n:Nat):Int) by omega),au (show (0:Int)<=x.i by omega)];refine .inl ⟨_,rfl,by omega,f1,rfl,.inr (by omega),by show x.out.n+1=_; omega,?_⟩;show bB (Sl.push _ _)=_;rw [jE,f5,QY,HM,f1,f2,bU,bU];rfl
  ·simp only [aI,ai,aw,ay h]
   refine .inr ⟨_,_,rfl,rfl,rfl,?_⟩;rw [f5];unfold NN;rw [<- y1,eP];have hjn:y.l.n - 2=j:=by rw [f1] at h; omega
   rw [hjn];refine List.map_congr_left fun k hk=>?_;have:=A6.1 hk;rw [K3 _ (by omega),K3 _ (by omega),K3 _ (by omega)]
 exact ⟨z,hz,h⟩
theorem anZ {ax:Int} {t:bn} (hn:256<=ax/\ax<=4096) (ht:DW t):∃ r,vk ax t=some (r,0)/\bB r=NN (Au ax t):=by
 obtain ⟨y,hy,_⟩:=aif hn ht;obtain ⟨z,hz,h⟩:=apk hn ht;have e0:wY ax t=some 0:=C0 ht.e0;have e3:wZ ax t=some 0:=C0 ht.e1;have e4:w4 ax t=some 0:=C0 ht.e2;have b1:(ig ax t).by (.exit 0)=true:=by rw [hy]; rfl
 have b2:(kM ax t).by (.exit 2)=true:=by rw [hz]; rfl
 have b3:(kM ax t).st=z:=by rw [hz]; rfl
 refine ⟨z.out,?_,h⟩;unfold vk sf yC aR;simp only [e0,e3,e4,b1,b2,b3,aI,bj,bc,ai,hU,aw,ay (show ¬ ax < 256 by omega),ay (show ¬ ax > 4096 by omega)]
theorem aih {ax:Int} {a b p:bM} (hn:256<=ax/\ax<=4096) (ha:mA a) (hb:mA b) (h:p∈uK ax a b):mA p/\ax<=p.p.z:=by
 unfold uK at h;by_cases c1:a.p.z >= ax
 ·by_cases c2:b.p.z >= ax
  ·rw [au c1,au c2] at h
   rw [EM.1 h];exact ⟨ha,c1⟩
  ·rw [au c1,ay c2] at h
   rcases ff.1 h with h | h
   ·rw [h]; exact ⟨ha,c1⟩
   ·rw [EM.1 h]
    exact ⟨(Ar hn hb ha (by omega) c1).2,Int.le_refl _⟩
 ·by_cases c2:b.p.z >= ax
  ·rw [ay c1,au c2] at h
   rw [EM.1 h];exact ⟨(Ar hn ha hb (by omega) c2).2,Int.le_refl _⟩
  ·rw [ay c1,ay c2] at h
   simp at h
theorem aii {ax:Int} {t:bn} {p:bM} (hn:256<=ax/\ax<=4096) (ht:DW t) (h:p∈Au ax t):mA p/\ax<=p.p.z:=by
 unfold Au at h;rcases mJ.1 h with h | h
 ·rcases mJ.1 h with h | h
  ·exact aih hn ht.e0 ht.e1 h
  ·exact aih hn ht.e1 ht.e2 h
 ·exact aih hn ht.e2 ht.e0 h
theorem ac8 {α:Type} {L:List α} {i:Nat} {d:α} (h:i < L.length):L.getD i d∈L:=by
 rw [iQ,dD h];exact Wm h
theorem aqA {ax:Int} {t q:bn} (hn:256<=ax/\ax<=4096) (ht:DW t) (h:q∈NN (Au ax t)):(mA q.e0/\ax<=q.e0.p.z)/\(mA q.e1/\ax<=q.e1.p.z)/\mA q.e2/\ax<=q.e2.p.z:=by
 unfold NN at h;obtain ⟨k,hk,rfl⟩:=HK.1 h;have:=A6.1 hk;exact ⟨aii hn ht (ac8 (by omega)),aii hn ht (ac8 (by omega)),aii hn ht (ac8 (by omega))⟩
def tE (c:az) (p:bM):oK:=⟨(8 * c.sR * p.p.x) / p.p.z+4 * c.w,4 * c.h - (8 * c.sR * p.p.y) / p.p.z,Int.tdiv 16777216 p.p.z,p.u,p.v⟩
theorem Sq {f x z:Int} (hf:1<=f/\f<=64) (hx:In x 32768) (hz:256<=z/\z<=32768):cM (ak ((ak ((8:Int) * f)) * x)) z=some ((8 * f * x) / z,0)/\In ((8 * f * x) / z) 16777216:=by
 unfold In at *;have h:=mq (a:=8 * f) (b:=x) (c:=512) (d:=32768) (by omega) (by omega) hx;rw [aj (n:=8 * f),aj (n:=8 * f * x),En _ _ (by omega) (by omega)];generalize 8 * f * x=q at *;have l1 : -16777216<=q / z:=Int.le_ediv_of_mul_le (by omega) (by omega);have l2:q / z<=16777216:=Int.ediv_le_of_le_mul (by omega) (by omega);exact ⟨rfl,l1,l2⟩
theorem Sr {c:az} {p:bM} (hc:mz c) (hp:mA p) (hz:c.ax<=p.p.z):pn c p=some (tE c p,0):=by
 obtain ⟨e,h1,_,h2⟩:=yh c;have he:e=0:=h2.2 hc;subst he;obtain ⟨⟨_,hf,hn,hw,hh⟩,_⟩:=id hc;obtain ⟨hx,hy,⟨z1,z2⟩,_,_⟩:=id hp;have e0:yE c p=some 0:=h1;have e1:yF c p=some 0:=C0 hp;obtain ⟨f2,i2⟩:=Sq hf hx (z:=p.p.z) (by omega);obtain ⟨f3,i3⟩:=Sq hf hy (z:=p.p.z) (by omega);have e2:Dp c p=some ((8 * c.sR * p.p.x) / p.p.z,0):=f2;have e3:Dq c p=some ((8 * c.sR * p.p.y) / p.p.z,0):=f3;have ht:Int.tdiv 16777216 p.p.z=16777216 / p.p.z:=Pd (by decide);have t1:0<=(16777216:Int) / p.p.z:=Int.ediv_nonneg (by decide) (by omega);have t2:(16777216:Int) / p.p.z<=16777216:=Int.ediv_le_self _ (by decide);unfold In at i2 i3;unfold pn tE;simp only [e0,e1,e2,e3,bj,bc,ai,hU,aw,ay (show ¬ p.p.z < c.ax by omega),ay (show ¬ p.p.z=0 by omega),sE];rw [aj (n:=4 * c.w),aj (n:=4 * c.h),aj (n:=_+4 * c.w),aj (n:=4 * c.h - _),aj (n:=Int.tdiv 16777216 p.p.z)]
def rQ (t:aF) (cw:Int):Bool:=((rm t cw).getD default).1
theorem alH (t:aF) (cw:Int):∃ e,rm t cw=some (rQ t cw,e):=by
 obtain ⟨⟨b,e⟩,h⟩:=OO (akt t cw);refine ⟨e,?_⟩;unfold rQ;rw [h];rfl
theorem Zm (t:aF) (cw:Int):rQ t cw=true↔Sh t/\(cw=0/\su t≠0\/cw=1/\0 < su t\/cw=2/\su t < 0):=by
 unfold rQ rm;rcases FL t with ⟨ht,h⟩ | ⟨ht,e,h,he⟩
 ·have e0:oa t cw=some (su t,0):=h
  simp only [e0,bj,bc,ai,hU,aw];by_cases c0:cw=0
  ·subst c0
   simp [ht]
  ·rw [show (cw==(0:Int))=false by simpa using c0,aw]
   by_cases c1:cw=1
   ·subst c1
    simp [ht]
   ·rw [show (cw==(1:Int))=false by simpa using c1,aw]
    by_cases c2:cw=2
    ·subst c2
     simp [ht]
    ·rw [show (cw==(2:Int))=false by simpa using c2,aw]
     simp [c0,c1,c2]
 ·have e0:oa t cw=some (0,e):=h
  simp only [e0,bj,bc,ai,show (e != (0:Int))=true by simpa using he];simp [ht]
def Av (t:aF):aF:=cond (decide (su t < 0)) ⟨t.e0,t.e2,t.e1⟩ t
theorem apl (t:aF):su ⟨t.e0,t.e2,t.e1⟩ = - su t:=by
 show (t.e2.x - t.e0.x) * (t.e1.y - t.e0.y) - (t.e1.x - t.e0.x) * (t.e2.y - t.e0.y) = -((t.e1.x - t.e0.x) * (t.e2.y - t.e0.y) - (t.e2.x - t.e0.x) * (t.e1.y - t.e0.y));omega
theorem abb {t:aF} {cw:Int} (h:rQ t cw=true):s9 t=some (Av t,0)/\DT (Av t):=by
 obtain ⟨ht,hc⟩:=(Zm t cw).1 h;have eU:su t≠0:=by omega
 rcases FL t with ⟨_,ha⟩ | ⟨hn,_⟩
 ·have e0:sa t=some (su t,0):=ha
  unfold s9 Av;simp only [e0,bj,bc,ai,hU,aw,show (su t==(0:Int))=false by simpa using eU];by_cases bu:su t < 0
  ·rw [au bu]
   exact ⟨rfl,⟨ht.1,ht.2.2,ht.2.1⟩,by show 0 < su ⟨t.e0,t.e2,t.e1⟩; rw [apl]; omega⟩
  ·rw [ay bu]
   exact ⟨rfl,ht,by show 0 < su t; omega⟩
 ·exact absurd ht hn
def qy (c:az) (q:bn):aF:=⟨tE c q.e0,tE c q.e1,tE c q.e2⟩
def Aw (c:az) (cw:Int) (L:List bn):List aF:=L.filterMap fun q=>cond (rQ (qy c q) cw) (some (Av (qy c q))) none
theorem aeI (c:az) (cw:Int) (L:List bn) (q:bn):Aw c cw (L++[q])=Aw c cw L++cond (rQ (qy c q) cw) [Av (qy c q)] []:=by
 unfold Aw;rw [List.filterMap_append,List.filterMap_cons,List.filterMap_nil];cases rQ (qy c q) cw <;> rfl
theorem alI {c:az} {cw:Int} {L:List bn} {t:aF} (h:t∈Aw c cw L):DT t:=by
 obtain ⟨q,_,hq⟩:=List.mem_filterMap.1 h;cases hs:rQ (qy c q) cw with
 | true=>
  rw [hs,ai] at hq;rw [<- pb hq];exact (abb hs).2
 | false=>rw [hs] at hq; simp at hq
structure QOk (c:az) (q:bn):Prop where
 o0:mA q.e0/\c.ax<=q.e0.p.z
 o1:mA q.e1/\c.ax<=q.e1.p.z
 o2:mA q.e2/\c.ax<=q.e2.p.z
theorem alJ {c:az} (hc:mz c) (x:fj) (hxc:x.c=c) (hq:∀ j,j < x.t72.n->QOk c (x.t72.get j)) (hn:x.t72.n<=1000) (h1:x.t73=(x.t72.n:Int)) (h0:x.t74=0) (ho:x.out.n=0) :
  ∃ e z,goN gS x = .out e z/\(e = .exit 2/\bB z.out=Aw c x.x.look.cw (bB x.t72)):=by
 refine bt (step:=gS) (fun j y=>y.t72=x.t72/\y.t73=(x.t72.n:Int)/\y.t74=(j:Int)/\j<=x.t72.n/\y.c=c/\y.x=x.x/\y.out.n<=j/\bB y.out=Aw c x.x.look.cw ((bB x.t72).take j)) _ x.t72.n (by have:gv=1000000000000:=rfl; omega) (fun j y hj ⟨f1,f2,f3,f4,f5,f6,f7,f8⟩=>?_) ⟨rfl,h1,h0,dq _,hxc,rfl,by omega,pq.1 (by rw [eP,ho])⟩;have w1:ak (y.t74+1)=y.t74+1:=aj;have a1:j6 120 y.out.n 1=true:=iJ;unfold gS bh qH aR;by_cases h:y.t74 < y.t73
 ·have fw:j < x.t72.n:=by omega
  have hg:y.t72.get (Int.toNat y.t74)=x.t72.get j:=by rw [f1,f3,bU]
  obtain ⟨o0,o1,o2⟩:=hq j fw;have e0:oP y=some (tE c (x.t72.get j).e0,0):=by unfold oP; rw [hg,f5]; exact Sr hc o0.1 o0.2
  have e1:oQ y=some (tE c (x.t72.get j).e1,0):=by unfold oQ; rw [hg,f5]; exact Sr hc o1.1 o1.2
  have e2:oS y=some (tE c (x.t72.get j).e2,0):=by unfold oS; rw [hg,f5]; exact Sr hc o2.1 o2.2
  obtain ⟨e,hs⟩:=alH (qy c (x.t72.get j)) x.x.look.cw;have e3:oT y=some (rQ (qy c (x.t72.get j)) x.x.look.cw,e):=by
   unfold oT;rw [e0,e1,e2,f6];exact hs
  have tk:Aw c x.x.look.cw ((bB x.t72).take (j+1))=Aw c x.x.look.cw ((bB x.t72).take j)++cond (rQ (qy c (x.t72.get j)) x.x.look.cw) [Av (qy c (x.t72.get j))] []:=by
   rw [K2 x.t72 j fw,aeI]
  simp only [e0,e1,e2,e3,w1,a1,aI,ai,bC,bj,bc,au h,au (show (0:Int)<=y.t74 by omega),au (show y.t74 < ((y.t72.n:Nat):Int) by rw [f1]; omega)];cases hb:rQ (qy c (x.t72.get j)) x.x.look.cw with
  | true=>
   have e4:rC y=some (Av (qy c (x.t72.get j)),0):=by
    unfold rC;rw [e0,e1,e2];exact (abb hb).1
   rw [hb] at tk;simp only [e4,bj,bc,ai];refine .inl ⟨_,rfl,fw,f1,f2,by show y.t74+1=_; omega,by omega,f5,f6,by show y.out.n+1<=_; omega,?_⟩;show bB (Sl.push _ _)=_;rw [jE,f8,tk];rfl
  | false=>
   rw [hb] at tk;rw [aw];refine .inl ⟨_,rfl,fw,f1,f2,by show y.t74+1=_; omega,by omega,f5,f6,by show y.out.n<=_; omega,?_⟩;show bB y.out=_;rw [f8,tk,aw,pr]
 ·simp only [aI,ai,aw,ay h]
  refine .inr ⟨_,_,rfl,rfl,rfl,?_⟩;rw [f8,show j=x.t72.n by omega,CH (by rw [eP]; exact aX _)]
structure abc (x:Item):Prop where
 ok:Qn x
 v:∀ j,j < x.aG.n->zg (x.aG.get j)
 uv:∀ j,j < x.aG.n->(0<=(x.uV.get j).e0/\(x.uV.get j).e0<=255)/\0<=(x.uV.get j).e1/\(x.uV.get j).e1<=255
def aqB (c:az) (x:Item) (n:Int):bM:=⟨mT c (x.aG.get (Int.toNat n)),(x.uV.get (Int.toNat n)).e0,(x.uV.get (Int.toNat n)).e1⟩
def Zn (c:az) (x:Item) (k:Nat):bn:=⟨aqB c x (x.bd.get k).e0,aqB c x (x.bd.get k).e1,aqB c x (x.bd.get k).e2⟩
theorem ac9 {c:az} {x:Item} {n:Int} (hc:mz c) (hx:abc x) (hn:0<=n/\n < (x.aG.n:Int)):mA (aqB c x n)/\mj c (x.aG.get (Int.toNat n))=some (mT c (x.aG.get (Int.toNat n)),0):=by
 obtain ⟨h1,h2,h3,h4⟩:=anY hc (hx.v (Int.toNat n) (by omega));obtain ⟨h5,h6⟩:=hx.uv (Int.toNat n) (by omega);unfold In at h2 h3 h4;refine ⟨⟨?_,?_,?_,h5,h6⟩,h1⟩
 ·show In (mT c _).x _; unfold In; omega
 ·show In (mT c _).y _; unfold In; omega
 ·show In (mT c _).z _; unfold In; omega
theorem ada (ax:Int) (t:bn):(Au ax t).length<=6:=by
 have h:∀ a b,(uK ax a b).length<=2:=by
  intro a b;unfold uK;cases decide (a.p.z >= ax) <;> cases decide (b.p.z >= ax) <;> simp
 unfold Au;rw [nY,nY];have h1:=h t.e0 t.e1; have h2:=h t.e1 t.e2; have h3:=h t.e2 t.e0;omega
theorem abd (s:Show) (c:az) (i k:Nat) (hi:i < s.items.n) (hk:k < (s.items.get i).bd.n) (hc:mz c) (hx:abc (s.items.get i)):∃ r,jD s c (i:Int) (k:Int)=some r/\bB r=Aw c (s.items.get i).look.cw (NN (Au c.ax (Zn c (s.items.get i) k))):=by
 obtain ⟨huv,aty⟩:=hx.ok;obtain ⟨t0,t1,t2⟩:=aty k hk;obtain ⟨p0,v0⟩:=ac9 hc hx t0;obtain ⟨p1,v1⟩:=ac9 hc hx t1;obtain ⟨p2,v2⟩:=ac9 hc hx t2;have an0:DW (Zn c (s.items.get i) k):=⟨p0,p1,p2⟩
 have hn:256<=c.ax/\c.ax<=4096:=hc.1.2.2.1;have e0:oU s c i k=some (mT c ((s.items.get i).aG.get (Int.toNat ((s.items.get i).bd.get k).e0)),0):=by unfold oU; rw [bU,bU]; exact v0
 have e1:oV s c i k=some (mT c ((s.items.get i).aG.get (Int.toNat ((s.items.get i).bd.get k).e1)),0):=by unfold oV; rw [bU,bU]; exact v1
 have e2:oW s c i k=some (mT c ((s.items.get i).aG.get (Int.toNat ((s.items.get i).bd.get k).e2)),0):=by unfold oW; rw [bU,bU]; exact v2
 obtain ⟨r,hr,Iq⟩:=anZ hn an0;have e3:mS s c i k=some (r,0):=by
  unfold mS;rw [e0,e1,e2,bU,bU];exact hr
 have hrn:r.n<=1000:=by
  rw [<- eP r,Iq];unfold NN;rw [List.length_map,List.length_range];have:=ada c.ax (Zn c (s.items.get i) k);omega
 obtain ⟨e,z,hz,rfl,hzl⟩:∃ e z,hQ s c i k = .out e z/\(e = .exit 2/\bB z.out=Aw c (s.items.get i).look.cw (bB r)):=by
  unfold hQ;rw [e3,bU];refine alJ hc _ rfl (fun j hj=>?_) hrn rfl rfl rfl;have hm:r.get j∈bB r:=FO hj;rw [Iq] at hm;obtain ⟨o0,o1,o2⟩:=aqA hn an0 hm;exact ⟨o0,o1,o2⟩
 have b1:(hQ s c i k).by (.exit 2)=true:=by rw [hz]; rfl
 have b2:(hQ s c i k).st=z:=by rw [hz]; rfl
 refine ⟨z.out,?_,by rw [hzl,Iq]⟩;unfold jD bh;simp only [e0,e1,e2,e3,b1,b2,bU,bj,ai,bC,au (show 0<=(i:Int) by omega),au (show (i:Int) < ((s.items.n:Nat):Int) by omega),au (show 0<=(k:Int) by omega),au (show (k:Int) < (((s.items.get i).bd.n:Nat):Int) by omega),
  au t0.1,au t0.2,au t1.1,au t1.2,au t2.1,au t2.2,huv]
end Go.Proofs.YtchbpckkmgcgkaaGreat.b
end
section
namespace Go.Proofs.YtchbpckkmgcgkaaGreat.b
open Go.K
open Go.aE (aq)
def af5 (s:Show):Prop:=∀ i,i < s.items.n->od (s.items.get i) (s.av.n:Int)=some true
theorem aeJ (s:Show) (hn:s.items.n<=256):∃ e x',dR s = .out e x'/\(e = .ret/\x'.t4 >= 0/\¬ af5 s\/e = .exit 0/\af5 s):=by
 unfold dR;refine bt (step:=ch) (fun j y=>y.s=s.items/\y.t7=(s.items.n:Int)/\y.t8=(j:Int)/\j<=s.items.n/\y.ahZ=s/\∀ i,i < j->od (s.items.get i) (s.av.n:Int)=some true) _ s.items.n (by have:gv=1000000000000:=rfl; omega) (fun j y hj ⟨h1,h2,h3,h4,h5,h6⟩=>?_) ⟨rfl,rfl,rfl,dq _,rfl,fun i hi=>absurd hi (xL _)⟩;obtain ⟨b,hb,_⟩:=akv (y.s.get (Int.toNat y.t8)) ((y.ahZ.av.n:Nat):Int);have e0:gW y=some b:=hb;have w1:ak (y.t8+1)=y.t8+1:=aj;rw [h1,h3,h5,bU] at hb;unfold ch bh;by_cases h:y.t8 < y.t7
 ·have fw:j < s.items.n:=by omega
  simp only [e0,w1,ai,bC,bj,bc,au h,au (show (0:Int)<=y.t8 by omega),au (show y.t8 < ((y.s.n:Nat):Int) by rw [h1]; omega)];cases b with
  | false=>exact .inr ⟨_,_,rfl,rfl,.inl ⟨rfl,by show y.t8 >= 0; omega,fun qw=>by have:=qw j fw; rw [hb] at this; simp at this⟩⟩
  | true=>
   refine .inl ⟨_,rfl,fw,h1,h2,by show y.t8+1=_; omega,by omega,h5,fun i hi=>?_⟩;by_cases vK:i < j
   ·exact h6 i vK
   ·have:i=j:=by omega
    subst this; exact hb
 ·simp only [aw,ay h]
  exact .inr ⟨_,_,rfl,rfl,.inr ⟨rfl,fun i hi=>h6 i (by omega)⟩⟩
theorem aij (s:Show):ij s=some 0↔s.items.n<=256/\s.av.n<=16/\fY s.av=some 0/\af5 s:=by
 unfold ij;by_cases g1:((s.items.n:Nat):Int) > 256
 ·rw [au g1,ai]
  exact ⟨fun h=>by simp at h,fun h=>by omega⟩
 by_cases g2:((s.av.n:Nat):Int) > 16
 ·rw [ay g1,au g2,aw,ai]
  exact ⟨fun h=>by simp at h,fun h=>by omega⟩
 obtain ⟨v,hv⟩:=OO (OS s.av);have e0:tB s=some v:=hv;rw [ay g1,ay g2,hv];simp only [e0,ai,aw,bj,bc];cases hz:(v != (0:Int)) with
 | true=>
  rw [ai];exact ⟨fun h=>by simp at h,fun h=>by have:=pb h.2.2.1; simp [this] at hz⟩
 | false=>
  have hz:v=0:=by simpa using hz
  rw [aw,hz];obtain ⟨e,x',hx,h⟩:=aeJ s (by omega);rcases h with ⟨rfl,h1,h2⟩ | ⟨rfl,h1⟩
  ·have b1:(dR s).by (.exit 0)=false:=by rw [hx]; rfl
   have b2:(dR s).by .ret=true:=by rw [hx]; rfl
   have b3:(dR s).st=x':=by rw [hx]; rfl
   rw [b1,b2,b3,au h1,aw,ai,ai];exact ⟨fun h=>by simp at h,fun h=>absurd h.2.2.2 h2⟩
  ·have b1:(dR s).by (.exit 0)=true:=by rw [hx]; rfl
   rw [b1,ai];exact ⟨fun _=>⟨by omega,by omega,rfl,h1⟩,fun _=>rfl⟩
theorem arA {x:Item} {t:Int} (h:od x t=some true):eL x.look t=some 0:=by
 unfold od at h;obtain ⟨v,hv⟩:=OO (ah5 x.look t);have e0:xc x t=some v:=hv;simp only [e0,bj,bc,ai] at h;cases g1:decide (((x.aG.n:Nat):Int) > (64:Int)) with
 | true=>rw [g1] at h; simp at h
 | false=>
 cases g2:(((x.uV.n:Nat):Int) != ((x.aG.n:Nat):Int)) with
 | true=>rw [g1,g2] at h; simp at h
 | false=>
 cases g3:decide (((x.bd.n:Nat):Int) > (64:Int)) with
 | true=>rw [g1,g2,g3] at h; simp at h
 | false=>
 cases g4:(v != (0:Int)) with
 | true=>rw [g1,g2,g3,g4] at h; simp at h
 | false=>
  have:v=0:=by simpa using g4
  rw [hv,this]
structure auI (l:yD) (t:Int):Prop where
 t0:0<=t
 t16:t<=16
 lo : -1<=l.iD
 hi:l.iD < t
 b0 : -1024<=l.FC
 b1:l.FC<=1024
 n0:0<=l.bin
 n1:l.bin<=15
theorem Qt {l:yD} {t:Int} (h:eL l t=some 0):auI l t:=by
 unfold eL at h;by_cases c1:t < 0
 ·rw [au c1] at h; simp at h
 by_cases c2:t > 16
 ·rw [ay c1,au c2] at h; simp at h
 by_cases c3:l.iD < (-(1:Int))
 ·rw [ay c1,ay c2,au c3] at h; simp at h
 by_cases c4:l.iD >= t
 ·rw [ay c1,ay c2,ay c3,au c4] at h; simp at h
 by_cases c5:l.cw > 2
 ·rw [ay c1,ay c2,ay c3,ay c4,au c5] at h; simp at h
 by_cases c6:l.FC < (-(1024:Int))
 ·rw [ay c1,ay c2,ay c3,ay c4,ay c5,au c6] at h; simp at h
 by_cases c7:l.FC > 1024
 ·rw [ay c1,ay c2,ay c3,ay c4,ay c5,ay c6,au c7] at h; simp at h
 by_cases c8:l.bin < 0
 ·rw [ay c1,ay c2,ay c3,ay c4,ay c5,ay c6,ay c7,au c8] at h; simp at h
 by_cases c9:l.bin > 15
 ·rw [ay c1,ay c2,ay c3,ay c4,ay c5,ay c6,ay c7,ay c8,au c9] at h; simp at h
 exact ⟨by omega,by omega,by omega,by omega,by omega,by omega,by omega,by omega⟩
theorem Mc {l:Sl bG} (h:fY l=some 0):∀ i,i < l.n->eO (l.get i)=some 0:=by
 unfold fY at h;by_cases c1:((l.n:Nat):Int) > 16
 ·rw [au c1] at h; simp at h
 obtain ⟨e,x',h1,h2⟩:∃ e x',dJ l = .out e x'/\(e = .ret/\x'.t2≠0\/e = .exit 0/\∀ i,i < l.n->eO (l.get i)=some 0):=by
  unfold dJ;refine bt (step:=fK) (fun j x=>x.t9=l/\x.t10=(l.n:Int)/\x.t11=(j:Int)/\j<=l.n/\∀ i,i < j->eO (l.get i)=some 0) _ l.n (by have:gv=1000000000000:=rfl; omega) (fun j x hj ⟨h2,h3,h4,h5,h6⟩=>?_) ⟨rfl,rfl,rfl,dq _,fun i hi=>absurd hi (xL _)⟩;obtain ⟨v,hv⟩:=OO (aa7 (x.t9.get (Int.toNat x.t11)));have e0:iX x=some v:=hv;have w1:ak (x.t11+1)=x.t11+1:=aj;rw [h2,h4,bU] at hv;unfold fK bh;by_cases h:x.t11 < x.t10
  ·simp only [e0,w1,ai,bC,bj,bc,au h,au (show (0:Int)<=x.t11 by omega),au (show x.t11 < ((x.t9.n:Nat):Int) by rw [h2]; omega)]
   cases hz:(v != (0:Int)) with
   | true=>exact .inr ⟨_,_,rfl,rfl,.inl ⟨rfl,by show v≠0; simpa using hz⟩⟩
   | false=>
    refine .inl ⟨_,rfl,by omega,h2,h3,by show x.t11+1=_; omega,by omega,fun i hi=>?_⟩;by_cases vK:i < j
    ·exact h6 i vK
    ·have:i=j:=by omega
     subst this;rw [hv,show v=0 by simpa using hz]
  ·simp only [aw,ay h]
   exact .inr ⟨_,_,rfl,rfl,.inr ⟨rfl,fun i hi=>h6 i (by omega)⟩⟩
 rw [ay c1,aw] at h;rcases h2 with ⟨rfl,h2⟩ | ⟨rfl,h2⟩
 ·have b1:(dJ l).by (.exit 0)=false:=by rw [h1]; rfl
  have b2:(dJ l).by .ret=true:=by rw [h1]; rfl
  have b3:(dJ l).st=x':=by rw [h1]; rfl
  rw [b1,b2,b3,aw,ai] at h;exact absurd (pb h) h2
 ·exact h2
theorem an1 {n:Int} (h:kN n=some true):1<=n/\n<=16:=by
 unfold kN at h;by_cases c1:n > 0
 ·rw [au c1,ai] at h
  have:=rh (pb h);omega
 ·rw [ay c1] at h; simp at h
theorem aqC {t:bG} (h:eO t=some 0):(1<=t.w/\t.w<=16)/\(1<=t.h/\t.h<=16)/\(t.dF.n:Int)=t.w * t.h:=by
 unfold eO at h;obtain ⟨a,ha⟩:=OO (aa6 t.w);obtain ⟨b,hb⟩:=OO (aa6 t.h);have e0:tT t=some a:=ha;have e1:tU t=some b:=hb;simp only [e0,e1,bj,bc,ai] at h;cases a with
 | false=>simp at h
 | true=>
 cases b with
 | false=>simp at h
 | true=>
  have h1:=an1 ha;have h2:=an1 hb;have h3:0<=t.w * t.h/\t.w * t.h<=16 * 16:=⟨wy (by omega) (by omega),CG h1.2 h2.2 (by omega) (by omega)⟩
  rw [aj (by omega) (by omega)] at h;simp only [iR,aw] at h;cases hz:(((t.dF.n:Nat):Int) != t.w * t.h) with
  | true=>rw [hz] at h; simp at h
  | false=>exact ⟨h1,h2,by simpa using hz⟩
theorem KG {s:Show} {c:az} (h:cX s c=some 0):ij s=some 0:=by
 obtain ⟨e,h1,_⟩:=Tf s;obtain ⟨f,h3,_⟩:=vo c;have e0:qL s c=some e:=h1;have e1:tC s c=some f:=h3;unfold cX at h;simp only [e0,e1,bj,bc,ai] at h;cases he:(e != (0:Int)) with
 | true=>
  rw [he,ai] at h;simp at he;exact absurd (pb h) he
 | false=>rw [h1]; simp at he; rw [he]
end Go.Proofs.YtchbpckkmgcgkaaGreat.b
end
section
namespace Go.Proofs.YtchbpckkmgcgkaaGreat.b
open Go.K Go.K.iK
open Go.aE (aq)
def apm (b:FB) (v:iP):FB:=⟨⟨min b.low.x v.x,min b.low.y v.y,min b.low.z v.z⟩,⟨max b.high.x v.x,max b.high.y v.y,max b.high.z v.z⟩⟩
def yi (l:Sl iP):Nat->FB
 | 0=>⟨l.get 0,l.get 0⟩
 | n+1=>apm (yi l n) (l.get (n+1))
theorem adb {n:Int} (h:In n 32768):yV n=some true:=by
 unfold In at h;unfold yV;rw [au (show n >= -(32768:Int) by omega),au h.2];rfl
theorem alK {l:Sl iP} (h0:0 < l.n) (hn:l.n<=64) (h:∀ i,i < l.n->zg (l.get i)):Bw l=some (yi l (l.n - 1),0):=by
 obtain ⟨e,x',hx,rfl,hl⟩:∃ e x',fF l = .out e x'/\(e = .exit 0/\x'.l=l):=by
  unfold fF;refine bt (step:=qh) (fun j x=>x.l=l/\x.t17=l/\x.t18=(l.n:Int)/\x.t19=(j:Int)/\j<=l.n) (fun e x'=>e = .exit 0/\x'.l=l) l.n (by have:gv=1000000000000:=rfl; omega) (fun j x hj ⟨h1,h2,h3,h4,h5⟩=>?_) ⟨rfl,rfl,rfl,rfl,dq _⟩;have w1:ak (x.t19+1)=x.t19+1:=aj;unfold qh qJ bh;by_cases bu:x.t19 < x.t18
  ·have hv:=h j (by omega)
   unfold zg at hv;have hg:x.t17.get (Int.toNat x.t19)=l.get j:=by rw [h2,h4,bU]
   have e0:w5 x=some true:=by unfold w5; rw [hg]; exact adb (by unfold In; omega)
   have e1:w6 x=some true:=by unfold w6; rw [hg]; exact adb (by unfold In; omega)
   have e2:w7 x=some true:=by unfold w7; rw [hg]; exact adb (by unfold In; omega)
   simp only [e0,e1,e2,w1,bj,bc,ai,aw,iR,bC,au bu,au (show (0:Int)<=x.t19 by omega),au (show x.t19 < ((x.t17.n:Nat):Int) by rw [h2]; omega)];exact .inl ⟨_,rfl,by omega,h1,h2,h3,by show x.t19+1=_; omega,by omega⟩
  ·simp only [aw,ay bu]
   exact .inr ⟨_,_,rfl,rfl,rfl,h1⟩
 have b1:(fF l).by (.exit 0)=true:=by rw [hx]; rfl
 have b2:(fF l).st.l=l:=by rw [hx]; exact hl
 obtain ⟨e,y,hy,rfl,hyb⟩:∃ e y,vl l = .out e y/\(e = .exit 2/\y.b=yi l (l.n - 1)):=by
  unfold vl;rw [b2,bU];refine bt (step:=mQ) (fun j y=>y.t49=⟨l.n - 1,fun i=>l.get (1+i)⟩/\y.t50=((l.n - 1:Nat):Int)/\y.t51=(j:Int)/\j<=l.n - 1/\y.b=yi l j) _ (l.n - 1) (by have:gv=1000000000000:=rfl; omega) (fun j y hj ⟨h2,h3,h4,h5,h6⟩=>?_) ⟨rfl,rfl,rfl,dq _,rfl⟩;have w1:ak (y.t51+1)=y.t51+1:=aj;unfold mQ bh;by_cases bu:y.t51 < y.t50
  ·have hg:y.t49.get (Int.toNat y.t51)=l.get (j+1):=by rw [h2,h4,bU,Nat.add_comm]
   simp only [w1,hg,ai,bC,au bu,au (show (0:Int)<=y.t51 by omega),au (show y.t51 < ((y.t49.n:Nat):Int) by rw [h2]; show y.t51 < ((l.n - 1:Nat):Int); omega)];refine .inl ⟨_,rfl,by omega,h2,h3,by show y.t51+1=_; omega,by omega,?_⟩;show apm y.b (l.get (j+1))=_;rw [h6];rfl
  ·simp only [aw,ay bu]
   refine .inr ⟨_,_,rfl,rfl,rfl,?_⟩;rw [h6,show j=l.n - 1 by omega]
 have b3:(vl l).by (.exit 2)=true:=by rw [hy]; rfl
 have b4:(vl l).st=y:=by rw [hy]; rfl
 unfold Bw Bv;simp only [b1,b2,b3,b4,hyb,ai,aw,bC,show (((l.n:Nat):Int)==(0:Int))=false by simpa using by omega,ay (show ¬ ((l.n:Nat):Int) > 4096 by omega),au (show (0:Int) < ((l.n:Nat):Int) by omega),au (show (1:Int)<=((l.n:Nat):Int) by omega),au (show ((l.n:Nat):Int)<=((l.n:Nat):Int) by omega)]
def Ax:FB:=⟨⟨0,0,0⟩,⟨0,0,0⟩⟩
def FQ (l:Sl iP):FB:=if l.n=0 then Ax else yi l (l.n - 1)
structure Md (x:Item) (t:Int):Prop where
 n64:x.aG.n<=64
 uvn:x.uV.n=x.aG.n
 t64:x.bd.n<=64
 look:eL x.look t=some 0
 v:∀ j,j < x.aG.n->zg (x.aG.get j)/\(0<=(x.uV.get j).e0/\(x.uV.get j).e0<=255)/\0<=(x.uV.get j).e1/\(x.uV.get j).e1<=255
 aZ:∀ i,i < x.bd.n->pj x.bd (x.aG.n:Int) i
 box:FQ x.aG=x.box
theorem Md.full {x:Item} {t:Int} (h:Md x t):abc x:=⟨⟨h.uvn,h.aZ⟩,fun j hj=>(h.v j hj).1,fun j hj=>(h.v j hj).2⟩
theorem WU (a b:FB):((a.low.x==b.low.x)&&((a.low.y==b.low.y)&&((a.low.z==b.low.z)&&((a.high.x==b.high.x)&&((a.high.y==b.high.y)&&((a.high.z==b.high.z)&&true))))))=true↔a=b:=by
 simp only [aD,beq_iff_eq];constructor
 ·rintro ⟨h1,h2,h3,h4,h5,h6,_⟩
  obtain ⟨⟨_,_,_⟩,_,_,_⟩:=a;obtain ⟨⟨_,_,_⟩,_,_,_⟩:=b
  simp_all
 ·rintro rfl
  exact ⟨rfl,rfl,rfl,rfl,rfl,rfl,trivial⟩
theorem apn (x:Item) (t:Int) (hn:x.aG.n<=64) (hu:x.uV.n=x.aG.n):∃ e z,eh x t = .out e z/\((e = .ret/\z.t4=false/\∃ j,j < x.aG.n/\¬ (zg (x.aG.get j)/\(0<=(x.uV.get j).e0/\(x.uV.get j).e0<=255)/\0<=(x.uV.get j).e1/\(x.uV.get j).e1<=255))\/e = .exit 0/\z.n=(x.aG.n:Int)/\z.x=x/\z.t4=false/\∀ j,j < x.aG.n->zg (x.aG.get j)/\(0<=(x.uV.get j).e0/\(x.uV.get j).e0<=255)/\0<=(x.uV.get j).e1/\(x.uV.get j).e1<=255):=by
 unfold eh;refine bt (step:=lj) (fun j y=>y.t4=false/\y.n=(x.aG.n:Int)/\y.t38=x.aG/\y.t39=(x.aG.n:Int)/\y.t40=(j:Int)/\j<=x.aG.n/\y.x=x/\∀ i,i < j->zg (x.aG.get i)/\(0<=(x.uV.get i).e0/\(x.uV.get i).e0<=255)/\0<=(x.uV.get i).e1/\(x.uV.get i).e1<=255) _ x.aG.n (by have:gv=1000000000000:=rfl; omega) (fun j y hj ⟨f1,f2,f3,f4,f5,f6,f7,f8⟩=>?_) ⟨rfl,rfl,rfl,rfl,rfl,dq _,rfl,fun i hi=>absurd hi (xL _)⟩;have w1:ak (y.t40+1)=y.t40+1:=aj;unfold lj bh;by_cases h:y.t40 < y.t39
 ·have fw:j < x.aG.n:=by omega
  have hg:y.t38.get (Int.toNat y.t40)=x.aG.get j:=by rw [f3,f5,bU]
  have hg2:y.x.uV.get (Int.toNat y.t40)=x.uV.get j:=by rw [f7,f5,bU]
  obtain ⟨e,h1,h2⟩:=Ak (x.aG.get j);have e0:qK y=some e:=by unfold qK; rw [hg]; exact h1
  simp only [e0,w1,hg2,bj,bc,ai,bC,au h,au (show (0:Int)<=y.t40 by omega),au (show y.t40 < ((y.t38.n:Nat):Int) by rw [f3]; omega),au (show y.t40 < ((y.x.uV.n:Nat):Int) by rw [f7]; omega)];by_cases he:e=0
  ·rw [show (e != (0:Int))=false by simpa using he,aw]
   by_cases c1:min (x.uV.get j).e0 (x.uV.get j).e1 < 0
   ·rw [au c1,ai]
    exact .inr ⟨_,_,rfl,rfl,.inl ⟨rfl,rfl,j,fw,fun hq=>by omega⟩⟩
   ·rw [ay c1,aw]
    by_cases c2:max (x.uV.get j).e0 (x.uV.get j).e1 > 255
    ·rw [au c2,ai]
     exact .inr ⟨_,_,rfl,rfl,.inl ⟨rfl,rfl,j,fw,fun hq=>by omega⟩⟩
    ·rw [ay c2,aw]
     refine .inl ⟨_,rfl,fw,f1,f2,f3,f4,by show y.t40+1=_; omega,by omega,f7,fun i hi=>?_⟩;by_cases vK:i < j
     ·exact f8 i vK
     ·have:i=j:=by omega
      subst this;exact ⟨h2.1 he,by omega,by omega⟩
  ·rw [show (e != (0:Int))=true by simpa using he,ai]
   exact .inr ⟨_,_,rfl,rfl,.inl ⟨rfl,rfl,j,fw,fun hq=>he (h2.2 hq.1)⟩⟩
 ·simp only [aw,ay h]
  exact .inr ⟨_,_,rfl,rfl,.inr ⟨rfl,f2,f7,f1,fun i hi=>f8 i (by omega)⟩⟩
theorem apo (x:mR) (hn:x.t82.n<=64) (h0:x.t83=(x.t82.n:Int)) (h1:x.t84=0) (h2:x.t4=false):∃ e z,goN iA x = .out e z/\(e = .ret/\z.t4=false/\(∃ i,i < x.t82.n/\¬ pj x.t82 x.n i)\/e = .exit 2/\z.n=x.n/\z.x=x.x/\∀ i,i < x.t82.n->pj x.t82 x.n i):=by
 refine bt (step:=iA) (fun j y=>y.t4=false/\y.n=x.n/\y.t82=x.t82/\y.t83=(x.t82.n:Int)/\y.t84=(j:Int)/\j<=x.t82.n/\y.x=x.x/\∀ i,i < j->pj x.t82 x.n i) _ x.t82.n (by have:gv=1000000000000:=rfl; omega) (fun j y hj ⟨f1,f2,f3,f4,f5,f6,f7,f8⟩=>?_) ⟨h2,rfl,rfl,h0,h1,dq _,rfl,fun i hi=>absurd hi (xL _)⟩;have w1:ak (y.t84+1)=y.t84+1:=aj;unfold iA bh;by_cases h:y.t84 < y.t83
 ·have fw:j < x.t82.n:=by omega
  have hg:y.t82.get (Int.toNat y.t84)=x.t82.get j:=by rw [f3,f5,bU]
  simp only [w1,hg,f2,ai,bC,au h,au (show (0:Int)<=y.t84 by omega),au (show y.t84 < ((y.t82.n:Nat):Int) by rw [f3]; omega)];by_cases c1:min (min (x.t82.get j).e0 (x.t82.get j).e1) (x.t82.get j).e2 < 0
  ·rw [au c1,ai]
   exact .inr ⟨_,_,rfl,rfl,.inl ⟨rfl,rfl,j,fw,fun hq=>by unfold pj at hq; omega⟩⟩
  ·rw [ay c1,aw]
   by_cases c2:max (max (x.t82.get j).e0 (x.t82.get j).e1) (x.t82.get j).e2 >= x.n
   ·rw [au c2,ai]
    exact .inr ⟨_,_,rfl,rfl,.inl ⟨rfl,rfl,j,fw,fun hq=>by unfold pj at hq; omega⟩⟩
   ·rw [ay c2,aw]
    refine .inl ⟨_,rfl,fw,f1,rfl,f3,f4,by show y.t84+1=_; omega,by omega,f7,fun i hi=>?_⟩;by_cases vK:i < j
    ·exact f8 i vK
    ·have:i=j:=by omega
     subst this;unfold pj;omega
 ·simp only [aw,ay h]
  exact .inr ⟨_,_,rfl,rfl,.inr ⟨rfl,f2,f7,fun i hi=>f8 i (by omega)⟩⟩
theorem Zo (x:Item) (t:Int):∃ b,od x t=some b/\(b=true↔Md x t):=by
 have no:∀ {P:Prop},¬ P->∃ b,(some false:Option Bool)=some b/\(b=true↔P):=fun h=>⟨false,rfl,fun h'=>by simp at h',fun h'=>absurd h' h⟩
 obtain ⟨v,hv⟩:=OO (ah5 x.look t);have e0:xc x t=some v:=hv;unfold od;simp only [e0,bj,bc,ai];by_cases g1:((x.aG.n:Nat):Int) > 64
 ·rw [au g1,ai]; exact no fun h=>by have:=h.n64; omega
 rw [ay g1,aw];by_cases g2:x.uV.n=x.aG.n
 case neg=>
  rw [show (((x.uV.n:Nat):Int) != ((x.aG.n:Nat):Int))=true by simpa using by omega,ai];exact no fun h=>g2 h.uvn
 rw [show (((x.uV.n:Nat):Int) != ((x.aG.n:Nat):Int))=false by simpa using by omega,aw];by_cases g3:((x.bd.n:Nat):Int) > 64
 ·rw [au g3,ai]; exact no fun h=>by have:=h.t64; omega
 rw [ay g3,aw];by_cases g4:v=0
 case neg=>
  rw [show (v != (0:Int))=true by simpa using g4,ai];exact no fun h=>by have:=h.look; rw [hv] at this; exact g4 (pb this)
 rw [show (v != (0:Int))=false by simpa using g4,aw];obtain ⟨e,y,hy,h⟩:=apn x t (by omega) g2;rcases h with ⟨rfl,hf,j,hj,YS⟩ | ⟨rfl,hn,hx,hf,hvs⟩
 ·have b1:(eh x t).by (.exit 0)=false:=by rw [hy]; rfl
  have b2:(eh x t).by .ret=true:=by rw [hy]; rfl
  have b3:(eh x t).st.t4=false:=by rw [hy]; exact hf
  simp only [b1,b2,b3,ai,aw];exact no fun h=>YS (h.v j hj)
 ·have b1:(eh x t).by (.exit 0)=true:=by rw [hy]; rfl
  have s1:(eh x t).st=y:=by rw [hy]; rfl
  obtain ⟨e,z,hz,h⟩:∃ e z,du x t = .out e z/\(e = .ret/\z.t4=false/\(∃ i,i < x.bd.n/\¬ pj x.bd (x.aG.n:Int) i)\/e = .exit 2/\z.n=(x.aG.n:Int)/\z.x=x/\∀ i,i < x.bd.n->pj x.bd (x.aG.n:Int) i):=by
   unfold du;rw [s1,hn,hx];exact apo _ (by show x.bd.n<=64; omega) rfl rfl hf
  rcases h with ⟨rfl,hf',i,hi,YS⟩ | ⟨rfl,MX,hx',qw⟩
  ·have b2:(du x t).by (.exit 2)=false:=by rw [hz]; rfl
   have b3:(du x t).by .ret=true:=by rw [hz]; rfl
   have b4:(du x t).st.t4=false:=by rw [hz]; exact hf'
   simp only [b1,b2,b3,b4,ai,aw];exact no fun h=>YS (h.aZ i hi)
  ·have b2:(du x t).by (.exit 2)=true:=by rw [hz]; rfl
   have s2:(du x t).st=z:=by rw [hz]; rfl
   have ok:FQ x.aG=x.box->Md x t:=fun hb=>⟨by omega,g2,by omega,by rw [hv,g4],hvs,qw,hb⟩
   by_cases GK:x.aG.n=0
   ·have e3:jC x t=some (Ax,4):=by
     unfold jC;rw [s2,hx'];unfold Bw Bv;rw [GK];rfl
    have IB:FQ x.aG=Ax:=by unfold FQ; rw [aW GK]
    simp only [b1,b2,e3,s2,hx',MX,bj,bc,ai];cases hq:((Ax.low.x==x.box.low.x)&&((Ax.low.y==x.box.low.y)&&((Ax.low.z==x.box.low.z)&&((Ax.high.x==x.box.high.x)&&((Ax.high.y==x.box.high.y)&&((Ax.high.z==x.box.high.z)&&true)))))) with
    | true=>
     refine ⟨true,?_,fun _=>ok (IB.trans ((WU _ _).1 hq)),fun _=>rfl⟩;rw [GK];rfl
    | false=>exact no fun h=>by rw [(WU _ _).2 (IB.symm.trans h.box)] at hq; simp at hq
   ·have e3:jC x t=some (yi x.aG (x.aG.n - 1),0):=by
     unfold jC;rw [s2,hx'];exact alK (by omega) (by omega) (fun i hi=>(hvs i hi).1)
    have IB:FQ x.aG=yi x.aG (x.aG.n - 1):=by unfold FQ; rw [aB GK]
    simp only [b1,b2,e3,s2,hx',MX,bj,bc,ai];cases hq:(((yi x.aG (x.aG.n - 1)).low.x==x.box.low.x)&&(((yi x.aG (x.aG.n - 1)).low.y==x.box.low.y)&&(((yi x.aG (x.aG.n - 1)).low.z==x.box.low.z)&&(((yi x.aG (x.aG.n - 1)).high.x==x.box.high.x)&&(((yi x.aG (x.aG.n - 1)).high.y==x.box.high.y)&&(((yi x.aG (x.aG.n - 1)).high.z==x.box.high.z)&&true)))))) with
    | true=>exact ⟨true,rfl,fun _=>ok (IB.trans ((WU _ _).1 hq)),fun _=>rfl⟩
    | false=>exact no fun h=>by rw [(WU _ _).2 (IB.symm.trans h.box)] at hq; simp at hq
theorem apq {s:Show} (h:ij s=some 0):∀ i,i < s.items.n->Md (s.items.get i) (s.av.n:Int):=fun i hi=>by
 obtain ⟨_,_,_,h4⟩:=(aij s).1 h;obtain ⟨b,h5,h6⟩:=Zo (s.items.get i) (s.av.n:Int);have:=h4 i hi;rw [this] at h5;exact h6.1 (pb h5).symm
def aqD (a b:oK):Prop:=b.y < a.y\/b.y=a.y/\b.x > a.x
def FT (n:Int) (a b:oK):Prop:=0 < n\/n=0/\aqD a b
def Vs (t:aF) (x y:Int):Prop:=FT (W0 t (8 * x+4) (8 * y+4)) t.e1 t.e2/\FT (W1 t (8 * x+4) (8 * y+4)) t.e2 t.e0/\FT (W2 t (8 * x+4) (8 * y+4)) t.e0 t.e1
def akC (P:Prop) (r:Option (Bool×Int)):Prop:=∃ b,r=some (b,0)/\(b=true↔P)
theorem akC.ite {P:Prop} {c:Prop} [Decidable c] {a b:Option (Bool×Int)} (h1:c->akC P a) (h2 : ¬ c->akC P b):akC P (if c then a else b):=by
 by_cases h:c
 ·rw [aW h]; exact h1 h
 ·rw [aB h]; exact h2 h
theorem akD {t:aF} {x y:Int} (hf:DT t) (hp:Pix x y):ml t x y=some (⟨W0 t (8 * x+4) (8 * y+4),W1 t (8 * x+4) (8 * y+4),W2 t (8 * x+4) (8 * y+4)⟩,0):=by
 rcases NI t x y with ⟨_,_,h⟩ | ⟨w,e,h,he⟩
 ·exact h
 ·exfalso
  obtain ⟨e1,h1,h2⟩:=aeA t;obtain ⟨b,h3,h4⟩:=aeB x y;have q1:e1=0:=h2.2 hf;have q2:b=true:=h4.2 hp;subst q1 q2;have e0:wX t x y=some 0:=h1;have e1:Bs t x y=some true:=h3;unfold ml at h;simp only [e0,e1,bj,bc,ai,hU,aw,iR] at h;injection h with h;injection h with _ h;exact he h.symm
theorem ajo {t:aF} {x y:Int} (hf:DT t) (hp:Pix x y):akC (Vs t x y) (qg t x y):=by
 have e0:cp t x y=_:=akD hf hp;unfold qg mn mm;rw [e0];simp only [bj,ai,bc,hU,aw];unfold Vs FT aqD;generalize W0 t (8 * x+4) (8 * y+4)=u;generalize W1 t (8 * x+4) (8 * y+4)=v;generalize W2 t (8 * x+4) (8 * y+4)=w;simp only [Bool.cond_eq_ite,nz,lz,decide_eq_false_iff_not,beq_iff_eq]
 repeat' (refine akC.ite (fun _=>?_) (fun _=>?_))
 all_goals first | exact ⟨false,rfl,fun h=>by simp at h,fun h=>by omega⟩ | exact ⟨true,rfl,fun _=>by omega,fun _=>rfl⟩
def J5 (p q r a b c:Int):Int:=p * a+q * b+r * c
def TV (t:aF) (x y:Int):oK:=
 let p:=W0 t (8 * x+4) (8 * y+4); let q:=W1 t (8 * x+4) (8 * y+4); let r:=W2 t (8 * x+4) (8 * y+4)
 ⟨8 * x+4,8 * y+4,J5 p q r t.e0.d t.e1.d t.e2.d / (p+q+r),J5 (p * t.e0.d) (q * t.e1.d) (r * t.e2.d) t.e0.u t.e1.u t.e2.u / J5 p q r t.e0.d t.e1.d t.e2.d,J5 (p * t.e0.d) (q * t.e1.d) (r * t.e2.d) t.e0.v t.e1.v t.e2.v / J5 p q r t.e0.d t.e1.d t.e2.d⟩
theorem aeK {p q r d0 d1 d2 u0 u1 u2:Int} (hp:0<=p) (hq:0<=q) (hr:0<=r) (hs:1<=p+q+r/\p+q+r<=137438953472) (h0:1<=d0/\d0<=65536) (h1:1<=d1/\d1<=65536) (h2:1<=d2/\d2<=65536) (k0:0<=u0/\u0<=255) (k1:0<=u1/\u1<=255) (k2:0<=u2/\u2<=255) :
  cM (ak ((ak ((ak ((0:Int)+(ak ((ak (p * d0)) * u0))))+(ak ((ak (q * d1)) * u1))))+(ak ((ak (r * d2)) * u2)))) (ak ((ak ((ak ((0:Int)+(ak ((ak (p * d0)) * (1:Int)))))+(ak ((ak (q * d1)) * (1:Int)))))+(ak ((ak (r * d2)) * (1:Int)))))=some (J5 (p * d0) (q * d1) (r * d2) u0 u1 u2 / J5 p q r d0 d1 d2,0):=by
 have a0:=qM ⟨hp,by omega⟩ h0;have a1:=qM ⟨hq,by omega⟩ h1;have a2:=qM ⟨hr,by omega⟩ h2;have b0:=KF (show 0<=p * d0 by omega) k0;have b1:=KF (show 0<=q * d1 by omega) k1;have b2:=KF (show 0<=r * d2 by omega) k2;unfold J5;rw [aj (n:=p * d0),aj (n:=q * d1),aj (n:=r * d2)];generalize p * d0=A0 at *;generalize q * d1=A1 at *;generalize r * d2=A2 at *;generalize A0 * u0=B0 at *;generalize A1 * u1=B1 at *;generalize A2 * u2=B2 at *;rw [Int.mul_one,Int.mul_one,Int.mul_one,aj (n:=A0),aj (n:=A1),aj (n:=A2),aj (n:=B0),aj (n:=B1),aj (n:=B2),
  aj (n:=0+A0),aj (n:=0+A0+A1),aj (n:=0+A0+A1+A2),aj (n:=0+B0),aj (n:=0+B0+B1),aj (n:=0+B0+B1+B2)]
 rw [En _ _ (by omega) (by omega),Ik,Ik]
theorem apr {p q r d0 d1 d2:Int} (hp:0<=p) (hq:0<=q) (hr:0<=r) (hs:1<=p+q+r/\p+q+r<=137438953472) (h0:1<=d0/\d0<=65536) (h1:1<=d1/\d1<=65536) (h2:1<=d2/\d2<=65536) :
  cM (ak ((ak ((ak ((0:Int)+(ak ((ak (p * d0)) * (1:Int)))))+(ak ((ak (q * d1)) * (1:Int)))))+(ak ((ak (r * d2)) * (1:Int))))) (ak ((ak ((ak ((0:Int)+p))+q))+r))=some (J5 p q r d0 d1 d2 / (p+q+r),0)/\0<=J5 p q r d0 d1 d2 / (p+q+r)/\J5 p q r d0 d1 d2 / (p+q+r)<=65536:=by
 have a0:=qM ⟨hp,by omega⟩ h0;have a1:=qM ⟨hq,by omega⟩ h1;have a2:=qM ⟨hr,by omega⟩ h2;unfold J5;rw [aj (n:=p * d0),aj (n:=q * d1),aj (n:=r * d2)];generalize p * d0=A0 at *;generalize q * d1=A1 at *;generalize r * d2=A2 at *;rw [Int.mul_one,Int.mul_one,Int.mul_one,aj (n:=A0),aj (n:=A1),aj (n:=A2),
  aj (n:=0+A0),aj (n:=0+A0+A1),aj (n:=0+A0+A1+A2),aj (n:=0+p),aj (n:=0+p+q),aj (n:=0+p+q+r)]
 rw [En _ _ (by omega) (by omega),Ik,Ik];refine ⟨rfl,Int.ediv_nonneg (by omega) (by omega),?_⟩;have:(A0+A1+A2) / (p+q+r) < 65537:=Int.ediv_lt_of_lt_mul (by omega) (by omega);omega
theorem aeL {t:aF} (hf:DT t) (p q:Int):W0 t p q+W1 t p q+W2 t p q=su t/\1<=su t/\su t<=137438953472:=by
 obtain ⟨⟨⟨x0,y0,_⟩,⟨x1,y1,_⟩,x2,y2,_⟩,api⟩:=hf;refine ⟨ah1 _ _ _ _ _ _ _ _,by omega,?_⟩;unfold su;have m1:=mq (a:=t.e1.x - t.e0.x) (b:=t.e2.y - t.e0.y) (c:=262144) (d:=262144) (by omega) (by omega) (by omega);have m2:=mq (a:=t.e2.x - t.e0.x) (b:=t.e1.y - t.e0.y) (c:=262144) (d:=262144) (by omega) (by omega) (by omega);omega
theorem abe {t:aF} {x y:Int} (hf:DT t) (hp:Pix x y):(Vs t x y/\kd t x y=some (TV t x y,0)/\0<=(TV t x y).d/\(TV t x y).d<=65536)\/¬ Vs t x y/\kd t x y=some (⟨0,0,0,0,0⟩,6):=by
 obtain ⟨b,hb,hbi⟩:=ajo hf hp;have E0:vO t x y=some (b,0):=hb;have E1:dL t x y=some (⟨W0 t (8 * x+4) (8 * y+4),W1 t (8 * x+4) (8 * y+4),W2 t (8 * x+4) (8 * y+4)⟩,0):=akD hf hp;unfold kd;rw [E0,E1];simp only [bj,ai,bc,hU,aw];cases b with
 | false=>exact .inr ⟨fun h=>by have:=hbi.2 h; simp at this,rfl⟩
 | true=>
  have hh:=hbi.1 rfl;refine .inl ⟨hh,?_⟩;obtain ⟨s0,s1,s2⟩:=id hh;have g0:0<=W0 t (8 * x+4) (8 * y+4):=by unfold FT at s0; omega
  have g1:0<=W1 t (8 * x+4) (8 * y+4):=by unfold FT at s1; omega
  have g2:0<=W2 t (8 * x+4) (8 * y+4):=by unfold FT at s2; omega
  obtain ⟨a1,a2,a3⟩:=aeL hf (8 * x+4) (8 * y+4);obtain ⟨⟨⟨x0,y0,d0,u0,v0⟩,⟨x1,y1,d1,u1,v1⟩,x2,y2,d2,u2,v2⟩,api⟩:=hf;obtain ⟨D,D0,D1⟩:=apr (p:=W0 t (8 * x+4) (8 * y+4)) (q:=W1 t (8 * x+4) (8 * y+4)) (r:=W2 t (8 * x+4) (8 * y+4)) g0 g1 g2 (by omega) d0 d1 d2;have G2:yU t x y=some ((TV t x y).d,0):=by
   unfold yU;rw [E1];exact D
  have G3:vP t x y=some ((TV t x y).u,0):=by
   unfold vP;rw [E1];exact aeK (p:=W0 t (8 * x+4) (8 * y+4)) (q:=W1 t (8 * x+4) (8 * y+4)) (r:=W2 t (8 * x+4) (8 * y+4)) g0 g1 g2 (by omega) d0 d1 d2 u0 u1 u2
  have G4:vQ t x y=some ((TV t x y).v,0):=by
   unfold vQ;rw [E1];exact aeK (p:=W0 t (8 * x+4) (8 * y+4)) (q:=W1 t (8 * x+4) (8 * y+4)) (r:=W2 t (8 * x+4) (8 * y+4)) g0 g1 g2 (by omega) d0 d1 d2 v0 v1 v2
  obtain ⟨⟨p1,p2⟩,p3,p4⟩:=hp;simp only [G2,G3,G4,bj,ai,bc,iR,aw];rw [aj (n:=8 * x),aj (n:=8 * y),aj (n:=8 * x+4),aj (n:=8 * y+4)];exact ⟨rfl,D0,D1⟩
def partsOf (s:Show) (c:az) (i k:Nat):List aF:=Aw c (s.items.get i).look.cw (NN (Au c.ax (Zn c (s.items.get i) k)))
theorem aps {s:Show} {c:az} (h:ij s=some 0):cX s c=jz c:=by
 obtain ⟨f,h3,_⟩:=vo c;have e0:qL s c=some 0:=h;have e1:tC s c=some f:=h3;unfold cX;simp only [e0,e1,bj,bc,ai,hU,aw];exact h3.symm
theorem Ay {s:Show} {c:az} (h:cX s c=some 0):mz c/\∀ i,i < s.items.n->Md (s.items.get i) (s.av.n:Int):=by
 have hc:=KG h;obtain ⟨e,h1,_,h2⟩:=yh c;rw [aps hc,h1] at h;exact ⟨h2.1 (pb h),apq hc⟩
theorem akE {s:Show} {c:az} (h:cX s c=some 0) {i k:Nat} (hi:i < s.items.n) (hk:k < (s.items.get i).bd.n):bB (CZ s c i k)=partsOf s c i k:=by
 obtain ⟨hc,hm⟩:=Ay h;obtain ⟨r,hr,hl⟩:=abd s c i k hi hk hc (hm i hi).full;unfold CZ;rw [hr];exact hl
theorem aik {s:Show} {c:az} (h:cX s c=some 0) {i k n:Nat} (hi:i < s.items.n) (hk:k < (s.items.get i).bd.n) (hn:n < (CZ s c i k).n):DT ((CZ s c i k).get n):=by
 have hm:(CZ s c i k).get n∈bB (CZ s c i k):=FO hn;rw [akE h hi hk] at hm;exact alI hm
def av0 (x y:Int) (p:eF):aL:=⟨(TV p.t x y).d+p.dp.d,p.dp.item,p.dp.aZ,p.dp.part,(TV p.t x y).u,(TV p.t x y).v⟩
theorem ajp {s:Show} {c:az} (h:cX s c=some 0) {x y:Int} (hp:Pix x y) {i k n:Nat} (hi:i < s.items.n) (hk:k < (s.items.get i).bd.n) (hn:n < (CZ s c i k).n) :
  (Vs (CZ s c i k |>.get n) x y/\pf x y (partAt s c i k n)=some (av0 x y (partAt s c i k n)))\/¬ Vs (CZ s c i k |>.get n) x y/\pf x y (partAt s c i k n)=none:=by
 have hf:=aik h hi hk hn;have hl:=Qt ((Ay h).2 i hi).look;unfold pf;show (Vs ((CZ s c i k).get n) x y/\(match kd ((CZ s c i k).get n) x y with | some (sp,e)=>_ | none=>none)=_)\/¬ Vs ((CZ s c i k).get n) x y/\(match kd ((CZ s c i k).get n) x y with | some (sp,e)=>_ | none=>none)=_;rcases abe hf hp with ⟨h1,h2,h3,h4⟩ | ⟨h1,h2⟩
 ·refine .inl ⟨h1,?_⟩
  rw [h2];show cond ((0:Int)==0) (some (⟨ak ((s.items.get i).look.FC+(TV ((CZ s c i k).get n) x y).d),(i:Int),(k:Int),(n:Int),_,_⟩:aL)) none=_;have:=hl.b0; have:=hl.b1;rw [aj (by omega) (by omega),Int.add_comm];rfl
 ·refine .inr ⟨h1,?_⟩
  rw [h2];rfl
def ade (t:bG):Prop:=(1<=t.w/\t.w<=16)/\(1<=t.h/\t.h<=16)/\(t.dF.n:Int)=t.w * t.h
theorem aeM (n:Int):kN n=some (decide (1<=n/\n<=16)):=by
 unfold kN;by_cases h:n > 0
 ·rw [au h,ai]
  congr 1;exact decide_eq_decide.2 (by omega)
 ·rw [ay h,aw,ay (by omega)]
theorem ail (t:bG):(ade t/\eO t=some 0)\/¬ ade t/\eO t=some 8:=by
 have e0:tT t=some (decide (1<=t.w/\t.w<=16)):=aeM _;have e1:tU t=some (decide (1<=t.h/\t.h<=16)):=aeM _;unfold eO;simp only [e0,e1,bj,bc,ai];by_cases h1:1<=t.w/\t.w<=16
 ·rw [au h1,iR,aw]
  by_cases h2:1<=t.h/\t.h<=16
  ·rw [au h2,iR,aw]
   have h3:0<=t.w * t.h/\t.w * t.h<=16 * 16:=⟨wy (by omega) (by omega),CG h1.2 h2.2 (by omega) (by omega)⟩
   rw [aj (by omega) (by omega)];by_cases h4:((t.dF.n:Nat):Int)=t.w * t.h
   ·rw [show (((t.dF.n:Nat):Int) != t.w * t.h)=false by simpa using h4]
    exact .inl ⟨⟨h1,h2,h4⟩,rfl⟩
   ·rw [show (((t.dF.n:Nat):Int) != t.w * t.h)=true by simpa using h4]
    exact .inr ⟨fun h=>h4 h.2.2,rfl⟩
  ·rw [ay h2]
   exact .inr ⟨fun h=>h2 h.2.1,rfl⟩
 ·rw [ay h1]
  exact .inr ⟨fun h=>h1 h.1,rfl⟩
def WV (l:Sl bG):Prop:=∀ i,i < l.n->ade (l.get i)
theorem adf (l:Sl bG) (hn:l.n<=16):∃ e,fY l=some e/\(e=0↔WV l):=by
 obtain ⟨v,hv⟩:=OO (OS l);refine ⟨v,hv,fun h=>?_,fun h=>?_⟩
 ·subst h
  intro i hi;have:=Mc hv i hi;rcases ail (l.get i) with ⟨h1,_⟩ | ⟨_,h2⟩
  ·exact h1
  ·rw [this] at h2; simp at h2
 ·unfold fY at hv
  obtain ⟨e,x',h1,rfl⟩:∃ e x',dJ l = .out e x'/\e = .exit 0:=by
   unfold dJ;refine bt (step:=fK) (fun j x=>x.t9=l/\x.t10=(l.n:Int)/\x.t11=(j:Int)/\j<=l.n) (fun e _=>e = .exit 0) l.n (by have:gv=1000000000000:=rfl; omega) (fun j x hj ⟨h2,h3,h4,h5⟩=>?_) ⟨rfl,rfl,rfl,dq _⟩;have w1:ak (x.t11+1)=x.t11+1:=aj;unfold fK bh;by_cases bu:x.t11 < x.t10
   ·have e0:iX x=some 0:=by
     unfold iX;rw [h2,h4,bU];rcases ail (l.get j) with ⟨_,q⟩ | ⟨q,_⟩
     ·exact q
     ·exact absurd (h j (by omega)) q
    simp only [e0,w1,ai,aw,hU,bC,bj,bc,au bu,au (show (0:Int)<=x.t11 by omega),au (show x.t11 < ((x.t9.n:Nat):Int) by rw [h2]; omega)];exact .inl ⟨_,rfl,by omega,h2,h3,by show x.t11+1=_; omega,by omega⟩
   ·simp only [aw,ay bu]
    exact .inr ⟨_,_,rfl,rfl,rfl⟩
  have b1:(dJ l).by (.exit 0)=true:=by rw [h1]; rfl
  rw [ay (show ¬ ((l.n:Nat):Int) > 16 by omega),aw,b1,ai] at hv;exact (pb hv).symm
def Big (s:Show):Prop:=s.items.n > 256\/s.av.n > 16
def abf (s:Show):Prop:=WV s.av/\∀ i,i < s.items.n->Md (s.items.get i) (s.av.n:Int)
inductive BB (s:Show):Int->Prop where
 | many (h:Big s):BB s 4
 | bad (h : ¬ Big s) (h2 : ¬ abf s):BB s 8
 | ok (h : ¬ Big s) (h2:abf s):BB s 0
theorem BB.one {s:Show} {a b:Int} (h:BB s a) (k:BB s b):a=b:=by
 cases h <;> cases k <;> first | rfl | contradiction
theorem aeN (s:Show):af5 s↔∀ i,i < s.items.n->Md (s.items.get i) (s.av.n:Int):=by
 constructor
 ·intro h i hi
  obtain ⟨b,h5,h6⟩:=Zo (s.items.get i) (s.av.n:Int);have:=h i hi;rw [this] at h5;exact h6.1 (pb h5).symm
 ·intro h i hi
  obtain ⟨b,h5,h6⟩:=Zo (s.items.get i) (s.av.n:Int);rw [h5,h6.2 (h i hi)]
theorem abg (s:Show):∃ e,ij s=some e/\BB s e:=by
 unfold ij;by_cases g1:((s.items.n:Nat):Int) > 256
 ·rw [au g1,ai]
  exact ⟨_,rfl,.many (.inl (by omega))⟩
 by_cases g2:((s.av.n:Nat):Int) > 16
 ·rw [ay g1,au g2,aw,ai]
  exact ⟨_,rfl,.many (.inr (by omega))⟩
 have hb : ¬ Big s:=by unfold Big; omega
 obtain ⟨v,hv,Oh⟩:=adf s.av (by omega);have e0:tB s=some v:=hv;rw [ay g1,ay g2];simp only [e0,ai,aw,bj,bc];by_cases hz:v=0
 ·rw [show (v != (0:Int))=false by simpa using hz,aw]
  obtain ⟨e,x',hx,h⟩:=aeJ s (by omega);rcases h with ⟨rfl,h1,h2⟩ | ⟨rfl,h1⟩
  ·have b1:(dR s).by (.exit 0)=false:=by rw [hx]; rfl
   have b2:(dR s).by .ret=true:=by rw [hx]; rfl
   have b3:(dR s).st=x':=by rw [hx]; rfl
   rw [b1,b2,b3,au h1,aw,ai,ai];exact ⟨_,rfl,.bad hb fun h=>h2 ((aeN s).2 h.2)⟩
  ·have b1:(dR s).by (.exit 0)=true:=by rw [hx]; rfl
   rw [b1,ai];exact ⟨_,rfl,.ok hb ⟨Oh.1 hz,(aeN s).1 h1⟩⟩
 ·rw [show (v != (0:Int))=true by simpa using hz,ai]
  exact ⟨_,rfl,.bad hb fun h=>hz (Oh.2 h.1)⟩
inductive rR (s:Show) (c:az):Int->Prop where
 | nF (e:Int) (h:BB s e) (he:e≠0):rR s c e
 | cam (h:BB s 0) (hc : ¬ mz c):rR s c 150
 | ok (h:BB s 0) (hc:mz c):rR s c 0
theorem rR.one {s:Show} {c:az} {a b:Int} (h:rR s c a) (k:rR s c b):a=b:=by
 rcases h with ⟨_,h1,h2⟩ | ⟨h1,h2⟩ | ⟨h1,h2⟩ <;> rcases k with ⟨_,k1,k2⟩ | ⟨k1,k2⟩ | ⟨k1,k2⟩
 ·exact h1.one k1
 ·exact absurd (h1.one k1) h2
 ·exact absurd (h1.one k1) h2
 ·exact absurd (k1.one h1) k2
 ·rfl
 ·exact absurd k2 h2
 ·exact absurd (k1.one h1) k2
 ·exact absurd h2 k2
 ·rfl
theorem KH (s:Show) (c:az):∃ e,cX s c=some e/\rR s c e:=by
 obtain ⟨e,h1,h2⟩:=abg s;obtain ⟨f,h3,h4,h5⟩:=yh c;have e0:qL s c=some e:=h1;have e1:tC s c=some f:=h3;unfold cX;simp only [e0,e1,bj,bc,ai];by_cases he:e=0
 ·subst he
  refine ⟨f,rfl,?_⟩;by_cases hf:f=0
  ·subst hf; exact .ok h2 (h5.1 rfl)
  ·have:f=150:=by omega
   subst this;exact .cam h2 fun h=>hf (h5.2 h)
 ·rw [show (e != (0:Int))=true by simpa using he]
  exact ⟨e,rfl,.nF e h2 he⟩
structure ux (s s' : Show):Prop where
 n:s'.items.n=s.items.n
 it:∀ i,i < s.items.n->s'.items.get i=s.items.get i
 tn:s'.av.n=s.av.n
 tx:∀ i,i < s.av.n->s'.av.get i=s.av.get i
theorem ux.check {s s' : Show} (h:ux s s') {e:Int} (k:BB s e):BB s' e:=by
 have hb:Big s'↔Big s:=by unfold Big; rw [h.n,h.tn]
 have hg:abf s'↔abf s:=by
  unfold abf WV;rw [h.n,h.tn];constructor
  ·rintro ⟨h1,h2⟩
   exact ⟨fun i hi=>by rw [<- h.tx i hi]; exact h1 i hi,fun i hi=>by rw [<- h.it i hi]; exact h2 i hi⟩
  ·rintro ⟨h1,h2⟩
   exact ⟨fun i hi=>by rw [h.tx i hi]; exact h1 i hi,fun i hi=>by rw [h.it i hi]; exact h2 i hi⟩
 cases k with
 | many q=>exact .many (hb.2 q)
 | bad q r=>exact .bad (fun x=>q (hb.1 x)) (fun x=>r (hg.1 x))
 | ok q r=>exact .ok (fun x=>q (hb.1 x)) (hg.2 r)
theorem ux.asked {s s' : Show} (h:ux s s') {c:az} {e:Int} (k:rR s c e):rR s' c e:=by
 cases k with
 | nF _ q r=>exact .nF e (h.check q) r
 | cam q r=>exact .cam (h.check q) r
 | ok q r=>exact .ok (h.check q) r
theorem alL {s s' : Show} {c:az} {i i' : Nat} (k:Int) (hi:i < s.items.n) (Yq:i' < s'.items.n) (h:s'.items.get i' = s.items.get i):jD s' c (i' : Int) k=jD s c (i:Int) k:=by
 have e0:oU s' c i' k=oU s c i k:=by unfold oU; rw [bU,bU,h]
 have e1:oV s' c i' k=oV s c i k:=by unfold oV; rw [bU,bU,h]
 have e2:oW s' c i' k=oW s c i k:=by unfold oW; rw [bU,bU,h]
 have e3:mS s' c i' k=mS s c i k:=by unfold mS; rw [e0,e1,e2,bU,bU,h]
 have e4:hQ s' c i' k=hQ s c i k:=by unfold hQ; rw [e3,bU,bU,h]
 unfold jD bh;rw [e0,e1,e2,e3,e4,bU,bU,h,au (show (i' : Int) < ((s'.items.n:Nat):Int) by omega),au (show (i:Int) < ((s.items.n:Nat):Int) by omega),au (show 0<=(i:Int) by omega),au (show 0<=(i' : Int) by omega)]
theorem NP {α β:Type} {f g:α->List β} : ∀ {l:List α},(∀ a∈l,f a=g a)->l.flatMap f=l.flatMap g
 | [],_=>rfl
 | a::l,h=>by rw [List.flatMap_cons,List.flatMap_cons,h a (Kj ..),NP fun b hb=>h b (wh _ hb)]
theorem ux.all {s s' : Show} (h:ux s s') (c:az):gx s' c=gx s c:=by
 unfold gx;rw [h.n];refine NP fun i hi=>?_;have hi:=A6.1 hi;unfold Jp;rw [h.it i hi];refine NP fun k hk=>?_;have hp:CZ s' c i k=CZ s c i k:=by
  unfold CZ;rw [alL (s:=s) (s':=s') (k:Int) hi (by rw [h.n]; exact hi) (h.it i hi)]
 unfold NL;rw [hp];refine List.map_congr_left fun a _=>?_;unfold partAt;rw [hp,h.it i hi]
theorem ux.item {s s' : Show} (h:ux s s') {f:aL} (h0:0<=f.item/\f.item < (s.items.n:Int)):s'.items.get (Int.toNat f.item)=s.items.get (Int.toNat f.item):=h.it _ (by omega)
end Go.Proofs.YtchbpckkmgcgkaaGreat.b
end
