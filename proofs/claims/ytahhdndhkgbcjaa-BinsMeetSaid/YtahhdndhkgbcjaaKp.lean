/- Part of the proof of BinsMeet: a machine that runs the program's code over open terms, shown to be the model's, and the plain models of its functions. No conditions. -/
import Derived.Test.YtahhdndhkgbcjaaJp
import Derived.Below
import Derived.ChangeSame
import Derived.ProofKit
import Derived.Test.YtahhdndhkgbcjaaIp
import Derived.WideKeyArgs
section
namespace Go.Proofs.Ytahhdndhkgbcjaa.b
open Go.K
open Go.aV (au)
theorem fS {α:Type} {c:Bool} {a b:Option α} (ha:c=true→a.isSome=true) (hb:c=false→b.isSome=true):(cond c a b).isSome=true:=by
  cases c with
  | true=>exact ha rfl
  | false=>exact hb rfl
theorem agY {α:Type} {a:Option α} (h:∃ r,a=some r):a.isSome=true:=by obtain ⟨r,h⟩:=h; rw [h]; rfl
theorem agZ {α:Type} {a:Option α} (h:a.isSome=true):∃ r,a=some r:=Option.isSome_iff_exists.1 h
theorem Ay (p:bg):(gA p).isSome=true:=by
  unfold gA
  repeat' (refine fS (fun _=>?_) (fun _=>?_))
  all_goals rfl
theorem aeR (aA:Int) (l:Sl bg) (hn:l.n≤1000):(nS aA l).isSome=true:=by
  obtain ⟨e,x',h1,h2⟩:=ew (step:=fX) (x:=⟨0,l,((l.n:Nat):Int),(0:Int)⟩)
    (fun j x=>x=⟨0,l,((l.n:Nat):Int),(j:Int)⟩∧j≤l.n)
    (fun e _=>e = .exit 0∨e = .ret) l.n (by have:o4=1000000000000:=rfl; omega)
    (fun j x hj ⟨hx,hle⟩=>by
      subst hx
      unfold fX
      by_cases aY:j < l.n
      · have e1:decide ((j:Int) < ((l.n:Nat):Int))=true:=decide_eq_true (by omega)
        have e2:decide ((0:Int)≤(j:Int))=true:=decide_eq_true (by omega)
        obtain ⟨r,hr⟩:=agZ (Ay (l.get j))
        have e3:nc ⟨0,l,((l.n:Nat):Int),(j:Int)⟩=some r:=hr
        simp only [e1,e2,e3,cond_true,Bool.and_self,Option.isSome_some,Option.getD_some]
        cases (r != (0:Int)) with
        | true=>right; exact ⟨_,_,rfl,rfl,.inr rfl⟩
        | false=>
          left
          refine ⟨_,rfl,by omega,?_,by omega⟩
          rw [a7 (by omega) (by omega)]; rfl
      · have e1:decide ((j:Int) < ((l.n:Nat):Int))=false:=decide_eq_false (by omega)
        simp only [e1,cond_false]
        right
        exact ⟨_,_,rfl,rfl,.inl rfl⟩)
    ⟨rfl,by omega⟩
  have h0:ra aA l = .out e x':=h1
  unfold nS
  rw [h0,bK.HF,bK.HF,bK.Zk]
  refine fS (fun _=>rfl) (fun _=>fS (fun _=>rfl) (fun _=>?_))
  rcases h2 with rfl | rfl <;> rfl
theorem qa (a b:Int):(b6 a b).isSome=true:=agY (wA a b)
theorem ah5 (aA:Int) (a b:bg):(cE aA a b).isSome=true:=by
  have e0:(qK aA a b).isSome=true:=aeR _ _ (show 2≤1000 by omega)
  have e1:(Ai aA a b).isSome=true:=qa _ _
  have e2:(Aj aA a b).isSome=true:=qa _ _
  have e3:(Ak aA a b).isSome=true:=qa _ _
  have e4:(Al aA a b).isSome=true:=qa _ _
  unfold cE
  simp only [e0,e1,e2,e3,e4,cond_true]
  repeat' (refine fS (fun _=>?_) (fun _=>?_))
  all_goals rfl
theorem ag0 (m:dN):(sF m).isSome=true:=by
  unfold sF
  repeat' (refine fS (fun _=>?_) (fun _=>?_))
  all_goals rfl
theorem ag1 (m:dN) (v:dc):(sG m v).isSome=true:=by
  have e0:(Ae m v).isSome=true:=qa _ _
  have e1:(Af m v).isSome=true:=qa _ _
  have e2:(Ag m v).isSome=true:=qa _ _
  unfold sG
  simp only [e0,e1,e2,cond_true]
  rfl
theorem ajq (iv:Int) (l:Sl Int) (hn:l.n≤1000) (hm:0≤iv∧iv≤1000000):(sD iv l).isSome=true:=by
  obtain ⟨b,h,_⟩:=abu iv l hn hm
  rw [h]; rfl
theorem ag2 (m:dN) (v:ct):(sH m v).isSome=true:=by
  have e0:(Ah m v).isSome=true:=ag0 _
  have e1:(vG m v).isSome=true:=ajq _ _ (show 3≤1000 by omega) (by omega)
  have e2:(qJ m v).isSome=true:=ag1 _ _
  unfold sH
  simp only [e0,e1,e2,cond_true]
  repeat' (refine fS (fun _=>?_) (fun _=>?_))
  all_goals rfl
theorem NS (v:ct):(j5 v).isSome=true:=by obtain ⟨e,h,_⟩:=GV v; rw [h]; rfl
theorem VG (n a b:Int):bL n a b=some (decide (a≤n∧n≤b)):=by
  unfold bL
  by_cases h:n ≥ a
  · simp only [decide_eq_true h,cond_true]
    congr 1
    by_cases h2:n≤b
    · rw [decide_eq_true h2,decide_eq_true ⟨h,h2⟩]
    · rw [decide_eq_false h2,decide_eq_false (fun q=>h2 q.2)]
  · simp only [decide_eq_false h,cond_false]
    rw [decide_eq_false (fun q=>h q.1)]
def KI (c:aI):Prop:=Zm c.pos∧(1≤c.Pm∧c.Pm≤64)∧(256≤c.aA∧c.aA≤4096)∧(1≤c.w∧c.w≤64)∧1≤c.h∧c.h≤64
theorem oC (c:aI):∃ e,eP c=some e∧(e=0→KI c):=by
  obtain ⟨e,h1,h2⟩:=GV c.pos
  unfold eP tD tE tF tG tH tI tJ tK tL tM rN rO rP rQ
  simp only [VG,h1,Option.isSome_some,Option.getD_some,cond_true]
  have key:∀ (b:Bool) (r:Option Int),(b=true→∃ e,r=some e∧(e=0→KI c))→∃ e,cond b r (some 150)=some e∧(e=0→KI c):=by
    intro b r h
    cases b with
    | true=>exact h rfl
    | false=>exact ⟨150,rfl,fun h=>by omega⟩
  refine key _ _ fun g0=>key _ _ fun g1=>key _ _ fun g2=>key _ _ fun g3=>key _ _ fun g4=>?_
  have bH:KI c:=by
    simp only [decide_eq_true_eq] at g1 g2 g3 g4
    exact ⟨h2.1 (by simpa using g0),g1,g2,g3,g4⟩
  repeat' (refine key _ _ fun _=>?_)
  cases (!decide (-256≤c.m.e2.e2∧c.m.e2.e2≤256)) with
  | true=>exact ⟨150,rfl,fun h=>by omega⟩
  | false=>exact ⟨0,rfl,fun _=>bH⟩
theorem RX (c:aI):(eP c).isSome=true:=by obtain ⟨e,h,_⟩:=oC c; rw [h]; rfl
theorem VH (c:aI) (v:ct):(jw c v).isSome=true:=by
  have e0:(pJ c v).isSome=true:=RX _
  have e1:(pK c v).isSome=true:=NS _
  have e2:(pL c v).isSome=true:=ag2 _ _
  unfold jw
  simp only [e0,e1,e2,cond_true]
  repeat' (refine fS (fun _=>?_) (fun _=>?_))
  all_goals rfl
theorem aby (t:aF):(ji t).isSome=true:=by
  rcases GW t with ⟨_,h⟩ | ⟨_,e,h,_⟩ <;> rw [h] <;> rfl
theorem aeS (t:aF) (k:Int):(nQ t k).isSome=true:=by
  have e0:(jK t k).isSome=true:=aby t
  unfold nQ
  simp only [e0,cond_true]
  repeat' (refine fS (fun _=>?_) (fun _=>?_))
  all_goals rfl
theorem aeT (t:aF):(nR t).isSome=true:=by
  have e0:(kV t).isSome=true:=aby t
  unfold nR
  simp only [e0,cond_true]
  repeat' (refine fS (fun _=>?_) (fun _=>?_))
  all_goals rfl
theorem Zq (c:aI) (w:dR):∃ e,kf c w=some e∧(e=0→eP c=some 0∧KI c∧(0≤w.x0∧w.x0≤w.x1∧w.x1 < c.w)∧0≤w.y0∧w.y0≤w.y1∧w.y1 < c.h):=by
  obtain ⟨e,h1,h2⟩:=oC c
  unfold kf nb rR rS
  simp only [VG,h1,Option.isSome_some,Option.getD_some,cond_true]
  by_cases he:e=0
  · subst he
    have hc:=h2 rfl
    obtain ⟨_,_,_,hw,hh⟩:=hc
    rw [a7 (n:=c.w - 1) (by omega) (by omega),a7 (n:=c.h - 1) (by omega) (by omega)]
    simp only [bne_self_eq_false,cond_false]
    cases g1:decide (max 0 w.x0≤w.x1∧w.x1≤c.w - 1) with
    | false=>exact ⟨2,rfl,fun h=>by omega⟩
    | true=>
      cases g2:decide (max 0 w.y0≤w.y1∧w.y1≤c.h - 1) with
      | false=>exact ⟨2,rfl,fun h=>by omega⟩
      | true=>
        simp only [decide_eq_true_eq] at g1 g2
        cases g3:decide (w.x0 < 0) with
        | true=>exact ⟨2,rfl,fun h=>by omega⟩
        | false=>
          cases g4:decide (w.y0 < 0) with
          | true=>exact ⟨2,rfl,fun h=>by omega⟩
          | false=>
            simp only [decide_eq_false_iff_not] at g3 g4
            exact ⟨0,rfl,fun _=>⟨trivial,h2 rfl,by omega,by omega⟩⟩
  · have:(e != (0:Int))=true:=by simpa using he
    rw [this]
    exact ⟨e,rfl,fun h=>absurd h he⟩
end Go.Proofs.Ytahhdndhkgbcjaa.b
end
section
namespace Go.Proofs.Ytahhdndhkgbcjaa.b
open Go.K
open Go.aV (au)
theorem Dv {b n m:Nat} (hb:b≤1000) (hn:n≤1000000) (hm:0 < m∧m≤1000):cL b n m=true:=xz (by omega) (by omega) (by omega) (.inl hm.1)
def NQ (j:Nat) (x:aj) (r:bK aj):Prop:=∃ x',r = .next x'∧x'.t23=((j+1:Nat):Int)∧x'.l.n≤x.l.n+2∧x'.out=x.out∧x'.aA=x.aA
theorem NQ.cond {j:Nat} {x:aj} {c:Bool} {a b:bK aj} (h1:c=true→NQ j x a) (h2:c=false→NQ j x b):NQ j x (_root_.cond c a b):=by
  cases c with
  | true=>exact h1 rfl
  | false=>exact h2 rfl
theorem acS (j:Nat) (hj:j < 3) (x:aj) (hx:x.t23=(j:Int)) (hl:x.l.n≤10):NQ j x (dW x):=by
  have c:∀ (aA:Int) (a b:bg),(cE aA a b).isSome=true:=ah5
  have e0:(rU x).isSome=true:=c _ _ _
  have e1:(rV x).isSome=true:=c _ _ _
  have e2:(rW x).isSome=true:=c _ _ _
  have e3:(rX x).isSome=true:=c _ _ _
  have e4:(rY x).isSome=true:=c _ _ _
  have e5:(rZ x).isSome=true:=c _ _ _
  have e6:(r5 x).isSome=true:=c _ _ _
  have e7:(r6 x).isSome=true:=c _ _ _
  have e8:(r7 x).isSome=true:=c _ _ _
  have e9:(r8 x).isSome=true:=c _ _ _
  have e10:(qi x).isSome=true:=c _ _ _
  have e11:(qj x).isSome=true:=c _ _ _
  have e12:(qk x).isSome=true:=c _ _ _
  have e13:(ql x).isSome=true:=c _ _ _
  have e14:(qm x).isSome=true:=c _ _ _
  have e15:(qn x).isSome=true:=c _ _ _
  have e16:(qo x).isSome=true:=c _ _ _
  have e17:(qp x).isSome=true:=c _ _ _
  have a1:cL 40 x.l.n 1=true:=Dv (by omega) (by omega) (by omega)
  have a2:cL 40 (x.l.n+1) 1=true:=Dv (by omega) (by omega) (by omega)
  have hw:aH ((j:Int)+1)=((j+1:Nat):Int):=by rw [a7 (by omega) (by omega)]; rfl
  unfold dW
  simp only [e0,e1,e2,e3,e4,e5,e6,e7,e8,e9,e10,e11,e12,e13,e14,e15,e16,e17,a1,a2,eI,cond_true,Bool.and_self,hx,hw]
  match j,hj with
  | 0,_=>
    have d1:decide (((0:Nat):Int) < 3)=true:=by decide
    have d2:decide (((0:Nat):Int)=0)=true:=by decide
    have d3:decide (Int.tmod ((0+1:Nat):Int) 3=0)=false:=by decide
    have d4:decide (Int.tmod ((0+1:Nat):Int) 3=1)=true:=by decide
    simp only [d1,d2,d3,d4,cond_true,cond_false]
    repeat' (refine NQ.cond (fun _=>?_) (fun _=>?_))
    all_goals exact ⟨_,rfl,rfl,by first | (simp only [Sl.ui]; omega) | omega,rfl,rfl⟩
  | 1,_=>
    have d1:decide (((1:Nat):Int) < 3)=true:=by decide
    have d2:decide (((1:Nat):Int)=0)=false:=by decide
    have d5:decide (((1:Nat):Int)=1)=true:=by decide
    have d3:decide (Int.tmod ((1+1:Nat):Int) 3=0)=false:=by decide
    have d4:decide (Int.tmod ((1+1:Nat):Int) 3=1)=false:=by decide
    have d6:decide (Int.tmod ((1+1:Nat):Int) 3=2)=true:=by decide
    simp only [d1,d2,d3,d4,d5,d6,cond_true,cond_false]
    repeat' (refine NQ.cond (fun _=>?_) (fun _=>?_))
    all_goals exact ⟨_,rfl,rfl,by first | (simp only [Sl.ui]; omega) | omega,rfl,rfl⟩
  | 2,_=>
    have d1:decide (((2:Nat):Int) < 3)=true:=by decide
    have d2:decide (((2:Nat):Int)=0)=false:=by decide
    have d5:decide (((2:Nat):Int)=1)=false:=by decide
    have d7:decide (((2:Nat):Int)=2)=true:=by decide
    have d3:decide (Int.tmod ((2+1:Nat):Int) 3=0)=true:=by decide
    simp only [d1,d2,d3,d5,d7,cond_true,cond_false]
    repeat' (refine NQ.cond (fun _=>?_) (fun _=>?_))
    all_goals exact ⟨_,rfl,rfl,by first | (simp only [Sl.ui]; omega) | omega,rfl,rfl⟩
theorem Xv (aA:Int) (t:bZ):∃ x',bC aA t = .out (.exit 0) x'∧x'.l.n≤6∧x'.out.n=0:=by
  have key:∀ x:aj,_→_:=fun x h0=>ew (x:=x) (h0:=h0) (step:=dW) (fun j x=>x.t23=(j:Int)∧x.l.n≤2 * j∧x.out.n=0) (fun e x=>e = .exit 0∧x.l.n≤6∧x.out.n=0) 3 (by decide)
    (fun j x hj ⟨hx,hl,ho⟩=>by
      by_cases h:j < 3
      · obtain ⟨x',h1,h2,h3,h4,_⟩:=acS j h x hx (by omega)
        exact .inl ⟨x',h1,h,h2,by omega,by rw [h4]; exact ho⟩
      · have h3:j=3:=by omega
        subst h3
        refine .inr ⟨.exit 0,x,?_,rfl,rfl,by omega,ho⟩
        unfold dW
        simp only [hx,eI,cond_true,show decide (((3:Nat):Int) < 3)=false from by decide,cond_false])
  have fin:∃ e x',bC aA t = .out e x'∧(e = .exit 0∧x'.l.n≤6∧x'.out.n=0):=by
    unfold bC
    exact key _ ⟨rfl,Nat.le_refl _,rfl⟩
  obtain ⟨e,x',h1,rfl,h2,h3⟩:=fin
  exact ⟨x',h1,h2,h3⟩
theorem aeU (aA:Int) (t:bZ):∃ x',en aA t = .out (.exit 2) x'∧x'.out.n≤6:=by
  obtain ⟨y,hy,hl,ho⟩:=Xv aA t
  have key:∀ x:ek,_→_:=fun x h0=>ew (x:=x) (h0:=h0) (step:=fY) (fun j x=>x.i=((2+j:Nat):Int)∧x.l.n≤6∧x.out.n=j∧(x.i≤(x.l.n:Int)∨j=0)) (fun e x=>e = .exit 2∧x.out.n≤6) 6 (by decide)
    (fun j x hj ⟨hx,hl,ho,hi⟩=>by
      unfold fY
      by_cases h:x.i < ((x.l.n:Nat):Int)
      · have w1:aH (x.i - 1)=x.i - 1:=a7 (by omega) (by omega)
        have w2:aH (x.i+1)=x.i+1:=a7 (by omega) (by omega)
        have a1:cL 120 x.out.n 1=true:=Dv (by omega) (by omega) (by omega)
        refine .inl ⟨⟨(x.out.push (⟨(x.l.get 0),(x.l.get (Int.toNat (aH (x.i - (1:Int))))),(x.l.get (Int.toNat x.i))⟩:bZ)),x.l,(aH (x.i+(1:Int)))⟩,?_,by omega,?_,hl,?_,?_⟩
        · simp only [w1,w2,a1,eI,cond_true,Bool.and_self,decide_eq_true h,decide_eq_true (show (0:Int) < ((x.l.n:Nat):Int) by omega),decide_eq_true (show (0:Int)≤x.i - 1 by omega),decide_eq_true (show x.i - 1 < ((x.l.n:Nat):Int) by omega),decide_eq_true (show (0:Int)≤x.i by omega)]
        · show aH (x.i+1)=_
          omega
        · simp only [Sl.ui]; omega
        · exact .inl (by show aH (x.i+1)≤((x.l.n:Nat):Int); omega)
      · refine .inr ⟨.exit 2,x,?_,rfl,rfl,by omega⟩
        simp only [eI,cond_true,cond_false,decide_eq_false h])
  have fin:∃ e x',en aA t = .out e x'∧(e = .exit 2∧x'.out.n≤6):=by
    unfold en
    rw [hy]
    exact key _ ⟨rfl,hl,ho,.inr rfl⟩
  obtain ⟨e,x',h1,rfl,h2⟩:=fin
  exact ⟨x',h1,h2⟩
theorem ag3 (aA:Int) (t:bZ):∃ r,pR aA t=some r∧r.1.n≤6:=by
  obtain ⟨y,hy,hl,ho⟩:=Xv aA t
  obtain ⟨z,hz,hn⟩:=aeU aA t
  have c:∀ (p:bg),(gA p).isSome=true:=Ay
  have e0:(o6 aA t).isSome=true:=c _
  have e3:(o7 aA t).isSome=true:=c _
  have e4:(o8 aA t).isSome=true:=c _
  unfold pR
  have b1:(bC aA t).by (.exit 0)=true:=by rw [hy]; rfl
  have b2:(en aA t).by (.exit 2)=true:=by rw [hz]; rfl
  have s2:(en aA t).st=z:=by rw [hz]; rfl
  simp only [e0,e3,e4,b1,b2,s2,eI,cond_true]
  have q:∀ {c:Bool} {a b:Option (Sl bZ×Int)},(∃ r,a=some r∧r.1.n≤6)→(∃ r,b=some r∧r.1.n≤6)→∃ r,_root_.cond c a b=some r∧r.1.n≤6:=fun {c} {a} {b} h1 h2=>by
    cases c with
    | true=>exact h1
    | false=>exact h2
  repeat' (refine q ?_ ?_)
  all_goals first | exact ⟨_,rfl,Nat.zero_le _⟩ | exact ⟨(z.out,0),rfl,hn⟩
end Go.Proofs.Ytahhdndhkgbcjaa.b
end
section
namespace Go.Proofs.Ytahhdndhkgbcjaa.b
open Go.K
open Go.aV (au)
theorem PV (c:aI) (p:bg):(kc c p).isSome=true:=by
  obtain ⟨e,h1,h2⟩:=oC c
  have e0:rf c p=some e:=h1
  have e1:(rh c p).isSome=true:=Ay _
  have e2:(wW c p).isSome=true:=qa _ _
  have e3:(wX c p).isSome=true:=qa _ _
  unfold kc
  simp only [e0,e1,e2,e3,cond_true,Option.isSome_some,Option.getD_some]
  refine fS (fun _=>rfl) (fun he=>fS (fun _=>rfl) (fun _=>fS (fun _=>rfl) (fun hz=>?_)))
  have wJ:e=0:=by simpa using he
  obtain ⟨_,_,hn,_⟩:=h2 wJ
  have hz' : ¬ p.p.z < c.aA:=of_decide_eq_false hz
  have q:decide (p.p.z=(0:Int))=false:=decide_eq_false (by omega)
  rw [q]
  rfl
def Ej (x:Item):Prop:=x.uV.n=x.dH.n∧∀ i,i < x.cZ.n→(0≤(x.cZ.get i).e0∧(x.cZ.get i).e0 < (x.dH.n:Int))∧(0≤(x.cZ.get i).e1∧(x.cZ.get i).e1 < (x.dH.n:Int))∧0≤(x.cZ.get i).e2∧(x.cZ.get i).e2 < (x.dH.n:Int)
theorem acT (x:bP) (h0:x.t74=0) (h1:x.t73=(x.t72.n:Int)) (h2:x.t72.n≤6) (h3:x.out.n=0):∃ x',goN dS x = .out (.exit 2) x'∧x'.out.n≤6:=by
  have key:=ew (step:=dS) (x:=x) (fun j x=>x.t74=(j:Int)∧x.t73=(x.t72.n:Int)∧x.t72.n≤6∧x.out.n≤j∧j≤x.t72.n) (fun e x=>e = .exit 2∧x.out.n≤6) 6 (by decide)
    (fun j x hj ⟨hx,ht,hn,ho,hjn⟩=>by
      have e0:(lu x).isSome=true:=PV _ _
      have e1:(lv x).isSome=true:=PV _ _
      have e2:(ly x).isSome=true:=PV _ _
      have e3:(lz x).isSome=true:=aeS _ _
      have e4:(pb x).isSome=true:=aeT _
      have w1:aH (x.t74+1)=x.t74+1:=a7 (by omega) (by omega)
      have a1:cL 120 x.out.n 1=true:=Dv (by omega) (by omega) (by omega)
      unfold dS
      by_cases h:x.t74 < x.t73
      · simp only [e0,e1,e2,e3,e4,w1,a1,eI,cond_true,Bool.and_self,decide_eq_true h,decide_eq_true (show (0:Int)≤x.t74 by omega),decide_eq_true (show x.t74 < ((x.t72.n:Nat):Int) by omega)]
        left
        cases ((lz x).getD default).fst with
        | true=>exact ⟨_,rfl,by omega,by show x.t74+1=_; omega,ht,hn,by simp only [Sl.ui]; omega,by show j+1≤x.t72.n; omega⟩
        | false=>exact ⟨_,rfl,by omega,by show x.t74+1=_; omega,ht,hn,by show x.out.n≤_; omega,by show j+1≤x.t72.n; omega⟩
      · simp only [eI,cond_true,cond_false,decide_eq_false h]
        exact .inr ⟨_,_,rfl,rfl,rfl,by omega⟩)
    ⟨h0,h1,h2,by omega,Nat.zero_le _⟩
  obtain ⟨e,x',h1,rfl,h2⟩:=key
  exact ⟨x',h1,h2⟩
theorem Q3 (s:Show) (c:aI) (i j:Nat) (hi:i < s.items.n) (hj:j < (s.items.get i).cZ.n) (ok:Ej (s.items.get i)):∃ r,c6 s c (i:Int) (j:Int)=some r∧r.n≤6:=by
  obtain ⟨hu,hv⟩:=ok
  obtain ⟨⟨v1,v2⟩,⟨v3,v4⟩,v5,v6⟩:=hv j hj
  have e0:(vd s c i j).isSome=true:=VH _ _
  have e1:(ve s c i j).isSome=true:=VH _ _
  have e2:(vf s c i j).isSome=true:=VH _ _
  obtain ⟨r,hr,hn⟩:∃ r,pV s c i j=some r∧r.1.n≤6:=ag3 _ _
  obtain ⟨z,hz,CP⟩:∃ x',kl s c i j = .out (.exit 2) x'∧x'.out.n≤6:=by
    unfold kl
    rw [hr]
    exact acT _ rfl rfl hn rfl
  have b1:(kl s c i j).by (.exit 2)=true:=by rw [hz]; rfl
  have b2:(kl s c i j).st=z:=by rw [hz]; rfl
  refine ⟨z.out,?_,CP⟩
  unfold c6
  simp only [e0,e1,e2,hr,b1,b2,hu,Int.toNat_natCast,Option.isSome_some,cond_true,Bool.and_self,decide_eq_true v1,decide_eq_true v2,decide_eq_true v3,decide_eq_true v4,decide_eq_true v5,decide_eq_true v6,decide_eq_true (show (0:Int)≤(i:Int) by omega),decide_eq_true (show (0:Int)≤(j:Int) by omega),decide_eq_true (show (i:Int) < ((s.items.n:Nat):Int) by omega),decide_eq_true (show (j:Int) < (((s.items.get i).cZ.n:Nat):Int) by omega)]
end Go.Proofs.Ytahhdndhkgbcjaa.b
end
section
namespace Go.Proofs.Ytahhdndhkgbcjaa.b
open Go.K
open Go.aV (au)
theorem PW (n:Int):(sI n).isSome=true:=by
  unfold sI
  exact fS (fun _=>rfl) (fun _=>rfl)
theorem ah6 (l:Sl ct) (hn:l.n≤4096):∃ e x',dw l = .out e x'∧(e = .ret∨e = .exit 0∧x'.l=l):=by
  unfold dw
  refine ew (step:=jM) (fun j x=>x.l=l∧x.t17=l∧x.t18=(l.n:Int)∧x.t19=(j:Int)∧j≤l.n) (fun e x'=>e = .ret∨e = .exit 0∧x'.l=l) l.n (by have:o4=1000000000000:=rfl; omega) (fun j x hj ⟨h1,h2,h3,h4,h5⟩=>?_) ⟨rfl,rfl,rfl,rfl,Nat.zero_le _⟩
  have e0:(tP x).isSome=true:=PW _
  have e1:(tQ x).isSome=true:=PW _
  have e2:(tR x).isSome=true:=PW _
  have w1:aH (x.t19+1)=x.t19+1:=a7 (by omega) (by omega)
  unfold jM
  by_cases h:x.t19 < x.t18
  · simp only [e0,e1,e2,w1,cond_true,Bool.and_self,decide_eq_true h,decide_eq_true (show (0:Int)≤x.t19 by omega),decide_eq_true (show x.t19 < ((x.t17.n:Nat):Int) by rw [h2]; omega)]
    cases (!((tP x).getD default)) with
    | true=>exact .inr ⟨_,_,rfl,rfl,.inl rfl⟩
    | false=>
      cases (!((tQ x).getD default)) with
      | true=>exact .inr ⟨_,_,rfl,rfl,.inl rfl⟩
      | false=>
        cases (!((tR x).getD default)) with
        | true=>exact .inr ⟨_,_,rfl,rfl,.inl rfl⟩
        | false=>exact .inl ⟨_,rfl,by omega,h1,h2,h3,by show x.t19+1=_; omega,by omega⟩
  · simp only [cond_false,decide_eq_false h]
    exact .inr ⟨_,_,rfl,rfl,.inr ⟨rfl,h1⟩⟩
theorem ag4 (x:gC) (hn:x.t49.n≤4096) (h0:x.t50=(x.t49.n:Int)) (h1:x.t51=0):∃ x',goN gZ x = .out (.exit 2) x':=by
  obtain ⟨e,x',h,rfl⟩:=ew (step:=gZ) (x:=x) (fun j y=>y.t49=x.t49∧y.t50=(x.t49.n:Int)∧y.t51=(j:Int)∧j≤x.t49.n) (fun e _=>e = .exit 2) x.t49.n (by have:o4=1000000000000:=rfl; omega) (fun j y hj ⟨h2,h3,h4,h5⟩=>by
    have w1:aH (y.t51+1)=y.t51+1:=a7 (by omega) (by omega)
    unfold gZ
    by_cases h:y.t51 < y.t50
    · simp only [w1,cond_true,Bool.and_self,decide_eq_true h,decide_eq_true (show (0:Int)≤y.t51 by omega),decide_eq_true (show y.t51 < ((y.t49.n:Nat):Int) by rw [h2]; omega)]
      exact .inl ⟨_,rfl,by omega,h2,h3,by show y.t51+1=_; omega,by omega⟩
    · simp only [cond_false,decide_eq_false h]
      exact .inr ⟨_,_,rfl,rfl,rfl⟩) ⟨rfl,h0,h1,Nat.zero_le _⟩
  exact ⟨x',h⟩
theorem aeV (l:Sl ct):(xJ l).isSome=true:=by
  unfold xJ
  refine fS (fun _=>rfl) (fun h0=>fS (fun _=>rfl) (fun h1=>?_))
  have hz:l.n≠0:=fun h=>by
    rw [h] at h0
    exact absurd h0 (by decide)
  have hn:l.n≤4096:=by
    have:=of_decide_eq_false h1
    omega
  obtain ⟨e,x',hx,h⟩:=ah6 l hn
  rcases h with rfl | ⟨rfl,hl⟩
  · have b1:(dw l).by (.exit 0)=false:=by rw [hx]; rfl
    have b2:(dw l).by .ret=true:=by rw [hx]; rfl
    simp only [b1,b2,cond_true,cond_false]
    rfl
  · have b1:(dw l).by (.exit 0)=true:=by rw [hx]; rfl
    have b2:(dw l).st.l=l:=by rw [hx]; exact hl
    obtain ⟨y,hy⟩:∃ y,wo l = .out (.exit 2) y:=by
      unfold wo
      simp only [b2]
      exact ag4 _ (by show Int.toNat _ - 1≤4096; omega) rfl rfl
    have b3:(wo l).by (.exit 2)=true:=by rw [hy]; rfl
    simp only [b1,b2,b3,cond_true,Bool.and_self,decide_eq_true (show (0:Int) < ((l.n:Nat):Int) by omega),decide_eq_true (show (1:Int)≤((l.n:Nat):Int) by omega),decide_eq_true (show ((l.n:Nat):Int)≤((l.n:Nat):Int) by omega)]
    rfl
theorem abz (n:Int):(jN n).isSome=true:=by
  unfold jN
  exact fS (fun _=>rfl) (fun _=>rfl)
theorem Zr (t:eo):(kk t).isSome=true:=by
  have e0:(r9 t).isSome=true:=abz _
  have e1:(sa t).isSome=true:=abz _
  unfold kk
  simp only [e0,e1,cond_true]
  repeat' (refine fS (fun _=>?_) (fun _=>?_))
  all_goals rfl
theorem Wy (l:Sl eo):(jD l).isSome=true:=by
  unfold jD
  refine fS (fun _=>rfl) (fun h0=>?_)
  have hn:l.n≤16:=by
    have:=of_decide_eq_false h0
    omega
  obtain ⟨e,x',h1,h2⟩:∃ e x',eV l = .out e x'∧(e = .ret∨e = .exit 0):=by
    unfold eV
    refine ew (step:=ep) (fun j x=>x.t9=l∧x.t10=(l.n:Int)∧x.t11=(j:Int)∧j≤l.n) (fun e _=>e = .ret∨e = .exit 0) l.n (by have:o4=1000000000000:=rfl; omega) (fun j x hj ⟨h2,h3,h4,h5⟩=>?_) ⟨rfl,rfl,rfl,Nat.zero_le _⟩
    have e0:(iA x).isSome=true:=Zr _
    have w1:aH (x.t11+1)=x.t11+1:=a7 (by omega) (by omega)
    unfold ep
    by_cases h:x.t11 < x.t10
    · simp only [e0,w1,cond_true,Bool.and_self,decide_eq_true h,decide_eq_true (show (0:Int)≤x.t11 by omega),decide_eq_true (show x.t11 < ((x.t9.n:Nat):Int) by rw [h2]; omega)]
      cases (((iA x).getD default) != (0:Int)) with
      | true=>exact .inr ⟨_,_,rfl,rfl,.inl rfl⟩
      | false=>exact .inl ⟨_,rfl,by omega,h2,h3,by show x.t11+1=_; omega,by omega⟩
    · simp only [cond_false,decide_eq_false h]
      exact .inr ⟨_,_,rfl,rfl,.inr rfl⟩
  rcases h2 with rfl | rfl
  · have b1:(eV l).by (.exit 0)=false:=by rw [h1]; rfl
    have b2:(eV l).by .ret=true:=by rw [h1]; rfl
    simp only [b1,b2,cond_true,cond_false]
    rfl
  · have b1:(eV l).by (.exit 0)=true:=by rw [h1]; rfl
    simp only [b1,cond_true]
    rfl
theorem ag5 (l:yy) (t:Int):(ja l t).isSome=true:=by
  unfold ja
  repeat' (refine fS (fun _=>?_) (fun _=>?_))
  all_goals rfl
end Go.Proofs.Ytahhdndhkgbcjaa.b
end
section
namespace Go.Proofs.Ytahhdndhkgbcjaa.b
open Go.K
open Go.aV (au)
theorem ag6 (x:Item) (t:Int) (hn:x.dH.n≤64) (hu:x.uV.n=x.dH.n):∃ e x',dq x t = .out e x'∧(e = .ret∧x'.t4=false∨e = .exit 0∧x'.n=(x.dH.n:Int)∧x'.x=x∧x'.t4=false):=by
  unfold dq
  refine ew (step:=fZ) (fun j y=>y.x=x∧y.t38=x.dH∧y.t39=(x.dH.n:Int)∧y.t40=(j:Int)∧j≤x.dH.n∧y.n=(x.dH.n:Int)∧y.t4=false) (fun e y=>e = .ret∧y.t4=false∨e = .exit 0∧y.n=(x.dH.n:Int)∧y.x=x∧y.t4=false) x.dH.n (by have:o4=1000000000000:=rfl; omega) (fun j y hj ⟨h1,h2,h3,h4,h5,h6,h7⟩=>?_) ⟨rfl,rfl,rfl,rfl,Nat.zero_le _,rfl,rfl⟩
  have e0:(ng y).isSome=true:=NS _
  have w1:aH (y.t40+1)=y.t40+1:=a7 (by omega) (by omega)
  unfold fZ
  by_cases h:y.t40 < y.t39
  · simp only [e0,w1,cond_true,Bool.and_self,decide_eq_true h,decide_eq_true (show (0:Int)≤y.t40 by omega),decide_eq_true (show y.t40 < ((y.t38.n:Nat):Int) by rw [h2]; omega),decide_eq_true (show y.t40 < ((y.x.uV.n:Nat):Int) by rw [h1]; omega)]
    cases (((ng y).getD default) != (0:Int)) with
    | true=>exact .inr ⟨_,_,rfl,rfl,.inl ⟨rfl,rfl⟩⟩
    | false=>
      cases (decide ((min (y.x.uV.get (Int.toNat y.t40)).e0 (y.x.uV.get (Int.toNat y.t40)).e1) < (0:Int))) with
      | true=>exact .inr ⟨_,_,rfl,rfl,.inl ⟨rfl,rfl⟩⟩
      | false=>
        cases (decide ((max (y.x.uV.get (Int.toNat y.t40)).e0 (y.x.uV.get (Int.toNat y.t40)).e1) > (255:Int))) with
        | true=>exact .inr ⟨_,_,rfl,rfl,.inl ⟨rfl,rfl⟩⟩
        | false=>exact .inl ⟨_,rfl,by omega,h1,h2,h3,by show y.t40+1=_; omega,by omega,h6,h7⟩
  · simp only [cond_false,decide_eq_false h]
    exact .inr ⟨_,_,rfl,rfl,.inr ⟨rfl,h6,h1,h7⟩⟩
def VI (l:Sl dc) (n:Int) (i:Nat):Prop:=(0≤(l.get i).e0∧(l.get i).e0 < n)∧(0≤(l.get i).e1∧(l.get i).e1 < n)∧0≤(l.get i).e2∧(l.get i).e2 < n
theorem ag7 (x:di) (hn:x.t82.n≤64) (h0:x.t83=(x.t82.n:Int)) (h1:x.t84=0) (h2:x.t4=false):∃ e x',goN eW x = .out e x'∧(e = .ret∧x'.t4=false∨e = .exit 2∧x'.n=x.n∧x'.x=x.x∧∀ i,i < x.t82.n→VI x.t82 x.n i):=by
  refine ew (step:=eW) (fun j y=>y.x=x.x∧y.t82=x.t82∧y.t83=(x.t82.n:Int)∧y.t84=(j:Int)∧j≤x.t82.n∧y.n=x.n∧y.t4=false∧∀ i,i < j→VI x.t82 x.n i) (fun e y=>e = .ret∧y.t4=false∨e = .exit 2∧y.n=x.n∧y.x=x.x∧∀ i,i < x.t82.n→VI x.t82 x.n i) x.t82.n (by have:o4=1000000000000:=rfl; omega) (fun j y hj ⟨h1,h2,h3,h4,h5,h6,h7,h8⟩=>?_) ⟨rfl,rfl,h0,h1,Nat.zero_le _,rfl,h2,fun i h=>absurd h (Nat.not_lt_zero _)⟩
  have w1:aH (y.t84+1)=y.t84+1:=a7 (by omega) (by omega)
  unfold eW
  by_cases h:y.t84 < y.t83
  · simp only [w1,cond_true,Bool.and_self,decide_eq_true h,decide_eq_true (show (0:Int)≤y.t84 by omega),decide_eq_true (show y.t84 < ((y.t82.n:Nat):Int) by rw [h2]; omega)]
    cases g1:decide ((min (min (y.t82.get (Int.toNat y.t84)).e0 (y.t82.get (Int.toNat y.t84)).e1) (y.t82.get (Int.toNat y.t84)).e2) < (0:Int)) with
    | true=>exact .inr ⟨_,_,rfl,rfl,.inl ⟨rfl,rfl⟩⟩
    | false=>
      cases g2:decide ((max (max (y.t82.get (Int.toNat y.t84)).e0 (y.t82.get (Int.toNat y.t84)).e1) (y.t82.get (Int.toNat y.t84)).e2) ≥ y.n) with
      | true=>exact .inr ⟨_,_,rfl,rfl,.inl ⟨rfl,rfl⟩⟩
      | false=>
        refine .inl ⟨_,rfl,by omega,h1,h2,h3,by show y.t84+1=_; omega,by omega,h6,h7,fun i hi=>?_⟩
        by_cases Ut:i < j
        · exact h8 i Ut
        · have e:i=j:=by omega
          subst e
          have g1':=of_decide_eq_false g1
          have g2':=of_decide_eq_false g2
          rw [h2,h4,Int.toNat_natCast] at g1' g2'
          rw [h6] at g2'
          unfold VI
          omega
  · simp only [cond_false,decide_eq_false h]
    exact .inr ⟨_,_,rfl,rfl,.inr ⟨rfl,h6,h1,fun i hi=>h8 i (by omega)⟩⟩
theorem aeW (x:Item) (t:Int):∃ b,pT x t=some b∧(b=true→x.dH.n≤64∧x.cZ.n≤64∧Ej x):=by
  have no:∃ b,(some false:Option Bool)=some b∧(b=true→x.dH.n≤64∧x.cZ.n≤64∧Ej x):=⟨false,rfl,fun h=>absurd h (by decide)⟩
  unfold pT
  cases g1:decide (((x.dH.n:Nat):Int) > (64:Int)) with
  | true=>exact no
  | false=>
  cases g2:(((x.uV.n:Nat):Int) != ((x.dH.n:Nat):Int)) with
  | true=>exact no
  | false=>
  cases g3:decide (((x.cZ.n:Nat):Int) > (64:Int)) with
  | true=>exact no
  | false=>
  have e0:(tW x t).isSome=true:=ag5 _ _
  simp only [cond_false,cond_true,e0]
  cases (((tW x t).getD default) != (0:Int)) with
  | true=>exact no
  | false=>
  have hv:x.dH.n≤64:=by
    have:=of_decide_eq_false g1
    omega
  have ht:x.cZ.n≤64:=by
    have:=of_decide_eq_false g3
    omega
  have hu:x.uV.n=x.dH.n:=by
    have:((x.uV.n:Nat):Int)=((x.dH.n:Nat):Int):=by simpa using g2
    omega
  obtain ⟨e,y,hy,h⟩:=ag6 x t hv hu
  rcases h with ⟨rfl,hf⟩ | ⟨rfl,hn,hx,hf⟩
  · have b1:(dq x t).by (.exit 0)=false:=by rw [hy]; rfl
    have b2:(dq x t).by .ret=true:=by rw [hy]; rfl
    have b3:(dq x t).st.t4=false:=by rw [hy]; exact hf
    simp only [b1,b2,b3,cond_true,cond_false]
    exact no
  · have b1:(dq x t).by (.exit 0)=true:=by rw [hy]; rfl
    have s1:(dq x t).st=y:=by rw [hy]; rfl
    obtain ⟨e,z,hz,h⟩:∃ e z,cO x t = .out e z∧(e = .ret∧z.t4=false∨e = .exit 2∧z.n=(x.dH.n:Int)∧z.x=x∧∀ i,i < x.cZ.n→VI x.cZ (x.dH.n:Int) i):=by
      unfold cO
      rw [s1,hn,hx]
      exact ag7 _ ht rfl rfl hf
    rcases h with ⟨rfl,hf'⟩ | ⟨rfl,_,hx',eZ⟩
    · have b2:(cO x t).by (.exit 2)=false:=by rw [hz]; rfl
      have b3:(cO x t).by .ret=true:=by rw [hz]; rfl
      have b4:(cO x t).st.t4=false:=by rw [hz]; exact hf'
      simp only [b1,b2,b3,b4,cond_true,cond_false]
      exact no
    · have b2:(cO x t).by (.exit 2)=true:=by rw [hz]; rfl
      have e3:(iB x t).isSome=true:=aeV _
      simp only [b1,b2,e3,cond_true]
      have ok:x.dH.n≤64∧x.cZ.n≤64∧Ej x:=⟨hv,ht,hu,eZ⟩
      have q:∀ {c:Bool} {a b:Option Bool},(∃ r,a=some r∧(r=true→x.dH.n≤64∧x.cZ.n≤64∧Ej x))→(∃ r,b=some r∧(r=true→x.dH.n≤64∧x.cZ.n≤64∧Ej x))→∃ r,_root_.cond c a b=some r∧(r=true→x.dH.n≤64∧x.cZ.n≤64∧Ej x):=fun {c} {a} {b} h1 h2=>by
        cases c with
        | true=>exact h1
        | false=>exact h2
      repeat' (refine q ?_ ?_)
      all_goals first | exact no | exact ⟨_,rfl,fun _=>ok⟩
def NT (s:Show):Prop:=s.items.n≤256∧∀ i,i < s.items.n→(s.items.get i).dH.n≤64∧(s.items.get i).cZ.n≤64∧Ej (s.items.get i)
theorem Ek (s:Show):∃ e,kD s=some e∧(e=0→NT s):=by
  have no:∀ k:Int,k≠0→∃ e,(some k:Option Int)=some e∧(e=0→NT s):=fun k hk=>⟨k,rfl,fun h=>absurd h hk⟩
  unfold kD
  cases g1:decide (((s.items.n:Nat):Int) > (256:Int)) with
  | true=>exact no 4 (by decide)
  | false=>
  cases decide (((s.bj.n:Nat):Int) > (16:Int)) with
  | true=>exact no 4 (by decide)
  | false=>
  have hn:s.items.n≤256:=by
    have:=of_decide_eq_false g1
    omega
  have e0:(pU s).isSome=true:=Wy _
  simp only [e0,cond_true,cond_false]
  cases (((pU s).getD default) != (0:Int)) with
  | true=>exact no 8 (by decide)
  | false=>
  obtain ⟨e,x',hx,h⟩:∃ e x',fR s = .out e x'∧(e = .ret∧x'.t4 ≥ 0∨e = .exit 0∧∀ i,i < s.items.n→(s.items.get i).dH.n≤64∧(s.items.get i).cZ.n≤64∧Ej (s.items.get i)):=by
    unfold fR
    refine ew (step:=bw) (fun j y=>y.s=s.items∧y.t7=(s.items.n:Int)∧y.t8=(j:Int)∧j≤s.items.n∧∀ i,i < j→(s.items.get i).dH.n≤64∧(s.items.get i).cZ.n≤64∧Ej (s.items.get i)) (fun e x'=>e = .ret∧x'.t4 ≥ 0∨e = .exit 0∧∀ i,i < s.items.n→(s.items.get i).dH.n≤64∧(s.items.get i).cZ.n≤64∧Ej (s.items.get i)) s.items.n (by have:o4=1000000000000:=rfl; omega) (fun j y hj ⟨h1,h2,h3,h4,h5⟩=>?_) ⟨rfl,rfl,rfl,Nat.zero_le _,fun i h=>absurd h (Nat.not_lt_zero _)⟩
    obtain ⟨b,hb,bH⟩:=aeW (y.s.get (Int.toNat y.t8)) ((y.lV.bj.n:Nat):Int)
    have e0:eE y=some b:=hb
    have w1:aH (y.t8+1)=y.t8+1:=a7 (by omega) (by omega)
    unfold bw
    by_cases h:y.t8 < y.t7
    · simp only [e0,w1,cond_true,Bool.and_self,Option.isSome_some,Option.getD_some,decide_eq_true h,decide_eq_true (show (0:Int)≤y.t8 by omega),decide_eq_true (show y.t8 < ((y.s.n:Nat):Int) by rw [h1]; omega)]
      cases b with
      | false=>exact .inr ⟨_,_,rfl,rfl,.inl ⟨rfl,by show y.t8 ≥ 0; omega⟩⟩
      | true=>
        refine .inl ⟨_,rfl,by omega,h1,h2,by show y.t8+1=_; omega,by omega,fun i hi=>?_⟩
        by_cases Ut:i < j
        · exact h5 i Ut
        · have e:i=j:=by omega
          subst e
          have:=bH rfl
          rw [h1,h3,Int.toNat_natCast] at this
          exact this
    · simp only [cond_false,decide_eq_false h]
      exact .inr ⟨_,_,rfl,rfl,.inr ⟨rfl,fun i hi=>h5 i (by omega)⟩⟩
  rcases h with ⟨rfl,hp⟩ | ⟨rfl,eZ⟩
  · have b1:(fR s).by (.exit 0)=false:=by rw [hx]; rfl
    have b2:(fR s).by .ret=true:=by rw [hx]; rfl
    have b3:decide ((fR s).st.t4 ≥ (0:Int))=true:=by rw [hx]; exact decide_eq_true hp
    simp only [b1,b2,b3,cond_true,cond_false]
    exact no 8 (by decide)
  · have b1:(fR s).by (.exit 0)=true:=by rw [hx]; rfl
    simp only [b1,cond_true]
    exact ⟨0,rfl,fun _=>⟨hn,eZ⟩⟩
end Go.Proofs.Ytahhdndhkgbcjaa.b
end
section
namespace Go.Proofs.Ytahhdndhkgbcjaa.b
open Go.K
open Go.aV (au)
theorem Q4 (s:Show) (c:aI):∃ e,dI s c=some e∧(e=0→NT s∧KI c):=by
  obtain ⟨e,h1,h2⟩:=Ek s
  obtain ⟨f,h3,h4⟩:=oC c
  have e0:mG s c=some e:=h1
  have e1:pW s c=some f:=h3
  unfold dI
  simp only [e0,e1,Option.isSome_some,Option.getD_some,cond_true]
  by_cases he:e=0
  · subst he
    exact ⟨f,rfl,fun hf=>⟨h2 rfl,h4 hf⟩⟩
  · have:(e != (0:Int))=true:=by simpa using he
    rw [this]
    exact ⟨e,rfl,fun h=>absurd h he⟩
theorem abA (s:Show) (c:aI) (i j:Nat) (h0:dI s c=some 0) (hi:i < s.items.n) (hj:j < (s.items.get i).cZ.n):∃ r,c6 s c (i:Int) (j:Int)=some r∧iD s c (i:Int) (j:Int)=some (r,0)∧r.n≤6:=by
  obtain ⟨e,h1,h2⟩:=Q4 s c
  have he:e=0:=by
    rw [h0] at h1
    injection h1 with h1
    exact h1.symm
  obtain ⟨hs,_⟩:=h2 he
  obtain ⟨_,_,ok⟩:=hs.2 i hi
  obtain ⟨r,hr,hn⟩:=Q3 s c i j hi hj ok
  have e0:ko s c i j=some 0:=h0
  have e1:vg s c i j=some r:=hr
  refine ⟨r,hr,?_,hn⟩
  unfold iD
  simp only [e0,e1,Option.isSome_some,Option.getD_some,cond_true,cond_false,bne_self_eq_false,Int.toNat_natCast,Bool.and_self,decide_eq_false (show ¬ (i:Int) < 0 by omega),decide_eq_false (show ¬ (j:Int) < 0 by omega),decide_eq_false (show ¬ (i:Int) ≥ ((s.items.n:Nat):Int) by omega),decide_eq_false (show ¬ (j:Int) ≥ (((s.items.get i).cZ.n:Nat):Int) by omega),decide_eq_true (show (0:Int)≤(i:Int) by omega),decide_eq_true (show (i:Int) < ((s.items.n:Nat):Int) by omega)]
end Go.Proofs.Ytahhdndhkgbcjaa.b
end
section
namespace Go.Proofs.Ytahhdndhkgbcjaa.b
open Go.K
open Go.aV (au)
def seen (t:aF) (w:dR):Bool:=((gK t w).getD default).2.1
theorem acU (x:aK) (hn:x.s.n≤6) (h7:x.t7=(x.s.n:Int)) (h8:x.t8=0):∃ e x',goN bm x = .out e x'∧(x'.lV=x.lV∧(e = .exit 0∧(∀ i,i < x.s.n→seen (x.s.get i) x.lV=false)∨e = .ret∧0≤x'.t4∧∃ i,i < x.s.n∧seen (x.s.get i) x.lV=true)):=by
  refine ew (step:=bm) (fun j y=>y.s=x.s∧y.lV=x.lV∧y.t7=(x.s.n:Int)∧y.t8=(j:Int)∧j≤x.s.n∧∀ i,i < j→seen (x.s.get i) x.lV=false) (fun e x'=>x'.lV=x.lV∧(e = .exit 0∧(∀ i,i < x.s.n→seen (x.s.get i) x.lV=false)∨e = .ret∧0≤x'.t4∧∃ i,i < x.s.n∧seen (x.s.get i) x.lV=true)) x.s.n (by have:o4=1000000000000:=rfl; omega) (fun j y hj ⟨h1,h2,h3,h4,h5,h6⟩=>?_) ⟨rfl,rfl,h7,h8,Nat.zero_le _,fun i h=>absurd h (Nat.not_lt_zero _)⟩
  have w1:aH (y.t8+1)=y.t8+1:=a7 (by omega) (by omega)
  unfold bm
  by_cases h:y.t8 < y.t7
  · have e0:(cw y).isSome=true:=agY (Wx _ _)
    have e1:((cw y).getD default).snd.fst=seen (x.s.get j) x.lV:=by
      unfold cw seen
      rw [h1,h2,h4,Int.toNat_natCast]
    simp only [e0,e1,w1,cond_true,Bool.and_self,decide_eq_true h,decide_eq_true (show (0:Int)≤y.t8 by omega),decide_eq_true (show y.t8 < ((y.s.n:Nat):Int) by rw [h1]; omega)]
    cases g:seen (x.s.get j) x.lV with
    | true=>exact .inr ⟨_,_,rfl,rfl,h2,.inr ⟨rfl,by show 0≤y.t8; omega,j,by omega,g⟩⟩
    | false=>
      refine .inl ⟨_,rfl,by omega,h1,h2,h3,by show y.t8+1=_; omega,by omega,fun i hi=>?_⟩
      by_cases Ut:i < j
      · exact h6 i Ut
      · have e:i=j:=by omega
        subst e
        exact g
  · simp only [cond_false,decide_eq_false h]
    exact .inr ⟨_,_,rfl,rfl,h2,.inl ⟨rfl,fun i hi=>h6 i (by omega)⟩⟩
def Met (s:Show) (c:aI) (w:dR) (d:dJ):Prop:=∃ r,c6 s c d.item d.dt=some r∧∃ i,i < r.n∧seen (r.get i) w=true
def lO {α:Type} (l:Sl α):List α:=(List.range l.n).map l.get
theorem aeX {α:Type} [Inhabited α] (l:Sl α) (v:α):lO (l.push v)=lO l ++ [v]:=by
  unfold lO
  rw [Sl.ui,List.range_succ,List.map_append]
  congr 1
  · exact List.map_congr_left fun i hi=>Sl.PT (List.mem_range.1 hi)
  · exact congrArg (fun a=>[a]) Sl.PU
theorem pe {α:Type} (l:Sl α):(lO l).length=l.n:=by simp [lO]
theorem HG {α:Type} (l:Sl α) (j:Nat) (h:j < l.n):(lO l).take (j+1)=(lO l).take j ++ [l.get j]:=by
  rw [List.take_add_one]
  congr 1
  unfold lO
  simp [h]
theorem Zs (s:Show) (c:aI) (it tr:Int) (h0:dI s c=some 0):∃ r e,iD s c it tr=some (r,e)∧(e=0→c6 s c it tr=some r∧r.n≤6):=by
  by_cases hi:0≤it∧it < (s.items.n:Int)
  · obtain ⟨i,rfl⟩:=Int.eq_ofNat_of_zero_le hi.1
    by_cases hj:0≤tr∧tr < ((s.items.get i).cZ.n:Int)
    · obtain ⟨j,rfl⟩:=Int.eq_ofNat_of_zero_le hj.1
      obtain ⟨r,h1,h2,h3⟩:=abA s c i j h0 (by omega) (by omega)
      exact ⟨r,0,h2,fun _=>⟨h1,h3⟩⟩
    · have e0:ko s c i tr=some 0:=h0
      unfold iD
      simp only [e0,Option.isSome_some,Option.getD_some,cond_true,cond_false,bne_self_eq_false,Int.toNat_natCast,Bool.and_self,decide_eq_false (show ¬ (i:Int) < 0 by omega),decide_eq_false (show ¬ (i:Int) ≥ ((s.items.n:Nat):Int) by omega),decide_eq_true (show (0:Int)≤(i:Int) by omega),decide_eq_true (show (i:Int) < ((s.items.n:Nat):Int) by omega)]
      cases g:decide (tr < 0) with
      | true=>exact ⟨_,2,rfl,fun h=>absurd h (by decide)⟩
      | false=>
        have g':=of_decide_eq_false g
        rw [decide_eq_true (show tr ≥ (((s.items.get i).cZ.n:Nat):Int) by omega)]
        exact ⟨_,2,rfl,fun h=>absurd h (by decide)⟩
  · have e0:ko s c it tr=some 0:=h0
    unfold iD
    simp only [e0,Option.isSome_some,Option.getD_some,cond_true,cond_false,bne_self_eq_false]
    cases g:decide (it < 0) with
    | true=>exact ⟨_,2,rfl,fun h=>absurd h (by decide)⟩
    | false=>
      have g':=of_decide_eq_false g
      rw [decide_eq_true (show it ≥ ((s.items.n:Nat):Int) by omega)]
      exact ⟨_,2,rfl,fun h=>absurd h (by decide)⟩
end Go.Proofs.Ytahhdndhkgbcjaa.b
end
section
namespace Go.Proofs.Ytahhdndhkgbcjaa.b
open Go.K
open Go.aV (au)
open Classical in
noncomputable def Q5 (s:Show) (c:aI) (w:dR) (l:List dJ):List dJ:=l.filter fun d=>decide (Met s c w d)
theorem abB (s:Show) (c:aI) (l:Sl dJ) (w:dR) (hn:l.n≤16384) (h0:dI s c=some 0):∃ e x',dY s c l w = .out e x'∧(e = .ret∧x'.e≠0∧x'.out.n=0∨e = .exit 0∧lO x'.out=Q5 s c w (lO l)):=by
  unfold dY
  refine ew (step:=fE) (fun j x=>x.s=s∧x.c=c∧x.w=w∧x.t30=l∧x.t31=(l.n:Int)∧x.t32=(j:Int)∧j≤l.n∧x.out.n≤j∧lO x.out=Q5 s c w ((lO l).take j)) (fun e x'=>e = .ret∧x'.e≠0∧x'.out.n=0∨e = .exit 0∧lO x'.out=Q5 s c w (lO l)) l.n (by have:o4=1000000000000:=rfl; omega) (fun j x hj ⟨h1,h2,h3,h4,h5,h6,h7,h8,h9⟩=>?_) ⟨rfl,rfl,rfl,rfl,rfl,rfl,Nat.zero_le _,Nat.zero_le _,rfl⟩
  have w1:aH (x.t32+1)=x.t32+1:=a7 (by omega) (by omega)
  unfold fE
  by_cases h:x.t32 < x.t31
  · obtain ⟨r,e,hr,hk⟩:=Zs s c (l.get j).item (l.get j).dt h0
    have e0:gd x=some (r,e):=by
      unfold gd
      rw [h1,h2,h4,h6,Int.toNat_natCast]
      exact hr
    have a1:cL 16 x.out.n 1=true:=xz (by omega) (by omega) (by omega) (.inl (by omega))
    simp only [e0,w1,a1,eI,cond_true,Bool.and_self,Option.isSome_some,Option.getD_some,decide_eq_true h,decide_eq_true (show (0:Int)≤x.t32 by omega),decide_eq_true (show x.t32 < ((x.t30.n:Nat):Int) by rw [h4]; omega)]
    by_cases he:e=0
    · obtain ⟨hp,hrn⟩:=hk he
      have q:(e != (0:Int))=false:=by simpa using he
      rw [q,cond_false]
      obtain ⟨e',z,hz,hw,hs⟩:∃ e' z,cp x = .out e' z∧(z.lV=w∧(e' = .exit 0∧(∀ i,i < r.n→seen (r.get i) w=false)∨e' = .ret∧0≤z.t4∧∃ i,i < r.n∧seen (r.get i) w=true)):=by
        unfold cp
        rw [e0,h3]
        exact acU _ hrn rfl rfl
      have tk:=HG l j (by omega)
      have out:∀ {o:Sl dJ},o.n≤j+1→lO o=Q5 s c w ((lO l).take (j+1))→∃ x',(bK.next (⟨o,x.e,x.t30,x.t31,x.t32+1,x.s,x.c,z.lV⟩:b8)) = .next x'∧j < l.n∧(x'.s=s∧x'.c=c∧x'.w=w∧x'.t30=l∧x'.t31=(l.n:Int)∧x'.t32=((j+1:Nat):Int)∧j+1≤l.n∧x'.out.n≤j+1∧lO x'.out=Q5 s c w ((lO l).take (j+1))):=fun {o} ho hl=>⟨_,rfl,by omega,h1,h2,hw,h4,h5,by show x.t32+1=_; omega,by omega,ho,hl⟩
      rcases hs with ⟨rfl,Fb⟩ | ⟨rfl,ht,i,hi,his⟩
      · have b1:(cp x).by (.exit 0)=true:=by rw [hz]; rfl
        have b2:(cp x).st=z:=by rw [hz]; rfl
        simp only [b1,b2,cond_true]
        refine .inl (out (by omega) ?_)
        have nm : ¬ Met s c w (l.get j):=fun ⟨r',rD,i,hi,his⟩=>by
          rw [hp] at rD
          injection rD with rD
          subst rD
          rw [Fb i hi] at his
          exact absurd his (by decide)
        rw [tk,h9]
        unfold Q5
        rw [List.filter_append,List.filter_cons_of_neg (by simpa using nm),List.filter_nil,List.append_nil]
      · have b1:(cp x).by (.exit 0)=false:=by rw [hz]; rfl
        have b3:(cp x).by .ret=true:=by rw [hz]; rfl
        have b2:(cp x).st=z:=by rw [hz]; rfl
        simp only [b1,b2,b3,cond_true,cond_false,decide_eq_true (show z.t4 ≥ 0 from ht)]
        refine .inl (out (by simp only [Sl.ui]; omega) ?_)
        have nm:Met s c w (l.get j):=⟨r,hp,i,hi,his⟩
        rw [aeX,tk,h9,h4,h6,Int.toNat_natCast]
        unfold Q5
        rw [List.filter_append,List.filter_cons_of_pos (by simpa using nm),List.filter_nil]
    · have q:(e != (0:Int))=true:=by simpa using he
      rw [q,cond_true]
      exact .inr ⟨_,_,rfl,rfl,.inl ⟨rfl,he,rfl⟩⟩
  · simp only [cond_true,cond_false,eI,decide_eq_false h]
    refine .inr ⟨_,_,rfl,rfl,.inr ⟨rfl,?_⟩⟩
    rw [h9,List.take_of_length_le (by rw [pe]; omega)]
end Go.Proofs.Ytahhdndhkgbcjaa.b
end
section
namespace Go.Proofs.Ytahhdndhkgbcjaa.b
open Go.K
open Go.aV (au)
structure Good (s:Show) (c:aI) (w:dR):Prop where
  asked:dI s c=some 0
  cam:KI c
  x:0≤w.x0∧w.x0≤w.x1∧w.x1 < c.w
  y:0≤w.y0∧w.y0≤w.y1∧w.y1 < c.h
theorem abC (s:Show) (c:aI) (l:Sl dJ) (w:dR):∃ m e,nU s c l w=some (m,e)∧(e≠0→m.n=0)∧(e=0→Good s c w∧lO m=Q5 s c w (lO l)):=by
  obtain ⟨a,h1,_⟩:=Ek s
  obtain ⟨b,h3,h4⟩:=Zq c w
  have e0:ri s c l w=some a:=h1
  have e1:rj s c l w=some b:=h3
  unfold nU
  simp only [e0,e1,Option.isSome_some,Option.getD_some,cond_true]
  by_cases ha:a=0
  · subst ha
    simp only [bne_self_eq_false,cond_false]
    by_cases hb:b=0
    · subst hb
      obtain ⟨hc,jo,hx,hy⟩:=h4 rfl
      simp only [bne_self_eq_false,cond_false]
      cases g:decide (((l.n:Nat):Int) > (16384:Int)) with
      | true=>exact ⟨_,4,rfl,fun _=>rfl,fun h=>absurd h (by decide)⟩
      | false=>
        have hn:=of_decide_eq_false g
        have ask:dI s c=some 0:=by
          have a0:mG s c=some 0:=h1
          have a1:pW s c=some 0:=hc
          unfold dI
          simp only [a0,a1,Option.isSome_some,Option.getD_some,cond_true,bne_self_eq_false,cond_false]
        obtain ⟨e,z,hz,h⟩:=abB s c l w (by omega) ask
        rcases h with ⟨rfl,he,ho⟩ | ⟨rfl,hl⟩
        · have b1:(dY s c l w).by (.exit 0)=false:=by rw [hz]; rfl
          have b2:(dY s c l w).by .ret=true:=by rw [hz]; rfl
          have b3:(dY s c l w).st=z:=by rw [hz]; rfl
          simp only [b1,b2,b3,cond_true,cond_false]
          exact ⟨_,_,rfl,fun _=>ho,fun h=>absurd h he⟩
        · have b1:(dY s c l w).by (.exit 0)=true:=by rw [hz]; rfl
          have b3:(dY s c l w).st=z:=by rw [hz]; rfl
          simp only [b1,b3,cond_true]
          exact ⟨_,_,rfl,fun h=>absurd rfl h,fun _=>⟨⟨ask,jo,hx,hy⟩,hl⟩⟩
    · have q:(b != (0:Int))=true:=by simpa using hb
      rw [q]
      exact ⟨_,_,rfl,fun _=>rfl,fun h=>absurd h hb⟩
  · have q:(a != (0:Int))=true:=by simpa using ha
    rw [q]
    exact ⟨_,_,rfl,fun _=>rfl,fun h=>absurd h ha⟩
end Go.Proofs.Ytahhdndhkgbcjaa.b
end
section
namespace Go.Proofs.Ytahhdndhkgbcjaa.b
open Go.K
open Go.aV (au)
def adZ (s:Show) (c:aI) (p:cV):Prop:=∃ r,c6 s c p.zw.item p.zw.dt=some r∧∃ k,k < r.n∧p.t=r.get k
def mM (s:Show) (c:aI) (l:Sl cV):Prop:=∀ i,i < l.n→adZ s c (l.get i)
theorem mM.push {s:Show} {c:aI} {l:Sl cV} {p:cV} (h:mM s c l) (hp:adZ s c p):mM s c (l.push p):=fun i hi=>by
  rw [Sl.ui] at hi
  by_cases hl:i < l.n
  · rw [Sl.PT hl]; exact h i hl
  · have e:i=l.n:=by omega
    rw [e,Sl.PU]; exact hp
theorem ajr (s:Show) (c:aI) (x:c7) (hr:c6 s c x.i x.k=some x.t31) (hn:x.t31.n≤6) (h2:x.t32=(x.t31.n:Int)) (h3:x.t33=0) (ho:mM s c x.out.parts) (hs:x.out.parts.n≤200000) :
    ∃ e y,goN dK x = .out e y∧(e = .exit 4∧y.i=x.i∧y.t14=x.t14∧y.t15=x.t15∧y.t16=x.t16∧y.t23=x.t23∧y.t24=x.t24∧y.s=x.s∧y.c=x.c∧y.t4=x.t4∧y.x=x.x∧mM s c y.out.parts∧y.out.parts.n≤x.out.parts.n+6):=by
  refine ew (step:=dK) (fun j y=>(y.i=x.i∧y.t14=x.t14∧y.t15=x.t15∧y.t16=x.t16∧y.t23=x.t23∧y.t24=x.t24∧y.s=x.s∧y.c=x.c∧y.t4=x.t4∧y.x=x.x)∧y.k=x.k∧y.t31=x.t31∧y.t32=(x.t31.n:Int)∧y.t33=(j:Int)∧j≤x.t31.n∧mM s c y.out.parts∧y.out.parts.n≤x.out.parts.n+j) (fun e y=>e = .exit 4∧y.i=x.i∧y.t14=x.t14∧y.t15=x.t15∧y.t16=x.t16∧y.t23=x.t23∧y.t24=x.t24∧y.s=x.s∧y.c=x.c∧y.t4=x.t4∧y.x=x.x∧mM s c y.out.parts∧y.out.parts.n≤x.out.parts.n+6) x.t31.n (by have:o4=1000000000000:=rfl; omega) (fun j y hj ⟨hf,hk,h4,h5,h6,h7,h8,h9⟩=>?_) ⟨⟨rfl,rfl,rfl,rfl,rfl,rfl,rfl,rfl,rfl,rfl⟩,rfl,rfl,h2,h3,Nat.zero_le _,ho,by omega⟩
  have w1:aH (y.t33+1)=y.t33+1:=a7 (by omega) (by omega)
  have a1:cL 168 y.out.parts.n 1=true:=xz (by omega) (by omega) (by omega) (.inl (by omega))
  unfold dK
  by_cases h:y.t33 < y.t32
  · simp only [w1,a1,eI,cond_true,Bool.and_self,decide_eq_true h,decide_eq_true (show (0:Int)≤y.t33 by omega),decide_eq_true (show y.t33 < ((y.t31.n:Nat):Int) by rw [h4]; omega)]
    refine .inl ⟨_,rfl,by omega,hf,hk,h4,h5,by show y.t33+1=_; omega,by omega,?_,by simp only [Sl.ui]; omega⟩
    refine h8.push ⟨x.t31,?_,j,by omega,?_⟩
    · show c6 s c y.i y.k=_
      rw [hf.1,hk]; exact hr
    · show y.t31.get (Int.toNat y.t33)=_
      rw [h4,h6,Int.toNat_natCast]
  · simp only [eI,cond_true,cond_false,decide_eq_false h]
    obtain ⟨f1,f2,f3,f4,f5,f6,f7,f8,f9,f10⟩:=hf
    exact .inr ⟨_,_,rfl,rfl,rfl,f1,f2,f3,f4,f5,f6,f7,f8,f9,f10,h8,by omega⟩
end Go.Proofs.Ytahhdndhkgbcjaa.b
end
section
namespace Go.Proofs.Ytahhdndhkgbcjaa.b
open Go.K
open Go.aV (au)
theorem ah7 (s:Show) (c:aI) (n:Nat) (hn:n < s.items.n) (bH:Ej (s.items.get n)) (ht:(s.items.get n).cZ.n≤64) (x:cU) (hs:x.s=s) (hc:x.c=c) (hi:x.i=(n:Int)) (h2:x.t23=((s.items.get n).cZ.n:Int)) (h3:x.t24=0) (ho:mM s c x.out.parts) (cA:x.out.parts.n≤150000) :
    ∃ e y,goN eH x = .out e y∧(e = .exit 2∧y.t14=x.t14∧y.t15=x.t15∧y.t16=x.t16∧y.s=s∧y.c=c∧y.t4=x.t4∧mM s c y.out.parts∧y.out.parts.n≤x.out.parts.n+384):=by
  refine ew (step:=eH) (fun j y=>(y.i=x.i∧y.t14=x.t14∧y.t15=x.t15∧y.t16=x.t16∧y.t23=x.t23∧y.s=s∧y.c=c∧y.t4=x.t4)∧y.t24=(j:Int)∧j≤(s.items.get n).cZ.n∧mM s c y.out.parts∧y.out.parts.n≤x.out.parts.n+6 * j) (fun e y=>e = .exit 2∧y.t14=x.t14∧y.t15=x.t15∧y.t16=x.t16∧y.s=s∧y.c=c∧y.t4=x.t4∧mM s c y.out.parts∧y.out.parts.n≤x.out.parts.n+384) (s.items.get n).cZ.n (by have:o4=1000000000000:=rfl; omega) (fun j y hj ⟨⟨f1,f2,f3,f4,f5,f6,f7,f8⟩,h4,h5,h6,h7⟩=>?_) ⟨⟨rfl,rfl,rfl,rfl,rfl,hs,hc,rfl⟩,h3,Nat.zero_le _,ho,by omega⟩
  unfold eH
  by_cases h:y.t24 < y.t23
  · obtain ⟨r,hr,hrn⟩:=Q3 s c n j hn (by omega) bH
    have e0:jS y=some r:=by
      unfold jS
      rw [f6,f7,f1,hi,h4]
      exact hr
    obtain ⟨e,z,hz,rfl,g1,g2,g3,g4,g5,g6,g7,g8,g9,g10,g11,g12⟩:∃ e z,bn y = .out e z∧(e = .exit 4∧z.i=y.i∧z.t14=y.t14∧z.t15=y.t15∧z.t16=y.t16∧z.t23=y.t23∧z.t24=y.t24∧z.s=y.s∧z.c=y.c∧z.t4=y.t4∧z.x=y.x∧mM s c z.out.parts∧z.out.parts.n≤y.out.parts.n+6):=by
      unfold bn
      rw [e0]
      exact ajr s c _ (by show c6 s c y.i y.t24=some r; rw [f1,hi,h4]; exact hr) hrn rfl rfl h6 (by show y.out.parts.n≤200000; omega)
    have b1:(bn y).by (.exit 4)=true:=by rw [hz]; rfl
    have b2:(bn y).st=z:=by rw [hz]; rfl
    have w1:aH (z.t24+1)=z.t24+1:=a7 (by omega) (by omega)
    simp only [e0,b1,b2,w1,eI,cond_true,Option.isSome_some,decide_eq_true h]
    exact .inl ⟨_,rfl,by omega,⟨g1.trans f1,g2.trans f2,g3.trans f3,g4.trans f4,g5.trans f5,g7.trans f6,g8.trans f7,g9.trans f8⟩,by show z.t24+1=_; omega,by omega,g11,by show z.out.parts.n≤_; omega⟩
  · simp only [eI,cond_true,cond_false,decide_eq_false h]
    exact .inr ⟨_,_,rfl,rfl,rfl,f2,f3,f4,f6,f7,f8,h6,by omega⟩
end Go.Proofs.Ytahhdndhkgbcjaa.b
end
section
namespace Go.Proofs.Ytahhdndhkgbcjaa.b
open Go.K
open Go.aV (au)
theorem ah8 (s:Show) (c:aI) (hs:NT s) (x:eQ) (h14:x.t14=s.items) (h15:x.t15=(s.items.n:Int)) (h16:x.t16=0) (hxs:x.s=s) (hxc:x.c=c) (h0:x.out.parts.n=0) :
    ∃ e y,goN gf x = .out e y∧(e = .exit 0∧mM s c y.out.parts∧y.out.parts.n≤98304):=by
  obtain ⟨ZY,fW⟩:=hs
  refine ew (step:=gf) (fun j y=>y.t14=s.items∧y.t15=(s.items.n:Int)∧y.t16=(j:Int)∧y.s=s∧y.c=c∧j≤s.items.n∧mM s c y.out.parts∧y.out.parts.n≤384 * j) (fun e y=>e = .exit 0∧mM s c y.out.parts∧y.out.parts.n≤98304) s.items.n (by have:o4=1000000000000:=rfl; omega) (fun j y hj ⟨f1,f2,f3,f4,f5,f6,f7,f8⟩=>?_) ⟨h14,h15,h16,hxs,hxc,Nat.zero_le _,fun i hi=>absurd hi (by rw [h0]; exact Nat.not_lt_zero _),by omega⟩
  unfold gf
  by_cases h:y.t16 < y.t15
  · have nX:j < s.items.n:=by omega
    obtain ⟨_,ht,bH⟩:=fW j nX
    obtain ⟨e,z,hz,rfl,g1,g2,g3,g4,g5,_,g7,g8⟩:∃ e z,cq y = .out e z∧(e = .exit 2∧z.t14=y.t14∧z.t15=y.t15∧z.t16=y.t16∧z.s=s∧z.c=c∧z.t4=y.t4∧mM s c z.out.parts∧z.out.parts.n≤y.out.parts.n+384):=by
      unfold cq
      exact ah7 s c j nX bH ht _ f4 f5 f3 (by show (((y.t14.get (Int.toNat y.t16)).cZ.n:Nat):Int)=_; rw [f1,f3,Int.toNat_natCast]) rfl f7 (by show y.out.parts.n≤150000; omega)
    have b1:(cq y).by (.exit 2)=true:=by rw [hz]; rfl
    have b2:(cq y).st=z:=by rw [hz]; rfl
    have w1:aH (z.t16+1)=z.t16+1:=a7 (by omega) (by omega)
    simp only [b1,b2,w1,eI,cond_true,Bool.and_self,decide_eq_true h,decide_eq_true (show (0:Int)≤y.t16 by omega),decide_eq_true (show y.t16 < ((y.t14.n:Nat):Int) by rw [f1]; omega)]
    exact .inl ⟨_,rfl,nX,g1.trans f1,g2.trans f2,by show z.t16+1=_; omega,g4,g5,by omega,g7,by show z.out.parts.n≤_; omega⟩
  · simp only [eI,cond_true,cond_false,decide_eq_false h]
    exact .inr ⟨_,_,rfl,rfl,rfl,f7,by omega⟩
theorem ag8 (s:Show) (c:aI) (hs:NT s):∃ r,sJ s c=some r∧mM s c r.parts∧r.parts.n≤98304:=by
  obtain ⟨e,y,hy,rfl,h1,h2⟩:∃ e y,vM s c = .out e y∧(e = .exit 0∧mM s c y.out.parts∧y.out.parts.n≤98304):=by
    unfold vM
    exact ah8 s c hs _ rfl rfl rfl rfl rfl rfl
  refine ⟨y.out,?_,h1,h2⟩
  unfold sJ
  rw [hy]
  rfl
end Go.Proofs.Ytahhdndhkgbcjaa.b
end
section
namespace Go.Proofs.Ytahhdndhkgbcjaa.b
open Go.K
open Go.aV (au)
theorem ag9 (s:Show) (c:aI) (x y:Int) (h0:dI s c=some 0) (hx:0≤x∧x < c.w) (hy:0≤y∧y < c.h):∃ r,sK s c x y=some (r,0)∧mM s c r.parts∧r.parts.n≤98304:=by
  obtain ⟨e,h1,h2⟩:=Q4 s c
  have he:e=0:=by
    rw [h0] at h1
    injection h1 with h1
    exact h1.symm
  obtain ⟨hs,_⟩:=h2 he
  obtain ⟨r,hr,h3,h4⟩:=ag8 s c hs
  have e0:vN s c x y=some 0:=h0
  have e1:Av s c x y=some r:=hr
  refine ⟨r,?_,h3,h4⟩
  unfold sK
  simp only [e0,e1,Option.isSome_some,Option.getD_some,cond_true,cond_false,bne_self_eq_false,decide_eq_false (show ¬ x < 0 by omega),decide_eq_false (show ¬ x ≥ c.w by omega),decide_eq_false (show ¬ y < 0 by omega),decide_eq_false (show ¬ y ≥ c.h by omega)]
end Go.Proofs.Ytahhdndhkgbcjaa.b
end
section
namespace Go.Proofs.Ytahhdndhkgbcjaa.b
open Go.K
open Go.aV (au)
def HH (s:Show) (c:aI) (x y:Int) (f:lW):Prop:=∃ r,c6 s c f.item f.dt=some r∧∃ k,k < r.n∧∃ sp,o5 (r.get k) x y=some (sp,0)
theorem abD (s:Show) (c:aI) (x:aQ) (h14:mM s c x.t14) (hn:x.t14.n≤98304) (h15:x.t15=(x.t14.n:Int)) (h16:x.t16=0) (h0:x.kE.n=0) :
    ∃ e y,goN bp x = .out e y∧(e = .exit 0∧y.kE.n≤98304∧∀ i,i < y.kE.n→HH s c x.x x.y (y.kE.get i)):=by
  refine ew (step:=bp) (fun j y=>y.t14=x.t14∧y.t15=(x.t14.n:Int)∧y.t16=(j:Int)∧y.x=x.x∧y.y=x.y∧j≤x.t14.n∧y.kE.n≤j∧∀ i,i < y.kE.n→HH s c x.x x.y (y.kE.get i)) (fun e y=>e = .exit 0∧y.kE.n≤98304∧∀ i,i < y.kE.n→HH s c x.x x.y (y.kE.get i)) x.t14.n (by have:o4=1000000000000:=rfl; omega) (fun j y hj ⟨f1,f2,f3,f4,f5,f6,f7,f8⟩=>?_) ⟨rfl,h15,h16,rfl,rfl,Nat.zero_le _,by omega,fun i hi=>absurd hi (by rw [h0]; exact Nat.not_lt_zero _)⟩
  have w1:aH (y.t16+1)=y.t16+1:=a7 (by omega) (by omega)
  have a1:cL 48 y.kE.n 1=true:=xz (by omega) (by omega) (by omega) (.inl (by omega))
  unfold bp
  by_cases h:y.t16 < y.t15
  · obtain ⟨sp,e,hp,_⟩:=Q2 (x.t14.get j).t x.x x.y
    have e0:bI y=some (sp,e):=by
      unfold bI
      rw [f1,f3,f4,f5,Int.toNat_natCast]
      exact hp
    simp only [e0,w1,a1,eI,cond_true,Bool.and_self,Option.isSome_some,Option.getD_some,decide_eq_true h,decide_eq_true (show (0:Int)≤y.t16 by omega),decide_eq_true (show y.t16 < ((y.t14.n:Nat):Int) by rw [f1]; omega)]
    by_cases he:e=0
    · subst he
      rw [show ((0:Int) == 0)=true from rfl,cond_true]
      refine .inl ⟨_,rfl,by omega,f1,f2,by show y.t16+1=_; omega,f4,f5,by omega,by simp only [Sl.ui]; omega,fun i hi=>?_⟩
      rw [Sl.ui] at hi
      by_cases hl:i < y.kE.n
      · rw [Sl.PT hl]; exact f8 i hl
      · have ei:i=y.kE.n:=by omega
        rw [ei,Sl.PU]
        obtain ⟨r,hr,k,hk,hkt⟩:=h14 j (by omega)
        refine ⟨r,?_,k,hk,sp,?_⟩
        · show c6 s c (y.t14.get (Int.toNat y.t16)).zw.item (y.t14.get (Int.toNat y.t16)).zw.dt=some r
          rw [f1,f3,Int.toNat_natCast]; exact hr
        · rw [← hkt]; exact hp
    · rw [show (e == (0:Int))=false by simpa using he,cond_false]
      exact .inl ⟨_,rfl,by omega,f1,f2,by show y.t16+1=_; omega,f4,f5,by omega,by show y.kE.n≤_; omega,f8⟩
  · simp only [eI,cond_true,cond_false,decide_eq_false h]
    exact .inr ⟨_,_,rfl,rfl,rfl,by omega,f8⟩
end Go.Proofs.Ytahhdndhkgbcjaa.b
end
section
namespace Go.Proofs.Ytahhdndhkgbcjaa.b
open Go.K
open Go.aV (au)
theorem abE (s:Show) (c:aI) (w:dR) (x y:Int) (g:Good s c w) (hx:w.x0≤x∧x≤w.x1) (hy:w.y0≤y∧y≤w.y1):∃ l,mK s c x y=some (l,0)∧l.n≤98304∧∀ i,i < l.n→HH s c x y (l.get i):=by
  obtain ⟨g1,_,g3,g4⟩:=g
  obtain ⟨r,hr,h1,h2⟩:=ag9 s c x y g1 (by omega) (by omega)
  have e0:jb s c x y=some (r,0):=hr
  obtain ⟨e,z,hz,rfl,h3,h4⟩:∃ e z,kp s c x y = .out e z∧(e = .exit 0∧z.kE.n≤98304∧∀ i,i < z.kE.n→HH s c x y (z.kE.get i)):=by
    unfold kp
    rw [e0]
    exact abD s c _ h1 h2 rfl rfl rfl
  have b1:(kp s c x y).by (.exit 0)=true:=by rw [hz]; rfl
  have b2:(kp s c x y).st=z:=by rw [hz]; rfl
  refine ⟨z.kE,?_,h3,h4⟩
  unfold mK
  simp only [e0,b1,b2,Option.isSome_some,Option.getD_some,cond_true,show ((0:Int) == 0)=true from rfl]
end Go.Proofs.Ytahhdndhkgbcjaa.b
end
section
namespace Go.Proofs.Ytahhdndhkgbcjaa.b
open Go.K
open Go.aV (au)
theorem ah9 (s:Show) (c:aI) (w:dR) (x y:Int) (f:lW) (g:Good s c w) (hx:w.x0≤x∧x≤w.x1) (hy:w.y0≤y∧y≤w.y1) (h:HH s c x y f):Met s c w ⟨f.item,f.dt⟩:=by
  obtain ⟨r,hr,k,hk,sp,hp⟩:=h
  obtain ⟨sp',e,hp',hq⟩:=Q2 (r.get k) x y
  rw [hp] at hp'
  injection hp' with hp'
  injection hp' with _ he
  obtain ⟨hf,_,h0,h1,h2⟩:=hq he.symm
  obtain ⟨b,hb⟩:=Zp (r.get k) w x y hf h0 h1 h2 hx hy (by obtain ⟨_,⟨_,_,_,q1,_,q2⟩,q3,q4⟩:=g; omega)
  refine ⟨r,hr,k,hk,?_⟩
  unfold seen
  rw [hb]
  rfl
end Go.Proofs.Ytahhdndhkgbcjaa.b
end
section
namespace Go.Proofs.Ytahhdndhkgbcjaa.b
open Go.K
open Go.aV (au)
def nv (d e:dJ):Bool:=(e.item == d.item) && ((e.dt == d.dt) && true)
theorem Xw (l:Sl dJ) (d:dJ) (hn:l.n≤1000):se l d=some (((lO l).countP (nv d):Nat):Int):=by
  obtain ⟨e,z,hz,rfl,h1⟩:∃ e z,xx l d = .out e z∧(e = .exit 0∧z.n=(((lO l).countP (nv d):Nat):Int)):=by
    unfold xx
    refine ew (step:=jc) (fun j y=>y.l=l∧y.d=d∧y.i=(j:Int)∧j≤l.n∧y.n=((((lO l).take j).countP (nv d):Nat):Int)) (fun e z=>e = .exit 0∧z.n=(((lO l).countP (nv d):Nat):Int)) l.n (by have:o4=1000000000000:=rfl; omega) (fun j y hj ⟨f1,f2,f3,f4,f5⟩=>?_) ⟨rfl,rfl,rfl,Nat.zero_le _,rfl⟩
    have hc:((lO l).take j).countP (nv d)≤j:=Nat.le_trans List.countP_le_length (by rw [List.length_take]; omega)
    have w1:aH (y.i+1)=y.i+1:=a7 (by omega) (by omega)
    have w2:aH (y.n+1)=y.n+1:=a7 (by omega) (by omega)
    unfold jc
    by_cases h:y.i < ((y.l.n:Nat):Int)
    · have nX:j < l.n:=by rw [f1] at h; omega
      have q:(((y.l.get (Int.toNat y.i)).item == y.d.item) && (((y.l.get (Int.toNat y.i)).dt == y.d.dt) && true))=nv d (l.get j):=by
        rw [f1,f2,f3,Int.toNat_natCast]; rfl
      simp only [w1,w2,cond_true,decide_eq_true h,q,decide_eq_true (show (0:Int)≤y.i by omega),Bool.and_self]
      left
      cases g:nv d (l.get j) with
      | true=>exact ⟨_,rfl,nX,f1,f2,by show y.i+1=_; omega,by omega,by show y.n+1=_; rw [HG l j nX,List.countP_append,List.countP_singleton,g,f5]; simp⟩
      | false=>exact ⟨_,rfl,nX,f1,f2,by show y.i+1=_; omega,by omega,by show y.n=_; rw [HG l j nX,List.countP_append,List.countP_singleton,g,f5]; simp⟩
    · simp only [cond_false,decide_eq_false h]
      refine .inr ⟨_,_,rfl,rfl,rfl,?_⟩
      rw [f5,List.take_of_length_le (by rw [pe]; rw [f1] at h; omega)]
  unfold se
  rw [hz]
  exact congrArg some h1
end Go.Proofs.Ytahhdndhkgbcjaa.b
end
section
namespace Go.Proofs.Ytahhdndhkgbcjaa.b
open Go.K
open Go.aV (au)
theorem acV (l:Sl eo):(pZ l).isSome=true:=by
  obtain ⟨e,z,hz,rfl⟩:∃ e z,mL l = .out e z∧e = .exit 0:=by
    unfold mL
    refine ew (step:=gR) (fun j y=>y.i=(j:Int)) (fun e _=>e = .exit 0) 100 (by decide) (fun j y hj f1=>?_) rfl
    have w1:aH (y.i+1)=y.i+1:=a7 (by omega) (by omega)
    unfold gR
    cases h:decide (y.i < ((y.l.n:Nat):Int)) with
    | false=>exact .inr ⟨_,_,rfl,rfl,rfl⟩
    | true=>
      cases h2:decide (y.i < (100:Int)) with
      | false=>exact .inr ⟨_,_,rfl,rfl,rfl⟩
      | true=>
        have AX:=of_decide_eq_true h2
        simp only [w1,cond_true,Bool.and_self,decide_eq_true (show (0:Int)≤y.i by omega)]
        exact .inl ⟨_,rfl,by omega,by show y.i+1=_; omega⟩
  have b1:(mL l).by (.exit 0)=true:=by rw [hz]; rfl
  unfold pZ
  simp only [b1,cond_true]
  exact fS (fun _=>rfl) (fun _=>rfl)
theorem aeY (s:Show):(p9 s).isSome=true:=by
  obtain ⟨e,z,hz,rfl⟩:∃ e z,kF s = .out e z∧e = .exit 0:=by
    unfold kF
    refine ew (step:=gS) (fun j y=>y.i=(j:Int)) (fun e _=>e = .exit 0) 300 (by decide) (fun j y hj f1=>?_) rfl
    have w1:aH (y.i+1)=y.i+1:=a7 (by omega) (by omega)
    unfold gS
    cases h:decide (y.i < ((y.s.items.n:Nat):Int)) with
    | false=>exact .inr ⟨_,_,rfl,rfl,rfl⟩
    | true=>
      cases h2:decide (y.i < (300:Int)) with
      | false=>exact .inr ⟨_,_,rfl,rfl,rfl⟩
      | true=>
        have AX:=of_decide_eq_true h2
        simp only [w1,cond_true,Bool.and_self,decide_eq_true (show (0:Int)≤y.i by omega)]
        exact .inl ⟨_,rfl,by omega,by show y.i+1=_; omega⟩
  have b1:(kF s).by (.exit 0)=true:=by rw [hz]; rfl
  have e1:(yF s).isSome=true:=acV _
  unfold p9
  simp only [b1,e1,cond_true]
  exact fS (fun _=>rfl) (fun _=>fS (fun _=>rfl) (fun _=>rfl))
end Go.Proofs.Ytahhdndhkgbcjaa.b
end
section
namespace Go.Proofs.Ytahhdndhkgbcjaa.b
open Go.K
open Go.aV (au)
theorem aha {α:Type} [Inhabited α] (l:Sl α) (j:Nat) (h:j < l.n):(lO l)[j]? = some (l.get j):=by
  unfold lO
  simp [h]
theorem count_filter (p:dJ→Bool) (d:dJ) (l:List dJ) (h:∀ e,nv d e=true→p e=true):(l.filter p).countP (nv d)=l.countP (nv d):=by
  rw [List.countP_filter]
  refine List.countP_congr fun e _=>?_
  constructor
  · intro q
    exact (Bool.and_eq_true_iff.1 q).1
  · intro q
    exact Bool.and_eq_true_iff.2 ⟨q,h e q⟩
theorem abF (p:dJ→Bool) (x:cz) (hn:x.l.n≤1000) (hm:lO x.m=(lO x.l).filter p) (ha:x.at_=0) (hi:x.i=0) :
    ∃ e y,goN dx x = .out e y∧(e = .exit 0∧y.l=x.l∧y.x=x.x∧y.y=x.y∧y.ok=x.ok∧y.m=x.m∧y.s=x.s∧y.c=x.c∧y.w=x.w∧y.at_=(x.m.n:Int)):=by
  have Jz:x.m.n=((lO x.l).filter p).length:=by rw [← hm,pe]
  refine ew (step:=dx) (fun j y=>(y.l=x.l∧y.x=x.x∧y.y=x.y∧y.ok=x.ok∧y.m=x.m∧y.s=x.s∧y.c=x.c∧y.w=x.w)∧y.i=(j:Int)∧j≤x.l.n∧∃ k:Nat,y.at_=(k:Int)∧k≤x.m.n∧(((lO x.l).take j).filter p).length≤k) (fun e y=>e = .exit 0∧y.l=x.l∧y.x=x.x∧y.y=x.y∧y.ok=x.ok∧y.m=x.m∧y.s=x.s∧y.c=x.c∧y.w=x.w∧y.at_=(x.m.n:Int)) x.l.n (by have:o4=1000000000000:=rfl; omega) (fun j y hj ⟨hf,f1,f2,k,f3,f4,f5⟩=>?_) ⟨⟨rfl,rfl,rfl,rfl,rfl,rfl,rfl,rfl⟩,hi,Nat.zero_le _,0,ha,Nat.zero_le _,Nat.le_refl _⟩
  obtain ⟨g1,g2,g3,g4,g5,g6,g7,g8⟩:=hf
  have hmn:x.m.n≤x.l.n:=by rw [Jz,← pe x.l]; exact List.length_filter_le _ _
  have w1:aH (y.i+1)=y.i+1:=a7 (by omega) (by omega)
  have w2:aH (y.at_+1)=y.at_+1:=a7 (by omega) (by omega)
  unfold dx
  by_cases h:j < x.l.n
  · by_cases h2:k < x.m.n
    · simp only [w1,w2,cond_true,Bool.and_self,decide_eq_true (show y.i < ((y.l.n:Nat):Int) by rw [g1]; omega),decide_eq_true (show y.at_ < ((y.m.n:Nat):Int) by rw [g5]; omega),decide_eq_true (show (0:Int)≤y.i by omega),decide_eq_true (show (0:Int)≤y.at_ by omega)]
      have q:(((y.l.get (Int.toNat y.i)).item == (y.m.get (Int.toNat y.at_)).item) && (((y.l.get (Int.toNat y.i)).dt == (y.m.get (Int.toNat y.at_)).dt) && true))=nv (x.m.get k) (x.l.get j):=by
        rw [g1,g5,f1,f3,Int.toNat_natCast,Int.toNat_natCast]; rfl
      rw [q]
      have tk:=HG x.l j h
      left
      cases g:nv (x.m.get k) (x.l.get j) with
      | true=>
        refine ⟨_,rfl,h,⟨g1,g2,g3,g4,g5,g6,g7,g8⟩,by show y.i+1=_; omega,by omega,k+1,by show y.at_+1=_; omega,by omega,?_⟩
        rw [tk,List.filter_append,List.length_append]
        have:([x.l.get j].filter p).length≤1:=List.length_filter_le _ _
        omega
      | false=>
        refine ⟨_,rfl,h,⟨g1,g2,g3,g4,g5,g6,g7,g8⟩,by show y.i+1=_; omega,by omega,k,f3,f4,?_⟩
        rw [tk,List.filter_append,List.length_append]
        by_cases hp:p (x.l.get j)=true
        · have bo:(((lO x.l).take j).filter p).length≠k:=fun he=>by
            have e1:lO x.m=((lO x.l).take (j+1)).filter p ++ ((lO x.l).drop (j+1)).filter p:=by
              rw [hm,← List.filter_append,List.take_append_drop]
            have e2:(lO x.m)[k]? = some (x.l.get j):=by
              rw [e1,tk,List.filter_append,List.filter_cons_of_pos hp,List.filter_nil,List.append_assoc,List.getElem?_append_right (by omega),he,Nat.sub_self]
              rfl
            rw [aha x.m k h2] at e2
            injection e2 with e2
            rw [e2] at g
            simp [nv] at g
          have:([x.l.get j].filter p).length≤1:=List.length_filter_le _ _
          omega
        · rw [List.filter_cons_of_neg hp,List.filter_nil,List.length_nil]
          omega
    · have hk:k=x.m.n:=by omega
      simp only [cond_true,cond_false,decide_eq_true (show y.i < ((y.l.n:Nat):Int) by rw [g1]; omega),decide_eq_false (show ¬ y.at_ < ((y.m.n:Nat):Int) by rw [g5]; omega)]
      exact .inr ⟨_,_,rfl,rfl,rfl,g1,g2,g3,g4,g5,g6,g7,g8,by omega⟩
  · simp only [cond_false,decide_eq_false (show ¬ y.i < ((y.l.n:Nat):Int) by rw [g1]; omega)]
    refine .inr ⟨_,_,rfl,rfl,rfl,g1,g2,g3,g4,g5,g6,g7,g8,?_⟩
    rw [List.take_of_length_le (by rw [pe]; omega),← Jz] at f5
    omega
end Go.Proofs.Ytahhdndhkgbcjaa.b
end
section
namespace Go.Proofs.Ytahhdndhkgbcjaa.b
open Go.K
open Go.aV (au)
theorem acW (x:bJ) (hl:x.l.n≤1000) (hm:x.m.n≤1000) (hg:x.g.n≤98304) (hi:x.i=0) (hc:∀ i,i < x.g.n→(lO x.m).countP (nv ⟨(x.g.get i).item,(x.g.get i).dt⟩)=(lO x.l).countP (nv ⟨(x.g.get i).item,(x.g.get i).dt⟩)) :
    ∃ e y,goN dg x = .out e y∧(e = .exit 2∧y.ok=x.ok∧y.f=x.f):=by
  refine ew (step:=dg) (fun j y=>(y.l=x.l∧y.ok=x.ok∧y.m=x.m∧y.g=x.g∧y.f=x.f)∧y.i=(j:Int)∧j≤x.g.n) (fun e y=>e = .exit 2∧y.ok=x.ok∧y.f=x.f) x.g.n (by have:o4=1000000000000:=rfl; omega) (fun j y hj ⟨⟨g1,g2,g3,g4,g5⟩,f1,f2⟩=>?_) ⟨⟨rfl,rfl,rfl,rfl,rfl⟩,hi,Nat.zero_le _⟩
  have w1:aH (y.i+1)=y.i+1:=a7 (by omega) (by omega)
  unfold dg
  by_cases h:j < x.g.n
  · have e0:fo y=some (((lO x.l).countP (nv ⟨(x.g.get j).item,(x.g.get j).dt⟩):Nat):Int):=by
      unfold fo
      rw [g1,g4,f1,Int.toNat_natCast]
      exact Xw _ _ hl
    have e1:jE y=some (((lO x.l).countP (nv ⟨(x.g.get j).item,(x.g.get j).dt⟩):Nat):Int):=by
      unfold jE
      rw [g3,g4,f1,Int.toNat_natCast,← hc j h]
      exact Xw _ _ hm
    simp only [e0,e1,w1,cond_true,cond_false,Bool.and_self,Option.isSome_some,Option.getD_some,bne_self_eq_false,decide_eq_true (show y.i < ((y.g.n:Nat):Int) by rw [g4]; omega),decide_eq_true (show (0:Int)≤y.i by omega)]
    left
    cases decide ((((lO x.l).countP (nv ⟨(x.g.get j).item,(x.g.get j).dt⟩):Nat):Int) > (0:Int)) with
    | true=>exact ⟨_,rfl,h,⟨g1,g2,g3,g4,g5⟩,by show y.i+1=_; omega,by omega⟩
    | false=>exact ⟨_,rfl,h,⟨g1,g2,g3,g4,g5⟩,by show y.i+1=_; omega,by omega⟩
  · simp only [cond_false,decide_eq_false (show ¬ y.i < ((y.g.n:Nat):Int) by rw [g4]; omega)]
    exact .inr ⟨_,_,rfl,rfl,rfl,g2,g5⟩
end Go.Proofs.Ytahhdndhkgbcjaa.b
end
section
namespace Go.Proofs.Ytahhdndhkgbcjaa.b
open Go.K
open Go.aV (au)
open Classical in
theorem Wz (s:Show) (c:aI) (l:Sl dJ) (w:dR) (x y:Int):ru s c l w x y=some true:=by
  obtain ⟨b,hb⟩:=agZ (aeY s)
  have e0:uh s c l w x y=some b:=hb
  obtain ⟨m,e,hm,hm1,hm2⟩:=abC s c l w
  have e1:lE s c l w x y=some (m,e):=hm
  unfold ru
  simp only [e0,e1,Option.isSome_some,Option.getD_some,cond_true]
  cases b with
  | true=>rfl
  | false=>
  rw [cond_false]
  cases g:decide (((l.n:Nat):Int) > (300:Int)) with
  | true=>rfl
  | false=>
  have hn:=of_decide_eq_false g
  rw [cond_false]
  by_cases he:e=0
  · subst he
    obtain ⟨sn,Jz⟩:=hm2 rfl
    rw [show ((0:Int) != 0)=false from rfl,cond_false]
    have hmn:m.n≤l.n:=by
      rw [← pe m,Jz,← pe l]
      exact List.length_filter_le _ _
    obtain ⟨e,z,hz,rfl,z1,z2,z3,z4,z5,z6,z7,z8,z9⟩:∃ e z,aD s c l w x y = .out e z∧(e = .exit 0∧z.l=l∧z.x=x∧z.y=y∧z.ok=true∧z.m=m∧z.s=s∧z.c=c∧z.w=w∧z.at_=(m.n:Int)):=by
      unfold aD
      rw [e1]
      exact abF _ _ (by show l.n≤1000; omega) Jz rfl rfl
    have b1:(aD s c l w x y).by (.exit 0)=true:=by rw [hz]; rfl
    have b2:(aD s c l w x y).st=z:=by rw [hz]; rfl
    simp only [b1,b2,z2,z3,z4,z5,z8,z9,cond_true,bne_self_eq_false,cond_false,beq_self_eq_true]
    cases i1:decide (x < w.x0) with
    | true=>rfl
    | false=>
    cases i2:decide (x > w.x1) with
    | true=>rfl
    | false=>
    cases i3:decide (y < w.y0) with
    | true=>rfl
    | false=>
    cases i4:decide (y > w.y1) with
    | true=>rfl
    | false=>
    have i1:=of_decide_eq_false i1
    have i2:=of_decide_eq_false i2
    have i3:=of_decide_eq_false i3
    have i4:=of_decide_eq_false i4
    obtain ⟨fr,sY,Jx,hfa⟩:=abE s c w x y sn (by omega) (by omega)
    have e3:lF s c l w x y=some (fr,0):=by
      unfold lF
      rw [b2,z6,z7,z2,z3]
      exact sY
    obtain ⟨e,v,hv,rfl,v1,v2⟩:∃ e v,fj s c l w x y = .out e v∧(e = .exit 2∧v.ok=true∧v.f=0):=by
      unfold fj
      rw [b2,e3,z1,z4,z5]
      refine acW _ (by show l.n≤1000; omega) (by show m.n≤1000; omega) Jx rfl (fun i hi=>?_)
      show (lO m).countP _=(lO l).countP _
      rw [Jz]
      refine count_filter _ _ _ fun d hd=>?_
      have akH:=ah9 s c w x y (fr.get i) sn (by omega) (by omega) (hfa i hi)
      have wM:d=⟨(fr.get i).item,(fr.get i).dt⟩:=by
        obtain ⟨d1,d2⟩:=d
        have q:d1=(fr.get i).item∧d2=(fr.get i).dt:=by simpa [nv] using hd
        rw [q.1,q.2]
      rw [wM]
      exact decide_eq_true akH
    have c1:(fj s c l w x y).by (.exit 2)=true:=by rw [hv]; rfl
    have c2:(fj s c l w x y).st=v:=by rw [hv]; rfl
    simp only [e3,c1,c2,v1,v2,Option.isSome_some,cond_true,cond_false,beq_self_eq_true]
  · rw [show (e != (0:Int))=true by simpa using he,cond_true,hm1 he]
    rfl
end Go.Proofs.Ytahhdndhkgbcjaa.b
end
section
namespace Go.aV
open Go.RowKit Go.WideShapes Go.ChangeShapes
theorem abG {H:Type} {enc:TypeId×Value→H} {P:Program} {f:Func} {s:ChangeSpec} {apart fresh handsOn again:Bool} {W W' : World} {args:Array Value} {v:Value} {ds gs:List (DataW H)} {before pa pv:List MemPlace}
    (whole:DataW.Whole enc P f.params.toList s.vars apart W args.toList ds gs before) (below:Below W.heap.size W W') (Sf:before=pa ++ pv)
    (res:∀ (b:Nat) (sp:Nat→Bool) (hd:Bool),DataW.TrodAll enc P W' b sp hd f.resultTypes.toList (v.resultList f.resultTypes.size) (s.fn H (ds ++ gs)).results [])
    (arg:∀ sp:Nat→Bool,(∀ p ∈ before,sp p.block=true)→DataW.TrodAll enc P W' 0 sp true f.params.toList args.toList (s.fn H (ds ++ gs)).args pa)
    (var:∀ sp:Nat→Bool,(∀ p ∈ before,sp p.block=true)→DataW.TrodVars enc P W' sp s.vars (s.fn H (ds ++ gs)).vars pv)
    (wide:∀ (j:Nat) (t:TypeId) (r:Value),f.resultTypes[j]? = some t→(v.resultList f.resultTypes.size)[j]? = some r→Value.okWide P W' .any 0 t r) :
    s.post enc P f apart fresh handsOn again W args v W':=by
  have lt:∀ p ∈ before,p.block < W.heap.size:=fun p hp=>whole.lt p hp
  have dT:∀ p ∈ before,(fun b=>decide (b < W.heap.size)) p.block=true:=fun p hp=>by simpa using lt p hp
  refine ⟨ds,gs,before,[],pa,pv,whole,res _ _ _,arg _ dT,var _ dT,World.keptBut_mono (fun p hp=>⟨hp,?_⟩) (below.frame (· ∈ before)),fun _=>?_⟩
  · rw [Sf,List.mem_append] at hp; exact Or.inr hp
  · obtain ⟨_,_,_,_,_,fz,nd⟩:=whole
    refine ⟨wide,_,_,([] ++ pa) ++ pv,⟨[] ++ pa,pv,trodAll_append (arg _ (fun _ _=>rfl)) (res _ _ _),var _ (fun _ _=>rfl),rfl,fun b off hp=>?_,fun ha=>?_⟩,fun p hp _=>?_⟩
    · have here:MemPlace.cell b off ∈ before:=by rw [Sf]; simpa using hp
      rw [below.frozen (lt _ here)]
      exact fz b off here
    · have:=nd ha
      rw [Sf] at this
      simpa using this
    · rw [Sf]; simpa using hp
end Go.aV
end
section
namespace Go.K
open Go Go.aV Go.RowKit Go.WideShapes Go.ChangeShapes
section
variable {H:Type} {enc:TypeId×Value→H} {P:Program} {W W' : World}
theorem NU {base:Nat} {sp:Nat→Bool} {held:Bool} : ∀ {ts:List TypeId} {vs:List Value} {ds:List (DataW H)} {ps:List MemPlace},DataW.TrodAll enc P W base sp held ts vs ds ps→ds.length=ts.length
  | [],_,_,_,h=>by
    obtain ⟨rfl,rfl,rfl⟩:=trodAll_nil h
    rfl
  | t :: ts,vs,ds,ps,h=>by
    obtain ⟨v,vs1,d,ds1,a,b,rfl,rfl,rfl,_,h2⟩:=trodAll_cons h
    simp [NU h2]
theorem xK {α:Type} {n:Nat} {l:List α} (h:l.length=n+1):∃ x xs,l=x :: xs:=by
  cases l with
  | nil=>simp at h
  | cons x xs=>exact ⟨x,xs,rfl⟩
theorem GY (hl:laidOutB P=true) (hb:Below W.heap.size W W') {sp:Nat→Bool} : ∀ {ts:List TypeId} {vs:List Value} {ds:List (DataW H)} {ps:List MemPlace},ts.all (fun t=>P.readableRec t && Nat.blt t P.types.size)=true→
    DataW.TrodAll enc P W 0 (fun _=>true) true ts vs ds ps→(∀ x ∈ ps,x.block < W.heap.size)→(∀ x ∈ ps,sp x.block=true)→DataW.TrodAll enc P W' 0 sp true ts vs ds ps
  | [],_,_,_,_,h,_,_=>by
    obtain ⟨rfl,rfl,rfl⟩:=trodAll_nil h
    exact trodAll_mk0
  | t :: ts,vs,ds,ps,ht,h,aY,vV=>by
    obtain ⟨v,vs1,d,ds1,a,b,rfl,rfl,rfl,h1,h2⟩:=trodAll_cons h
    simp only [List.all_cons,Bool.and_eq_true] at ht
    obtain ⟨⟨hr,fa⟩,ht⟩:=ht
    rw [Nat.blt_eq] at fa
    refine ⟨a,b,WideElems.Trod_stays hl hr fa h1 (fun x hx=>hb.same (aY x (by simp [hx]))) (fun x hx=>vV x (by simp [hx])),?_,rfl⟩
    exact GY hl hb ht h2 (fun x hx=>aY x (by simp [hx])) (fun x hx=>vV x (by simp [hx]))
theorem ae0 {s:ChangeSpec} {f:Func} {apart fresh handsOn again:Bool} {args:Array Value} {ds gs:List (DataW H)} {before:List MemPlace} (hl:laidOutB P=true) (hts:f.params.toList.all (fun t=>P.readableRec t && Nat.blt t P.types.size)=true)
    (ahb:s.vars = []) (acd:(s.fn H ds).args=ds) (DC:(s.fn H ds).results = [.lit (.bool true)]) (hv:(s.fn H ds).vars = []) {t:TypeId} (hrt:f.resultTypes = #[t]) (hb:P.underlying t=some .bool)
    (hW:DataW.Whole enc P f.params.toList s.vars apart W args.toList ds gs before) (hg:Below W.heap.size W W'):s.post enc P f apart fresh handsOn again W args (.bool true) W':=by
  have hW':=hW
  obtain ⟨p,q,hA,hV,aiM,_,_⟩:=hW
  rw [ahb] at hV
  obtain ⟨rfl,rfl⟩:=trodVars_none hV
  rw [List.append_nil] at aiM
  subst aiM
  have aY:∀ x ∈ before,x.block < W.heap.size:=fun x hx=>hW'.lt x (by simpa using hx)
  refine aV.abG (pa:=before) (pv:=[]) hW' hg (by simp) (fun b sp hd=>?_) (fun sp vV=>?_) (fun sp vV=>?_) (ok_one hrt rfl (okWide_bool_mk hb _))
  · rw [List.append_nil,DC,hrt]
    exact trodAll_cons_mk (shut_bool hb _) trodAll_mk0
  · rw [List.append_nil,acd]
    exact GY hl hg hts hA aY (fun x hx=>vV x (by simpa using hx))
  · rw [List.append_nil,hv,ahb]
    rfl
end
end Go.K
end
