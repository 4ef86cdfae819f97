/- Part of the proof of BinsTell: the machine, shown to be the model's, and plain models. No conditions. -/
import Derived.Test.YtchbpckkmgcgkaaGreatIp
import Derived.Test.YtchbpckkmgcgkaaGreatHp
import Derived.Test.YtchbpckkmgcgkaaGreatGp
set_option linter.unusedSimpArgs false
set_option linter.unusedVariables false
section
namespace Go.Proofs.YtchbpckkmgcgkaaGreat.b
open Go.K Go.K.fj
open Go.aB (ai)
def rP (c:aE) (p:bK):yg:=⟨(8 * c.qY * p.p.x) / p.p.z+4 * c.w,4 * c.h - (8 * c.qY * p.p.y) / p.p.z,Int.tdiv 16777216 p.p.z,p.u,p.v⟩
theorem Qc {f x z:Int} (hf:1<=f/\f<=64) (hx:In x 32768) (hz:256<=z/\z<=32768):eT (az ((az ((8:Int) * f)) * x)) z=some ((8 * f * x) / z,0)/\In ((8 * f * x) / z) 16777216:=by
 unfold In at *;have h:=sm (a:=8 * f) (b:=x) (c:=512) (d:=32768) (by omega) (by omega) hx;rw [aw (n:=8 * f),aw (n:=8 * f * x),Lu _ _ (by omega) (by omega)];generalize 8 * f * x=q at *;have l1 : -16777216<=q / z:=Int.le_ediv_of_mul_le (by omega) (by omega);have l2:q / z<=16777216:=Int.ediv_le_of_le_mul (by omega) (by omega);exact ⟨rfl,l1,l2⟩
theorem Qd {c:aE} {p:bK} (hc:gJ c) (hp:kU p) (hz:c.au<=p.p.z):rq c p=some (rP c p,0):=by
 obtain ⟨e,h1,_,h2⟩:=sq c;have he:e=0:=h2.2 hc;subst he;obtain ⟨⟨_,hf,hn,hw,hh⟩,_⟩:=id hc;obtain ⟨hx,hy,⟨z1,z2⟩,_,_⟩:=id hp;have e0:A8 c p=some 0:=h1;have e1:A9 c p=some 0:=AG hp;obtain ⟨f2,i2⟩:=Qc hf hx (z:=p.p.z) (by omega);obtain ⟨f3,i3⟩:=Qc hf hy (z:=p.p.z) (by omega);have e2:GN c p=some ((8 * c.qY * p.p.x) / p.p.z,0):=f2;have e3:GP c p=some ((8 * c.qY * p.p.y) / p.p.z,0):=f3;have ht:Int.tdiv 16777216 p.p.z=16777216 / p.p.z:=XF (by decide);have t1:0<=(16777216:Int) / p.p.z:=Int.ediv_nonneg (by decide) (by omega);have t2:(16777216:Int) / p.p.z<=16777216:=Int.ediv_le_self _ (by decide);unfold In at i2 i3;unfold rq rP;simp only [e0,e1,e2,e3,bN,bG,aj,hO,aq,ax (show ¬ p.p.z < c.au by omega),ax (show ¬ p.p.z=0 by omega),yJ];rw [aw (n:=4 * c.w),aw (n:=4 * c.h),aw (n:=_+4 * c.w),aw (n:=4 * c.h - _),aw (n:=Int.tdiv 16777216 p.p.z)]
def qt (t:aW) (cz:Int):Bool:=((py t cz).getD default).1
theorem ajs (t:aW) (cz:Int):∃ e,py t cz=some (qt t cz,e):=by
 obtain ⟨⟨b,e⟩,h⟩:=abv (aoP t cz);refine ⟨e,?_⟩;unfold qt;rw [h];rfl
theorem XB (t:aW) (cz:Int):qt t cz=true↔PZ t/\(cz=0/\ud t≠0\/cz=1/\0 < ud t\/cz=2/\ud t < 0):=by
 unfold qt py;rcases DT t with ⟨ht,h⟩ | ⟨ht,e,h,he⟩
 ·have e0:mJ t cz=some (ud t,0):=h
  simp only [e0,bN,bG,aj,hO,aq];by_cases c0:cz=0
  ·subst c0
   simp [ht]
  ·rw [show (cz==(0:Int))=false by simpa using c0,aq]
   by_cases c1:cz=1
   ·subst c1
    simp [ht]
   ·rw [show (cz==(1:Int))=false by simpa using c1,aq]
    by_cases c2:cz=2
    ·subst c2
     simp [ht]
    ·rw [show (cz==(2:Int))=false by simpa using c2,aq]
     simp [c0,c1,c2]
 ·have e0:mJ t cz=some (0,e):=h
  simp only [e0,bN,bG,aj,show (e != (0:Int))=true by simpa using he];simp [ht]
def yD (t:aW):aW:=cond (decide (ud t < 0)) ⟨t.e0,t.e2,t.e1⟩ t
theorem amX (t:aW):ud ⟨t.e0,t.e2,t.e1⟩ = - ud t:=by
 show (t.e2.x - t.e0.x) * (t.e1.y - t.e0.y) - (t.e1.x - t.e0.x) * (t.e2.y - t.e0.y) = -((t.e1.x - t.e0.x) * (t.e2.y - t.e0.y) - (t.e2.x - t.e0.x) * (t.e1.y - t.e0.y));omega
theorem ZV {t:aW} {cz:Int} (h:qt t cz=true):wK t=some (yD t,0)/\MI (yD t):=by
 obtain ⟨ht,hc⟩:=(XB t cz).1 h;have eF:ud t≠0:=by omega
 rcases DT t with ⟨_,ha⟩ | ⟨hn,_⟩
 ·have e0:sW t=some (ud t,0):=ha
  unfold wK yD;simp only [e0,bN,bG,aj,hO,aq,show (ud t==(0:Int))=false by simpa using eF];by_cases a8:ud t < 0
  ·rw [ao a8]
   exact ⟨rfl,⟨ht.1,ht.2.2,ht.2.1⟩,by show 0 < ud ⟨t.e0,t.e2,t.e1⟩; rw [amX]; omega⟩
  ·rw [ax a8]
   exact ⟨rfl,ht,by show 0 < ud t; omega⟩
 ·exact absurd ht hn
def oV (c:aE) (q:bo):aW:=⟨rP c q.e0,rP c q.e1,rP c q.e2⟩
def yE (c:aE) (cz:Int) (L:List bo):List aW:=L.filterMap fun q=>cond (qt (oV c q) cz) (some (yD (oV c q))) none
theorem acJ (c:aE) (cz:Int) (L:List bo) (q:bo):yE c cz (L++[q])=yE c cz L++cond (qt (oV c q) cz) [yD (oV c q)] []:=by
 unfold yE;rw [List.filterMap_append,List.filterMap_cons,List.filterMap_nil];cases qt (oV c q) cz <;> rfl
theorem ajt {c:aE} {cz:Int} {L:List bo} {t:aW} (h:t∈yE c cz L):MI t:=by
 obtain ⟨q,_,hq⟩:=List.mem_filterMap.1 h;cases hs:qt (oV c q) cz with
 | true=>
  rw [hs,aj] at hq;rw [<- uf hq];exact (ZV hs).2
 | false=>rw [hs] at hq; simp at hq
structure QOk (c:aE) (q:bo):Prop where
 o0:kU q.e0/\c.au<=q.e0.p.z
 o1:kU q.e1/\c.au<=q.e1.p.z
 o2:kU q.e2/\c.au<=q.e2.p.z
theorem aju {c:aE} (hc:gJ c) (x:fc) (hxc:x.c=c) (hq:∀ j,j < x.t72.n->QOk c (x.t72.get j)) (hn:x.t72.n<=1000) (h1:x.t73=(x.t72.n:Int)) (h0:x.t74=0) (ho:x.out.n=0) :
  ∃ e z,goN jU x = .out e z/\(e = .exit 2/\eo z.out=yE c x.x.look.cz (eo x.t72)):=by
 refine bp (step:=jU) (fun j y=>y.t72=x.t72/\y.t73=(x.t72.n:Int)/\y.t74=(j:Int)/\j<=x.t72.n/\y.c=c/\y.x=x.x/\y.out.n<=j/\eo y.out=yE c x.x.look.cz ((eo x.t72).take j)) _ x.t72.n (by have:eS=10000000000000:=rfl; omega) (fun j y hj ⟨f1,f2,f3,f4,f5,f6,f7,f8⟩=>?_) ⟨rfl,h1,h0,cw _,hxc,rfl,by omega,lL.1 (by rw [eZ,ho])⟩;have w1:az (y.t74+1)=y.t74+1:=aw;have a1:gi 120 y.out.n 1=true:=jX;unfold jU bj mI aF;by_cases h:y.t74 < y.t73
 ·have jc:j < x.t72.n:=by omega
  have hg:y.t72.get (Int.toNat y.t74)=x.t72.get j:=by rw [f1,f3,cm]
  obtain ⟨o0,o1,o2⟩:=hq j jc;have e0:pI y=some (rP c (x.t72.get j).e0,0):=by unfold pI; rw [hg,f5]; exact Qd hc o0.1 o0.2
  have e1:pJ y=some (rP c (x.t72.get j).e1,0):=by unfold pJ; rw [hg,f5]; exact Qd hc o1.1 o1.2
  have e2:pK y=some (rP c (x.t72.get j).e2,0):=by unfold pK; rw [hg,f5]; exact Qd hc o2.1 o2.2
  obtain ⟨e,hs⟩:=ajs (oV c (x.t72.get j)) x.x.look.cz;have e3:tw y=some (qt (oV c (x.t72.get j)) x.x.look.cz,e):=by
   unfold tw;rw [e0,e1,e2,f6];exact hs
  have tk:yE c x.x.look.cz ((eo x.t72).take (j+1))=yE c x.x.look.cz ((eo x.t72).take j)++cond (qt (oV c (x.t72.get j)) x.x.look.cz) [yD (oV c (x.t72.get j))] []:=by
   rw [abx x.t72 j jc,acJ]
  simp only [e0,e1,e2,e3,w1,a1,aH,aj,bI,bN,bG,ao h,ao (show (0:Int)<=y.t74 by omega),ao (show y.t74 < ((y.t72.n:Nat):Int) by rw [f1]; omega)];cases hb:qt (oV c (x.t72.get j)) x.x.look.cz with
  | true=>
   have e4:tz y=some (yD (oV c (x.t72.get j)),0):=by
    unfold tz;rw [e0,e1,e2];exact (ZV hb).1
   rw [hb] at tk;simp only [e4,bN,bG,aj];refine .inl ⟨_,rfl,jc,f1,f2,by show y.t74+1=_; omega,by omega,f5,f6,by show y.out.n+1<=_; omega,?_⟩;show eo (Sl.push _ _)=_;rw [jO,f8,tk];rfl
  | false=>
   rw [hb] at tk;rw [aq];refine .inl ⟨_,rfl,jc,f1,f2,by show y.t74+1=_; omega,by omega,f5,f6,by show y.out.n<=_; omega,?_⟩;show eo y.out=_;rw [f8,tk,aq,lM]
 ·simp only [aH,aj,aq,ax h]
  refine .inr ⟨_,_,rfl,rfl,rfl,?_⟩;rw [f8,show j=x.t72.n by omega,Re (by rw [eZ]; exact aQ _)]
structure ad2 (x:Item):Prop where
 ok:Tq x
 v:∀ j,j < x.aG.n->xg (x.aG.get j)
 uv:∀ j,j < x.aG.n->(0<=(x.uV.get j).e0/\(x.uV.get j).e0<=255)/\0<=(x.uV.get j).e1/\(x.uV.get j).e1<=255
def an8 (c:aE) (x:Item) (n:Int):bK:=⟨lx c (x.aG.get (Int.toNat n)),(x.uV.get (Int.toNat n)).e0,(x.uV.get (Int.toNat n)).e1⟩
def XC (c:aE) (x:Item) (k:Nat):bo:=⟨an8 c x (x.aP.get k).e0,an8 c x (x.aP.get k).e1,an8 c x (x.aP.get k).e2⟩
theorem abB {c:aE} {x:Item} {n:Int} (hc:gJ c) (hx:ad2 x) (hn:0<=n/\n < (x.aG.n:Int)):kU (an8 c x n)/\nY c (x.aG.get (Int.toNat n))=some (lx c (x.aG.get (Int.toNat n)),0):=by
 obtain ⟨h1,h2,h3,h4⟩:=alK hc (hx.v (Int.toNat n) (by omega));obtain ⟨h5,h6⟩:=hx.uv (Int.toNat n) (by omega);unfold In at h2 h3 h4;refine ⟨⟨?_,?_,?_,h5,h6⟩,h1⟩
 ·show In (lx c _).x _; unfold In; omega
 ·show In (lx c _).y _; unfold In; omega
 ·show In (lx c _).z _; unfold In; omega
theorem abC (au:Int) (t:bo):(yC au t).length<=6:=by
 have h:∀ a b,(sS au a b).length<=2:=by
  intro a b;unfold sS;cases decide (a.p.z >= au) <;> cases decide (b.p.z >= au) <;> simp
 unfold yC;rw [ko,ko];have h1:=h t.e0 t.e1; have h2:=h t.e1 t.e2; have h3:=h t.e2 t.e0;omega
theorem ajv (s:Show) (c:aE) (i k:Nat) (hi:i < s.items.n) (hk:k < (s.items.get i).aP.n) (hc:gJ c) (hx:ad2 (s.items.get i)):∃ r,uR s c (i:Int) (k:Int)=some r/\eo r=yE c (s.items.get i).look.cz (Lz (yC c.au (XC c (s.items.get i) k))):=by
 obtain ⟨huv,aqI⟩:=hx.ok;obtain ⟨t0,t1,t2⟩:=aqI k hk;obtain ⟨p0,v0⟩:=abB hc hx t0;obtain ⟨p1,v1⟩:=abB hc hx t1;obtain ⟨p2,v2⟩:=abB hc hx t2;have alM:Cg (XC c (s.items.get i) k):=⟨p0,p1,p2⟩
 have hn:256<=c.au/\c.au<=4096:=hc.1.2.2.1;have e0:zi s c i k=some (lx c ((s.items.get i).aG.get (Int.toNat ((s.items.get i).aP.get k).e0)),0):=by unfold zi; rw [cm,cm]; exact v0
 have e1:zj s c i k=some (lx c ((s.items.get i).aG.get (Int.toNat ((s.items.get i).aP.get k).e1)),0):=by unfold zj; rw [cm,cm]; exact v1
 have e2:zk s c i k=some (lx c ((s.items.get i).aG.get (Int.toNat ((s.items.get i).aP.get k).e2)),0):=by unfold zk; rw [cm,cm]; exact v2
 obtain ⟨r,hr,HS⟩:=alL hn alM;have e3:uQ s c i k=some (r,0):=by
  unfold uQ;rw [e0,e1,e2,cm,cm];exact hr
 have hrn:r.n<=1000:=by
  rw [<- eZ r,HS];unfold Lz;rw [List.length_map,List.length_range];have:=abC c.au (XC c (s.items.get i) k);omega
 obtain ⟨e,z,hz,rfl,hzl⟩:∃ e z,rK s c i k = .out e z/\(e = .exit 2/\eo z.out=yE c (s.items.get i).look.cz (eo r)):=by
  unfold rK;rw [e3,cm];refine aju hc _ rfl (fun j hj=>?_) hrn rfl rfl rfl;have hm:r.get j∈eo r:=J9 hj;rw [HS] at hm;obtain ⟨o0,o1,o2⟩:=an7 hn alM hm;exact ⟨o0,o1,o2⟩
 have b1:(rK s c i k).by (.exit 2)=true:=by rw [hz]; rfl
 have b2:(rK s c i k).st=z:=by rw [hz]; rfl
 refine ⟨z.out,?_,by rw [hzl,HS]⟩;unfold uR bj;simp only [e0,e1,e2,e3,b1,b2,cm,bN,aj,bI,ao (show 0<=(i:Int) by omega),ao (show (i:Int) < ((s.items.n:Nat):Int) by omega),ao (show 0<=(k:Int) by omega),ao (show (k:Int) < (((s.items.get i).aP.n:Nat):Int) by omega),
  ao t0.1,ao t0.2,ao t1.1,ao t1.2,ao t2.1,ao t2.2,huv]
end Go.Proofs.YtchbpckkmgcgkaaGreat.b
end
section
namespace Go.Proofs.YtchbpckkmgcgkaaGreat.b
open Go.K
open Go.aB (ai)
def ad3 (s:Show):Prop:=∀ i,i < s.items.n->pz (s.items.get i) (s.av.n:Int)=some true
theorem acK (s:Show) (hn:s.items.n<=256):∃ e x',dA s = .out e x'/\(e = .ret/\x'.t4 >= 0/\¬ ad3 s\/e = .exit 0/\ad3 s):=by
 unfold dA;refine bp (step:=ca) (fun j y=>y.s=s.items/\y.t7=(s.items.n:Int)/\y.t8=(j:Int)/\j<=s.items.n/\y.Ee=s/\∀ i,i < j->pz (s.items.get i) (s.av.n:Int)=some true) _ s.items.n (by have:eS=10000000000000:=rfl; omega) (fun j y hj ⟨h1,h2,h3,h4,h5,h6⟩=>?_) ⟨rfl,rfl,rfl,cw _,rfl,fun i hi=>absurd hi (vv _)⟩;obtain ⟨b,hb,_⟩:=ah6 (y.s.get (Int.toNat y.t8)) ((y.Ee.av.n:Nat):Int);have e0:fW y=some b:=hb;have w1:az (y.t8+1)=y.t8+1:=aw;rw [h1,h3,h5,cm] at hb;unfold ca bj;by_cases h:y.t8 < y.t7
 ·have jc:j < s.items.n:=by omega
  simp only [e0,w1,aj,bI,bN,bG,ao h,ao (show (0:Int)<=y.t8 by omega),ao (show y.t8 < ((y.s.n:Nat):Int) by rw [h1]; omega)];cases b with
  | false=>exact .inr ⟨_,_,rfl,rfl,.inl ⟨rfl,by show y.t8 >= 0; omega,fun nE=>by have:=nE j jc; rw [hb] at this; simp at this⟩⟩
  | true=>
   refine .inl ⟨_,rfl,jc,h1,h2,by show y.t8+1=_; omega,by omega,h5,fun i hi=>?_⟩;by_cases vl:i < j
   ·exact h6 i vl
   ·have:i=j:=by omega
    subst this; exact hb
 ·simp only [aq,ax h]
  exact .inr ⟨_,_,rfl,rfl,.inr ⟨rfl,fun i hi=>h6 i (by omega)⟩⟩
theorem amY (s:Show):eU s=some 0↔s.items.n<=256/\s.av.n<=16/\gU s.av=some 0/\ad3 s:=by
 unfold eU;by_cases g1:((s.items.n:Nat):Int) > 256
 ·rw [ao g1,aj]
  exact ⟨fun h=>by simp at h,fun h=>by omega⟩
 by_cases g2:((s.av.n:Nat):Int) > 16
 ·rw [ax g1,ao g2,aq,aj]
  exact ⟨fun h=>by simp at h,fun h=>by omega⟩
 obtain ⟨v,hv⟩:=abv (MJ s.av);have e0:rJ s=some v:=hv;rw [ax g1,ax g2,hv];simp only [e0,aj,aq,bN,bG];cases hz:(v != (0:Int)) with
 | true=>
  rw [aj];exact ⟨fun h=>by simp at h,fun h=>by have:=uf h.2.2.1; simp [this] at hz⟩
 | false=>
  have hz:v=0:=by simpa using hz
  rw [aq,hz];obtain ⟨e,x',hx,h⟩:=acK s (by omega);rcases h with ⟨rfl,h1,h2⟩ | ⟨rfl,h1⟩
  ·have b1:(dA s).by (.exit 0)=false:=by rw [hx]; rfl
   have b2:(dA s).by .ret=true:=by rw [hx]; rfl
   have b3:(dA s).st=x':=by rw [hx]; rfl
   rw [b1,b2,b3,ao h1,aq,aj,aj];exact ⟨fun h=>by simp at h,fun h=>absurd h.2.2.2 h2⟩
  ·have b1:(dA s).by (.exit 0)=true:=by rw [hx]; rfl
   rw [b1,aj];exact ⟨fun _=>⟨by omega,by omega,rfl,h1⟩,fun _=>rfl⟩
theorem agv {l:Sl ch} (h:gU l=some 0):∀ i,i < l.n->gP (l.get i)=some 0:=by
 unfold gU at h;by_cases c1:((l.n:Nat):Int) > 16
 ·rw [ao c1] at h; simp at h
 obtain ⟨e,x',h1,h2⟩:∃ e x',dt l = .out e x'/\(e = .ret/\x'.t2≠0\/e = .exit 0/\∀ i,i < l.n->gP (l.get i)=some 0):=by
  unfold dt;refine bp (step:=eP) (fun j x=>x.t9=l/\x.t10=(l.n:Int)/\x.t11=(j:Int)/\j<=l.n/\∀ i,i < j->gP (l.get i)=some 0) _ l.n (by have:eS=10000000000000:=rfl; omega) (fun j x hj ⟨h2,h3,h4,h5,h6⟩=>?_) ⟨rfl,rfl,rfl,cw _,fun i hi=>absurd hi (vv _)⟩;obtain ⟨v,hv⟩:=abv (ZQ (x.t9.get (Int.toNat x.t11)));have e0:gT x=some v:=hv;have w1:az (x.t11+1)=x.t11+1:=aw;rw [h2,h4,cm] at hv;unfold eP bj;by_cases h:x.t11 < x.t10
  ·simp only [e0,w1,aj,bI,bN,bG,ao h,ao (show (0:Int)<=x.t11 by omega),ao (show x.t11 < ((x.t9.n:Nat):Int) by rw [h2]; omega)]
   cases hz:(v != (0:Int)) with
   | true=>exact .inr ⟨_,_,rfl,rfl,.inl ⟨rfl,by show v≠0; simpa using hz⟩⟩
   | false=>
    refine .inl ⟨_,rfl,by omega,h2,h3,by show x.t11+1=_; omega,by omega,fun i hi=>?_⟩;by_cases vl:i < j
    ·exact h6 i vl
    ·have:i=j:=by omega
     subst this;rw [hv,show v=0 by simpa using hz]
  ·simp only [aq,ax h]
   exact .inr ⟨_,_,rfl,rfl,.inr ⟨rfl,fun i hi=>h6 i (by omega)⟩⟩
 rw [ax c1,aq] at h;rcases h2 with ⟨rfl,h2⟩ | ⟨rfl,h2⟩
 ·have b1:(dt l).by (.exit 0)=false:=by rw [h1]; rfl
  have b2:(dt l).by .ret=true:=by rw [h1]; rfl
  have b3:(dt l).st=x':=by rw [h1]; rfl
  rw [b1,b2,b3,aq,aj] at h;exact absurd (uf h) h2
 ·exact h2
theorem ajw {s:Show} {c:aE} (h:jA s c=some 0):eU s=some 0:=by
 obtain ⟨e,h1,_⟩:=QU s;obtain ⟨f,h3,_⟩:=Lv c;have e0:rL s c=some e:=h1;have e1:uT s c=some f:=h3;unfold jA at h;simp only [e0,e1,bN,bG,aj] at h;cases he:(e != (0:Int)) with
 | true=>
  rw [he,aj] at h;simp at he;exact absurd (uf h) he
 | false=>rw [h1]; simp at he; rw [he]
end Go.Proofs.YtchbpckkmgcgkaaGreat.b
end
section
namespace Go.Proofs.YtchbpckkmgcgkaaGreat.b
open Go.K Go.K.fj
open Go.aB (ai)
def amZ (b:Dr) (v:gY):Dr:=⟨⟨min b.low.x v.x,min b.low.y v.y,min b.low.z v.z⟩,⟨max b.high.x v.x,max b.high.y v.y,max b.high.z v.z⟩⟩
def wi (l:Sl gY):Nat->Dr
 | 0=>⟨l.get 0,l.get 0⟩
 | n+1=>amZ (wi l n) (l.get (n+1))
theorem abD {n:Int} (h:In n 32768):wN n=some true:=by
 unfold In at h;unfold wN;rw [ao (show n >= -(32768:Int) by omega),ao h.2];rfl
theorem ajx {l:Sl gY} (h0:0 < l.n) (hn:l.n<=64) (h:∀ i,i < l.n->xg (l.get i)):zh l=some (wi l (l.n - 1),0):=by
 obtain ⟨e,x',hx,rfl,hl⟩:∃ e x',eO l = .out e x'/\(e = .exit 0/\x'.l=l):=by
  unfold eO;refine bp (step:=ov) (fun j x=>x.l=l/\x.t17=l/\x.t18=(l.n:Int)/\x.t19=(j:Int)/\j<=l.n) (fun e x'=>e = .exit 0/\x'.l=l) l.n (by have:eS=10000000000000:=rfl; omega) (fun j x hj ⟨h1,h2,h3,h4,h5⟩=>?_) ⟨rfl,rfl,rfl,rfl,cw _⟩;have w1:az (x.t19+1)=x.t19+1:=aw;unfold ov o5 bj;by_cases a8:x.t19 < x.t18
  ·have hv:=h j (by omega)
   unfold xg at hv;have hg:x.t17.get (Int.toNat x.t19)=l.get j:=by rw [h2,h4,cm]
   have e0:uL x=some true:=by unfold uL; rw [hg]; exact abD (by unfold In; omega)
   have e1:uM x=some true:=by unfold uM; rw [hg]; exact abD (by unfold In; omega)
   have e2:uN x=some true:=by unfold uN; rw [hg]; exact abD (by unfold In; omega)
   simp only [e0,e1,e2,w1,bN,bG,aj,aq,kW,bI,ao a8,ao (show (0:Int)<=x.t19 by omega),ao (show x.t19 < ((x.t17.n:Nat):Int) by rw [h2]; omega)];exact .inl ⟨_,rfl,by omega,h1,h2,h3,by show x.t19+1=_; omega,by omega⟩
  ·simp only [aq,ax a8]
   exact .inr ⟨_,_,rfl,rfl,rfl,h1⟩
 have b1:(eO l).by (.exit 0)=true:=by rw [hx]; rfl
 have b2:(eO l).st.l=l:=by rw [hx]; exact hl
 obtain ⟨e,y,hy,rfl,hyb⟩:∃ e y,tv l = .out e y/\(e = .exit 2/\y.b=wi l (l.n - 1)):=by
  unfold tv;rw [b2,cm];refine bp (step:=lg) (fun j y=>y.t49=⟨l.n - 1,fun i=>l.get (1+i)⟩/\y.t50=((l.n - 1:Nat):Int)/\y.t51=(j:Int)/\j<=l.n - 1/\y.b=wi l j) _ (l.n - 1) (by have:eS=10000000000000:=rfl; omega) (fun j y hj ⟨h2,h3,h4,h5,h6⟩=>?_) ⟨rfl,rfl,rfl,cw _,rfl⟩;have w1:az (y.t51+1)=y.t51+1:=aw;unfold lg bj;by_cases a8:y.t51 < y.t50
  ·have hg:y.t49.get (Int.toNat y.t51)=l.get (j+1):=by rw [h2,h4,cm,Nat.add_comm]
   simp only [w1,hg,aj,bI,ao a8,ao (show (0:Int)<=y.t51 by omega),ao (show y.t51 < ((y.t49.n:Nat):Int) by rw [h2]; show y.t51 < ((l.n - 1:Nat):Int); omega)];refine .inl ⟨_,rfl,by omega,h2,h3,by show y.t51+1=_; omega,by omega,?_⟩;show amZ y.b (l.get (j+1))=_;rw [h6];rfl
  ·simp only [aq,ax a8]
   refine .inr ⟨_,_,rfl,rfl,rfl,?_⟩;rw [h6,show j=l.n - 1 by omega]
 have b3:(tv l).by (.exit 2)=true:=by rw [hy]; rfl
 have b4:(tv l).st=y:=by rw [hy]; rfl
 unfold zh zg;simp only [b1,b2,b3,b4,hyb,aj,aq,bI,show (((l.n:Nat):Int)==(0:Int))=false by simpa using by omega,ax (show ¬ ((l.n:Nat):Int) > 4096 by omega),ao (show (0:Int) < ((l.n:Nat):Int) by omega),ao (show (1:Int)<=((l.n:Nat):Int) by omega),ao (show ((l.n:Nat):Int)<=((l.n:Nat):Int) by omega)]
def yF:Dr:=⟨⟨0,0,0⟩,⟨0,0,0⟩⟩
def DU (l:Sl gY):Dr:=if l.n=0 then yF else wi l (l.n - 1)
structure Gu (x:Item) (t:Int):Prop where
 n64:x.aG.n<=64
 uvn:x.uV.n=x.aG.n
 t64:x.aP.n<=64
 look:jj x.look t=some 0
 v:∀ j,j < x.aG.n->xg (x.aG.get j)/\(0<=(x.uV.get j).e0/\(x.uV.get j).e0<=255)/\0<=(x.uV.get j).e1/\(x.uV.get j).e1<=255
 dB:∀ i,i < x.aP.n->nB x.aP (x.aG.n:Int) i
 box:DU x.aG=x.box
theorem Gu.full {x:Item} {t:Int} (h:Gu x t):ad2 x:=⟨⟨h.uvn,h.dB⟩,fun j hj=>(h.v j hj).1,fun j hj=>(h.v j hj).2⟩
theorem Uj (a b:Dr):((a.low.x==b.low.x)&&((a.low.y==b.low.y)&&((a.low.z==b.low.z)&&((a.high.x==b.high.x)&&((a.high.y==b.high.y)&&((a.high.z==b.high.z)&&true))))))=true↔a=b:=by
 simp only [aD,beq_iff_eq];constructor
 ·rintro ⟨h1,h2,h3,h4,h5,h6,_⟩
  obtain ⟨⟨_,_,_⟩,_,_,_⟩:=a;obtain ⟨⟨_,_,_⟩,_,_,_⟩:=b
  simp_all
 ·rintro rfl
  exact ⟨rfl,rfl,rfl,rfl,rfl,rfl,trivial⟩
theorem am0 (x:Item) (t:Int) (hn:x.aG.n<=64) (hu:x.uV.n=x.aG.n):∃ e z,dM x t = .out e z/\((e = .ret/\z.t4=false/\∃ j,j < x.aG.n/\¬ (xg (x.aG.get j)/\(0<=(x.uV.get j).e0/\(x.uV.get j).e0<=255)/\0<=(x.uV.get j).e1/\(x.uV.get j).e1<=255))\/e = .exit 0/\z.n=(x.aG.n:Int)/\z.x=x/\z.t4=false/\∀ j,j < x.aG.n->xg (x.aG.get j)/\(0<=(x.uV.get j).e0/\(x.uV.get j).e0<=255)/\0<=(x.uV.get j).e1/\(x.uV.get j).e1<=255):=by
 unfold dM;refine bp (step:=jR) (fun j y=>y.t4=false/\y.n=(x.aG.n:Int)/\y.t38=x.aG/\y.t39=(x.aG.n:Int)/\y.t40=(j:Int)/\j<=x.aG.n/\y.x=x/\∀ i,i < j->xg (x.aG.get i)/\(0<=(x.uV.get i).e0/\(x.uV.get i).e0<=255)/\0<=(x.uV.get i).e1/\(x.uV.get i).e1<=255) _ x.aG.n (by have:eS=10000000000000:=rfl; omega) (fun j y hj ⟨f1,f2,f3,f4,f5,f6,f7,f8⟩=>?_) ⟨rfl,rfl,rfl,rfl,rfl,cw _,rfl,fun i hi=>absurd hi (vv _)⟩;have w1:az (y.t40+1)=y.t40+1:=aw;unfold jR bj;by_cases h:y.t40 < y.t39
 ·have jc:j < x.aG.n:=by omega
  have hg:y.t38.get (Int.toNat y.t40)=x.aG.get j:=by rw [f3,f5,cm]
  have hg2:y.x.uV.get (Int.toNat y.t40)=x.uV.get j:=by rw [f7,f5,cm]
  obtain ⟨e,h1,h2⟩:=yy (x.aG.get j);have e0:o6 y=some e:=by unfold o6; rw [hg]; exact h1
  simp only [e0,w1,hg2,bN,bG,aj,bI,ao h,ao (show (0:Int)<=y.t40 by omega),ao (show y.t40 < ((y.t38.n:Nat):Int) by rw [f3]; omega),ao (show y.t40 < ((y.x.uV.n:Nat):Int) by rw [f7]; omega)];by_cases he:e=0
  ·rw [show (e != (0:Int))=false by simpa using he,aq]
   by_cases c1:min (x.uV.get j).e0 (x.uV.get j).e1 < 0
   ·rw [ao c1,aj]
    exact .inr ⟨_,_,rfl,rfl,.inl ⟨rfl,rfl,j,jc,fun hq=>by omega⟩⟩
   ·rw [ax c1,aq]
    by_cases c2:max (x.uV.get j).e0 (x.uV.get j).e1 > 255
    ·rw [ao c2,aj]
     exact .inr ⟨_,_,rfl,rfl,.inl ⟨rfl,rfl,j,jc,fun hq=>by omega⟩⟩
    ·rw [ax c2,aq]
     refine .inl ⟨_,rfl,jc,f1,f2,f3,f4,by show y.t40+1=_; omega,by omega,f7,fun i hi=>?_⟩;by_cases vl:i < j
     ·exact f8 i vl
     ·have:i=j:=by omega
      subst this;exact ⟨h2.1 he,by omega,by omega⟩
  ·rw [show (e != (0:Int))=true by simpa using he,aj]
   exact .inr ⟨_,_,rfl,rfl,.inl ⟨rfl,rfl,j,jc,fun hq=>he (h2.2 hq.1)⟩⟩
 ·simp only [aq,ax h]
  exact .inr ⟨_,_,rfl,rfl,.inr ⟨rfl,f2,f7,f1,fun i hi=>f8 i (by omega)⟩⟩
theorem am1 (x:lh) (hn:x.t82.n<=64) (h0:x.t83=(x.t82.n:Int)) (h1:x.t84=0) (h2:x.t4=false):∃ e z,goN gH x = .out e z/\(e = .ret/\z.t4=false/\(∃ i,i < x.t82.n/\¬ nB x.t82 x.n i)\/e = .exit 2/\z.n=x.n/\z.x=x.x/\∀ i,i < x.t82.n->nB x.t82 x.n i):=by
 refine bp (step:=gH) (fun j y=>y.t4=false/\y.n=x.n/\y.t82=x.t82/\y.t83=(x.t82.n:Int)/\y.t84=(j:Int)/\j<=x.t82.n/\y.x=x.x/\∀ i,i < j->nB x.t82 x.n i) _ x.t82.n (by have:eS=10000000000000:=rfl; omega) (fun j y hj ⟨f1,f2,f3,f4,f5,f6,f7,f8⟩=>?_) ⟨h2,rfl,rfl,h0,h1,cw _,rfl,fun i hi=>absurd hi (vv _)⟩;have w1:az (y.t84+1)=y.t84+1:=aw;unfold gH bj;by_cases h:y.t84 < y.t83
 ·have jc:j < x.t82.n:=by omega
  have hg:y.t82.get (Int.toNat y.t84)=x.t82.get j:=by rw [f3,f5,cm]
  simp only [w1,hg,f2,aj,bI,ao h,ao (show (0:Int)<=y.t84 by omega),ao (show y.t84 < ((y.t82.n:Nat):Int) by rw [f3]; omega)];by_cases c1:min (min (x.t82.get j).e0 (x.t82.get j).e1) (x.t82.get j).e2 < 0
  ·rw [ao c1,aj]
   exact .inr ⟨_,_,rfl,rfl,.inl ⟨rfl,rfl,j,jc,fun hq=>by unfold nB at hq; omega⟩⟩
  ·rw [ax c1,aq]
   by_cases c2:max (max (x.t82.get j).e0 (x.t82.get j).e1) (x.t82.get j).e2 >= x.n
   ·rw [ao c2,aj]
    exact .inr ⟨_,_,rfl,rfl,.inl ⟨rfl,rfl,j,jc,fun hq=>by unfold nB at hq; omega⟩⟩
   ·rw [ax c2,aq]
    refine .inl ⟨_,rfl,jc,f1,rfl,f3,f4,by show y.t84+1=_; omega,by omega,f7,fun i hi=>?_⟩;by_cases vl:i < j
    ·exact f8 i vl
    ·have:i=j:=by omega
     subst this;unfold nB;omega
 ·simp only [aq,ax h]
  exact .inr ⟨_,_,rfl,rfl,.inr ⟨rfl,f2,f7,fun i hi=>f8 i (by omega)⟩⟩
theorem XD (x:Item) (t:Int):∃ b,pz x t=some b/\(b=true↔Gu x t):=by
 have no:∀ {P:Prop},¬ P->∃ b,(some false:Option Bool)=some b/\(b=true↔P):=fun h=>⟨false,rfl,fun h'=>by simp at h',fun h'=>absurd h' h⟩
 obtain ⟨v,hv⟩:=abv (alA x.look t);have e0:yl x t=some v:=hv;unfold pz;simp only [e0,bN,bG,aj];by_cases g1:((x.aG.n:Nat):Int) > 64
 ·rw [ao g1,aj]; exact no fun h=>by have:=h.n64; omega
 rw [ax g1,aq];by_cases g2:x.uV.n=x.aG.n
 case neg=>
  rw [show (((x.uV.n:Nat):Int) != ((x.aG.n:Nat):Int))=true by simpa using by omega,aj];exact no fun h=>g2 h.uvn
 rw [show (((x.uV.n:Nat):Int) != ((x.aG.n:Nat):Int))=false by simpa using by omega,aq];by_cases g3:((x.aP.n:Nat):Int) > 64
 ·rw [ao g3,aj]; exact no fun h=>by have:=h.t64; omega
 rw [ax g3,aq];by_cases g4:v=0
 case neg=>
  rw [show (v != (0:Int))=true by simpa using g4,aj];exact no fun h=>by have:=h.look; rw [hv] at this; exact g4 (uf this)
 rw [show (v != (0:Int))=false by simpa using g4,aq];obtain ⟨e,y,hy,h⟩:=am0 x t (by omega) g2;rcases h with ⟨rfl,hf,j,hj,RP⟩ | ⟨rfl,hn,hx,hf,hvs⟩
 ·have b1:(dM x t).by (.exit 0)=false:=by rw [hy]; rfl
  have b2:(dM x t).by .ret=true:=by rw [hy]; rfl
  have b3:(dM x t).st.t4=false:=by rw [hy]; exact hf
  simp only [b1,b2,b3,aj,aq];exact no fun h=>RP (h.v j hj)
 ·have b1:(dM x t).by (.exit 0)=true:=by rw [hy]; rfl
  have s1:(dM x t).st=y:=by rw [hy]; rfl
  obtain ⟨e,z,hz,h⟩:∃ e z,de x t = .out e z/\(e = .ret/\z.t4=false/\(∃ i,i < x.aP.n/\¬ nB x.aP (x.aG.n:Int) i)\/e = .exit 2/\z.n=(x.aG.n:Int)/\z.x=x/\∀ i,i < x.aP.n->nB x.aP (x.aG.n:Int) i):=by
   unfold de;rw [s1,hn,hx];exact am1 _ (by show x.aP.n<=64; omega) rfl rfl hf
  rcases h with ⟨rfl,hf',i,hi,RP⟩ | ⟨rfl,Ng,Ym,nE⟩
  ·have b2:(de x t).by (.exit 2)=false:=by rw [hz]; rfl
   have b3:(de x t).by .ret=true:=by rw [hz]; rfl
   have b4:(de x t).st.t4=false:=by rw [hz]; exact hf'
   simp only [b1,b2,b3,b4,aj,aq];exact no fun h=>RP (h.dB i hi)
  ·have b2:(de x t).by (.exit 2)=true:=by rw [hz]; rfl
   have s2:(de x t).st=z:=by rw [hz]; rfl
   have ok:DU x.aG=x.box->Gu x t:=fun hb=>⟨by omega,g2,by omega,by rw [hv,g4],hvs,nE,hb⟩
   by_cases Ew:x.aG.n=0
   ·have e3:iy x t=some (yF,4):=by
     unfold iy;rw [s2,Ym];unfold zh zg;rw [Ew];rfl
    have F8:DU x.aG=yF:=by unfold DU; rw [aR Ew]
    simp only [b1,b2,e3,s2,Ym,Ng,bN,bG,aj];cases hq:((yF.low.x==x.box.low.x)&&((yF.low.y==x.box.low.y)&&((yF.low.z==x.box.low.z)&&((yF.high.x==x.box.high.x)&&((yF.high.y==x.box.high.y)&&((yF.high.z==x.box.high.z)&&true)))))) with
    | true=>
     refine ⟨true,?_,fun _=>ok (F8.trans ((Uj _ _).1 hq)),fun _=>rfl⟩;rw [Ew];rfl
    | false=>exact no fun h=>by rw [(Uj _ _).2 (F8.symm.trans h.box)] at hq; simp at hq
   ·have e3:iy x t=some (wi x.aG (x.aG.n - 1),0):=by
     unfold iy;rw [s2,Ym];exact ajx (by omega) (by omega) (fun i hi=>(hvs i hi).1)
    have F8:DU x.aG=wi x.aG (x.aG.n - 1):=by unfold DU; rw [ay Ew]
    simp only [b1,b2,e3,s2,Ym,Ng,bN,bG,aj];cases hq:(((wi x.aG (x.aG.n - 1)).low.x==x.box.low.x)&&(((wi x.aG (x.aG.n - 1)).low.y==x.box.low.y)&&(((wi x.aG (x.aG.n - 1)).low.z==x.box.low.z)&&(((wi x.aG (x.aG.n - 1)).high.x==x.box.high.x)&&(((wi x.aG (x.aG.n - 1)).high.y==x.box.high.y)&&(((wi x.aG (x.aG.n - 1)).high.z==x.box.high.z)&&true)))))) with
    | true=>exact ⟨true,rfl,fun _=>ok (F8.trans ((Uj _ _).1 hq)),fun _=>rfl⟩
    | false=>exact no fun h=>by rw [(Uj _ _).2 (F8.symm.trans h.box)] at hq; simp at hq
theorem am2 {s:Show} (h:eU s=some 0):∀ i,i < s.items.n->Gu (s.items.get i) (s.av.n:Int):=fun i hi=>by
 obtain ⟨_,_,_,h4⟩:=(amY s).1 h;obtain ⟨b,h5,h6⟩:=XD (s.items.get i) (s.av.n:Int);have:=h4 i hi;rw [this] at h5;exact h6.1 (uf h5).symm
def partsOf (s:Show) (c:aE) (i k:Nat):List aW:=yE c (s.items.get i).look.cz (Lz (yC c.au (XC c (s.items.get i) k)))
theorem am3 {s:Show} {c:aE} (h:eU s=some 0):jA s c=ir c:=by
 obtain ⟨f,h3,_⟩:=Lv c;have e0:rL s c=some 0:=h;have e1:uT s c=some f:=h3;unfold jA;simp only [e0,e1,bN,bG,aj,hO,aq];exact h3.symm
theorem alN {s:Show} {c:aE} (h:jA s c=some 0):gJ c/\∀ i,i < s.items.n->Gu (s.items.get i) (s.av.n:Int):=by
 have hc:=ajw h;obtain ⟨e,h1,_,h2⟩:=sq c;rw [am3 hc,h1] at h;exact ⟨h2.1 (uf h),am2 hc⟩
def abE (t:ch):Prop:=(1<=t.w/\t.w<=16)/\(1<=t.h/\t.h<=16)/\(t.fw.n:Int)=t.w * t.h
theorem acL (n:Int):mL n=some (decide (1<=n/\n<=16)):=by
 unfold mL;by_cases h:n > 0
 ·rw [ao h,aj]
  congr 1;exact decide_eq_decide.2 (by omega)
 ·rw [ax h,aq,ax (by omega)]
theorem agw (t:ch):(abE t/\gP t=some 0)\/¬ abE t/\gP t=some 8:=by
 have e0:vU t=some (decide (1<=t.w/\t.w<=16)):=acL _;have e1:vV t=some (decide (1<=t.h/\t.h<=16)):=acL _;unfold gP;simp only [e0,e1,bN,bG,aj];by_cases h1:1<=t.w/\t.w<=16
 ·rw [ao h1,kW,aq]
  by_cases h2:1<=t.h/\t.h<=16
  ·rw [ao h2,kW,aq]
   have h3:0<=t.w * t.h/\t.w * t.h<=16 * 16:=⟨Int.mul_nonneg (by omega) (by omega),Int.mul_le_mul h1.2 h2.2 (by omega) (by omega)⟩
   rw [aw (by omega) (by omega)];by_cases h4:((t.fw.n:Nat):Int)=t.w * t.h
   ·rw [show (((t.fw.n:Nat):Int) != t.w * t.h)=false by simpa using h4]
    exact .inl ⟨⟨h1,h2,h4⟩,rfl⟩
   ·rw [show (((t.fw.n:Nat):Int) != t.w * t.h)=true by simpa using h4]
    exact .inr ⟨fun h=>h4 h.2.2,rfl⟩
  ·rw [ax h2]
   exact .inr ⟨fun h=>h2 h.2.1,rfl⟩
 ·rw [ax h1]
  exact .inr ⟨fun h=>h1 h.1,rfl⟩
def Uk (l:Sl ch):Prop:=∀ i,i < l.n->abE (l.get i)
theorem abF (l:Sl ch) (hn:l.n<=16):∃ e,gU l=some e/\(e=0↔Uk l):=by
 obtain ⟨v,hv⟩:=abv (MJ l);refine ⟨v,hv,fun h=>?_,fun h=>?_⟩
 ·subst h
  intro i hi;have:=agv hv i hi;rcases agw (l.get i) with ⟨h1,_⟩ | ⟨_,h2⟩
  ·exact h1
  ·rw [this] at h2; simp at h2
 ·unfold gU at hv
  obtain ⟨e,x',h1,rfl⟩:∃ e x',dt l = .out e x'/\e = .exit 0:=by
   unfold dt;refine bp (step:=eP) (fun j x=>x.t9=l/\x.t10=(l.n:Int)/\x.t11=(j:Int)/\j<=l.n) (fun e _=>e = .exit 0) l.n (by have:eS=10000000000000:=rfl; omega) (fun j x hj ⟨h2,h3,h4,h5⟩=>?_) ⟨rfl,rfl,rfl,cw _⟩;have w1:az (x.t11+1)=x.t11+1:=aw;unfold eP bj;by_cases a8:x.t11 < x.t10
   ·have e0:gT x=some 0:=by
     unfold gT;rw [h2,h4,cm];rcases agw (l.get j) with ⟨_,q⟩ | ⟨q,_⟩
     ·exact q
     ·exact absurd (h j (by omega)) q
    simp only [e0,w1,aj,aq,hO,bI,bN,bG,ao a8,ao (show (0:Int)<=x.t11 by omega),ao (show x.t11 < ((x.t9.n:Nat):Int) by rw [h2]; omega)];exact .inl ⟨_,rfl,by omega,h2,h3,by show x.t11+1=_; omega,by omega⟩
   ·simp only [aq,ax a8]
    exact .inr ⟨_,_,rfl,rfl,rfl⟩
  have b1:(dt l).by (.exit 0)=true:=by rw [h1]; rfl
  rw [ax (show ¬ ((l.n:Nat):Int) > 16 by omega),aq,b1,aj] at hv;exact (uf hv).symm
def Big (s:Show):Prop:=s.items.n > 256\/s.av.n > 16
def Qe (s:Show):Prop:=Uk s.av/\∀ i,i < s.items.n->Gu (s.items.get i) (s.av.n:Int)
inductive sA (s:Show):Int->Prop where
 | many (h:Big s):sA s 4
 | bad (h : ¬ Big s) (h2 : ¬ Qe s):sA s 8
 | ok (h : ¬ Big s) (h2:Qe s):sA s 0
theorem sA.one {s:Show} {a b:Int} (h:sA s a) (k:sA s b):a=b:=by
 cases h <;> cases k <;> first | rfl | contradiction
theorem acM (s:Show):ad3 s↔∀ i,i < s.items.n->Gu (s.items.get i) (s.av.n:Int):=by
 constructor
 ·intro h i hi
  obtain ⟨b,h5,h6⟩:=XD (s.items.get i) (s.av.n:Int);have:=h i hi;rw [this] at h5;exact h6.1 (uf h5).symm
 ·intro h i hi
  obtain ⟨b,h5,h6⟩:=XD (s.items.get i) (s.av.n:Int);rw [h5,h6.2 (h i hi)]
theorem Qf (s:Show):∃ e,eU s=some e/\sA s e:=by
 unfold eU;by_cases g1:((s.items.n:Nat):Int) > 256
 ·rw [ao g1,aj]
  exact ⟨_,rfl,.many (.inl (by omega))⟩
 by_cases g2:((s.av.n:Nat):Int) > 16
 ·rw [ax g1,ao g2,aq,aj]
  exact ⟨_,rfl,.many (.inr (by omega))⟩
 have hb : ¬ Big s:=by unfold Big; omega
 obtain ⟨v,hv,HR⟩:=abF s.av (by omega);have e0:rJ s=some v:=hv;rw [ax g1,ax g2];simp only [e0,aj,aq,bN,bG];by_cases hz:v=0
 ·rw [show (v != (0:Int))=false by simpa using hz,aq]
  obtain ⟨e,x',hx,h⟩:=acK s (by omega);rcases h with ⟨rfl,h1,h2⟩ | ⟨rfl,h1⟩
  ·have b1:(dA s).by (.exit 0)=false:=by rw [hx]; rfl
   have b2:(dA s).by .ret=true:=by rw [hx]; rfl
   have b3:(dA s).st=x':=by rw [hx]; rfl
   rw [b1,b2,b3,ao h1,aq,aj,aj];exact ⟨_,rfl,.bad hb fun h=>h2 ((acM s).2 h.2)⟩
  ·have b1:(dA s).by (.exit 0)=true:=by rw [hx]; rfl
   rw [b1,aj];exact ⟨_,rfl,.ok hb ⟨HR.1 hz,(acM s).1 h1⟩⟩
 ·rw [show (v != (0:Int))=true by simpa using hz,aj]
  exact ⟨_,rfl,.bad hb fun h=>hz (HR.2 h.1)⟩
inductive Bq (s:Show) (c:aE):Int->Prop where
 | lB (e:Int) (h:sA s e) (he:e≠0):Bq s c e
 | cam (h:sA s 0) (hc : ¬ gJ c):Bq s c 150
 | ok (h:sA s 0) (hc:gJ c):Bq s c 0
theorem Bq.one {s:Show} {c:aE} {a b:Int} (h:Bq s c a) (k:Bq s c b):a=b:=by
 rcases h with ⟨_,h1,h2⟩ | ⟨h1,h2⟩ | ⟨h1,h2⟩ <;> rcases k with ⟨_,k1,k2⟩ | ⟨k1,k2⟩ | ⟨k1,k2⟩
 ·exact h1.one k1
 ·exact absurd (h1.one k1) h2
 ·exact absurd (h1.one k1) h2
 ·exact absurd (k1.one h1) k2
 ·rfl
 ·exact absurd k2 h2
 ·exact absurd (k1.one h1) k2
 ·exact absurd h2 k2
 ·rfl
theorem ZW (s:Show) (c:aE):∃ e,jA s c=some e/\Bq s c e:=by
 obtain ⟨e,h1,h2⟩:=Qf s;obtain ⟨f,h3,h4,h5⟩:=sq c;have e0:rL s c=some e:=h1;have e1:uT s c=some f:=h3;unfold jA;simp only [e0,e1,bN,bG,aj];by_cases he:e=0
 ·subst he
  refine ⟨f,rfl,?_⟩;by_cases hf:f=0
  ·subst hf; exact .ok h2 (h5.1 rfl)
  ·have:f=150:=by omega
   subst this;exact .cam h2 fun h=>hf (h5.2 h)
 ·rw [show (e != (0:Int))=true by simpa using he]
  exact ⟨e,rfl,.lB e h2 he⟩
structure CF (s s' : Show):Prop where
 n:s'.items.n=s.items.n
 it:∀ i,i < s.items.n->s'.items.get i=s.items.get i
 tn:s'.av.n=s.av.n
 tx:∀ i,i < s.av.n->s'.av.get i=s.av.get i
theorem CF.check {s s' : Show} (h:CF s s') {e:Int} (k:sA s e):sA s' e:=by
 have hb:Big s'↔Big s:=by unfold Big; rw [h.n,h.tn]
 have hg:Qe s'↔Qe s:=by
  unfold Qe Uk;rw [h.n,h.tn];constructor
  ·rintro ⟨h1,h2⟩
   exact ⟨fun i hi=>by rw [<- h.tx i hi]; exact h1 i hi,fun i hi=>by rw [<- h.it i hi]; exact h2 i hi⟩
  ·rintro ⟨h1,h2⟩
   exact ⟨fun i hi=>by rw [h.tx i hi]; exact h1 i hi,fun i hi=>by rw [h.it i hi]; exact h2 i hi⟩
 cases k with
 | many q=>exact .many (hb.2 q)
 | bad q r=>exact .bad (fun x=>q (hb.1 x)) (fun x=>r (hg.1 x))
 | ok q r=>exact .ok (fun x=>q (hb.1 x)) (hg.2 r)
theorem Tt {α β:Type} {f g:α->List β} : ∀ {l:List α},(∀ a∈l,f a=g a)->l.flatMap f=l.flatMap g
 | [],_=>rfl
 | a::l,h=>by rw [List.flatMap_cons,List.flatMap_cons,h a (Ow ..),Tt fun b hb=>h b (xh _ hb)]
theorem am4 {α:Type} [Inhabited α] {l:Sl α} {n:Nat} {v:α} {g:Nat->α} (hn:l.n=n) (h:∀ q,q < n->l.get q=g q) (hv:v=g n):∀ q,q < n+1->(l.push v).get q=g q:=fun q hq=>by
 by_cases hl:q < n
 ·rw [Sl.zF (by omega)]; exact h q hl
 ·have e:q=l.n:=by omega
  rw [e,Sl.Fs,hv,hn]
structure Small (s:Show):Prop where
 n:s.items.n<=260
 it:∀ i,i < s.items.n->(s.items.get i).aG.n<=800/\(s.items.get i).uV.n<=800/\(s.items.get i).aP.n<=800
 tn:s.av.n<=40
 tx:∀ i,i < s.av.n->(s.av.get i).fw.n<=20000
theorem agx {l:Sl ch} (h:qZ l=some false):l.n<=40/\∀ i,i < l.n->(l.get i).fw.n<=20000:=by
 obtain ⟨e,z,hz,rfl,h0,h1,h2⟩:∃ e z,mu l = .out e z/\(e = .exit 0/\z.l=l/\0<=z.n/\∀ i,i < l.n->i < 100->min ((l.get i).fw.n:Int) 100000<=z.n):=by
  unfold mu;refine bp (step:=kL) (fun j y=>y.l=l/\y.i=(j:Int)/\0<=y.n/\y.n<=100000 * (j:Int)/\j<=100/\∀ i,i < j->min ((l.get i).fw.n:Int) 100000<=y.n) _ 100 (by have:eS=10000000000000:=rfl; omega) (fun j y hj ⟨f1,f2,f3,f4,f5,f6⟩=>?_) ⟨rfl,rfl,Int.le_refl _,by show (0:Int)<=_; omega,by omega,fun i hi=>absurd hi (vv _)⟩;have w1:az (y.i+1)=y.i+1:=aw;unfold kL bj;by_cases c1:y.i < ((y.l.n:Nat):Int)
  ·by_cases c2:y.i < 100
   ·have hg:y.l.get (Int.toNat y.i)=l.get j:=by rw [f1,f2,cm]
    simp only [hg,w1,aj,bI,ao c1,ao c2,ao (show (0:Int)<=y.i by omega)];have w2:az (y.n+min ((l.get j).fw.n:Int) 100000)=y.n+min ((l.get j).fw.n:Int) 100000:=aw;rw [w2];refine .inl ⟨_,rfl,by omega,f1,by show y.i+1=_; omega,by show 0<=y.n+_; omega,by show y.n+_<=_; omega,by omega,fun i hi=>?_⟩;show _<=y.n+_;by_cases vl:i < j
    ·have:=f6 i vl; omega
    ·have:i=j:=by omega
     subst this; omega
   ·simp only [aj,aq,ao c1,ax c2]
    exact .inr ⟨_,_,rfl,rfl,rfl,f1,f3,fun i _ hi=>f6 i (by omega)⟩
  ·simp only [aq,ax c1]
   exact .inr ⟨_,_,rfl,rfl,rfl,f1,f3,fun i hi _=>f6 i (by rw [f1] at c1; omega)⟩
 have b1:(mu l).by (.exit 0)=true:=by rw [hz]; rfl
 have b2:(mu l).st=z:=by rw [hz]; rfl
 unfold qZ at h;rw [b1,b2,h0,aj] at h;by_cases c1:((l.n:Nat):Int) > 40
 ·rw [ao c1] at h; simp at h
 ·rw [ax c1,aq] at h
  have c2:=of_decide_eq_false (uf h);exact ⟨by omega,fun i hi=>by have:=h2 i hi (by omega); omega⟩
theorem ajy {s:Show} (h:tA s=some false):Small s:=by
 obtain ⟨e,z,hz,rfl,h0,h1,h2⟩:∃ e z,kN s = .out e z/\(e = .exit 0/\z.s=s/\0<=z.n/\∀ i,i < s.items.n->i < 300->min ((s.items.get i).aG.n:Int) 10000+min ((s.items.get i).uV.n:Int) 10000+2 * min ((s.items.get i).aP.n:Int) 10000<=z.n):=by
  unfold kN;refine bp (step:=kM) (fun j y=>y.s=s/\y.i=(j:Int)/\0<=y.n/\y.n<=40000 * (j:Int)/\j<=300/\∀ i,i < j->min ((s.items.get i).aG.n:Int) 10000+min ((s.items.get i).uV.n:Int) 10000+2 * min ((s.items.get i).aP.n:Int) 10000<=y.n) _ 300 (by have:eS=10000000000000:=rfl; omega) (fun j y hj ⟨f1,f2,f3,f4,f5,f6⟩=>?_) ⟨rfl,rfl,Int.le_refl _,by show (0:Int)<=_; omega,by omega,fun i hi=>absurd hi (vv _)⟩;have w1:az (y.i+1)=y.i+1:=aw;unfold kM bj;by_cases c1:y.i < ((y.s.items.n:Nat):Int)
  ·by_cases c2:y.i < 300
   ·have hg:y.s.items.get (Int.toNat y.i)=s.items.get j:=by rw [f1,f2,cm]
    simp only [hg,w1,aj,bI,ao c1,ao c2,ao (show (0:Int)<=y.i by omega)];have w2:az ((az ((az (y.n+min ((s.items.get j).aG.n:Int) 10000))+min ((s.items.get j).uV.n:Int) 10000))+(az (2 * min ((s.items.get j).aP.n:Int) 10000)))=y.n+(min ((s.items.get j).aG.n:Int) 10000+min ((s.items.get j).uV.n:Int) 10000+2 * min ((s.items.get j).aP.n:Int) 10000):=by
     have ma:0<=min ((s.items.get j).aG.n:Int) 10000/\min ((s.items.get j).aG.n:Int) 10000<=10000:=by omega
     have mb:0<=min ((s.items.get j).uV.n:Int) 10000/\min ((s.items.get j).uV.n:Int) 10000<=10000:=by omega
     have mc:0<=min ((s.items.get j).aP.n:Int) 10000/\min ((s.items.get j).aP.n:Int) 10000<=10000:=by omega
     clear f6;generalize min ((s.items.get j).aG.n:Int) 10000=a at ma ⊢;generalize min ((s.items.get j).uV.n:Int) 10000=b at mb ⊢;generalize min ((s.items.get j).aP.n:Int) 10000=c at mc ⊢;rw [aw (n:=y.n+a),aw (n:=y.n+a+b),aw (n:=2 * c),aw (by omega) (by omega)];omega
    rw [w2];refine .inl ⟨_,rfl,by omega,f1,by show y.i+1=_; omega,by show 0<=y.n+_; omega,by show y.n+_<=_; omega,by omega,fun i hi=>?_⟩;show _<=y.n+_;by_cases vl:i < j
    ·have:=f6 i vl; omega
    ·have:i=j:=by omega
     subst this; omega
   ·simp only [aj,aq,ao c1,ax c2]
    exact .inr ⟨_,_,rfl,rfl,rfl,f1,f3,fun i _ hi=>f6 i (by omega)⟩
  ·simp only [aq,ax c1]
   exact .inr ⟨_,_,rfl,rfl,rfl,f1,f3,fun i hi _=>f6 i (by rw [f1] at c1; omega)⟩
 have b1:(kN s).by (.exit 0)=true:=by rw [hz]; rfl
 have b2:(kN s).st=z:=by rw [hz]; rfl
 unfold tA at h;rw [b1,b2,h0,aj] at h;by_cases c1:((s.items.n:Nat):Int) > 260
 ·rw [ao c1] at h; simp at h
 rw [ax c1,aq] at h;by_cases c2:z.n > 800
 ·rw [ao c2] at h; simp at h
 rw [ax c2,aq] at h;cases hg:ym s with
 | none=>rw [hg] at h; simp at h
 | some g=>
  rw [hg] at h;simp only [bN,aj,bG] at h;have hgf:g=false:=uf h;subst hgf;have hg' : qZ s.av=some false:=by
   unfold ym at hg;rw [b2,h0] at hg;exact hg
  obtain ⟨t1,t2⟩:=agx hg';exact ⟨by omega,fun i hi=>by have:=h2 i hi (by omega); omega,t1,t2⟩
theorem IC {α:Type} (z:Nat->α) (t:Sl α):(⟨0,z⟩:Sl α).join t=t:=by
 show (⟨0+t.n,fun i=>t.get (i - 0)⟩:Sl α)=t;rw [bd];rfl
theorem arI {t:ch} (h:t.fw.n<=20000):CB t=some t:=by
 have a1:gi 4 0 t.fw.n=true:=tI (by omega) (by omega) (by omega) (.inr rfl);unfold CB;rw [a1,aj,IC]
theorem alO (x:Item):BN (Ti x)=x:=by
 show (⟨⟨0+x.aG.n,fun i=>x.aG.get (i - 0)⟩,⟨0+x.uV.n,fun i=>x.uV.get (i - 0)⟩,⟨0+x.aP.n,fun i=>x.aP.get (i - 0)⟩,x.look,x.box⟩:Item)=x;rw [bd,bd,bd];rfl
theorem aqJ {l:Sl Item} {x:Item} (i:Nat) (hi:i < l.n+1):(jT BN (l.n+1) (dK l.n (fun i=>Mi (l.get i)) (pW [Ti x]))).get i=if i < l.n then l.get i else x:=by
 show BN (dK l.n (fun i=>Mi (l.get i)) (pW [Ti x]) i)=_;unfold dK;by_cases h:i < l.n
 ·rw [aR h,show Nat.blt i l.n=true from by rw [bT]; exact h]
  rfl
 ·rw [ay h,show Nat.blt i l.n=false from by
   cases hb:Nat.blt i l.n with
   | false=>rfl
   | true=>rw [bT] at hb; omega,show i - l.n=0 by omega]
  exact alO x
theorem alP {s:Show} (hs:Small s):∃ z,jN s = .out (.exit 0) z/\z.s=s/\z.out.items.n=s.items.n/\(∀ i,i < s.items.n->z.out.items.get i=s.items.get i)/\z.out.av.n=0:=by
 obtain ⟨e,z,hz,rfl,h⟩:∃ e z,jN s = .out e z/\(e = .exit 0/\z.s=s/\z.out.items.n=s.items.n/\(∀ i,i < s.items.n->z.out.items.get i=s.items.get i)/\z.out.av.n=0):=by
  unfold jN;refine bp (step:=qk) (fun j y=>y.i=(j:Int)/\y.s=s/\j<=s.items.n/\y.out.items.n=j/\(∀ i,i < j->y.out.items.get i=s.items.get i)/\y.out.av.n=0) _ s.items.n (by have:eS=10000000000000:=rfl; have:=hs.n; omega) (fun j y hj ⟨f1,f2,f3,f4,f5,f6⟩=>?_) ⟨rfl,rfl,cw _,rfl,fun i hi=>absurd hi (vv _),rfl⟩;have hn:=hs.n;have w1:az (y.i+1)=y.i+1:=aw;unfold qk bj mI aF;by_cases h:y.i < ((y.s.items.n:Nat):Int)
  ·have jc:j < s.items.n:=by rw [f2] at h; omega
   have hg:y.s.items.get (Int.toNat y.i)=s.items.get j:=by rw [f1,f2,cm]
   obtain ⟨q1,q2,q3⟩:=hs.it j jc;have a1:gi 24 0 (s.items.get j).aG.n=true:=tI (by omega) (by omega) (by omega) (.inr rfl);have a2:gi 16 0 (s.items.get j).uV.n=true:=tI (by omega) (by omega) (by omega) (.inr rfl);have a3:gi 24 0 (s.items.get j).aP.n=true:=tI (by omega) (by omega) (by omega) (.inr rfl);have a4:gi 168 y.out.items.n 1=true:=jX;simp only [hg,w1,a1,a2,a3,a4,aH,aj,bI,ao h,ao (show (0:Int)<=y.i by omega)];refine .inl ⟨_,rfl,jc,by show y.i+1=_; omega,f2,by omega,by show y.out.items.n+1=_; omega,fun i hi=>?_,f6⟩;show (jT BN (y.out.items.n+1) (dK y.out.items.n (fun i=>Mi (y.out.items.get i)) (pW [Ti (s.items.get j)]))).get i=_;rw [aqJ i (by omega)];by_cases vl:i < y.out.items.n
   ·rw [aR vl]; exact f5 i (by omega)
   ·rw [ay vl]; have hji:i=j:=by omega
    subst hji; rfl
  ·simp only [aH,aj,aq,ax h]
   rw [f2] at h;exact .inr ⟨_,_,rfl,rfl,rfl,f2,by omega,fun i hi=>f5 i (by omega),f6⟩
 exact ⟨z,hz,h⟩
theorem am5 {s:Show} (hs:Small s):∃ s',CC s=some s'/\CF s s':=by
 obtain ⟨y,hy,y1,y2,y3,y4⟩:=alP hs;have s1:(jN s).st=y:=by rw [hy]; rfl
 have hn:=hs.n;have ht:=hs.tn;obtain ⟨e,z,hz,rfl,h1,h2,h3⟩:∃ e z,wX s = .out e z/\(e = .exit 2/\z.out.items=y.out.items/\z.out.av.n=s.av.n/\∀ i,i < s.av.n->z.out.av.get i=s.av.get i):=by
  unfold wX;rw [s1];refine bp (step:=pd) (fun j x=>x.i=(j:Int)/\x.s=s/\x.out.items=y.out.items/\j<=s.av.n/\x.out.av.n=j/\∀ i,i < j->x.out.av.get i=s.av.get i) _ s.av.n (by have:eS=10000000000000:=rfl; omega) (fun j x hj ⟨f1,f2,f3,f4,f5,f6⟩=>?_) ⟨rfl,y1,rfl,cw _,y4,fun i hi=>absurd hi (vv _)⟩;have w1:az (x.i+1)=x.i+1:=aw;have a4:gi 40 x.out.av.n 1=true:=jX;unfold pd bj mI aF;by_cases h:x.i < ((x.s.av.n:Nat):Int)
  ·have jc:j < s.av.n:=by rw [f2] at h; omega
   have e0:xG x=some (s.av.get j):=by
    unfold xG;rw [f1,f2,cm];exact arI (hs.tx j jc)
   simp only [e0,w1,a4,aH,aj,bI,bN,bG,ao h,ao (show (0:Int)<=x.i by omega)];refine .inl ⟨_,rfl,jc,by show x.i+1=_; omega,f2,f3,by omega,by show x.out.av.n+1=_; omega,?_⟩;exact am4 (n:=j) f5 f6 rfl
  ·simp only [aH,aj,aq,ax h]
   rw [f2] at h;exact .inr ⟨_,_,rfl,rfl,rfl,f3,by omega,fun i hi=>f6 i (by omega)⟩
 have b1:(jN s).by (.exit 0)=true:=by rw [hy]; rfl
 have b2:(wX s).by (.exit 2)=true:=by rw [hz]; rfl
 have b3:(wX s).st=z:=by rw [hz]; rfl
 refine ⟨z.out,?_,⟨by rw [h1]; exact y2,fun i hi=>by rw [h1]; exact y3 i hi,h2,h3⟩⟩;unfold CC aF;simp only [b1,b2,b3,aH,aj]
theorem aib {α:Type} {R:α->α->Prop} {l:Sl α} (h:∀ t t',t < t'->t' < l.n->R (l.get t) (l.get t')):(eo l).Pairwise R:=by
 unfold eo;rw [List.pairwise_map];exact List.Pairwise.imp_of_mem (fun {a b} _ hb hab=>h a b hab (pt.1 hb)) List.pairwise_lt_range
theorem Qg {α:Type} {R:α->α->Prop} (asy:∀ a b,R a b->¬ R b a):∀ {l m:List α},l.Pairwise R->m.Pairwise R->(∀ d,d∈l↔d∈m)->l=m
 | [],[],_,_,_=>rfl
 | [],y::m,_,_,h=>by have:=(h y).2 (Ow ..); simp at this
 | x::l,[],_,_,h=>by have:=(h x).1 (Ow ..); simp at this
 | x::l,y::m,hl,hm,h=>by
  rw [List.pairwise_cons] at hl hm;have Bs:x=y:=by
   rcases eL.1 ((h x).1 (Ow ..)) with e | e
   ·exact e
   rcases eL.1 ((h y).2 (Ow ..)) with e' | e'
   ·exact e'.symm
   exact absurd (hl.1 y e') (asy _ _ (hm.1 x e))
  subst Bs;rw [Qg asy hl.2 hm.2 fun d=>⟨fun hd=>?_,fun hd=>?_⟩]
  ·rcases eL.1 ((h d).1 (xh _ hd)) with e | e
   ·subst e; exact absurd (hl.1 _ hd) (asy _ _ (hl.1 _ hd))
   ·exact e
  ·rcases eL.1 ((h d).2 (xh _ hd)) with e | e
   ·subst e; exact absurd (hm.1 _ hd) (asy _ _ (hm.1 _ hd))
   ·exact e
theorem an9 (a b:aJ):lex a b->¬ lex b a:=by
 unfold lex;omega
def Ot (s:Show) (items:Sl Int) (j:Nat):List aJ:=(List.range (ef s items j).aP.n).map fun k:Nat=>(⟨items.get j,(k:Int)⟩:aJ)
def Ka (s:Show) (items:Sl Int) (p:Item->Bool) (i:Nat):List aJ:=(List.range i).flatMap fun j=>cond (p (ef s items j)) (Ot s items j) []
theorem Fw (s:Show) (items:Sl Int) (p:Item->Bool) (i:Nat):Ka s items p (i+1)=Ka s items p i++cond (p (ef s items i)) (Ot s items i) []:=by
 unfold Ka;rw [List.range_succ,List.flatMap_append];simp
theorem abG {s:Show} {items:Sl Int} {j:Nat} {d:aJ} : d∈Ot s items j↔∃ k:Nat,k < (ef s items j).aP.n/\d=⟨items.get j,(k:Int)⟩:=by
 unfold Ot;rw [Fy];exact ⟨fun ⟨k,h1,h2⟩=>⟨k,pt.1 h1,h2.symm⟩,fun ⟨k,h1,h2⟩=>⟨k,pt.2 h1,h2.symm⟩⟩
theorem Ou {s:Show} {items:Sl Int} {p:Item->Bool} {i:Nat} {d:aJ} : d∈Ka s items p i↔∃ j k:Nat,j < i/\p (ef s items j)=true/\k < (ef s items j).aP.n/\d=⟨items.get j,(k:Int)⟩:=by
 unfold Ka;rw [List.mem_flatMap];constructor
 ·rintro ⟨j,h1,h2⟩
  cases hp:p (ef s items j) with
  | false=>rw [hp] at h2; simp at h2
  | true=>
   rw [hp] at h2;obtain ⟨k,h3,h4⟩:=abG.1 h2;exact ⟨j,k,pt.1 h1,hp,h3,h4⟩
 ·rintro ⟨j,k,h1,h2,h3,h4⟩
  exact ⟨j,pt.2 h1,by rw [h2]; exact abG.2 ⟨k,h3,h4⟩⟩
theorem abH {s:Show} {items:Sl Int} {p:Item->Bool} : ∀ {i:Nat},pQ s items i->(Ka s items p i).Pairwise lex
 | 0,_=>List.Pairwise.nil
 | i+1,h=>by
  rw [Fw,List.pairwise_append];refine ⟨abH ⟨fun j hj=>h.1 j (by omega),fun j j' q1 q2=>h.2 j j' q1 (by omega)⟩,?_,fun a ha b hb=>?_⟩
  ·cases p (ef s items i) with
   | false=>exact List.Pairwise.nil
   | true=>
    show (Ot s items i).Pairwise lex;unfold Ot;rw [List.pairwise_map];exact List.Pairwise.imp (fun {a b} hab=>.inr ⟨rfl,by show (a:Int) < (b:Int); omega⟩) List.pairwise_lt_range
  ·obtain ⟨j,k,h1,_,_,rfl⟩:=Ou.1 ha
   cases hp:p (ef s items i) with
   | false=>rw [hp] at hb; simp at hb
   | true=>
    rw [hp] at hb;have hb:b∈Ot s items i:=hb;obtain ⟨k',_,rfl⟩:=abG.1 hb;exact .inl (h.2 j i h1 (by omega))
theorem ZX {s:Show} {items:Sl Int} {p:Item->Bool} (hs:tJ s):∀ {i:Nat},pQ s items i->(Ka s items p i).length<=64 * i
 | 0,_=>aQ _
 | i+1,h=>by
  have h1:=ZX (p:=p) hs (i:=i) ⟨fun j hj=>h.1 j (by omega),fun j j' q1 q2=>h.2 j j' q1 (by omega)⟩;have h2:(ef s items i).aP.n<=64:=(hs.2 (Int.toNat (items.get i)) (by have:=h.1 i (by omega); omega)).2.1;rw [Fw,ko];have:(cond (p (ef s items i)) (Ot s items i) []).length<=64:=by
   cases p (ef s items i) with
   | false=>exact cw _
   | true=>show (Ot s items i).length<=64; unfold Ot; rw [List.length_map,List.length_range]; exact h2
  omega
theorem sL.list {s:Show} {items:Sl Int} {bl:Bool} {n:Nat} {l:Sl aJ} (h:sL s items bl n 0 l) (hi:pQ s items n):eo l=Ka s items (fun x=>x.look.cI==bl) n:=by
 refine Qg an9 (aib fun t t' h1 h2=>h.ZT t t' h1 h2) (abH hi) fun d=>⟨fun hd=>?_,fun hd=>?_⟩
 ·obtain ⟨t,ht,rfl⟩:=Fy.1 hd
  obtain ⟨j,k,h1,h2,h3⟩:=h.mem t (pt.1 ht);rw [h2];exact Ou.2 ⟨j,k,by omega,by rw [h3]; simp,by omega,rfl⟩
 ·obtain ⟨j,k,h1,h2,h3,rfl⟩:=Ou.1 hd
  obtain ⟨t,h4,h5⟩:=h.has j k (.inl ⟨h1,h3⟩) (by simpa using h2);rw [<- h5];exact J9 h4
theorem pQ.more {s:Show} {items:Sl Int} {i:Nat} (h:pQ s items i) (h1:0<=items.get i/\items.get i < (s.items.n:Int)) (h2:0 < i->items.get (i - 1) < items.get i):pQ s items (i+1):=by
 refine ⟨fun j hj=>?_,fun j j' q1 q2=>?_⟩
 ·by_cases e:j=i
  ·subst e; exact h1
  ·exact h.1 j (by omega)
 ·by_cases e:j' = i
  ·subst e
   have h2:=h2 (by omega);by_cases e2:j=j' - 1
   ·subst e2; exact h2
   ·have:=h.2 j (j' - 1) (by omega) (by omega); omega
  ·exact h.2 j j' q1 (by omega)
theorem aic (s:Show) (items:Sl Int) (hn:items.n<=600) {e:Int} (he:pB s=some e) :
  ∃ f,tS s items=some f/\(e≠0->f=e)/\(e=0->¬ pQ s items items.n->f=2)/\(e=0->pQ s items items.n->f=0):=by
 have e0:Bf s items=some e:=he;unfold tS;simp only [e0,bN,bG,aj];by_cases hz:e=0
 ·subst hz
  rw [hO,aq];obtain ⟨x,z,hz,q⟩:∃ x z,wA s items = .out x z/\((x = .exit 0/\pQ s items items.n)\/(x = .ret/\¬ pQ s items items.n/\z.t4=2)):=by
   unfold wA;refine bp (step:=ns) (fun i y=>(∃ t4,y=⟨items,t4,(i:Int),s⟩)/\i<=items.n/\pQ s items i) _ items.n (by have:eS=10000000000000:=rfl; omega) (fun i y hi ⟨⟨t4,hy⟩,g1,g2⟩=>?_) ⟨⟨_,rfl⟩,cw _,fun j hj=>by omega,fun j j' _ hj=>by omega⟩;subst hy;unfold ns bj;by_cases a8:i < items.n
   ·have bad : ¬ pQ s items (i+1)->¬ pQ s items items.n:=fun hb hc=>hb ⟨fun j hj=>hc.1 j (by omega),fun j j' q1 q2=>hc.2 j j' q1 (by omega)⟩
    simp only [ao (show (i:Int) < ((items.n:Nat):Int) by omega),ao (show (0:Int)<=(i:Int) by omega),bI,cm,aj];by_cases c1:items.get i < 0
    ·rw [ao c1,aj]
     exact .inr ⟨_,_,rfl,rfl,.inr ⟨rfl,bad fun hc=>by have:=(hc.1 i (by omega)).1; omega,rfl⟩⟩
    rw [ax c1,aq];by_cases c2:items.get i >= ((s.items.n:Nat):Int)
    ·rw [ao c2,aj]
     exact .inr ⟨_,_,rfl,rfl,.inr ⟨rfl,bad fun hc=>by have:=(hc.1 i (by omega)).2; omega,rfl⟩⟩
    rw [ax c2,aq,aw (n:=(i:Int)+1)];by_cases c3:(i:Int) > 0
    ·rw [ao c3,aj,aw (n:=(i:Int) - 1),ao (show (0:Int)<=(i:Int) - 1 by omega),ao (show (i:Int) - 1 < ((items.n:Nat):Int) by omega),show Int.toNat ((i:Int) - 1)=i - 1 by omega]
     simp only [bI,aj];by_cases c4:items.get i<=items.get (i - 1)
     ·rw [ao c4,aj]
      exact .inr ⟨_,_,rfl,rfl,.inr ⟨rfl,bad fun hc=>by have:=hc.2 (i - 1) i (by omega) (by omega); omega,rfl⟩⟩
     ·rw [ax c4,aq]
      exact .inl ⟨_,rfl,a8,⟨_,rfl⟩,a8,g2.more ⟨by omega,by omega⟩ fun _=>by omega⟩
    ·rw [ax c3,aq]
     exact .inl ⟨_,rfl,a8,⟨_,rfl⟩,a8,g2.more ⟨by omega,by omega⟩ fun h=>by omega⟩
   ·have:i=items.n:=by omega
    subst this;simp only [ax (show ¬ ((items.n:Nat):Int) < ((items.n:Nat):Int) by omega),aq];exact .inr ⟨_,_,rfl,rfl,.inl ⟨rfl,g2⟩⟩
  rw [hz];rcases q with ⟨rfl,q⟩ | ⟨rfl,q,q2⟩
  ·exact ⟨_,rfl,fun h=>absurd rfl h,fun _ h=>absurd q h,fun _ _=>rfl⟩
  ·exact ⟨_,rfl,fun h=>absurd rfl h,fun _ _=>q2,fun _ h=>absurd h q⟩
 ·rw [show (e != (0:Int))=true by simpa using hz,aj]
  exact ⟨_,rfl,fun _=>rfl,fun h=>absurd h hz,fun h=>absurd h hz⟩
theorem asm {s:Show} {items:Sl Int} {j:Nat} (hs:tJ s) (h:0<=items.get j/\items.get j < (s.items.n:Int)):∃ r,E4 s (items.get j)=some r/\eo r=Ot s items j/\r.n<=64:=by
 have h64:(ef s items j).aP.n<=64:=(hs.2 (Int.toNat (items.get j)) (by omega)).2.1;obtain ⟨x,z,hz,rfl,q1,q2⟩:∃ x z,K8 s (items.get j) = .out x z/\(x = .exit 0/\eo z.l=Ot s items j/\z.l.n<=64):=by
  unfold K8;refine bp (step:=s7) (fun k y=>∃ t4 l,y=⟨items.get j,t4,l,(k:Int),s⟩/\k<=(ef s items j).aP.n/\l.n=k/\eo l=(List.range k).map fun k:Nat=>(⟨items.get j,(k:Int)⟩:aJ)) _ (ef s items j).aP.n (by have:eS=10000000000000:=rfl; omega) (fun k y hk ⟨t4,l,hy,g1,g2,g3⟩=>?_) ⟨_,_,rfl,cw _,rfl,rfl⟩;subst hy;unfold s7 bj mI aF;rw [ao h.1,ao h.2];by_cases a8:k < (ef s items j).aP.n
  ·have IU:(k:Int) < (((s.items.get (Int.toNat (items.get j))).aP.n:Nat):Int):=by show (k:Int) < (((ef s items j).aP.n:Nat):Int); omega
   have a1:gi 16 l.n 1=true:=Fq;simp only [bI,ao IU,a1,aH,aj];rw [aw (n:=(k:Int)+1)];exact .inl ⟨_,rfl,a8,_,_,rfl,a8,by rw [Sl.Lt,g2],by rw [jO,g3,List.range_succ,Ov]; rfl⟩
  ·have IU : ¬ (k:Int) < (((s.items.get (Int.toNat (items.get j))).aP.n:Nat):Int):=by show ¬ (k:Int) < (((ef s items j).aP.n:Nat):Int); omega
   have:k=(ef s items j).aP.n:=by omega
   subst this;simp only [bI,ax IU,aH,aj,aq];exact .inr ⟨_,_,rfl,rfl,rfl,g3,by show l.n<=64; omega⟩
 refine ⟨z.l,?_,q1,q2⟩;unfold E4;rw [hz];rfl
theorem aid {α:Type} (l m:Sl α):eo (l.join m)=eo l++eo m:=by
 unfold eo;rw [Sl.arF,List.range_add,Ov,List.map_map];congr 1
 ·exact List.map_congr_left fun i hi=>Sl.amP (pt.1 hi)
 ·refine List.map_congr_left fun i _=>?_
  show (l.join m).get (l.n+i)=m.get i;rw [Sl.alv (FB _ _),Nat.add_sub_cancel_left]
theorem aoY (s:Show) (items:Sl Int) (hn:items.n<=600) {e:Int} (he:pB s=some e) (cf:e=0->tJ s) :
  ∃ a ea,tT s items=some (a,ea)/\(e≠0->ea=e/\a.n=0)/\(e=0->¬ pQ s items items.n->ea=2/\a.n=0)/\(e=0->pQ s items items.n->ea=0/\eo a=Ka s items (fun x=>x.look.cI==false) items.n):=by
 obtain ⟨f,h1,h2,h3,h4⟩:=aic s items hn he;have e0:Bg s items=some f:=h1;unfold tT;simp only [e0,bN,bG,aj];by_cases hz:e=0
 ·by_cases hi:pQ s items items.n
  ·have:=h4 hz hi
   subst this;have hs:=cf hz;rw [hO,aq];obtain ⟨x,z,hz',rfl,q⟩:∃ x z,Bh s items = .out x z/\(x = .exit 0/\eo z.l=Ka s items (fun x=>x.look.cI==false) items.n):=by
    unfold Bh;refine bp (step:=nt) (fun i y=>∃ t4 t5 l,y=⟨items,t4,t5,l,(i:Int),s⟩/\i<=items.n/\eo l=Ka s items (fun x=>x.look.cI==false) i) _ items.n (by have:eS=10000000000000:=rfl; omega) (fun i y hk ⟨t4,t5,l,hy,g1,g2⟩=>?_) ⟨_,_,_,rfl,cw _,rfl⟩;subst hy;unfold nt bj mI aF;by_cases a8:i < items.n
    ·have Ts:=hi.1 i a8
     have hl:l.n<=40000:=by
      have:=ZX (p:=fun x=>x.look.cI==false) hs (i:=i) ⟨fun j hj=>hi.1 j (by omega),fun j j' q1 q2=>hi.2 j j' q1 (by omega)⟩;rw [<- eZ l,g2];omega
     obtain ⟨r,r1,r2,r3⟩:=asm hs Ts;have e1:oj ⟨items,t4,t5,l,(i:Int),s⟩=some r:=by unfold oj; simp only [cm]; exact r1
     have a1:gi 16 l.n r.n=true:=Fq;have hb:(s.items.get (Int.toNat (items.get i))).look.cI=(ef s items i).look.cI:=rfl;simp only [ao (show (i:Int) < ((items.n:Nat):Int) by omega),ao (show (0:Int)<=(i:Int) by omega),bI,cm,ao Ts.1,ao Ts.2,e1,a1,hb,aH,bN,bG,aj];rw [aw (n:=(i:Int)+1)];cases Ul:(ef s items i).look.cI with
     | true=>
      rw [kW,aq];exact .inl ⟨_,rfl,a8,_,_,_,rfl,a8,by rw [Fw,Ul,g2]; simp⟩
     | false=>
      rw [yJ,aj];exact .inl ⟨_,rfl,a8,_,_,_,rfl,a8,by rw [aid,Fw,Ul,g2,r2]; rfl⟩
    ·have:i=items.n:=by omega
     subst this;simp only [ax (show ¬ ((items.n:Nat):Int) < ((items.n:Nat):Int) by omega),aH,aj,aq];exact .inr ⟨_,_,rfl,rfl,rfl,g2⟩
   rw [hz'];exact ⟨_,_,rfl,fun h=>absurd hz h,fun _ h=>absurd hi h,fun _ _=>⟨rfl,q⟩⟩
  ·have:=h3 hz hi
   subst this;exact ⟨_,_,rfl,fun h=>absurd hz h,fun _ _=>⟨rfl,rfl⟩,fun _ h=>absurd h hi⟩
 ·have:=h2 hz
  subst this;rw [show (f != (0:Int))=true by simpa using hz,aj];exact ⟨_,_,rfl,fun _=>⟨rfl,rfl⟩,fun h=>absurd h hz,fun h=>absurd h hz⟩
def DV (s:Show) (items:Sl Int) (n b:Nat):List aJ:=(List.range b).flatMap fun k:Nat=>Ka s items (fun x=>x.look.cI&&x.look.bin==(k:Int)) n
theorem acN (s:Show) (items:Sl Int) (n b:Nat):DV s items n (b+1)=DV s items n b++Ka s items (fun x=>x.look.cI&&x.look.bin==(b:Int)) n:=by
 unfold DV;rw [List.range_succ,List.flatMap_append];simp
theorem agy {s:Show} {items:Sl Int} {n:Nat} (hs:tJ s) (hi:pQ s items n) (hn:n<=600):∀ b,(DV s items n b).length<=40000 * b
 | 0=>aQ _
 | b+1=>by
  have h1:=agy hs hi hn b;have h2:=ZX (p:=fun x=>x.look.cI&&x.look.bin==(b:Int)) hs hi;rw [acN,ko];omega
theorem am6 (s:Show) (items:Sl Int) (hn:items.n<=600) {e:Int} (he:pB s=some e) (cf:e=0->tJ s) :
  ∃ a ea,r7 s items=some (a,ea)/\(e≠0->ea=e/\a.n=0)/\(e=0->¬ pQ s items items.n->ea=2/\a.n=0)/\(e=0->pQ s items items.n->ea=0/\eo a=DV s items items.n 16):=by
 obtain ⟨f,h1,h2,h3,h4⟩:=aic s items hn he;have e0:zu s items=some f:=h1;unfold r7;simp only [e0,bN,bG,aj];by_cases hz:e=0
 ·by_cases hi:pQ s items items.n
  ·have:=h4 hz hi
   subst this;have hs:=cf hz;rw [hO,aq];have inner:∀ (b:Nat) (t4:Sl aJ) (t5:Int) (l0:Sl aJ),l0.n<=640000->∃ l k,goN iz ⟨items,t4,t5,l0,(b:Int),0,s⟩ = .out (.exit 2) ⟨items,t4,t5,l,(b:Int),k,s⟩/\eo l=eo l0++Ka s items (fun x=>x.look.cI&&x.look.bin==(b:Int)) items.n:=by
    intro b t4 t5 l0 QZ;refine Exists.elim (bp (step:=iz) (x:=⟨items,t4,t5,l0,(b:Int),0,s⟩) (fun i y=>∃ l,y=⟨items,t4,t5,l,(b:Int),(i:Int),s⟩/\i<=items.n/\eo l=eo l0++Ka s items (fun x=>x.look.cI&&x.look.bin==(b:Int)) i) (fun x y=>x = .exit 2/\∃ l,∃ k,y=⟨items,t4,t5,l,(b:Int),k,s⟩/\eo l=eo l0++Ka s items (fun x=>x.look.cI&&x.look.bin==(b:Int)) items.n) items.n (by have:eS=10000000000000:=rfl; omega) (fun i y hk ⟨l,hy,g1,g2⟩=>?_) ⟨l0,rfl,cw _,by rw [show Ka s items (fun x=>x.look.cI&&x.look.bin==(b:Int)) 0 = [] from rfl,lM]⟩) fun x ⟨y,hy,he,l,k,hl,q⟩=>⟨l,k,by rw [hy,he,hl],q⟩
    subst hy;unfold iz bj mI aF;by_cases a8:i < items.n
    ·have Ts:=hi.1 i a8
     have hl:l.n<=680000:=by
      have:=ZX (p:=fun x=>x.look.cI&&x.look.bin==(b:Int)) hs (i:=i) ⟨fun j hj=>hi.1 j (by omega),fun j j' q1 q2=>hi.2 j j' q1 (by omega)⟩;rw [<- eZ l,g2,ko,eZ];omega
     obtain ⟨r,r1,r2,r3⟩:=asm hs Ts;have e1:lq ⟨items,t4,t5,l,(b:Int),(i:Int),s⟩=some r:=by unfold lq; simp only [cm]; exact r1
     have a1:gi 16 l.n r.n=true:=Fq;have hb:(s.items.get (Int.toNat (items.get i))).look=(ef s items i).look:=rfl;simp only [ao (show (i:Int) < ((items.n:Nat):Int) by omega),ao (show (0:Int)<=(i:Int) by omega),bI,cm,ao Ts.1,ao Ts.2,e1,a1,hb,aH,bN,bG,aj];rw [aw (n:=(i:Int)+1)];cases Ul:(ef s items i).look.cI with
     | false=>
      rw [aq];exact .inl ⟨_,rfl,a8,_,rfl,a8,by rw [Fw,Ul,g2,ug,aq,lM]⟩
     | true=>
      rw [aj];cases Ro:((ef s items i).look.bin==(b:Int)) with
      | false=>
       rw [aq];exact .inl ⟨_,rfl,a8,_,rfl,a8,by rw [Fw,Ul,Ro,g2,AL,aq,lM]⟩
      | true=>
       rw [aj];exact .inl ⟨_,rfl,a8,_,rfl,a8,by rw [aid,Fw,Ul,Ro,g2,r2,AL,aj,Tz]⟩
    ·have:i=items.n:=by omega
     subst this;simp only [ax (show ¬ ((items.n:Nat):Int) < ((items.n:Nat):Int) by omega),aH,aj,aq];exact .inr ⟨_,_,rfl,rfl,rfl,l,_,rfl,g2⟩
   obtain ⟨x,z,hz',rfl,q⟩:∃ x z,zv s items = .out x z/\(x = .exit 0/\eo z.l=DV s items items.n 16):=by
    unfold zv;refine bp (step:=mj) (fun b y=>∃ t4 t5 l,y=⟨items,t4,t5,l,(b:Int),s⟩/\b<=16/\eo l=DV s items items.n b) _ 16 (by have:eS=10000000000000:=rfl; omega) (fun b y hk ⟨t4,t5,l,hy,g1,g2⟩=>?_) ⟨_,_,_,rfl,cw _,rfl⟩;subst hy;unfold mj aF;by_cases a8:b < 16
    ·have hl:l.n<=640000:=by
      have:=agy hs hi hn b;rw [<- eZ l,g2];omega
     obtain ⟨l2,k,k1,k2⟩:=inner b t4 t5 l hl;have e1:gV ⟨items,t4,t5,l,(b:Int),s⟩ = .out (.exit 2) ⟨items,t4,t5,l2,(b:Int),k,s⟩:=k1;simp only [ao (show (b:Int)<=(15:Int) by omega),e1,aH,aj,aO.kf,aO.kh,fa,kp];rw [aw (n:=(b:Int)+1)];exact .inl ⟨_,rfl,a8,_,_,_,rfl,a8,by rw [k2,g2,acN]⟩
    ·have:b=16:=by omega
     subst this;simp only [ax (show ¬ ((16:Nat):Int)<=(15:Int) by omega),aH,aj,aq];exact .inr ⟨_,_,rfl,rfl,rfl,g2⟩
   rw [hz'];exact ⟨_,_,rfl,fun h=>absurd hz h,fun _ h=>absurd hi h,fun _ _=>⟨rfl,q⟩⟩
  ·have:=h3 hz hi
   subst this;exact ⟨_,_,rfl,fun h=>absurd hz h,fun _ _=>⟨rfl,rfl⟩,fun _ h=>absurd h hi⟩
 ·have:=h2 hz
  subst this;rw [show (f != (0:Int))=true by simpa using hz,aj];exact ⟨_,_,rfl,fun _=>⟨rfl,rfl⟩,fun h=>absurd h hz,fun h=>absurd h hz⟩
theorem aqK (a:ch) (hn:a.fw.n<=20000):Cy a a=some true:=by
 obtain ⟨e,z,hz,rfl⟩:∃ e z,wO a a = .out e z/\e = .exit 0:=by
  unfold wO;refine bp (step:=qc) (fun j y=>y.a=a/\y.b=a/\y.i=(j:Int)/\j<=a.fw.n) (fun e _=>e = .exit 0) a.fw.n (by have:eS=10000000000000:=rfl; omega) (fun j y hj ⟨f1,f2,f3,f4⟩=>?_) ⟨rfl,rfl,rfl,cw _⟩;have w1:az (y.i+1)=y.i+1:=aw;unfold qc bj;by_cases a8:y.i < ((y.a.fw.n:Nat):Int)
  ·have jc:j < a.fw.n:=by rw [f1] at a8; omega
   have hg:y.b=y.a:=by rw [f1,f2]
   simp only [hg,w1,aj,aq,bI,AK,kW,ao a8,ao (show (0:Int)<=y.i by omega)];exact .inl ⟨_,rfl,jc,f1,f1,by show y.i+1=_; omega,by omega⟩
  ·simp only [aq,ax a8]
   exact .inr ⟨_,_,rfl,rfl,rfl⟩
 have b1:(wO a a).by (.exit 0)=true:=by rw [hz]; rfl
 unfold Cy;simp only [hO,aq,b1,aj]
theorem aqL (a b:Sl ch) (hn:a.n=b.n) (hb:a.n<=40) (h:∀ i,i < a.n->a.get i=b.get i) (ht:∀ i,i < a.n->(a.get i).fw.n<=20000):uX a b=some true:=by
 obtain ⟨e,z,hz,rfl⟩:∃ e z,rM a b = .out e z/\e = .exit 0:=by
  unfold rM;refine bp (step:=ni) (fun j y=>y.a=a/\y.b=b/\y.i=(j:Int)/\j<=a.n) (fun e _=>e = .exit 0) a.n (by have:eS=10000000000000:=rfl; omega) (fun j y hj ⟨f1,f2,f3,f4⟩=>?_) ⟨rfl,rfl,rfl,cw _⟩;have w1:az (y.i+1)=y.i+1:=aw;unfold ni bj;by_cases a8:y.i < ((y.a.n:Nat):Int)
  ·have jc:j < a.n:=by rw [f1] at a8; omega
   have e0:ui y=some true:=by
    unfold ui;rw [f1,f2,f3,cm,<- h j jc];exact aqK _ (ht j jc)
   simp only [e0,w1,aj,aq,bI,bN,bG,kW,ao a8,ao (show (0:Int)<=y.i by omega),ao (show y.i < ((y.b.n:Nat):Int) by rw [f2]; omega)];exact .inl ⟨_,rfl,jc,f1,f2,by show y.i+1=_; omega,by omega⟩
  ·simp only [aq,ax a8]
   exact .inr ⟨_,_,rfl,rfl,rfl⟩
 have b1:(rM a b).by (.exit 0)=true:=by rw [hz]; rfl
 unfold uX;rw [hn,hO,aq,b1,aj]
theorem aoZ (a:Item) (h1:a.aG.n<=800) (h2:a.uV.n<=800) (h3:a.aP.n<=800):s5 a a=some true:=by
 obtain ⟨e,z,hz,rfl,za,zb⟩:∃ e z,iK a a = .out e z/\(e = .exit 0/\z.a=a/\z.b=a):=by
  unfold iK;refine bp (step:=mh) (fun j y=>y.a=a/\y.b=a/\y.i=(j:Int)/\j<=a.aG.n) _ a.aG.n (by have:eS=10000000000000:=rfl; omega) (fun j y hj ⟨f1,f2,f3,f4⟩=>?_) ⟨rfl,rfl,rfl,cw _⟩;have w1:az (y.i+1)=y.i+1:=aw;unfold mh bj;by_cases a8:y.i < ((y.a.aG.n:Nat):Int)
  ·have jc:j < a.aG.n:=by rw [f1] at a8; omega
   have hg:y.b=y.a:=by rw [f1,f2]
   simp only [hg,w1,aj,aq,bI,AK,kW,ao a8,ao (show (0:Int)<=y.i by omega)];exact .inl ⟨_,rfl,jc,f1,f1,by show y.i+1=_; omega,by omega⟩
  ·simp only [aq,ax a8]
   exact .inr ⟨_,_,rfl,rfl,rfl,f1,f2⟩
 have s0:(iK a a).st=z:=by rw [hz]; rfl
 obtain ⟨e,u,hu,rfl,ua,ub⟩:∃ e z,iL a a = .out e z/\(e = .exit 2/\z.a=a/\z.b=a):=by
  unfold iL;rw [s0,za,zb];refine bp (step:=lj) (fun j y=>y.a=a/\y.b=a/\y.i=(j:Int)/\j<=a.uV.n) _ a.uV.n (by have:eS=10000000000000:=rfl; omega) (fun j y hj ⟨f1,f2,f3,f4⟩=>?_) ⟨rfl,rfl,rfl,cw _⟩;have w1:az (y.i+1)=y.i+1:=aw;unfold lj bj;by_cases a8:y.i < ((y.a.uV.n:Nat):Int)
  ·have jc:j < a.uV.n:=by rw [f1] at a8; omega
   have hg:y.b=y.a:=by rw [f1,f2]
   simp only [hg,w1,aj,aq,bI,AK,kW,ao a8,ao (show (0:Int)<=y.i by omega)];exact .inl ⟨_,rfl,jc,f1,f1,by show y.i+1=_; omega,by omega⟩
  ·simp only [aq,ax a8]
   exact .inr ⟨_,_,rfl,rfl,rfl,f1,f2⟩
 have s1:(iL a a).st=u:=by rw [hu]; rfl
 obtain ⟨e,v,hv,rfl⟩:∃ e z,qd a a = .out e z/\e = .exit 4:=by
  unfold qd;rw [s1,ua,ub];refine bp (step:=lk) (fun j y=>y.a=a/\y.b=a/\y.i=(j:Int)/\j<=a.aP.n) (fun e _=>e = .exit 4) a.aP.n (by have:eS=10000000000000:=rfl; omega) (fun j y hj ⟨f1,f2,f3,f4⟩=>?_) ⟨rfl,rfl,rfl,cw _⟩;have w1:az (y.i+1)=y.i+1:=aw;unfold lk bj;by_cases a8:y.i < ((y.a.aP.n:Nat):Int)
  ·have jc:j < a.aP.n:=by rw [f1] at a8; omega
   have hg:y.b=y.a:=by rw [f1,f2]
   simp only [hg,w1,aj,aq,bI,AK,kW,ao a8,ao (show (0:Int)<=y.i by omega)];exact .inl ⟨_,rfl,jc,f1,f1,by show y.i+1=_; omega,by omega⟩
  ·simp only [aq,ax a8]
   exact .inr ⟨_,_,rfl,rfl,rfl⟩
 have b0:(iK a a).by (.exit 0)=true:=by rw [hz]; rfl
 have b1:(iL a a).by (.exit 2)=true:=by rw [hu]; rfl
 have b2:(qd a a).by (.exit 4)=true:=by rw [hv]; rfl
 unfold s5;simp only [hO,aq,b0,b1,b2,aj,AK,bI,kW]
theorem ao0 {s s' : Show} (hs:Small s) (h:CF s s'):s6 s' s=some true:=by
 have hn:=hs.n;have ht:=hs.tn;have e0:DA s' s=some true:=aqL _ _ h.tn (by rw [h.tn]; omega) (fun i hi=>h.tx i (by rw [<- h.tn]; exact hi)) fun i hi=>by
  rw [h.tn] at hi;rw [h.tx i hi]; exact hs.tx i hi
 obtain ⟨e,z,hz,rfl⟩:∃ e z,qe s' s = .out e z/\e = .exit 0:=by
  unfold qe;refine bp (step:=mi) (fun j y=>y.a=s'/\y.b=s/\y.i=(j:Int)/\j<=s.items.n) (fun e _=>e = .exit 0) s.items.n (by have:eS=10000000000000:=rfl; omega) (fun j y hj ⟨f1,f2,f3,f4⟩=>?_) ⟨rfl,rfl,rfl,cw _⟩;have w1:az (y.i+1)=y.i+1:=aw;unfold mi bj;by_cases a8:y.i < ((y.a.items.n:Nat):Int)
  ·have jc:j < s.items.n:=by rw [f1,h.n] at a8; omega
   have e0:tC y=some true:=by
    unfold tC;rw [f1,f2,f3,cm,h.it j jc];obtain ⟨q1,q2,q3⟩:=hs.it j jc;exact aoZ _ q1 q2 q3
   simp only [e0,w1,aj,aq,bI,bN,bG,kW,ao a8,ao (show (0:Int)<=y.i by omega),ao (show y.i < ((y.b.items.n:Nat):Int) by rw [f2]; omega)];exact .inl ⟨_,rfl,jc,f1,f2,by show y.i+1=_; omega,by omega⟩
  ·simp only [aq,ax a8]
   exact .inr ⟨_,_,rfl,rfl,rfl⟩
 have b1:(qe s' s).by (.exit 0)=true:=by rw [hz]; rfl
 unfold s6;rw [h.n];simp only [hO,aq,e0,b1,bN,bG,kW,aj]
end Go.Proofs.YtchbpckkmgcgkaaGreat.b
end
section
namespace Go.Proofs.YtchbpckkmgcgkaaGreat.b
open Go.K
noncomputable section
end
end Go.Proofs.YtchbpckkmgcgkaaGreat.b
end
section
namespace Go.Proofs.YtchbpckkmgcgkaaGreat.b
open Go.K
open Go.aB (ai)
def nobody:Zn:=⟨-2048,-1,-1,0,0,0⟩
end Go.Proofs.YtchbpckkmgcgkaaGreat.b
end
section
namespace Go.Proofs.YtchbpckkmgcgkaaGreat.b
open Go.K
noncomputable section
def ahk (top:Color) (under:Color):Option (Color):=(some (⟨(w8 (az (Int.tdiv (az ((az ((az top.e0) * (az top.e3)))+(az ((az under.e0) * (az (255 - (az top.e3))))))) 255))),(w8 (az (Int.tdiv (az ((az ((az top.e1) * (az top.e3)))+(az ((az under.e1) * (az (255 - (az top.e3))))))) 255))),(w8 (az (Int.tdiv (az ((az ((az top.e2) * (az top.e3)))+(az ((az under.e2) * (az (255 - (az top.e3))))))) 255))),(w8 (az (Int.tdiv (az ((az (255 * (az top.e3)))+(az ((az under.e3) * (az (255 - (az top.e3))))))) 255)))⟩))
structure Frame where
 w:Int
 h:Int
 color:(Sl Color)
 depth:(Sl Int)
 item:(Sl Int)
 dB:(Sl Int)
instance:Inhabited Frame:=⟨by constructor<;>exact default⟩
end
end Go.Proofs.YtchbpckkmgcgkaaGreat.b
end
section
namespace Go.Proofs.YtchbpckkmgcgkaaGreat.b
open Go.K
open Go.aB (ai)
end Go.Proofs.YtchbpckkmgcgkaaGreat.b
end
section
namespace Go.Proofs.YtchbpckkmgcgkaaGreat.b
open Go.K Go.K.fj
open Go.aB (ai)
end Go.Proofs.YtchbpckkmgcgkaaGreat.b
end
section
namespace Go.Proofs.YtchbpckkmgcgkaaGreat.b
open Go.K Go.K.fj
open Go.aB (ai)
section
variable {h:Ia} {gA:Zn->Zn->Prop} {rc:pL->aO pL} {L:Nat}
end
end Go.Proofs.YtchbpckkmgcgkaaGreat.b
end
section
namespace Go.Proofs.YtchbpckkmgcgkaaGreat.b
open Go.K Go.K.fj
open Go.aB (ai)
section
variable (h:Ia) (gA:Zn->Zn->Prop) (G:Sl Zn)
end
end Go.Proofs.YtchbpckkmgcgkaaGreat.b
end
section
namespace Go.Proofs.YtchbpckkmgcgkaaGreat.b
open Go.K Go.K.fj
open Go.aB (ai)
def lay (p g:Color):Color:=(ahk p g).getD default
theorem ajz (l:Sl ch):(qZ l).isSome=true:=by
 obtain ⟨e,z,hz,rfl⟩:∃ e z,mu l = .out e z/\e = .exit 0:=by
  unfold mu;refine bp (step:=kL) (fun j y=>y.i=(j:Int)) (fun e _=>e = .exit 0) 100 (by decide) (fun j y hj f1=>?_) rfl;have w1:az (y.i+1)=y.i+1:=aw;unfold kL bj;cases h:decide (y.i < ((y.l.n:Nat):Int)) with
  | false=>exact .inr ⟨_,_,rfl,rfl,rfl⟩
  | true=>
   cases h2:decide (y.i < (100:Int)) with
   | false=>exact .inr ⟨_,_,rfl,rfl,rfl⟩
   | true=>
    have IM:=pT h2;simp only [w1,aj,bI,ao (show (0:Int)<=y.i by omega)];exact .inl ⟨_,rfl,by omega,by show y.i+1=_; omega⟩
 have b1:(mu l).by (.exit 0)=true:=by rw [hz]; rfl
 unfold qZ;simp only [b1,aj];exact yz (fun _=>rfl) (fun _=>rfl)
theorem alQ (s:Show):(tA s).isSome=true:=by
 obtain ⟨e,z,hz,rfl⟩:∃ e z,kN s = .out e z/\e = .exit 0:=by
  unfold kN;refine bp (step:=kM) (fun j y=>y.i=(j:Int)) (fun e _=>e = .exit 0) 300 (by decide) (fun j y hj f1=>?_) rfl;have w1:az (y.i+1)=y.i+1:=aw;unfold kM bj;cases h:decide (y.i < ((y.s.items.n:Nat):Int)) with
  | false=>exact .inr ⟨_,_,rfl,rfl,rfl⟩
  | true=>
   cases h2:decide (y.i < (300:Int)) with
   | false=>exact .inr ⟨_,_,rfl,rfl,rfl⟩
   | true=>
    have IM:=pT h2;simp only [w1,aj,bI,ao (show (0:Int)<=y.i by omega)];exact .inl ⟨_,rfl,by omega,by show y.i+1=_; omega⟩
 have b1:(kN s).by (.exit 0)=true:=by rw [hz]; rfl
 have e1:(ym s).isSome=true:=ajz _;unfold tA;simp only [b1,e1,aj];exact yz (fun _=>rfl) (fun _=>yz (fun _=>rfl) (fun _=>rfl))
end Go.Proofs.YtchbpckkmgcgkaaGreat.b
end
section
namespace Go.Proofs.YtchbpckkmgcgkaaGreat.b
open Go.K
theorem Tu {P:Program} : ∀ {l:List KV},AY P l->∀ v∈l,GL P v
 | [],_,v,hv=>by simp at hv
 | x::l,h,v,hv=>by
  simp only [AY] at h;rcases eL.1 hv with rfl | hv
  ·exact h.1
  ·exact Tu h.2 v hv
theorem Gv {P:Program} {ks:List CK} {v:KV} (h:cC ⟨true,ks⟩ v=true) (hw:WB v) (hd:GL P v) {j:Nat} {c:CK} (hj:ks[j]? = some c):K.kindOk c (v.cells.getD j .bD)=true/\WB (v.cells.getD j .bD)/\GL P (v.cells.getD j .bD):=by
 obtain ⟨cs,rfl,hk⟩:=aoJ h;obtain ⟨u,h1,h2⟩:=C6 hk hj;have e:(KV.agg cs).cells.getD j .bD=u:=by
  show cs.getD j .bD=u;rw [gK,h1];rfl
 have hm:=hQ h1;rw [e];have hd' : AY P cs:=by simpa [GL] using hd
 have hw' : Ec cs:=by simpa [WB] using hw
 exact ⟨h2,aaI hw' u hm,Tu hd' u hm⟩
theorem am7 {P:Program} {v:KV} {T:TypeId} (h:K.kindOk (.slice T) v=true) (hw:WB v) (hd:GL P v) {i:Nat} (hi:i < lenOf v):cC (bu P T) (tM v i)=true/\WB (tM v i)/\GL P (tM v i):=by
 cases v with
 | ts t m n es acc=>
  have ht:T=t:=by
   cases m <;> simp [K.kindOk] at h;exact h
  subst ht;simp only [GL] at hd;simp only [WB] at hw;obtain ⟨am8,atS⟩:=hd;have hi:i < n:=hi;have hl:i < es.length:=by rw [<- am8.len]; exact hi
  have e:acc i=es.getD i .bD:=am8.acc i hi;have e2:es.getD i .bD=es[i]:=by rw [gK,dz hl]; rfl
  show cC (bu P T) (acc i)=true/\WB (acc i)/\GL P (acc i);rw [e,e2];exact ⟨j7 am8.typed (dz hl),aaI hw.2 _ (List.getElem_mem hl),Tu atS _ (List.getElem_mem hl)⟩
 | _=>simp [K.kindOk] at h
theorem Qh {v:KV} (h:K.kindOk (.int .u8) v=true) (hw:WB v):0<=intOf v/\intOf v<=255:=by
 cases v with
 | int k n=>
  have hk:k = .u8:=by
   have:decide (IntKind.u8=k)=true:=h;exact (pT this).symm
  subst hk;have h:(Lit.int .u8 n).wf=true:=hw;simp only [Lit.wf,aD,kV] at h;show 0<=n/\n<=255;exact h
 | _=>simp [K.kindOk] at h
structure U8 (c:Color):Prop where
 e0:0<=c.e0/\c.e0<=255
 e1:0<=c.e1/\c.e1<=255
 e2:0<=c.e2/\c.e2<=255
 e3:0<=c.e3/\c.e3<=255
structure S8 (s:Show):Prop where
 col:∀ i,i < s.items.n->U8 (s.items.get i).look.color
 cz:∀ i,i < s.items.n->0<=(s.items.get i).look.cz/\(s.items.get i).look.cz<=255
 tex:∀ i,i < s.av.n->∀ k,k < (s.av.get i).fw.n->U8 ((s.av.get i).fw.get k)
noncomputable abbrev Il (a:KV):Show:=hJ (tN Tryz.prog (eh Tryz.prog gR) 25 a)
theorem asV:bu Tryz.prog 25=⟨true,[.slice 111,.slice 114]⟩:=by kernel_rfl
theorem arJ:∃ ks,bu Tryz.prog 111=⟨true,ks⟩/\ks[3]? = some (.int .u8)/\ks[4]? = some (.int .u8)/\ks[5]? = some (.int .u8)/\ks[6]? = some (.int .u8)/\ks[8]? = some (.int .u8):=⟨(bu Tryz.prog 111).ks,by kernel_rfl,by kernel_rfl,by kernel_rfl,by kernel_rfl,by kernel_rfl,by kernel_rfl⟩
theorem arK:∃ ks,bu Tryz.prog 114=⟨true,ks⟩/\ks[2]? = some (.slice 33):=⟨(bu Tryz.prog 114).ks,by kernel_rfl,by kernel_rfl⟩
theorem asW:bu Tryz.prog 33=⟨true,[.int .u8,.int .u8,.int .u8,.int .u8]⟩:=by kernel_rfl
theorem asg (a:KV):(Il a).items.n=lenOf (a.cells.getD 0 .bD):=by kernel_rfl
theorem atT (a:KV):(Il a).av.n=lenOf (a.cells.getD 1 .bD):=by kernel_rfl
theorem aqM (a:KV) (i:Nat):((Il a).items.get i).look.color=⟨intOf ((tM (a.cells.getD 0 .bD) i).cells.getD 3 .bD),intOf ((tM (a.cells.getD 0 .bD) i).cells.getD 4 .bD),intOf ((tM (a.cells.getD 0 .bD) i).cells.getD 5 .bD),intOf ((tM (a.cells.getD 0 .bD) i).cells.getD 6 .bD)⟩:=by kernel_rfl
theorem aqN (a:KV) (i:Nat):((Il a).items.get i).look.cz=intOf ((tM (a.cells.getD 0 .bD) i).cells.getD 8 .bD):=by kernel_rfl
theorem arL (a:KV) (i:Nat):((Il a).av.get i).fw.n=lenOf ((tM (a.cells.getD 1 .bD) i).cells.getD 2 .bD):=by kernel_rfl
theorem arM (a:KV) (i k:Nat):((Il a).av.get i).fw.get k=⟨intOf ((tM ((tM (a.cells.getD 1 .bD) i).cells.getD 2 .bD) k).cells.getD 0 .bD),intOf ((tM ((tM (a.cells.getD 1 .bD) i).cells.getD 2 .bD) k).cells.getD 1 .bD),intOf ((tM ((tM (a.cells.getD 1 .bD) i).cells.getD 2 .bD) k).cells.getD 2 .bD),intOf ((tM ((tM (a.cells.getD 1 .bD) i).cells.getD 2 .bD) k).cells.getD 3 .bD)⟩:=by kernel_rfl
theorem aqO {a:KV} (h:cC (bu Tryz.prog 25) a=true) (hw:WB a) (hd:GL Tryz.prog a):S8 (Il a):=by
 rw [asV] at h;obtain ⟨i1,i2,i3⟩:=Gv h hw hd (j:=0) rfl;obtain ⟨t1,t2,t3⟩:=Gv h hw hd (j:=1) rfl;obtain ⟨ks,l0,l3,l4,l5,l6,l8⟩:=arJ;obtain ⟨kt,m0,m2⟩:=arK;have item:∀ i,i < (Il a).items.n->∀ j c,ks[j]? = some c->K.kindOk c ((tM (a.cells.getD 0 .bD) i).cells.getD j .bD)=true/\WB ((tM (a.cells.getD 0 .bD) i).cells.getD j .bD):=fun i hi j c hj=>by
  rw [asg] at hi;obtain ⟨q1,q2,q3⟩:=am7 i1 i2 i3 hi;rw [l0] at q1;obtain ⟨r1,r2,_⟩:=Gv q1 q2 q3 hj;exact ⟨r1,r2⟩
 refine ⟨fun i hi=>?_,fun i hi=>?_,fun i hi k hk=>?_⟩
 ·rw [aqM]
  exact ⟨Qh (item i hi 3 _ l3).1 (item i hi 3 _ l3).2,Qh (item i hi 4 _ l4).1 (item i hi 4 _ l4).2,Qh (item i hi 5 _ l5).1 (item i hi 5 _ l5).2,Qh (item i hi 6 _ l6).1 (item i hi 6 _ l6).2⟩
 ·rw [aqN]
  exact Qh (item i hi 8 _ l8).1 (item i hi 8 _ l8).2
 ·rw [atT] at hi
  obtain ⟨q1,q2,q3⟩:=am7 t1 t2 t3 hi;rw [m0] at q1;obtain ⟨r1,r2,r3⟩:=Gv q1 q2 q3 m2;rw [arL] at hk;obtain ⟨c1,c2,c3⟩:=am7 r1 r2 r3 hk;rw [asW] at c1;rw [arM];obtain ⟨x0,y0,_⟩:=Gv c1 c2 c3 (j:=0) rfl;obtain ⟨x1,y1,_⟩:=Gv c1 c2 c3 (j:=1) rfl;obtain ⟨x2,y2,_⟩:=Gv c1 c2 c3 (j:=2) rfl;obtain ⟨x3,y3,_⟩:=Gv c1 c2 c3 (j:=3) rfl;exact ⟨Qh x0 y0,Qh x1 y1,Qh x2 y2,Qh x3 y3⟩
theorem agz {P:Program} : ∀ {ts:List TypeId} {xs:List KV} {i:Nat} {t:TypeId},j9 P ts xs=true->Ec xs->AY P xs->ts[i]? = some t->cC (bu P t) (xs.getD i .bD)=true/\WB (xs.getD i .bD)/\GL P (xs.getD i .bD)
 | [],_,_,_,_,_,_,h=>by simp at h
 | _::_,[],_,_,h,_,_,_=>by simp [j9] at h
 | t::ts,v::vs,i,u,h,hw,hd,ht=>by
  simp only [j9,aD] at h;cases i with
  | zero=>
   rw [List.getElem?_cons_zero] at ht;rw [<- uf ht];exact ⟨h.1,hw.1,hd.1⟩
  | succ i=>
   rw [TA] at ht;have:=agz (ts:=ts) (xs:=vs) (i:=i) h.2 hw.2 hd.2 ht;rw [List.getD_cons_succ];exact this
theorem ao1 {ts:List TypeId} {xs:List KV} (i:Nat) (ht:ts[i]? = some 25) (h:j9 Tryz.prog ts xs=true) (hw:Ec xs) (hd:AY Tryz.prog xs):S8 (Il (xs.getD i .bD)):=by
 obtain ⟨h1,h2,h3⟩:=agz h hw hd ht;exact aqO h1 h2 h3
end Go.Proofs.YtchbpckkmgcgkaaGreat.b
end
section
namespace Go.Proofs.YtchbpckkmgcgkaaGreat.b
open Go.K Go.K.fj
open Go.aB (ai)
theorem Kb (a b:Int) (hb:1<=b/\b<=1152921504606846976) (ha : -1152921504606846976 * 2<=a/\a<=1152921504606846976 * 2):oy a b=some (a / b):=by
 have h1:=Int.mul_ediv_add_emod a b;have h2:=Int.emod_nonneg a (show b≠0 by omega);have h3:=Int.emod_lt_of_pos a (show 0 < b by omega);have l1 : -2305843009213693952<=a / b:=Int.le_ediv_of_mul_le (by omega) (by omega);have l2:a / b<=2305843009213693952:=Int.ediv_le_of_le_mul (by omega) (by omega);have ht:Int.tdiv a b=a / b\/Int.tdiv a b=a / b+1:=by
  rw [Int.tdiv_eq_ediv];split
  ·exact .inl (by omega)
  ·exact .inr (by rw [Int.sign_eq_one_of_pos (by omega)])
 unfold oy;rw [ax (show ¬ b=0 by omega),yJ,aj];generalize a / b=q at *;generalize a % b=r at *;rcases ht with ht | ht
 ·rw [ht,aw (n:=q),Int.mul_comm q b,aw (n:=b * q),ax (show ¬ b * q > a by omega),aq]
 ·have e:(q+1) * b=b * q+b:=by rw [Int.add_mul,Int.one_mul,Int.mul_comm]
  rw [ht,aw (n:=q+1),e,aw (n:=b * q+b),ao (show b * q+b > a by omega),aj,aw (n:=q+1 - 1)];congr 1;omega
def AH (P:Prop) (r:Option Bool):Prop:=∃ b,r=some b/\(b=true↔P)
theorem AH.ite {P:Prop} {c:Prop} [Decidable c] {a b:Option Bool} (h1:c->AH P a) (h2 : ¬ c->AH P b):AH P (if c then a else b):=by
 by_cases h:c
 ·rw [aR h]; exact h1 h
 ·rw [ay h]; exact h2 h
theorem am9 (s:yg):AH (PY s) (yo s):=by
 unfold yo PY;simp only [Bool.cond_eq_ite,kV]
 repeat' (refine AH.ite (fun _=>?_) (fun _=>?_))
 all_goals first | exact ⟨false,rfl,fun h=>by simp at h,fun h=>by omega⟩ | exact ⟨_,rfl,fun h=>by have:=pT h; omega,fun h=>ao (by omega)⟩
theorem aqP (t:aW):AH (PZ t) (BO t):=by
 obtain ⟨b0,h0,q0⟩:=am9 t.e0;obtain ⟨b1,h1,q1⟩:=am9 t.e1;obtain ⟨b2,h2,q2⟩:=am9 t.e2;have e0:PF t=some b0:=h0;have e1:PH t=some b1:=h1;have e2:PI t=some b2:=h2;unfold BO PZ AH;rw [e0,e1,e2,<- q0,<- q1,<- q2];cases b0 <;> cases b1 <;> cases b2 <;> simp
theorem agA {t:aW} (h:PZ t):tB t=some (ud t):=by
 obtain ⟨⟨x0,y0,_⟩,⟨x1,y1,_⟩,x2,y2,_⟩:=h;unfold tB ud;have m1:=sm (a:=t.e1.x - t.e0.x) (b:=t.e2.y - t.e0.y) (c:=262144) (d:=262144) (by omega) (by omega) (by omega);have m2:=sm (a:=t.e2.x - t.e0.x) (b:=t.e1.y - t.e0.y) (c:=262144) (d:=262144) (by omega) (by omega) (by omega);rw [aw (n:=t.e1.x - t.e0.x),aw (n:=t.e2.y - t.e0.y),aw (n:=t.e2.x - t.e0.x),aw (n:=t.e1.y - t.e0.y),aw (n:=(t.e1.x - t.e0.x) * (t.e2.y - t.e0.y)),aw (n:=(t.e2.x - t.e0.x) * (t.e1.y - t.e0.y)),aw (by omega) (by omega)]
theorem aqQ (t:aW) {cz:Int} (hc:0<=cz):∃ e,zm t cz=some (qt t cz,e):=by
 obtain ⟨b,h1,q⟩:=aqP t;have e0:Ju t cz=some b:=h1;unfold zm Ba;simp only [e0,bN,aj,bG];have iff:=XB t cz;cases b with
 | false=>
  have:qt t cz=false:=by
   cases hs:qt t cz with
   | false=>rfl
   | true=>have:=q.2 (iff.1 hs).1; simp at this
  rw [this];exact ⟨8,rfl⟩
 | true=>
  have ht:=q.1 rfl;have e1:Jv t cz=some (ud t):=agA ht;simp only [e1,bG,kW,aq];have key:∀ (b:Bool),(b=true↔qt t cz=true)->b=qt t cz:=fun b h=>Bool.eq_iff_iff.2 h;by_cases c1:cz > 2
  ·rw [ao c1,aj]
   exact ⟨2,by rw [key false ⟨fun h=>by simp at h,fun h=>by have:=(iff.1 h).2; omega⟩]⟩
  ·rw [ax c1,aq]
   by_cases c2:ud t > 0
   ·rw [ao c2,aj]
    by_cases c3:cz=2
    ·rw [show (cz != (2:Int))=false by simpa using c3,aq,ax (show ¬ ud t < 0 by omega),aq]
     exact ⟨0,by rw [key false ⟨fun h=>by simp at h,fun h=>by have:=(iff.1 h).2; omega⟩]⟩
    ·rw [show (cz != (2:Int))=true by simpa using c3,aj]
     exact ⟨0,by rw [key true ⟨fun _=>iff.2 ⟨ht,by omega⟩,fun _=>rfl⟩]⟩
   ·rw [ax c2,aq]
    by_cases c4:ud t < 0
    ·rw [ao c4,aj]
     by_cases c5:cz=1
     ·rw [show (cz != (1:Int))=false by simpa using c5]
      exact ⟨0,by rw [key false ⟨fun h=>by simp at h,fun h=>by have:=(iff.1 h).2; omega⟩]⟩
     ·rw [show (cz != (1:Int))=true by simpa using c5]
      exact ⟨0,by rw [key true ⟨fun _=>iff.2 ⟨ht,by omega⟩,fun _=>rfl⟩]⟩
    ·rw [ax c4,aq]
     exact ⟨0,by rw [key false ⟨fun h=>by simp at h,fun h=>by have:=(iff.1 h).2; omega⟩]⟩
theorem ana {t:aW} (h:PZ t):uW t=some (yD t):=by
 have e0:NN t=some (ud t):=agA h;unfold uW yD;rw [e0];simp only [bG];cases decide (ud t < 0) <;> rfl
theorem abI {c:aE} {p:bK} (hc:gJ c) (hp:kU p) (hz:c.au<=p.p.z):ru c p=some (rP c p):=by
 obtain ⟨⟨_,hf,hn,hw,hh⟩,_⟩:=id hc;obtain ⟨hx,hy,⟨z1,z2⟩,_,_⟩:=id hp;have go:∀ v,In v 32768->oy (az ((az ((8:Int) * c.qY)) * v)) p.p.z=some ((8 * c.qY * v) / p.p.z)/\In ((8 * c.qY * v) / p.p.z) 16777216:=fun v hv=>by
  have hi:=(Qc hf hv (z:=p.p.z) (by omega)).2;unfold In at hv;have h:=sm (a:=8 * c.qY) (b:=v) (c:=512) (d:=32768) (by omega) (by omega) hv;rw [aw (n:=8 * c.qY),aw (n:=8 * c.qY * v),Kb _ _ (by omega) (by omega)];exact ⟨rfl,hi⟩
 obtain ⟨g1,i1,i2⟩:=go _ hx;obtain ⟨g2,i3,i4⟩:=go _ hy;have a0:GS c p.p.x p.p.z=some ((8 * c.qY * p.p.x) / p.p.z):=g1;have d0:Ml c p.p.y p.p.z=some ((8 * c.qY * p.p.y) / p.p.z):=g2;have e0:Bb c p=some ((8 * c.qY * p.p.x) / p.p.z+4 * c.w):=by
  unfold Bb Ax;simp only [a0,bN,aj,bG];rw [aw (n:=4 * c.w),aw (by omega) (by omega)]
 have e1:Bc c p=some (4 * c.h - (8 * c.qY * p.p.y) / p.p.z):=by
  unfold Bc Gi;simp only [d0,bN,aj,bG];rw [aw (n:=4 * c.h),aw (by omega) (by omega)]
 have ht:Int.tdiv 16777216 p.p.z=16777216 / p.p.z:=XF (by decide);have t1:0<=(16777216:Int) / p.p.z:=Int.ediv_nonneg (by decide) (by omega);have t2:(16777216:Int) / p.p.z<=16777216:=Int.ediv_le_self _ (by decide);unfold ru rP;simp only [e0,e1,bN,bG,aj,ax (show ¬ p.p.z=0 by omega),yJ];rw [aw (n:=Int.tdiv 16777216 p.p.z)]
theorem aqR {r:kq} {x y z:Int} (h:abz r 256) (hx:In x 8192) (hy:In y 8192) (hz:In z 8192):Cw r ⟨x,y,z⟩=some (acI r x y z / 256):=by
 obtain ⟨a,b,c⟩:=an6 h hx hy hz;unfold In at *;unfold Cw Sz acI;simp only;generalize r.e0 * x=p at *;generalize r.e1 * y=q at *;generalize r.e2 * z=u at *;rw [aw (n:=p),aw (n:=q),aw (n:=u),aw (n:=p+q),aw (n:=p+q+u),Kb _ _ (by omega) (by omega)];rfl
theorem ajA {c:aE} {v:gY} (hc:gJ c) (hv:xg v):vu c v=some (lx c v):=by
 obtain ⟨⟨⟨p1,p2,p3,p4,p5,p6⟩,_⟩,m0,m1,m2⟩:=id hc;obtain ⟨v1,v2,v3,v4,v5,v6⟩:=id hv;have hx:In (v.x - c.pos.x) 8192:=by unfold In; omega
 have hy:In (v.y - c.pos.y) 8192:=by unfold In; omega
 have hz:In (v.z - c.pos.z) 8192:=by unfold In; omega
 have e0:FV c v=some (lx c v):=by
  unfold FV Ay;rw [aw (n:=v.x - c.pos.x),aw (n:=v.y - c.pos.y),aw (n:=v.z - c.pos.z)];have q0:GU c.m ⟨v.x - c.pos.x,v.y - c.pos.y,v.z - c.pos.z⟩=some (lx c v).x:=aqR m0 hx hy hz;have q1:GV c.m ⟨v.x - c.pos.x,v.y - c.pos.y,v.z - c.pos.z⟩=some (lx c v).y:=aqR m1 hx hy hz;have q2:GW c.m ⟨v.x - c.pos.x,v.y - c.pos.y,v.z - c.pos.z⟩=some (lx c v).z:=aqR m2 hx hy hz;simp only [q0,q1,q2,bN,bG,aj]
 unfold vu;simp only [e0,bN,bG,aj]
theorem QV (n:Int) {m:Int} (hm:0<=m/\m<=1000000):AH (In n m) (nh n m):=by
 unfold nh In;rw [aw (n:=0 - m)];by_cases h:n >= 0 - m
 ·rw [ao h,aj]
  exact ⟨_,rfl,fun q=>by have:=pT q; omega,fun q=>ao q.2⟩
 ·rw [ax h,aq]
  exact ⟨false,rfl,fun q=>by simp at q,fun q=>by omega⟩
theorem aqS (v:gY):AH (xg v) (BP v 4096):=by
 obtain ⟨b0,h0,q0⟩:=QV v.x (m:=4096) (by decide);obtain ⟨b1,h1,q1⟩:=QV v.y (m:=4096) (by decide);obtain ⟨b2,h2,q2⟩:=QV v.z (m:=4096) (by decide);have e0:PK v 4096=some b0:=h0;have e1:PL v 4096=some b1:=h1;have e2:PM v 4096=some b2:=h2;have iff:xg v↔b0=true/\b1=true/\b2=true:=by
  rw [q0,q1,q2];unfold xg In;omega
 unfold BP AH;rw [e0,e1,e2,iff];cases b0 <;> cases b1 <;> cases b2 <;> simp
theorem arN (m:da):AH (MIn m 256) (Cx m 256):=by
 obtain ⟨b0,h0,q0⟩:=QV m.e0.e0 (m:=256) (by decide);obtain ⟨b1,h1,q1⟩:=QV m.e0.e1 (m:=256) (by decide);obtain ⟨b2,h2,q2⟩:=QV m.e0.e2 (m:=256) (by decide);obtain ⟨b3,h3,q3⟩:=QV m.e1.e0 (m:=256) (by decide);obtain ⟨b4,h4,q4⟩:=QV m.e1.e1 (m:=256) (by decide);obtain ⟨b5,h5,q5⟩:=QV m.e1.e2 (m:=256) (by decide);obtain ⟨b6,h6,q6⟩:=QV m.e2.e0 (m:=256) (by decide);obtain ⟨b7,h7,q7⟩:=QV m.e2.e1 (m:=256) (by decide);obtain ⟨b8,h8,q8⟩:=QV m.e2.e2 (m:=256) (by decide);have e0:Mn m 256=some b0:=h0;have e1:Mo m 256=some b1:=h1;have e2:Mp m 256=some b2:=h2;have e3:Mq m 256=some b3:=h3;have e4:Mr m 256=some b4:=h4;have e5:Ms m 256=some b5:=h5;have e6:Mt m 256=some b6:=h6;have e7:Mu m 256=some b7:=h7;have e8:Mv m 256=some b8:=h8;have key:∀ (b:Bool) (r:Option Bool),(b=false->¬ MIn m 256)->(b=true->AH (MIn m 256) r)->AH (MIn m 256) (_root_.cond (!b) (some false) r):=fun b r h1 h2=>by
  cases b with
  | false=>exact ⟨false,rfl,fun q=>by simp at q,fun q=>absurd q (h1 rfl)⟩
  | true=>exact h2 rfl
 have no:∀ {b:Bool} {P:Prop},(b=true↔P)->(MIn m 256->P)->b=false->¬ MIn m 256:=fun {b P} h1 h2 h3 h4=>by have:=h1.2 (h2 h4); rw [h3] at this; simp at this
 unfold Cx;simp only [e0,e1,e2,e3,e4,e5,e6,e7,e8,bN,bG,aj];refine key _ _ (no q0 fun h=>h.1.1) fun t0=>key _ _ (no q1 fun h=>h.1.2.1) fun t1=>key _ _ (no q2 fun h=>h.1.2.2) fun t2=>key _ _ (no q3 fun h=>h.2.1.1) fun t3=>key _ _ (no q4 fun h=>h.2.1.2.1) fun t4=>key _ _ (no q5 fun h=>h.2.1.2.2) fun t5=>key _ _ (no q6 fun h=>h.2.2.1) fun t6=>key _ _ (no q7 fun h=>h.2.2.2.1) fun t7=>key _ _ (no q8 fun h=>h.2.2.2.2) fun t8=>?_;exact ⟨true,rfl,fun _=>⟨⟨q0.1 t0,q1.1 t1,q2.1 t2⟩,⟨q3.1 t3,q4.1 t4,q5.1 t5⟩,q6.1 t6,q7.1 t7,q8.1 t8⟩,fun _=>rfl⟩
theorem aqT (c:aE):∃ e,zn c=some e/\(e=0\/e=150)/\(e=0↔gJ c):=by
 obtain ⟨b0,h0,q0⟩:=aqS c.pos;obtain ⟨b1,h1,q1⟩:=arN c.m;have e0:Jy c=some b0:=h0;have e1:Jz c=some b1:=h1;have no:∀ {P:Prop},¬ gJ c->∃ e,(some (150:Int):Option Int)=some e/\(e=0\/e=150)/\(e=0↔gJ c):=fun h=>⟨150,rfl,.inr rfl,fun q=>by omega,fun q=>absurd q h⟩
 unfold zn;simp only [e0,e1,bN,bG,aj];cases b0 with
 | false=>exact no (P:=True) fun h=>by have:=q0.2 h.1.1; simp at this
 | true=>
 cases b1 with
 | false=>exact no (P:=True) fun h=>by have:=q1.2 h.2; simp at this
 | true=>
  simp only [kW,aq];simp only [Bool.cond_eq_ite,kV];have hp:=q0.1 rfl;have hm:=q1.1 rfl;have acO:∀ {P:Prop} [Decidable P] {r:Option Int},(P->¬ gJ c)->(¬ P->∃ e,r=some e/\(e=0\/e=150)/\(e=0↔gJ c))->∃ e,(if P then some (150:Int) else r)=some e/\(e=0\/e=150)/\(e=0↔gJ c):=fun {P _ r} h1 h2=>by
   by_cases h:P
   ·rw [aR h]; exact no (P:=True) (h1 h)
   ·rw [ay h]; exact h2 h
  refine acO (fun q h=>by have:=h.1.2; omega) fun t1=>acO (fun q h=>by have:=h.1.2; omega) fun t2=>acO (fun q h=>by have:=h.1.2; omega) fun t3=>acO (fun q h=>by have:=h.1.2; omega) fun t4=>acO (fun q h=>by have:=h.1.2; omega) fun t5=>acO (fun q h=>by have:=h.1.2; omega) fun t6=>acO (fun q h=>by have:=h.1.2; omega) fun t7=>acO (fun q h=>by have:=h.1.2; omega) fun t8=>?_;exact ⟨0,rfl,.inl rfl,fun _=>⟨⟨hp,by omega,by omega,by omega,by omega,by omega⟩,hm⟩,fun _=>rfl⟩
theorem arO (t:ch):AH (abE t) (EU t):=by
 unfold EU abE;by_cases h1:1<=t.w/\t.w<=16
 ·rw [ao (show t.w >= 1 from h1.1),ao h1.2,aj,aj]
  by_cases h2:1<=t.h/\t.h<=16
  ·rw [ao (show t.h >= 1 from h2.1),ao h2.2,aj,aj]
   have h3:0<=t.w * t.h/\t.w * t.h<=16 * 16:=⟨Int.mul_nonneg (by omega) (by omega),Int.mul_le_mul h1.2 h2.2 (by omega) (by omega)⟩
   rw [aw (by omega) (by omega)];exact ⟨_,rfl,fun h=>⟨h1,h2,by simpa using h⟩,fun h=>by simpa using h.2.2⟩
  ·have no:AH (((1<=t.w/\t.w<=16)/\(1<=t.h/\t.h<=16)/\((t.fw.n:Nat):Int)=t.w * t.h)) (some false):=⟨false,rfl,fun h=>by simp at h,fun h=>absurd h.2.1 h2⟩
   by_cases h3:t.h >= 1
   ·rw [ao h3,ax (show ¬ t.h<=16 by omega)]; exact no
   ·rw [ax h3]; exact no
 ·have no:AH (((1<=t.w/\t.w<=16)/\(1<=t.h/\t.h<=16)/\((t.fw.n:Nat):Int)=t.w * t.h)) (some false):=⟨false,rfl,fun h=>by simp at h,fun h=>absurd h.1 h1⟩
  by_cases h3:t.w >= 1
  ·rw [ao h3,ax (show ¬ t.w<=16 by omega)]; exact no
  ·rw [ax h3]; exact no
theorem asX (l:Sl ch) (hn:l.n<=16):∃ e,wP l=some e/\(e=0↔Uk l):=by
 obtain ⟨e,z,hz,hq⟩:∃ e z,mM l = .out e z/\(e = .ret/\z.t2=8/\¬ Uk l\/e = .exit 0/\Uk l):=by
  unfold mM;refine bp (step:=og) (fun j y=>y.l=l/\y.i=(j:Int)/\j<=l.n/\∀ i,i < j->abE (l.get i)) _ l.n (by have:eS=10000000000000:=rfl; omega) (fun j y hj ⟨f1,f2,f3,f4⟩=>?_) ⟨rfl,rfl,cw _,fun i hi=>absurd hi (vv _)⟩;have w1:az (y.i+1)=y.i+1:=aw;obtain ⟨b,hb,hbi⟩:=arO (l.get j);have e0:v7 y=some b:=by unfold v7; rw [f1,f2,cm]; exact hb
  unfold og bj;by_cases h:y.i < ((y.l.n:Nat):Int)
  ·have jc:j < l.n:=by rw [f1] at h; omega
   simp only [e0,w1,bN,bG,aj,bI,ao h,ao (show (0:Int)<=y.i by omega)];cases b with
   | false=>exact .inr ⟨_,_,rfl,rfl,.inl ⟨rfl,rfl,fun nE=>by have:=hbi.2 (nE j jc); simp at this⟩⟩
   | true=>
    refine .inl ⟨_,rfl,jc,f1,by show y.i+1=_; omega,by omega,fun i hi=>?_⟩;by_cases vl:i < j
    ·exact f4 i vl
    ·have:i=j:=by omega
     subst this;exact hbi.1 rfl
  ·simp only [aq,ax h]
   exact .inr ⟨_,_,rfl,rfl,.inr ⟨rfl,fun i hi=>f4 i (by rw [f1] at h; omega)⟩⟩
 unfold wP;rw [ax (show ¬ ((l.n:Nat):Int) > 16 by omega),aq];rcases hq with ⟨rfl,h1,h2⟩ | ⟨rfl,h1⟩
 ·have b1:(mM l).by (.exit 0)=false:=by rw [hz]; rfl
  have b2:(mM l).by .ret=true:=by rw [hz]; rfl
  have b3:(mM l).st=z:=by rw [hz]; rfl
  rw [b1,b2,b3,h1];exact ⟨8,rfl,fun h=>by omega,fun h=>absurd h h2⟩
 ·have b1:(mM l).by (.exit 0)=true:=by rw [hz]; rfl
  rw [b1];exact ⟨0,rfl,fun _=>h1,fun _=>rfl⟩
def agB (l:KQ) (t:Int):Prop:=-1<=l.Aw/\l.Aw < t/\l.cz<=2/\-1024<=l.Vy/\l.Vy<=1024/\0<=l.bin/\l.bin<=15
theorem Tv (l:KQ) {t:Int} (ht:0<=t/\t<=16):jj l t=some 0↔agB l t:=by
 unfold jj agB;simp only [Bool.cond_eq_ite,kV];have key:∀ {c:Prop} [Decidable c] {k:Int} {r:Option Int} {P:Prop},k≠0->(c->¬ P)->(¬ c->(r=some 0↔P))->((if c then some k else r)=some 0↔P):=fun {c _ k r P} hk h1 h2=>by
  by_cases h:c
  ·rw [aR h]; exact ⟨fun q=>absurd (uf q) hk,fun q=>absurd q (h1 h)⟩
  ·rw [ay h]; exact h2 h
 refine key (by decide) (fun q=>by omega) fun _=>key (by decide) (fun q=>by omega) fun _=>key (by decide) (fun q=>by omega) fun _=>key (by decide) (fun q=>by omega) fun _=>key (by decide) (fun q=>by omega) fun _=>key (by decide) (fun q=>by omega) fun _=>key (by decide) (fun q=>by omega) fun _=>key (by decide) (fun q=>by omega) fun _=>key (by decide) (fun q=>by omega) fun _=>?_;exact ⟨fun _=>by omega,fun _=>rfl⟩
theorem asY (l:KQ) (t:Int):AH (agB l t) (EV l t):=by
 unfold EV agB;simp only [Bool.cond_eq_ite,kV]
 repeat' (refine AH.ite (fun _=>?_) (fun _=>?_))
 all_goals first | exact ⟨false,rfl,fun h=>by simp at h,fun h=>by omega⟩ | exact ⟨_,rfl,fun h=>by have:=pT h; omega,fun h=>ao (by omega)⟩
theorem aqU {l:Sl gY} (h0:0 < l.n) (hn:l.n<=64):v8 l=some (wi l (l.n - 1)):=by
 obtain ⟨e,z,hz,rfl,h1⟩:∃ e z,uY l = .out e z/\(e = .exit 0/\z.b=wi l (l.n - 1)):=by
  unfold uY;refine bp (step:=o7) (fun j y=>y.l=l/\y.i=((j+1:Nat):Int)/\j+1<=l.n/\y.b=wi l j) _ l.n (by have:eS=10000000000000:=rfl; omega) (fun j y hj ⟨f1,f2,f3,f4⟩=>?_) ⟨rfl,rfl,h0,rfl⟩;have w1:az (y.i+1)=y.i+1:=aw;unfold o7 bj;by_cases h:y.i < ((y.l.n:Nat):Int)
  ·have hg:y.l.get (Int.toNat y.i)=l.get (j+1):=by rw [f1,f2,cm]
   simp only [w1,hg,aj,bI,ao h,ao (show (0:Int)<=y.i by omega)];refine .inl ⟨_,rfl,by omega,f1,by show y.i+1=_; omega,by rw [f1] at h; omega,?_⟩;show amZ y.b (l.get (j+1))=_;rw [f4];rfl
  ·simp only [aq,ax h]
   refine .inr ⟨_,_,rfl,rfl,rfl,?_⟩;rw [f1] at h;rw [f4,show j=l.n - 1 by omega]
 have b1:(uY l).by (.exit 0)=true:=by rw [hz]; rfl
 have b2:(uY l).st=z:=by rw [hz]; rfl
 unfold v8;rw [ao (show (0:Int) < ((l.n:Nat):Int) by omega),b1,b2,h1];rfl
def Kc (x:Item) (j:Nat):Prop:=xg (x.aG.get j)/\(0<=(x.uV.get j).e0/\(x.uV.get j).e0<=255)/\0<=(x.uV.get j).e1/\(x.uV.get j).e1<=255
theorem arP (x:Item) (t:Int) (hn:x.aG.n<=64) (hu:x.uV.n=x.aG.n):∃ e z,ll x t = .out e z/\((e = .ret/\z.t4=false/\∃ j,j < x.aG.n/\¬ Kc x j)\/e = .exit 0/\z=⟨false,(x.aG.n:Int),z.i,x⟩/\∀ j,j < x.aG.n->Kc x j):=by
 unfold ll;refine bp (step:=qf) (fun j y=>y=⟨false,(x.aG.n:Int),(j:Int),x⟩/\j<=x.aG.n/\∀ i,i < j->Kc x i) _ x.aG.n (by have:eS=10000000000000:=rfl; omega) (fun j y hj ⟨hy,f6,f8⟩=>?_) ⟨rfl,cw _,fun i hi=>absurd hi (vv _)⟩;subst hy;have w1:az ((j:Int)+1)=((j+1:Nat):Int):=by rw [aw (by omega) (by omega)]; omega
 unfold qf bj;by_cases h:(j:Int) < (x.aG.n:Int)
 ·have jc:j < x.aG.n:=by omega
  obtain ⟨b,h1,h2⟩:=aqS (x.aG.get j);have e0:zo ⟨false,(x.aG.n:Int),(j:Int),x⟩=some b:=by unfold zo; simp only [cm]; exact h1
  simp only [e0,w1,cm,bN,bG,aj,bI,ao h,ao (show (0:Int)<=(j:Int) by omega),ao (show (j:Int) < ((x.uV.n:Nat):Int) by omega)];have no : ¬ Kc x j->∀ {i:Int},(∃ x' : kP,(aO.out ai.ret (⟨false,(x.aG.n:Int),i,x⟩:kP)) = .next x'/\j < x.aG.n/\x' = ⟨false,(x.aG.n:Int),((j+1:Nat):Int),x⟩/\j+1<=x.aG.n/\∀ i,i < j+1->Kc x i)\/∃ e x',(aO.out ai.ret (⟨false,(x.aG.n:Int),i,x⟩:kP)) = .out e x'/\Go.K.wI e=false/\((e = .ret/\x'.t4=false/\∃ j,j < x.aG.n/\¬ Kc x j)\/e = .exit 0/\x' = ⟨false,(x.aG.n:Int),x'.i,x⟩/\∀ j,j < x.aG.n->Kc x j):=fun hq {i}=>.inr ⟨_,_,rfl,rfl,.inl ⟨rfl,rfl,j,jc,hq⟩⟩;cases b with
  | false=>exact no fun hq=>by have:=h2.2 hq.1; simp at this
  | true=>
   rw [kW,aq];by_cases c1:(x.uV.get j).e0 < 0
   ·rw [ao c1,aj]; exact no fun hq=>by unfold Kc at hq; omega
   rw [ax c1,aq];by_cases c2:(x.uV.get j).e0 > 255
   ·rw [ao c2,aj]; exact no fun hq=>by unfold Kc at hq; omega
   rw [ax c2,aq];by_cases c3:(x.uV.get j).e1 < 0
   ·rw [ao c3,aj]; exact no fun hq=>by unfold Kc at hq; omega
   rw [ax c3,aq];by_cases c4:(x.uV.get j).e1 > 255
   ·rw [ao c4,aj]; exact no fun hq=>by unfold Kc at hq; omega
   rw [ax c4,aq];refine .inl ⟨_,rfl,jc,rfl,by omega,fun i hi=>?_⟩;by_cases vl:i < j
   ·exact f8 i vl
   ·have:i=j:=by omega
    subst this;exact ⟨h2.1 rfl,by omega,by omega⟩
 ·simp only [aq,ax h]
  exact .inr ⟨_,_,rfl,rfl,.inr ⟨rfl,rfl,fun i hi=>f8 i (by omega)⟩⟩
theorem arQ (x:Item) (hn:x.aP.n<=64):∃ e z,goN n0 ⟨false,(x.aG.n:Int),0,x⟩ = .out e z/\(e = .ret/\z.t4=false/\(∃ i,i < x.aP.n/\¬ nB x.aP (x.aG.n:Int) i)\/e = .exit 2/\z=⟨false,(x.aG.n:Int),z.i,x⟩/\∀ i,i < x.aP.n->nB x.aP (x.aG.n:Int) i):=by
 refine bp (step:=n0) (fun j y=>y=⟨false,(x.aG.n:Int),(j:Int),x⟩/\j<=x.aP.n/\∀ i,i < j->nB x.aP (x.aG.n:Int) i) _ x.aP.n (by have:eS=10000000000000:=rfl; omega) (fun j y hj ⟨hy,f6,f8⟩=>?_) ⟨rfl,cw _,fun i hi=>absurd hi (vv _)⟩;subst hy;have w1:az ((j:Int)+1)=((j+1:Nat):Int):=by rw [aw (by omega) (by omega)]; omega
 unfold n0 bj;by_cases h:(j:Int) < ((x.aP.n:Nat):Int)
 ·have jc:j < x.aP.n:=by omega
  simp only [w1,cm,aj,bI,ao h,ao (show (0:Int)<=(j:Int) by omega)];have no : ¬ nB x.aP (x.aG.n:Int) j->∀ {i:Int},(∃ x' : mv,(aO.out ai.ret (⟨false,(x.aG.n:Int),i,x⟩:mv)) = .next x'/\j < x.aP.n/\x' = ⟨false,(x.aG.n:Int),((j+1:Nat):Int),x⟩/\j+1<=x.aP.n/\∀ i,i < j+1->nB x.aP (x.aG.n:Int) i)\/∃ e x',(aO.out ai.ret (⟨false,(x.aG.n:Int),i,x⟩:mv)) = .out e x'/\Go.K.wI e=false/\(e = .ret/\x'.t4=false/\(∃ i,i < x.aP.n/\¬ nB x.aP (x.aG.n:Int) i)\/e = .exit 2/\x' = ⟨false,(x.aG.n:Int),x'.i,x⟩/\∀ i,i < x.aP.n->nB x.aP (x.aG.n:Int) i):=fun hq {i}=>.inr ⟨_,_,rfl,rfl,.inl ⟨rfl,rfl,j,jc,hq⟩⟩;by_cases c1:(x.aP.get j).e0 < 0
  ·rw [ao c1,aj]; exact no fun hq=>by unfold nB at hq; omega
  rw [ax c1,aq];by_cases c2:(x.aP.get j).e0 >= (x.aG.n:Int)
  ·rw [ao c2,aj]; exact no fun hq=>by unfold nB at hq; omega
  rw [ax c2,aq];by_cases c3:(x.aP.get j).e1 < 0
  ·rw [ao c3,aj]; exact no fun hq=>by unfold nB at hq; omega
  rw [ax c3,aq];by_cases c4:(x.aP.get j).e1 >= (x.aG.n:Int)
  ·rw [ao c4,aj]; exact no fun hq=>by unfold nB at hq; omega
  rw [ax c4,aq];by_cases c5:(x.aP.get j).e2 < 0
  ·rw [ao c5,aj]; exact no fun hq=>by unfold nB at hq; omega
  rw [ax c5,aq];by_cases c6:(x.aP.get j).e2 >= (x.aG.n:Int)
  ·rw [ao c6,aj]; exact no fun hq=>by unfold nB at hq; omega
  rw [ax c6,aq];refine .inl ⟨_,rfl,jc,rfl,by omega,fun i hi=>?_⟩;by_cases vl:i < j
  ·exact f8 i vl
  ·have:i=j:=by omega
   subst this;unfold nB;omega
 ·simp only [aq,ax h]
  exact .inr ⟨_,_,rfl,rfl,.inr ⟨rfl,rfl,fun i hi=>f8 i (by omega)⟩⟩
theorem asZ (x:Item) {t:Int} (ht:0<=t/\t<=16):AH (Gu x t) (EY x t):=by
 have no : ¬ Gu x t->AH (Gu x t) (some false):=fun h=>⟨false,rfl,fun q=>by simp at q,fun q=>absurd q h⟩
 obtain ⟨v,hv,hvi⟩:=asY x.look t;have e0:PR x t=some v:=hv;unfold EY;simp only [e0,bN,bG,aj];by_cases g1:((x.aG.n:Nat):Int) > 64
 ·rw [ao g1,aj]; exact no fun h=>by have:=h.n64; omega
 rw [ax g1,aq];by_cases g2:x.uV.n=x.aG.n
 case neg=>
  rw [show (((x.uV.n:Nat):Int) != ((x.aG.n:Nat):Int))=true by simpa using by omega,aj];exact no fun h=>g2 h.uvn
 rw [show (((x.uV.n:Nat):Int) != ((x.aG.n:Nat):Int))=false by simpa using by omega,aq];by_cases g3:((x.aP.n:Nat):Int) > 64
 ·rw [ao g3,aj]; exact no fun h=>by have:=h.t64; omega
 rw [ax g3,aq];cases v with
 | false=>exact no fun h=>by have:=hvi.2 ((Tv x.look ht).1 h.look); simp at this
 | true=>
 have BB:=(Tv x.look ht).2 (hvi.1 rfl);rw [kW,aq];obtain ⟨e,y,hy,h⟩:=arP x t (by omega) g2;rcases h with ⟨rfl,hf,j,hj,RP⟩ | ⟨rfl,hye,hvs⟩
 ·have b1:(ll x t).by (.exit 0)=false:=by rw [hy]; rfl
  have b2:(ll x t).by .ret=true:=by rw [hy]; rfl
  have b3:(ll x t).st.t4=false:=by rw [hy]; exact hf
  simp only [b1,b2,b3,aj,aq];exact no fun h=>RP (h.v j hj)
 ·have b1:(ll x t).by (.exit 0)=true:=by rw [hy]; rfl
  have s1:(ll x t).st=⟨false,(x.aG.n:Int),y.i,x⟩:=by rw [hy]; exact hye
  obtain ⟨e,z,hz,h⟩:∃ e z,eD x t = .out e z/\(e = .ret/\z.t4=false/\(∃ i,i < x.aP.n/\¬ nB x.aP (x.aG.n:Int) i)\/e = .exit 2/\z=⟨false,(x.aG.n:Int),z.i,x⟩/\∀ i,i < x.aP.n->nB x.aP (x.aG.n:Int) i):=by
   unfold eD;rw [s1];exact arQ x (by omega)
  rcases h with ⟨rfl,hf',i,hi,RP⟩ | ⟨rfl,hze,nE⟩
  ·have b2:(eD x t).by (.exit 2)=false:=by rw [hz]; rfl
   have b3:(eD x t).by .ret=true:=by rw [hz]; rfl
   have b4:(eD x t).st.t4=false:=by rw [hz]; exact hf'
   simp only [b1,b2,b3,b4,aj,aq];exact no fun h=>RP (h.dB i hi)
  ·have b2:(eD x t).by (.exit 2)=true:=by rw [hz]; rfl
   have s2:(eD x t).st=⟨false,(x.aG.n:Int),z.i,x⟩:=by rw [hz]; exact hze
   have ok:DU x.aG=x.box->Gu x t:=fun hb=>⟨by omega,g2,by omega,BB,hvs,nE,hb⟩
   simp only [b1,b2,s2,aj];by_cases Ew:x.aG.n=0
   ·have F8:DU x.aG=yF:=by unfold DU; rw [aR Ew]
    rw [show (((x.aG.n:Nat):Int)==(0:Int))=true by simpa using by omega,aj];have hq:=Uj x.box yF;refine ⟨_,rfl,fun h=>ok (F8.trans ((hq.1 h).symm)),fun h=>hq.2 (h.box.symm.trans F8)⟩
   ·have F8:DU x.aG=wi x.aG (x.aG.n - 1):=by unfold DU; rw [ay Ew]
    have e3:ra x t=some (wi x.aG (x.aG.n - 1)):=by
     unfold ra;rw [s2];show v8 x.aG=_;exact aqU (by omega) (by omega)
    rw [show (((x.aG.n:Nat):Int)==(0:Int))=false by simpa using by omega,aq];simp only [e3,bN,bG,aj];have hq:=Uj x.box (wi x.aG (x.aG.n - 1));refine ⟨_,rfl,fun h=>ok (F8.trans ((hq.1 h).symm)),fun h=>hq.2 (h.box.symm.trans F8)⟩
theorem alR (s:Show):∃ e,pB s=some e/\sA s e:=by
 unfold pB;by_cases g1:((s.items.n:Nat):Int) > 256
 ·rw [ao g1,aj]
  exact ⟨_,rfl,.many (.inl (by omega))⟩
 by_cases g2:((s.av.n:Nat):Int) > 16
 ·rw [ax g1,ao g2,aq,aj]
  exact ⟨_,rfl,.many (.inr (by omega))⟩
 have hb : ¬ Big s:=by unfold Big; omega
 obtain ⟨v,hv,HR⟩:=asX s.av (by omega);have e0:JI s=some v:=hv;rw [ax g1,ax g2];simp only [e0,aj,aq,bN,bG];by_cases hz:v=0
 ·rw [show (v != (0:Int))=false by simpa using hz,aq]
  obtain ⟨e,x',hx,h⟩:∃ e x',n3 s = .out e x'/\(e = .ret/\x'.t2=8/\(∃ i,i < s.items.n/\¬ Gu (s.items.get i) (s.av.n:Int))\/e = .exit 0/\∀ i,i < s.items.n->Gu (s.items.get i) (s.av.n:Int)):=by
   unfold n3;refine bp (step:=oh) (fun j y=>y.s=s/\y.i=(j:Int)/\j<=s.items.n/\∀ i,i < j->Gu (s.items.get i) (s.av.n:Int)) _ s.items.n (by have:eS=10000000000000:=rfl; omega) (fun j y hj ⟨f1,f2,f3,f4⟩=>?_) ⟨rfl,rfl,cw _,fun i hi=>absurd hi (vv _)⟩;have w1:az (y.i+1)=y.i+1:=aw;obtain ⟨b,hb,hbi⟩:=asZ (s.items.get j) (t:=(s.av.n:Int)) (by omega);have e0:wa y=some b:=by unfold wa; rw [f1,f2,cm]; exact hb
   unfold oh bj;by_cases h:y.i < ((y.s.items.n:Nat):Int)
   ·have jc:j < s.items.n:=by rw [f1] at h; omega
    simp only [e0,w1,bN,bG,aj,bI,ao h,ao (show (0:Int)<=y.i by omega)];cases b with
    | false=>exact .inr ⟨_,_,rfl,rfl,.inl ⟨rfl,rfl,j,jc,fun hq=>by have:=hbi.2 hq; simp at this⟩⟩
    | true=>
     refine .inl ⟨_,rfl,jc,f1,by show y.i+1=_; omega,by omega,fun i hi=>?_⟩;by_cases vl:i < j
     ·exact f4 i vl
     ·have:i=j:=by omega
      subst this;exact hbi.1 rfl
   ·simp only [aq,ax h]
    exact .inr ⟨_,_,rfl,rfl,.inr ⟨rfl,fun i hi=>f4 i (by rw [f1] at h; omega)⟩⟩
  rcases h with ⟨rfl,h1,i,hi,h2⟩ | ⟨rfl,h1⟩
  ·have b1:(n3 s).by (.exit 0)=false:=by rw [hx]; rfl
   have b2:(n3 s).by .ret=true:=by rw [hx]; rfl
   have b3:(n3 s).st=x':=by rw [hx]; rfl
   rw [b1,b2,b3,h1];exact ⟨_,rfl,.bad hb fun h=>h2 (h.2 i hi)⟩
  ·have b1:(n3 s).by (.exit 0)=true:=by rw [hx]; rfl
   rw [b1];exact ⟨_,rfl,.ok hb ⟨HR.1 hz,h1⟩⟩
 ·rw [show (v != (0:Int))=true by simpa using hz,aj]
  exact ⟨_,rfl,.bad hb fun h=>hz (HR.2 h.1)⟩
theorem ajB {a b p w m:Int} (ha:In a m) (hb:In b m) (hm:0<=m/\m<=32768) (hp:0<=p/\p<=w) (hw:1<=w/\w<=65536):n7 a b p w=some (qq a b p w):=by
 have r:=ZU (a:=a) (b:=b) hp hw.1;unfold In at *;have h:=sm (a:=b - a) (b:=p) (c:=65536) (d:=65536) (by omega) (by omega) (by omega);have e:zB a b p w=some ((b - a) * p / w):=by
  unfold zB;rw [aw (n:=b - a),aw (n:=(b - a) * p)];exact Kb _ _ (by omega) (by omega)
 unfold n7;simp only [e,bN,bG,aj];unfold qq at r ⊢;rw [aw (by omega) (by omega)]
theorem abJ {au:Int} {a b:bK} (hn:256<=au/\au<=4096) (ha:kU a) (hb:kU b) (haz:a.p.z < au) (hbz:au<=b.p.z):n8 au a b=some (Gt au a b):=by
 obtain ⟨xa,ya,za,ua,va⟩:=id ha;obtain ⟨xb,yb,zb,ub,vb⟩:=id hb;unfold In at za zb;have hp:0<=au - a.p.z/\au - a.p.z<=b.p.z - a.p.z:=by omega
 have hw:1<=b.p.z - a.p.z/\b.p.z - a.p.z<=65536:=by omega
 have p1:az (au - a.p.z)=au - a.p.z:=aw;have p2:az (b.p.z - a.p.z)=b.p.z - a.p.z:=aw;have e0:Ig au a b=some (qq a.p.x b.p.x (au - a.p.z) (b.p.z - a.p.z)):=by unfold Ig; rw [p1,p2]; exact ajB xa xb (by decide) hp hw
 have e1:Ih au a b=some (qq a.p.y b.p.y (au - a.p.z) (b.p.z - a.p.z)):=by unfold Ih; rw [p1,p2]; exact ajB ya yb (by decide) hp hw
 have e2:Ii au a b=some (qq a.u b.u (au - a.p.z) (b.p.z - a.p.z)):=by unfold Ii; rw [p1,p2]; exact ajB (m:=255) (a:=a.u) (b:=b.u) (by unfold In; omega) (by unfold In; omega) (by decide) hp hw
 have e3:Ij au a b=some (qq a.v b.v (au - a.p.z) (b.p.z - a.p.z)):=by unfold Ij; rw [p1,p2]; exact ajB (m:=255) (a:=a.v) (b:=b.v) (by unfold In; omega) (by unfold In; omega) (by decide) hp hw
 unfold n8;simp only [e0,e1,e2,e3,bN,bG,aj];rfl
theorem aqV {au:Int} {t:bo} (hn:256<=au/\au<=4096) (ht:Cg t) (t4:Sl bo) (l:Sl bK) (hl:l.n<=10):∃ l',gj ⟨au,t4,l,0,t⟩ = .next ⟨au,t4,l',1,t⟩/\eo l' = eo l++sS au t.e0 t.e1/\l'.n<=l.n+2:=by
 have w1:az ((0:Int)+1)=1:=aw;have m1:Int.tmod (1:Int) 3=1:=rfl;have a1:gi 40 l.n 1=true:=jX;have a2:gi 40 (l.n+1) 1=true:=jX;unfold gj fS lJ lI lH lG lF sS mI aF;simp only [w1,m1,a1,a2,aH,aj,aq,bI,ao (show (0:Int) < 3 by omega),ao (show (0:Int)=0 from rfl),ax (show ¬ (1:Int)=0 by omega),ao (show (1:Int)=1 from rfl)];by_cases c1:t.e0.p.z >= au
 ·have d1 : ¬ t.e0.p.z < au:=by omega
  by_cases c2:t.e1.p.z >= au
  ·have d2 : ¬ t.e1.p.z < au:=by omega
   simp only [ao c1,ao c2,ax d1,ax d2,aj,aq,vx,ug];exact ⟨_,rfl,jO _ _,AJ _⟩
  ·have d2:t.e1.p.z < au:=by omega
   have e:Fa ⟨au,t4,l,0,t⟩=some (Gt au t.e1 t.e0):=abJ hn ht.e1 ht.e0 d2 c1;simp only [e,ao c1,ax c2,ax d1,ao d2,aj,aq,vx,ug,bI,bN,bG];exact ⟨_,rfl,Fv _ _ _,aQ _⟩
 ·have d1:t.e0.p.z < au:=by omega
  by_cases c2:t.e1.p.z >= au
  ·have d2 : ¬ t.e1.p.z < au:=by omega
   have e:E9 ⟨au,t4,l,0,t⟩=some (Gt au t.e0 t.e1):=abJ hn ht.e0 ht.e1 d1 c2;simp only [e,ax c1,ao c2,ao d1,ax d2,aj,aq,vx,ug,bI,bN,bG];exact ⟨_,rfl,jO _ _,AJ _⟩
  ·have d2:t.e1.p.z < au:=by omega
   simp only [ax c1,ax c2,ao d1,ao d2,aj,aq,vx,ug];exact ⟨_,rfl,(lM _).symm,FB _ _⟩
theorem aqW {au:Int} {t:bo} (hn:256<=au/\au<=4096) (ht:Cg t) (t4:Sl bo) (l:Sl bK) (hl:l.n<=10):∃ l',gj ⟨au,t4,l,1,t⟩ = .next ⟨au,t4,l',2,t⟩/\eo l' = eo l++sS au t.e1 t.e2/\l'.n<=l.n+2:=by
 have w1:az ((1:Int)+1)=2:=aw;have m1:Int.tmod (2:Int) 3=2:=rfl;have a1:gi 40 l.n 1=true:=jX;have a2:gi 40 (l.n+1) 1=true:=jX;unfold gj fS lJ lI lH lG lF sS mI aF;simp only [w1,m1,a1,a2,aH,aj,aq,bI,ao (show (1:Int) < 3 by omega),ax (show ¬ (1:Int)=0 by omega),ao (show (1:Int)=1 from rfl),ax (show ¬ (2:Int)=0 by omega),ax (show ¬ (2:Int)=1 by omega),ao (show (2:Int)=2 from rfl)];by_cases c1:t.e1.p.z >= au
 ·have d1 : ¬ t.e1.p.z < au:=by omega
  by_cases c2:t.e2.p.z >= au
  ·have d2 : ¬ t.e2.p.z < au:=by omega
   simp only [ao c1,ao c2,ax d1,ax d2,aj,aq,vx,ug];exact ⟨_,rfl,jO _ _,AJ _⟩
  ·have d2:t.e2.p.z < au:=by omega
   have e:Fg ⟨au,t4,l,1,t⟩=some (Gt au t.e2 t.e1):=abJ hn ht.e2 ht.e1 d2 c1;simp only [e,ao c1,ax c2,ax d1,ao d2,aj,aq,vx,ug,bI,bN,bG];exact ⟨_,rfl,Fv _ _ _,aQ _⟩
 ·have d1:t.e1.p.z < au:=by omega
  by_cases c2:t.e2.p.z >= au
  ·have d2 : ¬ t.e2.p.z < au:=by omega
   have e:Ff ⟨au,t4,l,1,t⟩=some (Gt au t.e1 t.e2):=abJ hn ht.e1 ht.e2 d1 c2;simp only [e,ax c1,ao c2,ao d1,ax d2,aj,aq,vx,ug,bI,bN,bG];exact ⟨_,rfl,jO _ _,AJ _⟩
  ·have d2:t.e2.p.z < au:=by omega
   simp only [ax c1,ax c2,ao d1,ao d2,aj,aq,vx,ug];exact ⟨_,rfl,(lM _).symm,FB _ _⟩
theorem aqX {au:Int} {t:bo} (hn:256<=au/\au<=4096) (ht:Cg t) (t4:Sl bo) (l:Sl bK) (hl:l.n<=10):∃ l',gj ⟨au,t4,l,2,t⟩ = .next ⟨au,t4,l',3,t⟩/\eo l' = eo l++sS au t.e2 t.e0/\l'.n<=l.n+2:=by
 have w1:az ((2:Int)+1)=3:=aw;have m1:Int.tmod (3:Int) 3=0:=rfl;have a1:gi 40 l.n 1=true:=jX;have a2:gi 40 (l.n+1) 1=true:=jX;unfold gj fS lJ lI lH lG lF sS mI aF;simp only [w1,m1,a1,a2,aH,aj,aq,bI,ao (show (2:Int) < 3 by omega),ax (show ¬ (2:Int)=0 by omega),ax (show ¬ (2:Int)=1 by omega),ao (show (2:Int)=2 from rfl),ao (show (0:Int)=0 from rfl)];by_cases c1:t.e2.p.z >= au
 ·have d1 : ¬ t.e2.p.z < au:=by omega
  by_cases c2:t.e0.p.z >= au
  ·have d2 : ¬ t.e0.p.z < au:=by omega
   simp only [ao c1,ao c2,ax d1,ax d2,aj,aq,vx,ug];exact ⟨_,rfl,jO _ _,AJ _⟩
  ·have d2:t.e0.p.z < au:=by omega
   have e:Fb ⟨au,t4,l,2,t⟩=some (Gt au t.e0 t.e2):=abJ hn ht.e0 ht.e2 d2 c1;simp only [e,ao c1,ax c2,ax d1,ao d2,aj,aq,vx,ug,bI,bN,bG];exact ⟨_,rfl,Fv _ _ _,aQ _⟩
 ·have d1:t.e2.p.z < au:=by omega
  by_cases c2:t.e0.p.z >= au
  ·have d2 : ¬ t.e0.p.z < au:=by omega
   have e:Fe ⟨au,t4,l,2,t⟩=some (Gt au t.e2 t.e0):=abJ hn ht.e2 ht.e0 d1 c2;simp only [e,ax c1,ao c2,ao d1,ax d2,aj,aq,vx,ug,bI,bN,bG];exact ⟨_,rfl,jO _ _,AJ _⟩
  ·have d2:t.e0.p.z < au:=by omega
   simp only [ax c1,ax c2,ao d1,ao d2,aj,aq,vx,ug];exact ⟨_,rfl,(lM _).symm,FB _ _⟩
theorem ao2 {au:Int} {t:bo} (hn:256<=au/\au<=4096) (ht:Cg t):∃ z,pD au t = .out (.exit 0) z/\eo z.l=yC au t/\z.l.n<=6:=by
 obtain ⟨e,z,hz,rfl,h⟩:∃ e z,pD au t = .out e z/\(e = .exit 0/\eo z.l=yC au t/\z.l.n<=6):=by
  unfold pD;refine bp (step:=gj) (fun j y=>∃ (out:Sl bo) (l:Sl bK),y=⟨au,out,l,(j:Int),t⟩/\eo l=asl au t j/\l.n<=2 * j/\j<=3) _ 3 (by have:eS=10000000000000:=rfl; omega) (fun j y hj ⟨out,l,hy,h1,h2,h3⟩=>?_) ⟨_,_,rfl,rfl,aQ _,by omega⟩;subst hy;rcases j with _ | _ | _ | j
  ·obtain ⟨l',q1,q2,q3⟩:=aqV hn ht out l (by omega)
   exact .inl ⟨_,q1,by omega,out,l',rfl,by rw [q2,h1]; rfl,by omega,by omega⟩
  ·obtain ⟨l',q1,q2,q3⟩:=aqW hn ht out l (by omega)
   exact .inl ⟨_,q1,by omega,out,l',rfl,by rw [q2,h1]; rfl,by omega,by omega⟩
  ·obtain ⟨l',q1,q2,q3⟩:=aqX hn ht out l (by omega)
   exact .inl ⟨_,q1,by omega,out,l',rfl,by rw [q2,h1]; rfl,by omega,by omega⟩
  ·have hj3:j=0:=by omega
   subst hj3;refine .inr ⟨.exit 0,⟨au,out,l,((0+1+1+1:Nat):Int),t⟩,?_,rfl,rfl,h1,by show l.n<=6; omega⟩;unfold gj fS lJ lI lH lG lF mI aF;simp only [aH,aj,aq,ax (show ¬ ((((0+1+1+1:Nat):Int)) < 3) by omega)]
 exact ⟨z,hz,h⟩
theorem alS {au:Int} {t:bo} (hn:256<=au/\au<=4096) (ht:Cg t):∃ r,Cz au t=some r/\eo r=Lz (yC au t):=by
 obtain ⟨y,hy,y1,y2⟩:=ao2 hn ht;have hs:(pD au t).st=y:=by rw [hy]; rfl
 obtain ⟨e,z,hz,rfl,h⟩:∃ e z,wW au t = .out e z/\(e = .exit 2/\eo z.out=Lz (yC au t)):=by
  unfold wW;rw [hs];refine bp (step:=pb) (fun j x=>x.l=y.l/\x.i=((j+2:Nat):Int)/\(j=0\/j+2<=y.l.n)/\x.out.n=j/\eo x.out=(List.range j).map fun k=>(⟨y.l.get 0,y.l.get (k+1),y.l.get (k+2)⟩:bo)) _ 10 (by have:eS=10000000000000:=rfl; omega) (fun j x hj ⟨f1,f2,f3,f4,f5⟩=>?_) ⟨rfl,rfl,.inl rfl,rfl,rfl⟩;have w1:az (x.i+1)=((j+1+2:Nat):Int):=by rw [aw (by omega) (by omega)]; omega
  have w2:az (x.i - 1)=((j+1:Nat):Int):=by rw [aw (by omega) (by omega)]; omega
  have a1:gi 120 x.out.n 1=true:=jX;unfold pb bj mI aF;by_cases h:x.i < ((x.l.n:Nat):Int)
  ·have hln:j+2 < y.l.n:=by rw [f1] at h; omega
   simp only [w1,w2,a1,aH,aj,bI,ao h,ao (show (0:Int) < ((x.l.n:Nat):Int) by omega),ao (show (0:Int)<=((j+1:Nat):Int) by omega),ao (show ((j+1:Nat):Int) < ((x.l.n:Nat):Int) by omega),ao (show (0:Int)<=x.i by omega)];refine .inl ⟨_,rfl,by omega,f1,rfl,.inr (by omega),by show x.out.n+1=_; omega,?_⟩;show eo (Sl.push _ _)=_;rw [jO,f5,List.range_succ,Ov,f1,f2,cm,cm];rfl
  ·simp only [aH,aj,aq,ax h]
   refine .inr ⟨_,_,rfl,rfl,rfl,?_⟩;rw [f5];unfold Lz;rw [<- y1,eZ];have hjn:y.l.n - 2=j:=by rw [f1] at h; omega
   rw [hjn];refine List.map_congr_left fun k hk=>?_;have:=pt.1 hk;rw [IB _ (by omega),IB _ (by omega),IB _ (by omega)]
 have b1:(pD au t).by (.exit 0)=true:=by rw [hy]; rfl
 have b2:(wW au t).by (.exit 2)=true:=by rw [hz]; rfl
 have b3:(wW au t).st=z:=by rw [hz]; rfl
 refine ⟨z.out,?_,h⟩;unfold Cz aF;simp only [b1,b2,b3,aH,aj]
theorem anb {c:aE} (hc:gJ c) (x:iD) (hxc:x.c=c) (as0:0<=x.x.look.cz) (hq:∀ j,j < x.l.n->QOk c (x.l.get j)) (hn:x.l.n<=1000) (h0:x.i=0) (ho:x.out.n=0) :
  ∃ e z,goN oa x = .out e z/\(e = .exit 2/\eo z.out=yE c x.x.look.cz (eo x.l)):=by
 refine bp (step:=oa) (fun j y=>y.l=x.l/\y.i=(j:Int)/\j<=x.l.n/\y.c=c/\y.x=x.x/\y.out.n<=j/\eo y.out=yE c x.x.look.cz ((eo x.l).take j)) _ x.l.n (by have:eS=10000000000000:=rfl; omega) (fun j y hj ⟨f1,f3,f4,f5,f6,f7,f8⟩=>?_) ⟨rfl,h0,cw _,hxc,rfl,by omega,lL.1 (by rw [eZ,ho])⟩;have w1:az (y.i+1)=y.i+1:=aw;have a1:gi 120 y.out.n 1=true:=jX;unfold oa bj mI aF;by_cases h:y.i < ((y.l.n:Nat):Int)
 ·have jc:j < x.l.n:=by rw [f1] at h; omega
  have hg:y.l.get (Int.toNat y.i)=x.l.get j:=by rw [f1,f3,cm]
  obtain ⟨o0,o1,o2⟩:=hq j jc;have e0:ve y=some (rP c (x.l.get j).e0):=by unfold ve; rw [hg,f5]; exact abI hc o0.1 o0.2
  have e1:vf y=some (rP c (x.l.get j).e1):=by unfold vf; rw [hg,f5]; exact abI hc o1.1 o1.2
  have e2:vg y=some (rP c (x.l.get j).e2):=by unfold vg; rw [hg,f5]; exact abI hc o2.1 o2.2
  obtain ⟨e,hs⟩:=aqQ (oV c (x.l.get j)) as0;have e3:zC y=some (qt (oV c (x.l.get j)) x.x.look.cz,e):=by
   unfold zC;rw [e0,e1,e2,f6];exact hs
  have tk:yE c x.x.look.cz ((eo x.l).take (j+1))=yE c x.x.look.cz ((eo x.l).take j)++cond (qt (oV c (x.l.get j)) x.x.look.cz) [yD (oV c (x.l.get j))] []:=by
   rw [abx x.l j jc,acJ]
  simp only [e0,e1,e2,e3,w1,a1,aH,aj,bI,bN,bG,ao h,ao (show (0:Int)<=y.i by omega)];cases hb:qt (oV c (x.l.get j)) x.x.look.cz with
  | true=>
   have e4:zD y=some (yD (oV c (x.l.get j))):=by
    unfold zD;rw [e0,e1,e2];exact ana ((XB _ _).1 hb).1
   rw [hb] at tk;simp only [e4,bN,bG,aj];refine .inl ⟨_,rfl,jc,f1,by show y.i+1=_; omega,by omega,f5,f6,by show y.out.n+1<=_; omega,?_⟩;show eo (Sl.push _ _)=_;rw [jO,f8,tk];rfl
  | false=>
   rw [hb] at tk;rw [aq];refine .inl ⟨_,rfl,jc,f1,by show y.i+1=_; omega,by omega,f5,f6,by show y.out.n<=_; omega,?_⟩;show eo y.out=_;rw [f8,tk,aq,lM]
 ·simp only [aH,aj,aq,ax h]
  refine .inr ⟨_,_,rfl,rfl,rfl,?_⟩;rw [f8,Re (by rw [eZ]; rw [f1] at h; omega)]
theorem atU (s:Show) (c:aE) (i k:Nat) (hi:i < s.items.n) (hk:k < (s.items.get i).aP.n) (hc:gJ c) (hx:ad2 (s.items.get i)) (h8:S8 s):∃ r,Iz s c (i:Int) (k:Int)=some r/\eo r=partsOf s c i k:=by
 obtain ⟨huv,aqI⟩:=hx.ok;obtain ⟨t0,t1,t2⟩:=aqI k hk;obtain ⟨p0,_⟩:=abB hc hx t0;obtain ⟨p1,_⟩:=abB hc hx t1;obtain ⟨p2,_⟩:=abB hc hx t2;have v0:=hx.v (Int.toNat ((s.items.get i).aP.get k).e0) (by omega);have v1:=hx.v (Int.toNat ((s.items.get i).aP.get k).e1) (by omega);have v2:=hx.v (Int.toNat ((s.items.get i).aP.get k).e2) (by omega);have alM:Cg (XC c (s.items.get i) k):=⟨p0,p1,p2⟩
 have hn:256<=c.au/\c.au<=4096:=hc.1.2.2.1;have e0:Lg s c i k=some (lx c ((s.items.get i).aG.get (Int.toNat ((s.items.get i).aP.get k).e0))):=by unfold Lg; rw [cm,cm]; exact ajA hc v0
 have e1:Lh s c i k=some (lx c ((s.items.get i).aG.get (Int.toNat ((s.items.get i).aP.get k).e1))):=by unfold Lh; rw [cm,cm]; exact ajA hc v1
 have e2:Li s c i k=some (lx c ((s.items.get i).aG.get (Int.toNat ((s.items.get i).aP.get k).e2))):=by unfold Li; rw [cm,cm]; exact ajA hc v2
 obtain ⟨r,hr,HS⟩:=alS hn alM;have e3:Lj s c i k=some r:=by
  unfold Lj;rw [e0,e1,e2,cm,cm];exact hr
 have hrn:r.n<=1000:=by
  rw [<- eZ r,HS];unfold Lz;rw [List.length_map,List.length_range];have:=abC c.au (XC c (s.items.get i) k);omega
 obtain ⟨e,z,hz,rfl,hzl⟩:∃ e z,CA s c i k = .out e z/\(e = .exit 2/\eo z.out=yE c (s.items.get i).look.cz (eo r)):=by
  unfold CA;rw [e3,cm];refine anb hc _ rfl (h8.cz i hi).1 (fun j hj=>?_) hrn rfl rfl;have hm:r.get j∈eo r:=J9 hj;rw [HS] at hm;obtain ⟨o0,o1,o2⟩:=an7 hn alM hm;exact ⟨o0,o1,o2⟩
 have b1:(CA s c i k).by (.exit 2)=true:=by rw [hz]; rfl
 have b2:(CA s c i k).st=z:=by rw [hz]; rfl
 refine ⟨z.out,?_,by rw [hzl,HS]; rfl⟩;unfold Iz bj;simp only [e0,e1,e2,e3,b1,b2,cm,bN,aj,bI,ao (show 0<=(i:Int) by omega),ao (show (i:Int) < ((s.items.n:Nat):Int) by omega),ao (show 0<=(k:Int) by omega),ao (show (k:Int) < (((s.items.get i).aP.n:Nat):Int) by omega),
  ao t0.1,ao t0.2,ao t1.1,ao t1.2,ao t2.1,ao t2.2,huv]
def InT (s:Show) (item dB:Int):Prop:=(0<=item/\item < (s.items.n:Int))/\0<=dB/\dB < ((s.items.get (Int.toNat item)).aP.n:Int)
inductive ajC (s:Show) (c:aE) (item dB:Int):List aW->Int->Prop where
 | bad (e:Int) (h:Bq s c e) (he:e≠0):ajC s c item dB [] e
 | out (h:Bq s c 0) (h2 : ¬ InT s item dB):ajC s c item dB [] 2
 | ok (h:Bq s c 0) (h2:InT s item dB):ajC s c item dB (partsOf s c (Int.toNat item) (Int.toNat dB)) 0
theorem ao3 {s:Show} {c:aE} (h:Bq s c 0):jA s c=some 0:=by
 obtain ⟨e,h1,h2⟩:=ZW s c;have:=h.one h2;subst this;exact h1
end Go.Proofs.YtchbpckkmgcgkaaGreat.b
end
section
namespace Go.Proofs.YtchbpckkmgcgkaaGreat.b
open Go.K
noncomputable section
end
end Go.Proofs.YtchbpckkmgcgkaaGreat.b
end
section
namespace Go.Proofs.YtchbpckkmgcgkaaGreat.b
open Go.K Go.K.fj
open Go.aB (ai)
theorem alT {α:Type} {a b:Sl α} (h:eo a=eo b):a.n=b.n/\∀ i,i < b.n->a.get i=b.get i:=by
 have hn:a.n=b.n:=by
  have:=congrArg List.length h;rw [eZ,eZ] at this;exact this
 refine ⟨hn,fun i hi=>?_⟩;have h1:=aby a i (by omega);rw [h,aby b i hi] at h1;exact (uf h1).symm
theorem arR (s:Show) (c:aE) (item dB:Int):∃ r e,uU s c item dB=some (r,e)/\ajC s c item dB (eo r) e:=by
 obtain ⟨e,h1,h2⟩:=ZW s c;have e0:zl s c item dB=some e:=h1;unfold uU p9 bj;simp only [e0,bN,bG,aj];by_cases he:e=0
 ·subst he
  rw [hO,aq];by_cases c1:item < 0
  ·rw [ao c1]; exact ⟨_,_,rfl,.out h2 fun h=>by have:=h.1; omega⟩
  by_cases c2:item >= ((s.items.n:Nat):Int)
  ·rw [ax c1,ao c2]; exact ⟨_,_,rfl,.out h2 fun h=>by have:=h.1; omega⟩
  by_cases c3:dB < 0
  ·rw [ax c1,ax c2,ao c3]; exact ⟨_,_,rfl,.out h2 fun h=>by have:=h.2; omega⟩
  have c5:item < ((s.items.n:Nat):Int):=by omega
  rw [ax c1,ax c2,ax c3,ao (show 0<=item by omega),ao c5];simp only [aq,aj,bI];by_cases c4:dB >= (((s.items.get (Int.toNat item)).aP.n:Nat):Int)
  ·rw [ao c4]; exact ⟨_,_,rfl,.out h2 fun h=>by have:=h.2; omega⟩
  obtain ⟨hc,hm⟩:=alN (ao3 h2);obtain ⟨r,hr,hl⟩:=ajv s c (Int.toNat item) (Int.toNat dB) (by omega) (by omega) hc (hm _ (by omega)).full;rw [Int.toNat_of_nonneg (by omega),Int.toNat_of_nonneg (by omega)] at hr;have e1:EO s c item dB=some r:=hr;simp only [ax c4,aq,e1,bN,bG,aj];refine ⟨_,_,rfl,?_⟩;rw [hl];exact .ok h2 ⟨⟨by omega,by omega⟩,by omega,by omega⟩
 ·rw [show (e != (0:Int))=true by simpa using he]
  exact ⟨_,_,rfl,.bad e h2 he⟩
theorem arS (s:Show) (a b:aJ):(bL s lex).lt a b->¬ (bL s lex).lt b a:=by
 rintro (h | ⟨h,h2⟩) (k | ⟨k,k2⟩)
 ·omega
 ·omega
 ·omega
 ·exact an9 _ _ h2 k2
theorem agC {s:Show} {items:Sl Int} {n b:Nat} {d:aJ} : d∈DV s items n b↔∃ j k q:Nat,j < n/\(ef s items j).look.cI=true/\q < b/\(ef s items j).look.bin=(q:Int)/\k < (ef s items j).aP.n/\d=⟨items.get j,(k:Int)⟩:=by
 unfold DV;rw [List.mem_flatMap];constructor
 ·rintro ⟨q,h1,h2⟩
  obtain ⟨j,k,h3,h4,h5,h6⟩:=Ou.1 h2;rw [aD] at h4;exact ⟨j,k,q,h3,h4.1,pt.1 h1,by simpa using h4.2,h5,h6⟩
 ·rintro ⟨j,k,q,h1,h2,h3,h4,h5,h6⟩
  exact ⟨q,pt.2 h3,Ou.2 ⟨j,k,h1,by rw [h2,h4]; simp,h5,h6⟩⟩
theorem alU {s:Show} {items:Sl Int} {n:Nat} (hi:pQ s items n) (b:Nat):(DV s items n b).Pairwise (bL s lex).lt:=by
 have key:∀ {q:Nat} {d:aJ},d∈Ka s items (fun x=>x.look.cI&&x.look.bin==(q:Int)) n->(bL s lex).key d=(q:Int):=fun {q d} hd=>by
  obtain ⟨j,k,_,h4,_,rfl⟩:=Ou.1 hd;rw [aD] at h4;have:(ef s items j).look.bin=(q:Int):=by simpa using h4.2
  exact this
 unfold DV;rw [List.pairwise_flatMap];refine ⟨fun q _=>List.Pairwise.imp_of_mem (fun {a c} ha hc hac=>.inr ⟨by rw [key ha,key hc],hac⟩) (abH hi),List.Pairwise.imp (fun {p q} hpq x hx y hy=>.inl (by rw [key hx,key hy]; omega)) List.pairwise_lt_range⟩
theorem aqE.list {s:Show} {items:Sl Int} {b:Sl aJ} (h:aqE s items b) (hi:pQ s items items.n) (hb:∀ j,j < items.n->0<=(ef s items j).look.bin/\(ef s items j).look.bin<=15):eo b=DV s items items.n 16:=by
 obtain ⟨g,g1,g2,g3,g4⟩:=h.g;refine Qg (arS s) (aib fun t t' h1 h2=>g3 t t' (cw _) h1 (by omega)) (alU hi 16) fun d=>⟨fun hd=>?_,fun hd=>?_⟩
 ·obtain ⟨t,ht,rfl⟩:=Fy.1 hd
  obtain ⟨t',_,h2,h3⟩:=Lx g4 (cw t) (by have:=pt.1 ht; omega);obtain ⟨j,k,k1,k2,k3⟩:=g1.mem t' (by omega);have hj:j < items.n:=by omega
  have:=hb j hj;rw [h3,k2];exact agC.2 ⟨j,k,(ef s items j).look.bin.toNat,hj,k3,by omega,by omega,by omega,rfl⟩
 ·obtain ⟨j,k,q,h1,h2,_,_,h3,rfl⟩:=agC.1 hd
  obtain ⟨t,h4,h5⟩:=g1.has j k (.inl ⟨h1,h3⟩) h2;obtain ⟨t',_,h6,h7⟩:=Lx (d:=g.get) (g:=b.get) (fun p=>(g4 p).symm) (cw t) (by omega);rw [<- h5,h7];exact J9 (by omega)
theorem CF.inc {s s' : Show} (h:CF s s') {items:Sl Int} {n:Nat} : pQ s' items n↔pQ s items n:=by
 unfold pQ;rw [h.n]
theorem CF.ef {s s' : Show} (h:CF s s') {items:Sl Int} {n j:Nat} (hi:pQ s items n) (hj:j < n):ef s' items j=Go.Proofs.YtchbpckkmgcgkaaGreat.b.ef s items j:=h.it _ (by have:=hi.1 j hj; omega)
theorem CF.Ka {s s' : Show} (h:CF s s') {items:Sl Int} {n:Nat} (p:Item->Bool) (hi:pQ s items n):Ka s' items p n=Go.Proofs.YtchbpckkmgcgkaaGreat.b.Ka s items p n:=by
 refine Tt fun j hj=>?_;have e:=h.ef hi (pt.1 hj);unfold Ot;rw [e]
theorem CF.as1 {s s' : Show} (h:CF s s') {items:Sl Int} {n:Nat} (hi:pQ s items n) (b:Nat):DV s' items n b=Go.Proofs.YtchbpckkmgcgkaaGreat.b.DV s items n b:=
 Tt fun _ _=>h.Ka _ hi
theorem CF.aoa {s s' : Show} (h:CF s s') (k:tJ s'):tJ s:=
 ⟨by have:=k.1; rw [h.n] at this; exact this,fun i hi=>by have:=k.2 i (by rw [h.n]; exact hi); rw [h.it i hi] at this; exact this⟩
theorem LA {α:Type} {l:Sl α} (h:l.n=0):eo l = []:=lL.1 (by rw [eZ,h])
theorem alV {s own:Show} (h:CF s own) (items:Sl Int) (hn:items.n<=600) :
  (∃ a b e,sj own items=some (a,e)/\tT s items=some (b,e)/\eo a=eo b/\a.n<=1000000)/\∃ a b e,qE own items=some (a,e)/\r7 s items=some (b,e)/\eo a=eo b/\a.n<=1000000:=by
 obtain ⟨e,c1,c2⟩:=Qf own;obtain ⟨e',d1,d2⟩:=alR s;have:=c2.one (h.check d2);subst this;obtain ⟨e'',k1,k2⟩:=QU own;rw [c1] at k1;have:=uf k1;subst this;obtain ⟨a,ea,a1,a2,a3,a4⟩:=ajr own items hn c1 k2;obtain ⟨b,eb,b1,b2,b3,b4⟩:=aoY s items hn d1 (fun hz=>h.aoa (k2 hz));obtain ⟨c,ec,p1,p2,p3,p4⟩:=ahi own items hn c1 k2;obtain ⟨d,ed,q1,q2,q3,q4⟩:=am6 s items hn d1 (fun hz=>h.aoa (k2 hz));by_cases hz:e=0
 ·by_cases hi:pQ s items items.n
  ·have Gw:=h.inc.2 hi
   obtain ⟨rfl,a5⟩:=a4 hz Gw;obtain ⟨rfl,b5⟩:=b4 hz hi;obtain ⟨rfl,p5⟩:=p4 hz Gw;obtain ⟨rfl,q5⟩:=q4 hz hi;subst hz;have hg:Qe own:=by
    cases c2 with
    | ok _ h2=>exact h2
   have Kh : ¬ Big own:=by
    cases c2 with
    | ok h1 _=>exact h1
   have atV:∀ j,j < items.n->0<=(ef own items j).look.bin/\(ef own items j).look.bin<=15:=fun j hj=>by
    have Ts:=Gw.1 j hj;have hm:=(hg.2 (Int.toNat (items.get j)) (by omega)).look;unfold Big at Kh;have:=(Tv _ (t:=(own.av.n:Int)) (by omega)).1 hm;unfold agB at this;exact ⟨this.2.2.2.2.2.1,this.2.2.2.2.2.2⟩
   obtain ⟨g,g1,g2,_⟩:=p5.g;have hs:=k2 rfl;have s1:=a5.small hs Gw hn (cw _);have s2:=g1.small hs Gw hn (cw _);exact ⟨⟨a,b,0,a1,b1,by rw [a5.list Gw,b5,h.Ka _ hi],by omega⟩,c,d,0,p1,q1,by rw [p5.list Gw atV,q5,h.as1 hi],by omega⟩
  ·have Gw : ¬ pQ own items items.n:=fun q=>hi (h.inc.1 q)
   obtain ⟨rfl,a5⟩:=a3 hz Gw;obtain ⟨rfl,b5⟩:=b3 hz hi;obtain ⟨rfl,p5⟩:=p3 hz Gw;obtain ⟨rfl,q5⟩:=q3 hz hi;exact ⟨⟨a,b,2,a1,b1,by rw [LA a5,LA b5],by omega⟩,c,d,2,p1,q1,by rw [LA p5,LA q5],by omega⟩
 ·obtain ⟨rfl,a5⟩:=a2 hz
  obtain ⟨rfl,b5⟩:=b2 hz;obtain ⟨rfl,p5⟩:=p2 hz;obtain ⟨rfl,q5⟩:=q2 hz;exact ⟨⟨a,b,_,a1,b1,by rw [LA a5,LA b5],by omega⟩,c,d,_,p1,q1,by rw [LA p5,LA q5],by omega⟩
theorem ad4 {a b:Sl aJ} (h:eo a=eo b) (hn:a.n<=9000000000000):tG a b=some true:=by
 obtain ⟨h1,h2⟩:=alT h;obtain ⟨e,z,hz,rfl⟩:∃ e z,wR a b = .out e z/\e = .exit 0:=by
  unfold wR;refine bp (step:=qh) (fun j y=>(∃ t4,y=⟨a,b,t4,(j:Int)⟩)/\j<=a.n) _ a.n (by have:eS=10000000000000:=rfl; omega) (fun j y hj ⟨⟨t4,hy⟩,f4⟩=>?_) ⟨⟨_,rfl⟩,cw _⟩;subst hy;unfold qh bj;by_cases a8:(j:Int) < ((a.n:Nat):Int)
  ·have hg:a.get j=b.get j:=h2 j (by omega)
   rw [aw (n:=(j:Int)+1)];simp only [cm,hg,aj,aq,bI,AK,kW,ao a8,ao (show (0:Int)<=(j:Int) by omega),ao (show (j:Int) < ((b.n:Nat):Int) by omega)];exact .inl ⟨_,rfl,by omega,⟨_,rfl⟩,by omega⟩
  ·simp only [aq,ax a8]
   exact .inr ⟨_,_,rfl,rfl,rfl⟩
 have b1:(wR a b).by (.exit 0)=true:=by rw [hz]; rfl
 unfold tG;simp only [b1,h1,hO,aq,aj]
def VO (a b c:Int):Int:=-((-(min (min a b) c - 4)) / 8)
def hiP (a b c:Int):Int:=(max (max a b) c - 4) / 8
def DW (t:aW) (w:bO):Bool:=
 !(decide (max (VO t.e0.x t.e1.x t.e2.x) w.x0 > min (hiP t.e0.x t.e1.x t.e2.x) w.x1))&&!(decide (max (VO t.e0.y t.e1.y t.e2.y) w.y0 > min (hiP t.e0.y t.e1.y t.e2.y) w.y1))
structure Tw (w:bO):Prop where
 x:0<=w.x0/\w.x0<=w.x1/\w.x1 < 64
 y:0<=w.y0/\w.y0<=w.y1/\w.y1 < 64
theorem alW (a:Int) (ha : -1152921504606846976<=a/\a<=1152921504606846976):E6 a 8=some (-((-a) / 8)):=by
 have ht:Int.tdiv a 8=a / 8\/Int.tdiv a 8=a / 8+1/\8 * (a / 8) < a:=by
  rw [Int.tdiv_eq_ediv];split
  ·exact .inl (by omega)
  ·refine .inr ⟨by rw [Int.sign_eq_one_of_pos (by omega)],by omega⟩
 unfold E6;rw [ax (show ¬ (8:Int)=0 by omega),yJ,aj];rcases ht with ht | ⟨ht,hn⟩
 ·rw [ht,aw (n:=a / 8),aw (n:=a / 8 * 8),aw (n:=a / 8+1)]
  by_cases h:a / 8 * 8 < a
  ·rw [ao h,aj]; congr 1; omega
  ·rw [ax h,aq]; congr 1; omega
 ·rw [ht,aw (n:=a / 8+1),aw (n:=(a / 8+1) * 8),ax (show ¬ (a / 8+1) * 8 < a by omega),aq]
  congr 1; omega
theorem VP {a b c u v:Int} (ha : -131072<=a/\a<=131072) (hb : -131072<=b/\b<=131072) (hc : -131072<=c/\c<=131072):qx a b c u v=some (max (VO a b c) u,min (hiP a b c) v):=by
 have e0:xA a b c u v=some (VO a b c,0):=by
  unfold xA;rw [aw (n:=min (min a b) c - 4),amQ _ 8 (by omega) (by omega)];rfl
 have e1:xB a b c u v=some (hiP a b c,0):=by
  unfold xB;rw [aw (n:=max (max a b) c - 4),Lu _ 8 (by omega) (by omega)];rfl
 unfold qx;simp only [e0,e1,bN,bG,aj]
theorem aqY {t:aW} {w:bO} (hf:MI t) (hw:Tw w):∃ r e,sZ t w=some (r,DW t w,e):=by
 obtain ⟨e,g1,g2⟩:=alx t;obtain ⟨p,g3,g4⟩:=acG w.x0 w.y0;obtain ⟨q,g5,g6⟩:=acG w.x1 w.y1;have:=g2.2 hf;subst this;have hx:=hw.x;have hy:=hw.y;have hp:p=true:=g4.2 ⟨⟨by omega,by omega⟩,by omega,by omega⟩;have hq:q=true:=g6.2 ⟨⟨by omega,by omega⟩,by omega,by omega⟩;subst hp hq;obtain ⟨⟨t0,t1,_⟩,⟨t2,t3,_⟩,t4,t5,_⟩:=hf.1;have e0:xC t w=some 0:=g1;have e1:Dk t w=some true:=g3;have e2:Dl t w=some true:=g5;have e3:pZ t w=some _:=VP t0 t2 t4;have e4:p8 t w=some _:=VP t1 t3 t5;unfold sZ DW;simp only [e0,e1,e2,e3,e4,bN,bG,aj,aq,hO,kW,ax (show ¬ w.x0 > w.x1 by omega),ax (show ¬ w.y0 > w.y1 by omega)];cases decide (max (VO t.e0.x t.e1.x t.e2.x) w.x0 > min (hiP t.e0.x t.e1.x t.e2.x) w.x1) with
 | true=>exact ⟨_,_,rfl⟩
 | false=>
  cases decide (max (VO t.e0.y t.e1.y t.e2.y) w.y0 > min (hiP t.e0.y t.e1.y t.e2.y) w.y1) with
  | true=>exact ⟨_,_,rfl⟩
  | false=>exact ⟨_,_,rfl⟩
theorem aqZ {t:aW} (hf:MI t):zw t=some 0:=by
 obtain ⟨b,h1,h2⟩:=aqP t;have:=h2.2 hf.1;subst this;have e0:JT t=some true:=h1;have e1:S0 t=some (ud t):=agA hf.1;have:=hf.2;unfold zw;simp only [e0,e1,bN,bG,aj,aq,kW,ax (show ¬ ud t<=0 by omega)]
theorem ao4 {w:bO} (hw:Tw w):wT w=some true:=by
 have hx:=hw.x;have hy:=hw.y;have pix:∀ x y:Int,0<=x->x < 64->0<=y->y < 64->wc x y=some true:=fun x y h1 h2 h3 h4=>by
  unfold wc;simp only [ao (show x >= 0 from h1),ao h2,ao (show y >= 0 from h3),ao h4,aj]
 have e0:Hg w=some true:=pix _ _ (by omega) (by omega) (by omega) (by omega);have e1:Hh w=some true:=pix _ _ (by omega) (by omega) (by omega) (by omega);unfold wT;simp only [e0,e1,bN,bG,aj,ao (show w.x0<=w.x1 by omega),ao (show w.y0<=w.y1 by omega)]
theorem ao5 {t:aW} {w:bO} (hf:MI t) (hw:Tw w):∃ r e,wU t w=some (r,DW t w,e):=by
 obtain ⟨⟨t0,t1,_⟩,⟨t2,t3,_⟩,t4,t5,_⟩:=hf.1;have e0:qD t w=some 0:=aqZ hf;have e1:Hi t w=some true:=ao4 hw;have e2:oz t w=some (VO t.e0.x t.e1.x t.e2.x):=by
  unfold oz; rw [aw (n:=min (min t.e0.x t.e1.x) t.e2.x - 4),alW _ (by omega)]; rfl
 have e3:oA t w=some (hiP t.e0.x t.e1.x t.e2.x):=by
  unfold oA; rw [aw (n:=max (max t.e0.x t.e1.x) t.e2.x - 4),Kb _ 8 (by omega) (by omega)]; rfl
 have e4:oB t w=some (VO t.e0.y t.e1.y t.e2.y):=by
  unfold oB; rw [aw (n:=min (min t.e0.y t.e1.y) t.e2.y - 4),alW _ (by omega)]; rfl
 have e5:oC t w=some (hiP t.e0.y t.e1.y t.e2.y):=by
  unfold oC; rw [aw (n:=max (max t.e0.y t.e1.y) t.e2.y - 4),Kb _ 8 (by omega) (by omega)]; rfl
 unfold wU DW;simp only [e0,e1,e2,e3,e4,e5,bN,bG,aj,aq,hO,AK,kW,Int.max_comm w.x0,Int.max_comm w.y0,Int.min_comm w.x1,Int.min_comm w.y1];cases decide (max (VO t.e0.x t.e1.x t.e2.x) w.x0 > min (hiP t.e0.x t.e1.x t.e2.x) w.x1) with
 | true=>exact ⟨_,_,rfl⟩
 | false=>
  cases decide (max (VO t.e0.y t.e1.y t.e2.y) w.y0 > min (hiP t.e0.y t.e1.y t.e2.y) w.y1) with
  | true=>exact ⟨_,_,rfl⟩
  | false=>exact ⟨_,_,rfl⟩
def Hu (c:aE) (w:bO):Prop:=(0<=w.x0/\w.x0<=w.x1/\w.x1 < c.w)/\0<=w.y0/\w.y0<=w.y1/\w.y1 < c.h
inductive LB (c:aE) (w:bO):Int->Prop where
 | cam (h : ¬ gJ c):LB c w 150
 | wdw (h:gJ c) (h2 : ¬ Hu c w):LB c w 2
 | ok (h:gJ c) (h2:Hu c w):LB c w 0
theorem LB.one {c:aE} {w:bO} {a b:Int} (h:LB c w a) (k:LB c w b):a=b:=by
 cases h <;> cases k <;> first | rfl | contradiction
theorem aq0 (c:aE) (w:bO):∃ e,rH c w=some e/\LB c w e:=by
 obtain ⟨e,h1,h3,h2⟩:=sq c;unfold rH vT BJ BL;simp only [Xz,h1,bN,bG,aj];by_cases he:e=0
 ·subst he
  have hc:=h2.1 rfl;obtain ⟨_,_,_,hw,hh⟩:=hc.1;rw [aw (n:=c.w - 1),aw (n:=c.h - 1)];simp only [hO,aq];have bad : ¬ Hu c w->∃ e,(some 2:Option Int)=some e/\LB c w e:=fun h=>⟨2,rfl,.wdw hc h⟩
  unfold Hu at bad;by_cases g1:max 0 w.x0<=w.x1/\w.x1<=c.w - 1
  ·by_cases g2:max 0 w.y0<=w.y1/\w.y1<=c.h - 1
   ·by_cases g3:w.x0 < 0
    ·rw [ao g1,ao g2,ao g3]; exact bad fun h=>by omega
    ·by_cases g4:w.y0 < 0
     ·rw [ao g1,ao g2,ax g3,ao g4]; exact bad fun h=>by omega
     ·rw [ao g1,ao g2,ax g3,ax g4]
      exact ⟨0,rfl,.ok hc (by unfold Hu; omega)⟩
   ·rw [ao g1,ax g2]; exact bad fun h=>by omega
  ·rw [ax g1]; exact bad fun h=>by omega
 ·have h5:e=150:=h3.resolve_left he
  subst h5;exact ⟨150,rfl,.cam fun h=>by have:=h2.2 h; omega⟩
theorem ao6 (c:aE) (w:bO):∃ e,wS c w=some e/\LB c w e:=by
 obtain ⟨e,h1,h3,h2⟩:=aqT c;have e0:Bi c w=some e:=h1;unfold wS;simp only [e0,bN,bG,aj];by_cases he:e=0
 ·subst he
  have hc:=h2.1 rfl;simp only [hO,aq];have bad : ¬ Hu c w->∃ e,(some 2:Option Int)=some e/\LB c w e:=fun h=>⟨2,rfl,.wdw hc h⟩
  unfold Hu at bad;by_cases g1:w.x0 < 0
  ·rw [ao g1]; exact bad fun h=>by omega
  by_cases g2:w.x0 > w.x1
  ·rw [ax g1,ao g2]; exact bad fun h=>by omega
  by_cases g3:w.x1 >= c.w
  ·rw [ax g1,ax g2,ao g3]; exact bad fun h=>by omega
  by_cases g4:w.y0 < 0
  ·rw [ax g1,ax g2,ax g3,ao g4]; exact bad fun h=>by omega
  by_cases g5:w.y0 > w.y1
  ·rw [ax g1,ax g2,ax g3,ax g4,ao g5]; exact bad fun h=>by omega
  by_cases g6:w.y1 >= c.h
  ·rw [ax g1,ax g2,ax g3,ax g4,ax g5,ao g6]; exact bad fun h=>by omega
  rw [ax g1,ax g2,ax g3,ax g4,ax g5,ax g6];exact ⟨0,rfl,.ok hc (by unfold Hu; omega)⟩
 ·have h5:e=150:=h3.resolve_left he
  subst h5;exact ⟨150,rfl,.cam fun h=>by have:=h2.2 h; omega⟩
theorem Hu.ok {c:aE} {w:bO} (hc:gJ c) (h:Hu c w):Tw w:=by
 obtain ⟨_,_,_,hw,hh⟩:=hc.1;exact ⟨by have:=h.1; omega,by have:=h.2; omega⟩
def QW (s:Show) (c:aE) (w:bO) (d:aJ):Bool:=(partsOf s c (Int.toNat d.item) (Int.toNat d.dB)).any fun t=>DW t w
def QX (s:Show) (c:aE) (w:bO) (l:List aJ):List aJ:=l.filter (QW s c w)
def yG (s:Show) (l:Sl aJ) (n:Nat):Prop:=∀ i,i < n->InT s (l.get i).item (l.get i).dB
theorem alX {w:bO} (hw:Tw w) (x:bZ) (hf:∀ i,i < x.s.n->MI (x.s.get i)) (hc:x.Ee=w) (hn:x.s.n<=1000) (h7:x.t7=(x.s.n:Int)) (h8:x.t8=0) :
  ∃ e x',goN cG x = .out e x'/\(x'.Ee=w/\(e = .exit 0/\(eo x.s).any (fun t=>DW t w)=false\/e = .ret/\0<=x'.t4/\(eo x.s).any (fun t=>DW t w)=true)):=by
 refine bp (step:=cG) (fun j y=>y.s=x.s/\y.Ee=w/\y.t7=(x.s.n:Int)/\y.t8=(j:Int)/\j<=x.s.n/\∀ i,i < j->DW (x.s.get i) w=false) _ x.s.n (by have:eS=10000000000000:=rfl; omega) (fun j y hj ⟨h1,h2,h3,h4,h5,h6⟩=>?_) ⟨rfl,hc,h7,h8,cw _,fun i h=>absurd h (vv _)⟩;have w1:az (y.t8+1)=y.t8+1:=aw (by omega) (by omega);unfold cG bj;by_cases h:y.t8 < y.t7
 ·obtain ⟨r,e',hb⟩:=aqY (hf j (by omega)) hw
  have e0:gd y=some (r,DW (x.s.get j) w,e'):=by
   unfold gd;rw [h1,h2,h4,cm];exact hb
  simp only [e0,w1,bN,bG,aj,bI,ao h,ao (show (0:Int)<=y.t8 by omega),ao (show y.t8 < ((y.s.n:Nat):Int) by rw [h1]; omega)];cases g:DW (x.s.get j) w with
  | true=>exact .inr ⟨_,_,rfl,rfl,h2,.inr ⟨rfl,by show 0<=y.t8; omega,List.any_eq_true.2 ⟨_,J9 (by omega),g⟩⟩⟩
  | false=>
   refine .inl ⟨_,rfl,by omega,h1,h2,h3,by show y.t8+1=_; omega,by omega,fun i hi=>?_⟩;by_cases vl:i < j
   ·exact h6 i vl
   ·have e:i=j:=by omega
    subst e;exact g
 ·simp only [aq,ax h]
  refine .inr ⟨_,_,rfl,rfl,h2,.inl ⟨rfl,?_⟩⟩;rw [List.any_eq_false];intro t ht;obtain ⟨i,hi,rfl⟩:=Fy.1 ht;rw [h6 i (by have:=pt.1 hi; omega)];simp
theorem Tx {s:Show} {c:aE} {i k:Nat} {l:Sl aW} (h:eo l=partsOf s c i k):∀ n,n < l.n->MI (l.get n):=fun n hn=>by
 have hm:l.get n∈eo l:=J9 hn;rw [h] at hm;exact ajt hm
theorem acP (s:Show) (c:aE) (i k:Nat):(partsOf s c i k).length<=100:=by
 unfold partsOf yE;refine oO (List.length_filterMap_le _ _) ?_;unfold Lz;rw [List.length_map,List.length_range];have:=abC c.au (XC c (s.items.get i) k);omega
theorem XE {s:Show} {c:aE} {w:bO} {l:Sl aJ} {j:Nat} (hj:j < l.n):QX s c w ((eo l).take (j+1))=QX s c w ((eo l).take j)++cond (QW s c w (l.get j)) [l.get j] []:=by
 rw [abx l j hj];unfold QX;rw [List.filter_append];congr 1
theorem arT (s:Show) (c:aE) (l:Sl aJ) (w:bO) (hn:l.n<=16384) (ha:Bq s c 0) (hw:Tw w):∃ e x',jD s c l w = .out e x'/\(e = .ret/\¬ yG s l l.n/\x'.e=2/\x'.out.n=0\/e = .exit 0/\yG s l l.n/\eo x'.out=QX s c w (eo l)):=by
 unfold jD;refine bp (step:=nu) (fun j x=>(∃ out e,x=⟨out,e,l,(l.n:Int),(j:Int),s,c,w⟩/\out.n<=j/\eo out=QX s c w ((eo l).take j))/\j<=l.n/\yG s l j) _ l.n (by have:eS=10000000000000:=rfl; omega) (fun j x hj ⟨⟨out,e,hx,h8,h9⟩,h7,sM⟩=>?_) ⟨⟨_,_,rfl,cw _,rfl⟩,cw _,fun i hi=>by omega⟩;subst hx;unfold nu bj mI aF;by_cases h:(j:Int) < (l.n:Int)
 ·obtain ⟨r,e1,hr,hv⟩:=arR s c (l.get j).item (l.get j).dB
  have e0:lK ⟨out,e,l,(l.n:Int),(j:Int),s,c,w⟩=some (r,e1):=by
   unfold lK;simp only [cm];exact hr
  have a1:gi 16 out.n 1=true:=Fq;have w1:az ((j:Int)+1)=((j+1:Nat):Int):=by rw [aw]; omega
  simp only [e0,w1,a1,aH,aj,bI,bN,bG,ao h,ao (show (0:Int)<=(j:Int) by omega),cm];obtain ⟨L,hL⟩:∃ L,eo r=L:=⟨_,rfl⟩
  rw [hL] at hv;rcases hv with ⟨_,k1,k2⟩ | ⟨_,k2⟩ | ⟨_,k2⟩
  ·exact absurd (k1.one ha) k2
  ·exact .inr ⟨_,_,rfl,rfl,.inl ⟨rfl,fun q=>k2 (q j (by omega)),rfl,rfl⟩⟩
  ·have hrn:r.n<=100:=by rw [<- eZ r,hL]; exact acP _ _ _ _
   obtain ⟨e',z,hz,hzw,hs⟩:=alX hw ⟨r,0,(r.n:Int),0,w⟩ (Tx hL) rfl (by show r.n<=1000; omega) rfl rfl;have e2:fq ⟨out,e,l,(l.n:Int),(j:Int),s,c,w⟩ = .out e' z:=by
    unfold fq;rw [e0];exact hz
   have asn:QW s c w (l.get j)=(eo r).any fun t=>DW t w:=by unfold QW; rw [hL]
   have aso:yG s l (j+1):=fun i hi=>by
    by_cases vl:i=j
    ·subst vl; exact k2
    ·exact sM i (by omega)
   have b2:(fq ⟨out,e,l,(l.n:Int),(j:Int),s,c,w⟩).st=z:=by rw [e2]; rfl
   simp only [hO,aq];rcases hs with ⟨rfl,RP⟩ | ⟨rfl,ht,afb⟩
   ·have b1:(fq ⟨out,e,l,(l.n:Int),(j:Int),s,c,w⟩).by (.exit 0)=true:=by rw [e2]; rfl
    simp only [b1,b2,aj];exact .inl ⟨_,rfl,by omega,⟨_,_,by rw [hzw],by omega,by rw [XE (by omega),asn,RP,h9,aq,lM]⟩,by omega,aso⟩
   ·have b1:(fq ⟨out,e,l,(l.n:Int),(j:Int),s,c,w⟩).by (.exit 0)=false:=by rw [e2]; rfl
    have b3:(fq ⟨out,e,l,(l.n:Int),(j:Int),s,c,w⟩).by .ret=true:=by rw [e2]; rfl
    simp only [b1,b2,b3,aj,aq,ao (show z.t4 >= 0 from ht)];exact .inl ⟨_,rfl,by omega,⟨_,_,by rw [hzw],by show out.n+1<=_; omega,by rw [jO,XE (by omega),asn,afb,h9]; rfl⟩,by omega,aso⟩
 ·simp only [aj,aq,aH,ax h]
  have:j=l.n:=by omega
  subst this;refine .inr ⟨_,_,rfl,rfl,.inr ⟨rfl,sM,?_⟩⟩;rw [h9,Re (by rw [eZ]; exact aQ _)]
inductive DX (s:Show) (c:aE) (l:Sl aJ) (w:bO):List aJ->Int->Prop where
 | lB (e:Int) (h:sA s e) (he:e≠0):DX s c l w [] e
 | wdw (e:Int) (h:sA s 0) (h2:LB c w e) (he:e≠0):DX s c l w [] e
 | many (h:sA s 0) (h2:LB c w 0) (h3:16384 < l.n):DX s c l w [] 4
 | arg (h:sA s 0) (h2:LB c w 0) (h3:l.n<=16384) (h4 : ¬ yG s l l.n):DX s c l w [] 2
 | ok (h:sA s 0) (h2:LB c w 0) (h3:l.n<=16384) (h4:yG s l l.n):DX s c l w (QX s c w (eo l)) 0
theorem DX.one {s:Show} {c:aE} {l:Sl aJ} {w:bO} {L M:List aJ} {a b:Int} (h:DX s c l w L a) (k:DX s c l w M b):L=M/\a=b:=by
 rcases h with ⟨_,h1,he⟩ | ⟨_,h1,h2,he⟩ | ⟨h1,h2,h3⟩ | ⟨h1,h2,h3,h4⟩ | ⟨h1,h2,h3,h4⟩ <;> rcases k with ⟨_,k1,ke⟩ | ⟨_,k1,k2,ke⟩ | ⟨k1,k2,k3⟩ | ⟨k1,k2,k3,k4⟩ | ⟨k1,k2,k3,k4⟩ <;> first | exact ⟨rfl,rfl⟩ | exact ⟨rfl,h2.one k2⟩ | exact ⟨rfl,h1.one k1⟩ | exact absurd (h1.one k1) he | exact absurd (k1.one h1) ke | exact absurd (h2.one k2) he | exact absurd (k2.one h2) ke | omega | contradiction
theorem DX.len {s:Show} {c:aE} {l:Sl aJ} {w:bO} {L:List aJ} {a:Int} (h:DX s c l w L a):L.length<=16384:=by
 rcases h with _ | _ | _ | _ | ⟨_,_,h3,_⟩
 ·exact cw _
 ·exact cw _
 ·exact cw _
 ·exact cw _
 ·unfold QX
  exact oO (List.length_filter_le ..) (by rw [eZ]; exact h3)
theorem ajD (s:Show) (c:aE) (l:Sl aJ) (w:bO):∃ m e,tU s c l w=some (m,e)/\DX s c l w (eo m) e:=by
 obtain ⟨a,h1,h2⟩:=Qf s;obtain ⟨b,h3,h4⟩:=aq0 c w;have e0:Bk s c l w=some a:=h1;have e1:Bm s c l w=some b:=h3;unfold tU;simp only [e0,e1,bN,bG,aj];by_cases ha:a=0
 ·subst ha
  simp only [hO,aq];by_cases hb:b=0
  ·subst hb
   obtain ⟨hc,hw⟩:gJ c/\Hu c w:=by cases h4 with | ok h h2=>exact ⟨h,h2⟩
   simp only [hO,aq];by_cases hn:((l.n:Nat):Int) > (16384:Int)
   ·rw [ao hn]
    exact ⟨_,4,rfl,.many h2 h4 (by omega)⟩
   ·rw [ax hn,aq]
    obtain ⟨e,z,hz,h⟩:=arT s c l w (by omega) (.ok h2 hc) (hw.ok hc);have b3:(jD s c l w).st=z:=by rw [hz]; rfl
    rcases h with ⟨rfl,q1,q2,q3⟩ | ⟨rfl,q1,q2⟩
    ·have b1:(jD s c l w).by (.exit 0)=false:=by rw [hz]; rfl
     have b2:(jD s c l w).by .ret=true:=by rw [hz]; rfl
     simp only [b1,b2,b3,aj,aq];refine ⟨_,_,rfl,?_⟩;rw [q2,lL.1 (show (eo z.out).length=0 by rw [eZ,q3])];exact .arg h2 h4 (by omega) q1
    ·have b1:(jD s c l w).by (.exit 0)=true:=by rw [hz]; rfl
     simp only [b1,b3,aj];refine ⟨_,_,rfl,?_⟩;rw [q2];exact .ok h2 h4 (by omega) q1
  ·rw [show (b != (0:Int))=true by simpa using hb]
   exact ⟨_,_,rfl,.wdw _ h2 h4 hb⟩
 ·rw [show (a != (0:Int))=true by simpa using ha]
  exact ⟨_,_,rfl,.lB _ h2 ha⟩
theorem as2 {s:Show} {c:aE} {w:bO} (hc:gJ c) (hm:∀ i,i < s.items.n->Gu (s.items.get i) (s.av.n:Int)) (h8:S8 s) (hw:Tw w) {d:aJ} (hd:InT s d.item d.dB):Fl s c d w=some (QW s c w d):=by
 obtain ⟨hi,hk⟩:=hd;obtain ⟨r,hr,hl⟩:=atU s c (Int.toNat d.item) (Int.toNat d.dB) (by omega) (by omega) hc (hm _ (by omega)).full h8;rw [Int.toNat_of_nonneg hi.1,Int.toNat_of_nonneg hk.1] at hr;have e0:PU s c d w=some r:=hr;have hfr:=Tx hl;have hrn:r.n<=100:=by rw [<- eZ r,hl]; exact acP _ _ _ _
 obtain ⟨e,z,hz,q⟩:∃ e z,rf s c d w = .out e z/\(e = .exit 0/\QW s c w d=false\/e = .ret/\z.t8=true/\QW s c w d=true):=by
  unfold rf;rw [e0];refine bp (step:=rO) (fun j y=>y=⟨false,r,(j:Int),w⟩/\j<=r.n/\∀ i,i < j->DW (r.get i) w=false) _ r.n (by have:eS=10000000000000:=rfl; omega) (fun j y hj ⟨hy,g1,g2⟩=>?_) ⟨rfl,cw _,fun i hi=>by omega⟩;subst hy;unfold rO bj;by_cases a8:(j:Int) < (r.n:Int)
  ·obtain ⟨b,e',hb⟩:=ao5 (hfr j (by omega)) hw
   have e1:Bn ⟨false,r,(j:Int),w⟩=some (b,DW (r.get j) w,e'):=by
    unfold Bn;simp only [cm];exact hb
   simp only [e1,bN,bG,aj,bI,ao a8,ao (show (0:Int)<=(j:Int) by omega)];rw [aw (n:=(j:Int)+1)];cases g:DW (r.get j) w with
   | true=>
    refine .inr ⟨_,_,rfl,rfl,.inr ⟨rfl,rfl,?_⟩⟩;unfold QW;rw [<- hl];exact List.any_eq_true.2 ⟨_,J9 (by omega),g⟩
   | false=>
    refine .inl ⟨_,rfl,by omega,rfl,by omega,fun i hi=>?_⟩;by_cases vl:i < j
    ·exact g2 i vl
    ·have e:i=j:=by omega
     subst e;exact g
  ·simp only [aq,ax a8]
   refine .inr ⟨_,_,rfl,rfl,.inl ⟨rfl,?_⟩⟩;unfold QW;rw [<- hl,List.any_eq_false];intro t ht;obtain ⟨i,hi,rfl⟩:=Fy.1 ht;rw [g2 i (by have:=pt.1 hi; omega)];simp
 unfold Fl;rcases q with ⟨rfl,q⟩ | ⟨rfl,q1,q⟩
 ·have b1:(rf s c d w).by (.exit 0)=true:=by rw [hz]; rfl
  simp only [e0,b1,q,bN,aj]
 ·have b1:(rf s c d w).by (.exit 0)=false:=by rw [hz]; rfl
  have b2:(rf s c d w).by .ret=true:=by rw [hz]; rfl
  have b3:(rf s c d w).st=z:=by rw [hz]; rfl
  simp only [e0,b1,b2,b3,q,q1,bN,aj,aq]
theorem Qi {s:Show} {c:aE} {l:Sl aJ} {w:bO} (t8:Sl aJ) (t9:Int) {e:Int} (he:e≠0):goN en ⟨l,t8,t9,e,0,s,c,w⟩ = .out (.exit 0) ⟨l,t8,t9,e,0,s,c,w⟩:=by
 obtain ⟨x,z,hz,rfl,rfl⟩:∃ x z,goN en ⟨l,t8,t9,e,0,s,c,w⟩ = .out x z/\(x = .exit 0/\z=⟨l,t8,t9,e,0,s,c,w⟩):=by
  refine bp (step:=en) (fun j y=>y=⟨l,t8,t9,e,0,s,c,w⟩) _ 0 (by have:eS=10000000000000:=rfl; omega) (fun j y hj hy=>?_) rfl;subst hy;unfold en bj;rw [show (e==(0:Int))=false by simpa using he];cases decide ((0:Int) < ((l.n:Nat):Int)) with
  | true=>exact .inr ⟨_,_,rfl,rfl,rfl,rfl⟩
  | false=>exact .inr ⟨_,_,rfl,rfl,rfl,rfl⟩
 exact hz
theorem alY (s:Show) (c:aE) (l:Sl aJ) (w:bO) (t8:Sl aJ) (t9:Int) (hn:l.n<=16384):∃ i e,goN en ⟨l,t8,t9,0,0,s,c,w⟩ = .out (.exit 0) ⟨l,t8,t9,e,i,s,c,w⟩/\(e=0/\yG s l l.n\/e=2/\¬ yG s l l.n):=by
 obtain ⟨x,z,hz,rfl,i,e,rfl,q⟩:∃ x z,goN en ⟨l,t8,t9,0,0,s,c,w⟩ = .out x z/\(x = .exit 0/\∃ i e,z=⟨l,t8,t9,e,i,s,c,w⟩/\(e=0/\yG s l l.n\/e=2/\¬ yG s l l.n)):=by
  refine bp (step:=en) (fun j y=>(∃ e,y=⟨l,t8,t9,e,(j:Int),s,c,w⟩/\(e=0/\yG s l j\/e=2/\¬ yG s l l.n))/\j<=l.n) _ l.n (by have:eS=10000000000000:=rfl; omega) (fun j y hj ⟨⟨e,hy,hq⟩,h7⟩=>?_) ⟨⟨0,rfl,.inl ⟨rfl,fun i hi=>by omega⟩⟩,cw _⟩;subst hy;unfold en bj;by_cases h:(j:Int) < ((l.n:Nat):Int)
  ·rw [ao h,aj]
   rcases hq with ⟨rfl,sM⟩ | ⟨rfl,sM⟩
   ·have w1:az ((j:Int)+1)=((j+1:Nat):Int):=by rw [aw]; omega
    have bad : ¬ InT s (l.get j).item (l.get j).dB->∃ e,(⟨l,t8,t9,2,((j+1:Nat):Int),s,c,w⟩:nv)=⟨l,t8,t9,e,((j+1:Nat):Int),s,c,w⟩/\(e=0/\yG s l (j+1)\/e=2/\¬ yG s l l.n):=fun hb=>⟨2,rfl,.inr ⟨rfl,fun q=>hb (q j (by omega))⟩⟩
    simp only [AK,bI,aj,cm,w1,ao (show (0:Int)<=(j:Int) by omega)];by_cases c1:(l.get j).item < 0
    ·rw [ao c1]
     exact .inl ⟨_,rfl,by omega,bad fun q=>by have:=q.1; omega,by omega⟩
    by_cases c2:(l.get j).item >= ((s.items.n:Nat):Int)
    ·rw [ax c1,ao c2]
     exact .inl ⟨_,rfl,by omega,bad fun q=>by have:=q.1; omega,by omega⟩
    by_cases c3:(l.get j).dB < 0
    ·rw [ax c1,ax c2,ao c3]
     exact .inl ⟨_,rfl,by omega,bad fun q=>by have:=q.2; omega,by omega⟩
    rw [ax c1,ax c2,ax c3,ao (show 0<=(l.get j).item by omega),ao (show (l.get j).item < ((s.items.n:Nat):Int) by omega)];simp only [aq,aj,bI];by_cases c4:(l.get j).dB >= (((s.items.get (Int.toNat (l.get j).item)).aP.n:Nat):Int)
    ·rw [ao c4]
     exact .inl ⟨_,rfl,by omega,bad fun q=>by have:=q.2; omega,by omega⟩
    ·rw [ax c4]
     refine .inl ⟨_,rfl,by omega,⟨0,rfl,.inl ⟨rfl,fun i hi=>?_⟩⟩,by omega⟩;by_cases vl:i=j
     ·subst vl; exact ⟨by omega,by omega⟩
     ·exact sM i (by omega)
   ·exact .inr ⟨_,_,rfl,rfl,rfl,_,_,rfl,.inr ⟨rfl,sM⟩⟩
  ·rw [ax h,aq]
   have:j=l.n:=by omega
   subst this;exact .inr ⟨_,_,rfl,rfl,rfl,_,_,rfl,hq⟩
 exact ⟨i,e,hz,q⟩
theorem ajE {s:Show} {c:aE} {l:Sl aJ} {w:bO} (hc:gJ c) (hm:∀ i,i < s.items.n->Gu (s.items.get i) (s.av.n:Int)) (h8:S8 s) (hw:Tw w) (hn:l.n<=16384) (sM:yG s l l.n) (t8:Sl aJ) (t9:Int) (aob:Sl aJ) (ho:aob.n=0) :
  ∃ z,goN gg ⟨l,t8,t9,aob,0,s,c,w⟩ = .out (.exit 2) z/\eo z.out=QX s c w (eo l):=by
 obtain ⟨x,z,hz,rfl,q⟩:∃ x z,goN gg ⟨l,t8,t9,aob,0,s,c,w⟩ = .out x z/\(x = .exit 2/\eo z.out=QX s c w (eo l)):=by
  refine bp (step:=gg) (fun j y=>(∃ out,y=⟨l,t8,t9,out,(j:Int),s,c,w⟩/\out.n<=j/\eo out=QX s c w ((eo l).take j))/\j<=l.n) _ l.n (by have:eS=10000000000000:=rfl; omega) (fun j y hj ⟨⟨out,hy,h8',h9⟩,h7⟩=>?_) ⟨⟨aob,rfl,by omega,lL.1 (by rw [eZ,ho])⟩,cw _⟩;subst hy;unfold gg bj mI aF;by_cases h:(j:Int) < ((l.n:Nat):Int)
  ·have e0:uj ⟨l,t8,t9,out,(j:Int),s,c,w⟩=some (QW s c w (l.get j)):=by
    unfold uj;simp only [cm];exact as2 hc hm h8 hw (sM j (by omega))
   have a1:gi 16 out.n 1=true:=Fq;have w1:az ((j:Int)+1)=((j+1:Nat):Int):=by rw [aw]; omega
   simp only [e0,w1,a1,aH,aj,bI,bN,bG,ao h,ao (show (0:Int)<=(j:Int) by omega),cm];have tk:=XE (s:=s) (c:=c) (w:=w) (l:=l) (j:=j) (by omega);cases hb:QW s c w (l.get j) with
   | true=>
    rw [hb] at tk;exact .inl ⟨_,rfl,by omega,⟨_,rfl,by show out.n+1<=_; omega,by rw [jO,tk,h9]; rfl⟩,by omega⟩
   | false=>
    rw [hb,aq,lM] at tk;exact .inl ⟨_,rfl,by omega,⟨_,rfl,by omega,by rw [tk,h9]⟩,by omega⟩
  ·simp only [aj,aq,aH,ax h]
   refine .inr ⟨_,_,rfl,rfl,rfl,?_⟩;rw [h9,Re (by rw [eZ]; omega)]
 exact ⟨z,hz,q⟩
theorem aq1 (s:Show) (c:aE) (l:Sl aJ) (w:bO) (h8:S8 s):∃ m e,wg s c l w=some (m,e)/\DX s c l w (eo m) e:=by
 obtain ⟨a,h1,h2⟩:=alR s;obtain ⟨b,h3,h4⟩:=ao6 c w;have e0:yx s c l w=some a:=h1;have e1:DM s c l w=some b:=h3;unfold wg;by_cases ha:a=0
 ·subst ha
  by_cases hb:b=0
  ·subst hb
   obtain ⟨hc,hw⟩:gJ c/\Hu c w:=by cases h4 with | ok h h2=>exact ⟨h,h2⟩
   by_cases hn:((l.n:Nat):Int) > (16384:Int)
   ·have e2:gw s c l w = .out (.exit 0) _:=Qi _ _ (show (4:Int)≠0 by decide)
    have b1:(gw s c l w).by (.exit 0)=true:=by rw [e2]; rfl
    have b2:(gw s c l w).st.e=4:=by rw [e2]; rfl
    simp only [e0,e1,b1,b2,bN,bG,AK,aj,ao hn,show ((4:Int) != 0)=true from rfl];exact ⟨_,_,rfl,.many h2 h4 (by omega)⟩
   ·obtain ⟨i,e,hz,q⟩:=alY s c l w ⟨0,(fun i=>(⟨(0:Int),(0:Int)⟩:aJ))⟩ 0 (by omega)
    have e2:eC s c l w = .out (.exit 0) ⟨l,⟨0,(fun i=>(⟨(0:Int),(0:Int)⟩:aJ))⟩,0,e,i,s,c,w⟩:=by unfold eC; rw [e1]; exact hz
    have b1:(eC s c l w).by (.exit 0)=true:=by rw [e2]; rfl
    have b2:(eC s c l w).st.e=e:=by rw [e2]; rfl
    simp only [e0,e1,b1,b2,bN,bG,AK,aj,aq,ax hn];rcases q with ⟨rfl,q⟩ | ⟨rfl,q⟩
    ·have hg:Qe s:=by cases h2 with | ok _ h=>exact h
     obtain ⟨z,En,hl⟩:=ajE hc hg.2 h8 (hw.ok hc) (by omega) q ⟨0,(fun i=>(⟨(0:Int),(0:Int)⟩:aJ))⟩ 0 ⟨0,(fun i=>(⟨(0:Int),(0:Int)⟩:aJ))⟩ rfl;have e3:pP s c l w = .out (.exit 2) z:=by unfold pP; rw [e2]; exact En
     have b3:(pP s c l w).by (.exit 2)=true:=by rw [e3]; rfl
     have b4:(pP s c l w).st.out=z.out:=by rw [e3]; rfl
     simp only [b3,b4,hO,aj,aq];refine ⟨_,_,rfl,?_⟩;rw [hl];exact .ok h2 h4 (by omega) q
    ·exact ⟨_,_,rfl,.arg h2 h4 (by omega) q⟩
  ·have e2:eC s c l w = .out (.exit 0) ⟨l,⟨0,(fun i=>(⟨(0:Int),(0:Int)⟩:aJ))⟩,0,b,0,s,c,w⟩:=by unfold eC; rw [e1]; exact Qi _ _ hb
   have b1:(eC s c l w).by (.exit 0)=true:=by rw [e2]; rfl
   have b2:(eC s c l w).st.e=b:=by rw [e2]; rfl
   simp only [e0,e1,b1,b2,bN,bG,AK,aj,show (b==(0:Int))=false by simpa using hb,show (b != (0:Int))=true by simpa using hb,aq];exact ⟨_,_,rfl,.wdw _ h2 h4 hb⟩
 ·have e2:fZ s c l w = .out (.exit 0) ⟨l,⟨0,(fun i=>(⟨(0:Int),(0:Int)⟩:aJ))⟩,0,a,0,s,c,w⟩:=by unfold fZ; rw [e0]; exact Qi _ _ ha
  have b1:(fZ s c l w).by (.exit 0)=true:=by rw [e2]; rfl
  have b2:(fZ s c l w).st.e=a:=by rw [e2]; rfl
  simp only [e0,b1,b2,bN,bG,aj,show (a==(0:Int))=false by simpa using ha,show (a != (0:Int))=true by simpa using ha,aq];exact ⟨_,_,rfl,.lB _ h2 ha⟩
theorem CF.inT {s s' : Show} (h:CF s s') {a b:Int} : InT s' a b↔InT s a b:=by
 have Ts:0<=a/\a < (s.items.n:Int)->s'.items.get (Int.toNat a)=s.items.get (Int.toNat a):=fun q=>h.it _ (by omega);unfold InT;rw [h.n];constructor
 ·rintro ⟨q1,q2⟩; rw [Ts q1] at q2; exact ⟨q1,q2⟩
 ·rintro ⟨q1,q2⟩; rw [Ts q1]; exact ⟨q1,q2⟩
theorem CF.meet {s s' : Show} (h:CF s s') {c:aE} {l:Sl aJ} {w:bO} {L:List aJ} {e:Int} (k:DX s c l w L e):DX s' c l w L e:=by
 have nE:yG s' l l.n↔yG s l l.n:=forall_congr' fun i=>forall_congr' fun _=>h.inT;rcases k with ⟨_,k1,k2⟩ | ⟨_,k1,k2,k3⟩ | ⟨k1,k2,k3⟩ | ⟨k1,k2,k3,k4⟩ | ⟨k1,k2,k3,k4⟩
 ·exact .lB _ (h.check k1) k2
 ·exact .wdw _ (h.check k1) k2 k3
 ·exact .many (h.check k1) k2 k3
 ·exact .arg (h.check k1) k2 k3 fun q=>k4 (nE.1 q)
 ·have:QX s' c w (eo l)=QX s c w (eo l):=by
   refine List.filter_congr fun d hd=>?_;obtain ⟨i,hi,rfl⟩:=Fy.1 hd;have q:=k4 i (pt.1 hi);unfold QW partsOf;rw [h.it _ (by have:=q.1; omega)]
  rw [<- this];exact .ok (h.check k1) k2 k3 (nE.2 k4)
theorem alZ {s own:Show} (h:CF s own) (h8:S8 s) (c:aE) (l:Sl aJ) (w:bO):∃ a b e,tU own c l w=some (a,e)/\wg s c l w=some (b,e)/\eo a=eo b/\a.n<=1000000:=by
 obtain ⟨a,e,a1,a2⟩:=ajD own c l w;obtain ⟨b,f,b1,b2⟩:=aq1 s c l w h8;obtain ⟨q1,q2⟩:=a2.one (h.meet b2);subst q2;have:=a2.len;rw [eZ] at this;exact ⟨a,b,e,a1,b1,q1,by omega⟩
end Go.Proofs.YtchbpckkmgcgkaaGreat.b
end
