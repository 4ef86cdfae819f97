/- Part of the proof of BinsAll: a machine that runs the program's code over open terms, shown to be the model's, and the plain models of its functions. No conditions. -/
import Derived.Test.YtahhdndhkgbcjaaJp
import Derived.Test.YtahhdndhkgbcjaaIp
import Derived.Below
import Derived.ChangeSame
import Derived.ProofKit
import Derived.WideKeyArgs
section
namespace Go.K.vV
variable {α:Type} {o:Ord α}
def Bl (o:Ord α) (g d:Nat→α) (l r:Nat):Prop:=eF o d l r∧∀ p:α→Bool,lG p d l (r - l)=lG p g l (r - l)
theorem Bl.congr {g d d' : Nat→α} {l r:Nat} (h:Bl o g d l r) (e:∀ i,l≤i→i < r→d' i=d i):Bl o g d' l r:=
  ⟨h.1.congr e,fun p=>by rw [mR (d:=d') (d':=d) (a:=l) (b:=l) fun i hi=>e _ (by omega) (by omega)]; exact h.2 p⟩
theorem Bl.join {g d d' : Nat→α} {a m b:Nat} (h1:Bl o g d a m) (h2:Bl o g d m b) (q1:a≤m) (q2:m≤b) (hp:Perm d d' a b) (hs:eF o d' a b):Bl o g d' a b:=by
  refine ⟨hs,fun p=>(hp.1 p).trans ?_⟩
  rw [show b - a=(m - a)+(b - m) by omega,mo,mo,show a+(m - a)=m by omega,h1.2,h2.2]
theorem x7 {M l a:Nat} (h1:M ∣ l) (h2:M ∣ a) (h:l < a):l+M≤a:=by
  have:=Nat.le_of_dvd (by omega) (Nat.dvd_sub h2 h1)
  omega
def Bls (o:Ord α) (g d:Nat→α) (B n:Nat):Prop:=∀ l,B ∣ l→l < n→Bl o g d l (min (l+B) n)
end Go.K.vV
namespace Go.Proofs.Ytahhdndhkgbcjaa.b
open Go.K Go.K.vV
open Go.av (ai)
section
variable (h:Show) (fg:aZ→aZ→Prop) (G:Sl aZ)
theorem Ww (h3:G.n≤10000000000) (bc:∀ t,t < G.n→eZ h (G.get t)=true) (hr:YK (bB h fg) G.get G.n) :
    ∃ D:Sl aZ,∃ a:Nat,∃ b:Int,goN cX ⟨G,(G.n:Int),(20:Int),(0:Int),(20:Int),h⟩ = .out (.exit 0) ⟨D,(G.n:Int),(20:Int),(a:Int),b,h⟩∧D.n=G.n∧20 ∣ a∧a≤G.n∧G.n < a+20∧(∀ l,20 ∣ l→l < a→Bl (bB h fg) G.get D.get l (l+20))∧(∀ i,a≤i→D.get i=G.get i)∧∀ t,t < D.n→eZ h (D.get t)=true:=by
  refine Exists.elim (dP (step:=cX) (x:=⟨G,(G.n:Int),(20:Int),(0:Int),(20:Int),h⟩) (fun k y=>∃ D:Sl aZ,∃ a:Nat,y=⟨D,(G.n:Int),(20:Int),(a:Int),((a+20:Nat):Int),h⟩∧k≤a∧D.n=G.n∧20 ∣ a∧a≤G.n∧(∀ l,20 ∣ l→l < a→Bl (bB h fg) G.get D.get l (l+20))∧(∀ i,a≤i→D.get i=G.get i)∧∀ t,t < D.n→eZ h (D.get t)=true) (fun e y=>e = .exit 0∧∃ D:Sl aZ,∃ a:Nat,∃ b:Int,y=⟨D,(G.n:Int),(20:Int),(a:Int),b,h⟩∧D.n=G.n∧20 ∣ a∧a≤G.n∧G.n < a+20∧(∀ l,20 ∣ l→l < a→Bl (bB h fg) G.get D.get l (l+20))∧(∀ i,a≤i→D.get i=G.get i)∧∀ t,t < D.n→eZ h (D.get t)=true) G.n (by have:mV=1000000000000:=rfl; omega) (fun k y hk ⟨D,a,hy,g0,g1,g2,g3,g4,g5,g6⟩=>?_) ⟨G,0,rfl,Nat.le_refl _,rfl,Nat.dvd_zero _,Nat.zero_le _,fun l _ hl=>by omega,fun _ _=>rfl,bc⟩) fun e ⟨y,hy,he,D,a,b,hi,q⟩=>⟨D,a,b,by rw [hy,he,hi],q⟩
  subst hy
  unfold cX
  by_cases hle:a+20≤G.n
  · obtain ⟨D',k1,k2,k3,k4⟩:=C1 h fg D a (a+20) (by omega) (by omega) (by omega) g6 (fun s t s1 s2 t1=>by rw [g5 s s1,g5 t (by omega)]; exact hr s t s2 (by omega))
    have e0:fM ⟨D,(G.n:Int),(20:Int),(a:Int),((a+20:Nat):Int),h⟩=_:=k1
    have e1:aB (((a+20:Nat):Int)+(20:Int))=((a+20+20:Nat):Int):=by rw [vT (by omega) (by omega)]; omega
    simp only [decide_eq_true (show ((a+20:Nat):Int)≤(G.n:Int) by omega),cond_true,e0,e1,bh,aE.jB,aE.js,dM,k2]
    refine .inl ⟨_,rfl,by omega,D',a+20,rfl,by omega,k2.trans g1,Nat.dvd_add g2 (Nat.dvd_refl _),hle,fun l l1 l2=>?_,fun i hi=>?_,pO k2 (by omega) k3 g6⟩
    · by_cases hl:l < a
      · have:=x7 l1 g2 hl
        exact (g4 l l1 hl).congr fun i i1 i2=>k3.2 i (.inl (by omega))
      · have:l=a:=by
          by_cases e:a=l
          · exact e.symm
          · have:=x7 g2 l1 (by omega); omega
        subst this
        refine ⟨k4,fun p=>(k3.1 p).trans (mR fun i hi=>g5 _ (by omega))⟩
    · rw [k3.2 i (.inr hi)]; exact g5 i (by omega)
  · simp only [decide_eq_false (show ¬ ((a+20:Nat):Int)≤(G.n:Int) by omega),cond_false,bh,cond_true]
    exact .inr ⟨_,_,rfl,rfl,rfl,D,a,_,rfl,g1,g2,g3,by omega,g4,g5,g6⟩
theorem YL (E:Sl aZ) (B:Nat) (h3:G.n≤10000000000) (hB:1≤B) (hB2:B < G.n) (hr:YK (bB h fg) G.get G.n) (hn:E.n=G.n) (bc:∀ t,t < E.n→eZ h (E.get t)=true) (hb:Bls (bB h fg) G.get E.get B G.n) :
    ∃ D:Sl aZ,∃ a:Nat,∃ b:Int,goN cI ⟨E,(G.n:Int),(B:Int),(0:Int),((2 * B:Nat):Int),h⟩ = .out (.exit 4) ⟨D,(G.n:Int),(B:Int),(a:Int),b,h⟩∧D.n=G.n∧2 * B ∣ a∧a≤G.n∧G.n < a+2 * B∧(∀ l,2 * B ∣ l→l < a→Bl (bB h fg) G.get D.get l (l+2 * B))∧(∀ l,B ∣ l→a≤l→l < G.n→Bl (bB h fg) G.get D.get l (min (l+B) G.n))∧∀ t,t < D.n→eZ h (D.get t)=true:=by
  refine Exists.elim (dP (step:=cI) (x:=⟨E,(G.n:Int),(B:Int),(0:Int),((2 * B:Nat):Int),h⟩) (fun k y=>∃ D:Sl aZ,∃ a:Nat,y=⟨D,(G.n:Int),(B:Int),(a:Int),((a+2 * B:Nat):Int),h⟩∧k≤a∧D.n=G.n∧2 * B ∣ a∧a≤G.n∧(∀ l,2 * B ∣ l→l < a→Bl (bB h fg) G.get D.get l (l+2 * B))∧(∀ l,B ∣ l→a≤l→l < G.n→Bl (bB h fg) G.get D.get l (min (l+B) G.n))∧∀ t,t < D.n→eZ h (D.get t)=true) (fun e y=>e = .exit 4∧∃ D:Sl aZ,∃ a:Nat,∃ b:Int,y=⟨D,(G.n:Int),(B:Int),(a:Int),b,h⟩∧D.n=G.n∧2 * B ∣ a∧a≤G.n∧G.n < a+2 * B∧(∀ l,2 * B ∣ l→l < a→Bl (bB h fg) G.get D.get l (l+2 * B))∧(∀ l,B ∣ l→a≤l→l < G.n→Bl (bB h fg) G.get D.get l (min (l+B) G.n))∧∀ t,t < D.n→eZ h (D.get t)=true) G.n (by have:mV=1000000000000:=rfl; omega) (fun k y hk ⟨D,a,hy,g0,g1,g2,g3,g4,g5,g6⟩=>?_) ⟨E,0,by rw [Nat.zero_add]; rfl,Nat.le_refl _,hn,Nat.dvd_zero _,Nat.zero_le _,fun l _ hl=>by omega,fun l l1 _ l3=>hb l l1 l3,bc⟩) fun e ⟨y,hy,he,D,a,b,hi,q⟩=>⟨D,a,b,by rw [hy,he,hi],q⟩
  subst hy
  unfold cI
  have hBa:B ∣ a:=Nat.dvd_trans (Nat.dvd_mul_left B 2) g2
  by_cases hle:a+2 * B≤G.n
  · have b1:Bl (bB h fg) G.get D.get a (a+B):=by have:=g5 a hBa (Nat.le_refl _) (by omega); rwa [Nat.min_eq_left (by omega)] at this
    have b2:Bl (bB h fg) G.get D.get (a+B) (a+2 * B):=by have:=g5 (a+B) (Nat.dvd_add hBa (Nat.dvd_refl _)) (by omega) (by omega); rwa [Nat.min_eq_left (by omega),show a+B+B=a+2 * B by omega] at this
    have hc:Ah (bB h fg) D.get a (a+B) (a+2 * B):=Uv hr hle (by omega) (by omega) b1.2 b2.2
    obtain ⟨D',k1,k2,k3,k4⟩:=xb h fg 64 D a (a+B) (a+2 * B) (by omega) (by omega) (by omega) (by omega) g6 (Nat.le_trans (show _≤10000000000 by omega) (by decide)) b1.1 b2.1 hc
    have e2:aB ((a:Int)+(B:Int))=((a+B:Nat):Int):=OC (by omega)
    have e0:dN ⟨D,(G.n:Int),(B:Int),(a:Int),((a+2 * B:Nat):Int),h⟩ = .out .ret ⟨D',(a:Int),((a+B:Nat):Int),((a+2 * B:Nat):Int),h⟩:=by
      unfold dN
      simp only [e2]
      exact k1
    have e1:aB (((a+2 * B:Nat):Int)+aB ((2:Int) * (B:Int)))=((a+2 * B+2 * B:Nat):Int):=by rw [vT (n:=(2:Int) * (B:Int)) (by omega) (by omega),vT (by omega) (by omega)]; omega
    simp only [decide_eq_true (show ((a+2 * B:Nat):Int)≤(G.n:Int) by omega),cond_true,e0,e1,bh,aE.jB,aE.js,dM,k2]
    refine .inl ⟨_,rfl,by omega,D',a+2 * B,rfl,by omega,k2.trans g1,Nat.dvd_add g2 (Nat.dvd_refl _),hle,fun l l1 l2=>?_,fun l l1 l2 l3=>?_,pO k2 (by omega) k3 g6⟩
    · by_cases hl:l < a
      · have:=x7 l1 g2 hl
        exact (g4 l l1 hl).congr fun i i1 i2=>k3.2 i (.inl (by omega))
      · have:l=a:=by
          by_cases e:a=l
          · exact e.symm
          · have:=x7 g2 l1 (by omega); omega
        subst this
        exact b1.join b2 (by omega) (by omega) k3 k4
    · exact (g5 l l1 (by omega) l3).congr fun i i1 i2=>k3.2 i (.inr (by omega))
  · simp only [decide_eq_false (show ¬ ((a+2 * B:Nat):Int)≤(G.n:Int) by omega),cond_false,bh,cond_true]
    exact .inr ⟨_,_,rfl,rfl,rfl,D,a,_,rfl,g1,g2,g3,by omega,g4,g5,g6⟩
theorem Ts (E:Sl aZ) (h3:G.n≤10000000000) (hr:YK (bB h fg) G.get G.n) (hn:E.n=G.n) (bc:∀ t,t < E.n→eZ h (E.get t)=true) (hb:Bls (bB h fg) G.get E.get 20 G.n) :
    ∃ D:Sl aZ,∃ B:Nat,goN cY ⟨E,(G.n:Int),(20:Int),h⟩ = .out (.exit 2) ⟨D,(G.n:Int),(B:Int),h⟩∧D.n=G.n∧G.n≤B∧Bls (bB h fg) G.get D.get B G.n:=by
  refine Exists.elim (dP (step:=cY) (x:=⟨E,(G.n:Int),(20:Int),h⟩) (fun k y=>∃ D:Sl aZ,∃ B:Nat,y=⟨D,(G.n:Int),(B:Int),h⟩∧k+1≤B∧D.n=G.n∧Bls (bB h fg) G.get D.get B G.n∧∀ t,t < D.n→eZ h (D.get t)=true) (fun e y=>e = .exit 2∧∃ D:Sl aZ,∃ B:Nat,y=⟨D,(G.n:Int),(B:Int),h⟩∧D.n=G.n∧G.n≤B∧Bls (bB h fg) G.get D.get B G.n) G.n (by have:mV=1000000000000:=rfl; omega) (fun k y hk ⟨D,B,hy,g0,g1,g2,g3⟩=>?_) ⟨E,20,rfl,by omega,hn,hb,bc⟩) fun e ⟨y,hy,he,D,B,hi,q⟩=>⟨D,B,by rw [hy,he,hi],q⟩
  subst hy
  unfold cY
  by_cases aL:B < G.n
  · obtain ⟨D1,a,b,k1,k2,k3,k4,k5,k6,k7,k8⟩:=YL h fg G D B h3 (by omega) aL hr g1 g3 g2
    have e2:aB ((2:Int) * (B:Int))=((2 * B:Nat):Int):=by rw [vT (by omega) (by omega)]; omega
    have e3:aB ((B:Int) * (2:Int))=((2 * B:Nat):Int):=by rw [vT (by omega) (by omega)]; omega
    have e4:aB ((a:Int)+(B:Int))=((a+B:Nat):Int):=OC (by omega)
    have e0:ax ⟨D,(G.n:Int),(B:Int),h⟩ = .out (.exit 4) ⟨D1,(G.n:Int),(B:Int),(a:Int),b,h⟩:=by
      unfold ax
      simp only [e2]
      exact k1
    have hBa:B ∣ a:=Nat.dvd_trans (Nat.dvd_mul_left B 2) k3
    have fin:∀ D' : Sl aZ,(∀ i,i < a→D'.get i=D1.get i)→(a < G.n→Bl (bB h fg) G.get D'.get a G.n)→Bls (bB h fg) G.get D'.get (2 * B) G.n:=fun D' q1 q2 l l1 l2=>by
      by_cases hl:l < a
      · have:=x7 l1 k3 hl
        rw [Nat.min_eq_left (by omega)]
        exact (k6 l l1 hl).congr fun i i1 i2=>q1 i (by omega)
      · have:l=a:=by
          by_cases e:a=l
          · exact e.symm
          · have:=x7 k3 l1 (by omega); omega
        subst this
        rw [Nat.min_eq_right (by omega)]
        exact q2 l2
    simp only [decide_eq_true (show (B:Int) < (G.n:Int) by omega),cond_true,e0,bh,aE.jB,aE.js,dM,Nat.beq_refl,e3,e4]
    by_cases hm:a+B < G.n
    · have b1:Bl (bB h fg) G.get D1.get a (a+B):=by have:=k7 a hBa (Nat.le_refl _) (by omega); rwa [Nat.min_eq_left (by omega)] at this
      have b2:Bl (bB h fg) G.get D1.get (a+B) G.n:=by have:=k7 (a+B) (Nat.dvd_add hBa (Nat.dvd_refl _)) (by omega) hm; rwa [Nat.min_eq_right (by omega)] at this
      have hc:Ah (bB h fg) D1.get a (a+B) G.n:=Uv hr (Nat.le_refl _) (by omega) (by omega) b1.2 b2.2
      obtain ⟨D',j1,j2,j3,j4⟩:=xb h fg 64 D1 a (a+B) G.n (by omega) hm (by omega) (by omega) k8 (Nat.le_trans (show _≤10000000000 by omega) (by decide)) b1.1 b2.1 hc
      have e1:eB ⟨D,(G.n:Int),(B:Int),h⟩ = .out .ret ⟨D',(a:Int),((a+B:Nat):Int),(G.n:Int),h⟩:=by
        unfold eB
        rw [e0]
        simp only [aE.js,e4]
        exact j1
      simp only [decide_eq_true (show ((a+B:Nat):Int) < (G.n:Int) by omega),cond_true,e1,bh,aE.jB,aE.js,dM,j2]
      exact .inl ⟨_,rfl,by omega,D',2 * B,rfl,by omega,j2.trans k2,fin D' (fun i hi=>j3.2 i (.inl hi)) (fun _=>b1.join b2 (by omega) (by omega) j3 j4),pO j2 (by omega) j3 k8⟩
    · simp only [decide_eq_false (show ¬ ((a+B:Nat):Int) < (G.n:Int) by omega),cond_false]
      exact .inl ⟨_,rfl,by omega,D1,2 * B,rfl,by omega,k2,fin D1 (fun _ _=>rfl) (fun ha=>by have:=k7 a hBa (Nat.le_refl _) ha; rwa [Nat.min_eq_right (by omega)] at this),k8⟩
  · simp only [decide_eq_false (show ¬ (B:Int) < (G.n:Int) by omega),cond_false,bh,cond_true]
    exact .inr ⟨_,_,rfl,rfl,rfl,D,B,rfl,g1,by omega,g2⟩
theorem Bb (h3:G.n≤10000000000) (bc:∀ t,t < G.n→eZ h (G.get t)=true) (hr:YK (bB h fg) G.get G.n) :
    ∃ D:Sl aZ,iY ⟨G,(G.n:Int),h⟩ = .out .ret ⟨D,(G.n:Int),h⟩∧D.n=G.n∧eF (bB h fg) D.get 0 G.n∧∀ p:aZ→Bool,lG p D.get 0 G.n=lG p G.get 0 G.n:=by
  obtain ⟨D0,a,b,k1,k2,k3,k4,k5,k6,k7,k8⟩:=Ww h fg G h3 bc hr
  have e0:cv ⟨G,(G.n:Int),h⟩=_:=k1
  obtain ⟨D1,j1,j2,j3,j4⟩:=C1 h fg D0 a G.n k4 (by omega) (by omega) k8 (fun s t s1 s2 t1=>by rw [k7 s s1,k7 t (by omega)]; exact hr s t s2 t1)
  have e1:fv ⟨G,(G.n:Int),h⟩ = .out .ret ⟨D1,(a:Int),(G.n:Int),h⟩:=by
    unfold fv
    rw [e0]
    exact j1
  have hb:Bls (bB h fg) G.get D1.get 20 G.n:=fun l l1 l2=>by
    by_cases hl:l < a
    · have:=x7 l1 k3 hl
      rw [Nat.min_eq_left (by omega)]
      exact (k6 l l1 hl).congr fun i i1 i2=>j3.2 i (.inl (by omega))
    · have:l=a:=by
        by_cases e:a=l
        · exact e.symm
        · have:=x7 k3 l1 (by omega); omega
      subst this
      rw [Nat.min_eq_right (by omega)]
      exact ⟨j4,fun p=>(j3.1 p).trans (mR fun i hi=>k7 _ (by omega))⟩
  obtain ⟨D2,B,q1,q2,q3,q4⟩:=Ts h fg G D1 h3 hr (j2.trans k2) (pO j2 (by omega) j3 k8) hb
  have e2:dx ⟨G,(G.n:Int),h⟩ = .out (.exit 2) ⟨D2,(G.n:Int),(B:Int),h⟩:=by
    unfold dx
    rw [e0,e1]
    exact q1
  refine ⟨D2,?_,q2,?_⟩
  · unfold iY jz
    rw [e0,e1,e2]
    simp only [bh,cond_true,aE.jB,aE.js,dM,Nat.beq_refl,j2]
  · by_cases hz:G.n=0
    · rw [hz]
      exact ⟨fun i j _ _ hj=>by omega,fun p=>rfl⟩
    · have:=q4 0 (Nat.dvd_zero _) (by omega)
      rw [Nat.zero_add,Nat.min_eq_right q3] at this
      exact ⟨this.1,fun p=>by have:=this.2 p; rwa [Nat.sub_zero] at this⟩
end
end Go.Proofs.Ytahhdndhkgbcjaa.b
end
section
namespace Go.Proofs.Ytahhdndhkgbcjaa.b
open Go.K Go.K.vV
open Go.av (ai)
set_option linter.unusedSimpArgs false
set_option linter.unusedVariables false
def lex (x y:aZ):Prop:=x.item < y.item∨(x.item=y.item∧x.GD < y.GD)
def de (s:Show) (items:Sl Int) (i:Nat):Item:=s.items.get (Int.toNat (items.get i))
def mq (s:Show) (items:Sl Int) (bl:Bool):Nat→Nat
  | 0=>0
  | i+1=>mq s items bl i+cond ((de s items i).look.cQ == bl) (de s items i).dp.n 0
def x8 (s:Show) (items:Sl Int) (i:Nat):Prop:=(∀ j,j < i→0≤items.get j∧items.get j < (s.items.n:Int))∧∀ j j',j < j'→j' < i→items.get j < items.get j'
structure oM (s:Show) (items:Sl Int) (bl:Bool) (i k:Nat) (l:Sl aZ):Prop where
  n:l.n=mq s items bl i+cond ((de s items i).look.cQ == bl) k 0
  mem:∀ t,t < l.n→∃ j kk:Nat,(j < i∧kk < (de s items j).dp.n∨j=i∧kk < k)∧l.get t=⟨items.get j,(kk:Int)⟩∧(de s items j).look.cQ=bl
  has:∀ j kk:Nat,(j < i∧kk < (de s items j).dp.n∨j=i∧kk < k)→(de s items j).look.cQ=bl→∃ t,t < l.n∧l.get t=⟨items.get j,(kk:Int)⟩
  GQ:∀ t t',t < t'→t' < l.n→lex (l.get t) (l.get t')
theorem oM.next {s:Show} {items:Sl Int} {bl:Bool} {i:Nat} {l:Sl aZ} (h:oM s items bl i (de s items i).dp.n l):oM s items bl (i+1) 0 l where
  n:=by
    rw [h.n,mq]
    cases ((de s items (i+1)).look.cQ == bl) <;> simp
  mem t ht:=by
    obtain ⟨j,kk,h1,h2⟩:=h.mem t ht
    refine ⟨j,kk,?_,h2⟩
    rcases h1 with ⟨h1,h3⟩ | ⟨rfl,h3⟩
    · exact .inl ⟨by omega,h3⟩
    · exact .inl ⟨by omega,h3⟩
  has j kk hj hb:=by
    refine h.has j kk ?_ hb
    rcases hj with ⟨h1,h2⟩ | ⟨_,h2⟩
    · by_cases e:j=i
      · subst e; exact .inr ⟨rfl,h2⟩
      · exact .inl ⟨by omega,h2⟩
    · omega
  GQ:=h.GQ
theorem oM.skip {s:Show} {items:Sl Int} {bl:Bool} {i k:Nat} {l:Sl aZ} (h:oM s items bl i k l) (hb:((de s items i).look.cQ == bl)=false):oM s items bl i (k+1) l where
  n:=by rw [h.n,hb]; rfl
  mem t ht:=by
    obtain ⟨j,kk,h1,h2⟩:=h.mem t ht
    exact ⟨j,kk,h1.imp id fun ⟨q1,q2⟩=>⟨q1,by omega⟩,h2⟩
  has j kk hj hb':=by
    rcases hj with hj | ⟨rfl,hj⟩
    · exact h.has j kk (.inl hj) hb'
    · rw [hb'] at hb; simp at hb
  GQ:=h.GQ
theorem oM.push {s:Show} {items:Sl Int} {bl:Bool} {i k:Nat} {l:Sl aZ} (h:oM s items bl i k l) (oO:x8 s items (i+1)) (hb:((de s items i).look.cQ == bl)=true):oM s items bl i (k+1) (l.push ⟨items.get i,(k:Int)⟩) where
  n:=by rw [Sl.Pz,h.n,hb]; simp only [cond_true]; omega
  mem t ht:=by
    rw [Sl.Pz] at ht
    by_cases e:t < l.n
    · obtain ⟨j,kk,h1,h2⟩:=h.mem t e
      rw [Sl.CX e]
      exact ⟨j,kk,h1.imp id fun ⟨q1,q2⟩=>⟨q1,by omega⟩,h2⟩
    · have:t=l.n:=by omega
      subst this
      rw [Sl.Nw]
      exact ⟨i,k,.inr ⟨rfl,by omega⟩,rfl,by simpa using hb⟩
  has j kk hj hb':=by
    rw [Sl.Pz]
    by_cases e:j=i∧kk=k
    · obtain ⟨rfl,rfl⟩:=e
      exact ⟨l.n,by omega,Sl.Nw⟩
    · obtain ⟨t,h1,h2⟩:=h.has j kk (hj.imp id fun ⟨q1,q2⟩=>⟨q1,by omega⟩) hb'
      exact ⟨t,by omega,by rw [Sl.CX h1]; exact h2⟩
  GQ t t' h1 h2:=by
    rw [Sl.Pz] at h2
    by_cases e:t' < l.n
    · rw [Sl.CX e,Sl.CX (by omega)]; exact h.GQ t t' h1 e
    · have:t' = l.n:=by omega
      subst this
      rw [Sl.Nw,Sl.CX h1]
      obtain ⟨j,kk,q1,q2,_⟩:=h.mem t h1
      rw [q2]
      rcases q1 with ⟨q1,_⟩ | ⟨rfl,q1⟩
      · exact .inl (oO.2 j i q1 (by omega))
      · exact .inr ⟨rfl,by show (kk:Int) < (k:Int); omega⟩
theorem Mf {s:Show} {items:Sl Int} {bl:Bool} (hs:vU s):∀ {i:Nat},x8 s items i→mq s items bl i≤64 * i
  | 0,_=>Nat.le_refl _
  | i+1,h=>by
    have h1:=Mf hs (bl:=bl) (i:=i) ⟨fun j hj=>h.1 j (by omega),fun j j' q1 q2=>h.2 j j' q1 (by omega)⟩
    have h2:=(hs.2 (Int.toNat (items.get i)) (by have:=h.1 i (by omega); omega)).2.1
    have h2:(de s items i).dp.n≤64:=h2
    rw [mq]
    cases ((de s items i).look.cQ == bl) <;> simp <;> omega
theorem oM.small {s:Show} {items:Sl Int} {bl:Bool} {i k:Nat} {l:Sl aZ} (h:oM s items bl i k l) (hs:vU s) (hi:x8 s items i) (Yt:i≤300) (hk:k≤64):l.n≤20000:=by
  have:=Mf hs (bl:=bl) hi
  rw [h.n]
  cases ((de s items i).look.cQ == bl) <;> simp <;> omega
theorem oM.nil {s:Show} {items:Sl Int} {bl:Bool} {l:Sl aZ} (h:l.n=0):oM s items bl 0 0 l where
  n:=by rw [h]; cases ((de s items 0).look.cQ == bl) <;> rfl
  mem t ht:=by omega
  has j kk hj _:=by omega
  GQ t t' _ h2:=by omega
theorem acv (s:Show) (items:Sl Int) (bl:Bool) (i:Nat) (l:Sl aZ) (e last:Int) (hs:vU s) (hi:i < items.n) (Yt:i < 300) (oO:x8 s items (i+1)) (h0:oM s items bl i 0 l) :
    ∃ l' : Sl aZ,∃ k:Int,goN cd ⟨bl,l,e,last,items.get i,items,(items.n:Int),(i:Int),((de s items i).dp.n:Int),(0:Int),s⟩ = .out (.exit 2) ⟨bl,l',e,last,items.get i,items,(items.n:Int),(i:Int),((de s items i).dp.n:Int),k,s⟩∧oM s items bl i (de s items i).dp.n l':=by
  have YM:=oO.1 i (by omega)
  have h64:(de s items i).dp.n≤64:=(hs.2 (Int.toNat (items.get i)) (by omega)).2.1
  refine Exists.elim (dP (step:=cd) (x:=⟨bl,l,e,last,items.get i,items,(items.n:Int),(i:Int),((de s items i).dp.n:Int),(0:Int),s⟩) (fun k y=>∃ l' : Sl aZ,y=⟨bl,l',e,last,items.get i,items,(items.n:Int),(i:Int),((de s items i).dp.n:Int),(k:Int),s⟩∧k≤(de s items i).dp.n∧oM s items bl i k l') (fun x y=>x = .exit 2∧∃ l' : Sl aZ,∃ k:Int,y=⟨bl,l',e,last,items.get i,items,(items.n:Int),(i:Int),((de s items i).dp.n:Int),k,s⟩∧oM s items bl i (de s items i).dp.n l') (de s items i).dp.n (by have:mV=1000000000000:=rfl; omega) (fun k y hk ⟨l',hy,g1,g2⟩=>?_) ⟨l,rfl,Nat.zero_le _,h0⟩) fun x ⟨y,hy,he,l',k,hl,q⟩=>⟨l',k,by rw [hy,he,hl],q⟩
  subst hy
  have hn:=g2.small hs ⟨fun j hj=>oO.1 j (by omega),fun j j' q1 q2=>oO.2 j j' q1 (by omega)⟩ (by omega) (by omega)
  unfold cd
  by_cases aL:k < (de s items i).dp.n
  · have hw:=s8 (i:=k) (by omega)
    have ov:((decide ((0:Int)≤items.get i)) && (decide (items.get i < ((s.items.n:Nat):Int))))=true:=by
      rw [Bool.and_eq_true]; exact ⟨decide_eq_true YM.1,decide_eq_true YM.2⟩
    have hap:((Nat.ble (((l'.n+1)+512) * 16) 17592186044416) && (Nat.ble (l'.n+1) 17592186044416))=true:=by
      rw [Bool.and_eq_true]; exact ⟨Nat.ble_eq_true_of_le (by omega),Nat.ble_eq_true_of_le (by omega)⟩
    have PY:((s.items.get (Int.toNat (items.get i))).look.cQ == bl)=((de s items i).look.cQ == bl):=rfl
    simp only [decide_eq_true (show (k:Int) < ((de s items i).dp.n:Int) by omega),cond_true,ov,PY,hap,bh,hw,Bool.true_and]
    cases hb:((de s items i).look.cQ == bl) with
    | true=>
      rw [cond_true]
      exact .inl ⟨_,rfl,aL,_,rfl,aL,g2.push oO hb⟩
    | false=>
      rw [cond_false]
      exact .inl ⟨_,rfl,aL,_,rfl,aL,g2.skip hb⟩
  · simp only [decide_eq_false (show ¬ (k:Int) < ((de s items i).dp.n:Int) by omega),cond_false,bh,cond_true]
    have:k=(de s items i).dp.n:=by omega
    subst this
    exact .inr ⟨_,_,rfl,rfl,rfl,l',_,rfl,g2⟩
theorem YN (s:Show) (items:Sl Int) (bl:Bool) (hs:vU s) (hn:items.n≤300) (l0:Sl aZ) (h0:l0.n=0) :
    ∃ e y,goN cC ⟨bl,l0,(0:Int),(-(1:Int)),items,(items.n:Int),(0:Int),s⟩ = .out e y∧((e = .exit 0∧x8 s items items.n∧oM s items bl items.n 0 y.l)∨(e = .ret∧¬ x8 s items items.n∧y.l.n=0∧y.e=2)):=by
  refine dP (step:=cC) (fun i y=>∃ l' : Sl aZ,∃ last:Int,y=⟨bl,l',(0:Int),last,items,(items.n:Int),(i:Int),s⟩∧i≤items.n∧x8 s items i∧oM s items bl i 0 l'∧(i=0∧last = -1∨∃ j,i=j+1∧last=items.get j)) _ items.n (by have:mV=1000000000000:=rfl; omega) (fun i y hi ⟨l',last,hy,g1,g2,g3,g4⟩=>?_) ⟨l0,_,rfl,Nat.zero_le _,⟨fun j hj=>by omega,fun j j' _ hj=>by omega⟩,.nil h0,.inl ⟨rfl,rfl⟩⟩
  subst hy
  unfold cC
  by_cases aL:i < items.n
  · simp only [decide_eq_true (show (i:Int) < (items.n:Int) by omega),cond_true,Ak aL,Int.toNat_natCast]
    have bad : ¬ x8 s items (i+1)→¬ x8 s items items.n:=fun hb hc=>hb ⟨fun j hj=>hc.1 j (by omega),fun j j' q1 q2=>hc.2 j j' q1 (by omega)⟩
    by_cases c1:items.get i≤last
    · rw [decide_eq_true c1,cond_true]
      refine .inr ⟨_,_,rfl,rfl,.inr ⟨rfl,bad fun hc=>?_,rfl,rfl⟩⟩
      rcases g4 with ⟨rfl,rfl⟩ | ⟨j,rfl,rfl⟩
      · have:=(hc.1 0 (by omega)).1; omega
      · have:=hc.2 j (j+1) (by omega) (by omega); omega
    · rw [decide_eq_false c1,cond_false]
      by_cases c2:items.get i ≥ ((s.items.n:Nat):Int)
      · rw [decide_eq_true c2,cond_true]
        exact .inr ⟨_,_,rfl,rfl,.inr ⟨rfl,bad fun hc=>by have:=(hc.1 i (by omega)).2; omega,rfl,rfl⟩⟩
      · rw [decide_eq_false c2,cond_false]
        have Jp:0≤items.get i:=by
          rcases g4 with ⟨_,rfl⟩ | ⟨j,rfl,rfl⟩
          · omega
          · have:=(g2.1 j (by omega)).1; omega
        have oO:x8 s items (i+1):=by
          refine ⟨fun j hj=>?_,fun j j' q1 q2=>?_⟩
          · by_cases e:j=i
            · subst e; exact ⟨Jp,by omega⟩
            · exact g2.1 j (by omega)
          · by_cases e:j' = i
            · subst e
              rcases g4 with ⟨rfl,_⟩ | ⟨j0,rfl,rfl⟩
              · omega
              · by_cases e2:j=j0
                · subst e2; omega
                · have:=g2.2 j j0 (by omega) (by omega); omega
            · exact g2.2 j j' q1 (by omega)
        have ov:((decide ((0:Int)≤items.get i)) && (decide (items.get i < ((s.items.n:Nat):Int))))=true:=by
          rw [Bool.and_eq_true]; exact ⟨decide_eq_true Jp,decide_eq_true (by omega)⟩
        obtain ⟨l2,k,k1,k2⟩:=acv s items bl i l' 0 (items.get i) hs aL (by omega) oO g3
        have e0:a8 ⟨bl,l',(0:Int),last,items,(items.n:Int),(i:Int),s⟩ = .out (.exit 2) ⟨bl,l2,(0:Int),items.get i,items.get i,items,(items.n:Int),(i:Int),((de s items i).dp.n:Int),k,s⟩:=by
          unfold a8
          simp only [Int.toNat_natCast]
          exact k1
        simp only [ov,cond_true,bh,e0,aE.jB,aE.js,dM,Nat.beq_refl,s8 (show i≤100000000000 by omega)]
        exact .inl ⟨_,rfl,aL,l2,_,rfl,aL,oO,k2.next,.inr ⟨i,rfl,rfl⟩⟩
  · simp only [decide_eq_false (show ¬ (i:Int) < (items.n:Int) by omega),cond_false,bh,cond_true]
    have:i=items.n:=by omega
    subst this
    exact .inr ⟨_,_,rfl,rfl,.inl ⟨rfl,g2,g3⟩⟩
theorem acw (s:Show) (items:Sl Int) (bl:Bool) (i:Nat) (l:Sl aZ) (e last:Int) (hs:vU s) (hi:i < items.n) (Yt:i < 300) (oO:x8 s items (i+1)) (h0:oM s items bl i 0 l) :
    ∃ l' : Sl aZ,∃ k:Int,goN eY ⟨bl,l,e,last,items.get i,items,(items.n:Int),(i:Int),((de s items i).dp.n:Int),(0:Int),s⟩ = .out (.exit 2) ⟨bl,l',e,last,items.get i,items,(items.n:Int),(i:Int),((de s items i).dp.n:Int),k,s⟩∧oM s items bl i (de s items i).dp.n l':=by
  have YM:=oO.1 i (by omega)
  have h64:(de s items i).dp.n≤64:=(hs.2 (Int.toNat (items.get i)) (by omega)).2.1
  refine Exists.elim (dP (step:=eY) (x:=⟨bl,l,e,last,items.get i,items,(items.n:Int),(i:Int),((de s items i).dp.n:Int),(0:Int),s⟩) (fun k y=>∃ l' : Sl aZ,y=⟨bl,l',e,last,items.get i,items,(items.n:Int),(i:Int),((de s items i).dp.n:Int),(k:Int),s⟩∧k≤(de s items i).dp.n∧oM s items bl i k l') (fun x y=>x = .exit 2∧∃ l' : Sl aZ,∃ k:Int,y=⟨bl,l',e,last,items.get i,items,(items.n:Int),(i:Int),((de s items i).dp.n:Int),k,s⟩∧oM s items bl i (de s items i).dp.n l') (de s items i).dp.n (by have:mV=1000000000000:=rfl; omega) (fun k y hk ⟨l',hy,g1,g2⟩=>?_) ⟨l,rfl,Nat.zero_le _,h0⟩) fun x ⟨y,hy,he,l',k,hl,q⟩=>⟨l',k,by rw [hy,he,hl],q⟩
  subst hy
  have hn:=g2.small hs ⟨fun j hj=>oO.1 j (by omega),fun j j' q1 q2=>oO.2 j j' q1 (by omega)⟩ (by omega) (by omega)
  unfold eY
  by_cases aL:k < (de s items i).dp.n
  · have hw:=s8 (i:=k) (by omega)
    have ov:((decide ((0:Int)≤items.get i)) && (decide (items.get i < ((s.items.n:Nat):Int))))=true:=by
      rw [Bool.and_eq_true]; exact ⟨decide_eq_true YM.1,decide_eq_true YM.2⟩
    have hap:(MR 16 l'.n 1)=true:=by
      exact Wl (by omega) (by omega) (by omega) (.inl (by omega))
    have PY:((s.items.get (Int.toNat (items.get i))).look.cQ == bl)=((de s items i).look.cQ == bl):=rfl
    simp only [decide_eq_true (show (k:Int) < ((de s items i).dp.n:Int) by omega),cond_true,ov,PY,hap,bh,hw,Bool.true_and]
    cases hb:((de s items i).look.cQ == bl) with
    | true=>
      rw [cond_true]
      exact .inl ⟨_,rfl,aL,_,rfl,aL,g2.push oO hb⟩
    | false=>
      rw [cond_false]
      exact .inl ⟨_,rfl,aL,_,rfl,aL,g2.skip hb⟩
  · simp only [decide_eq_false (show ¬ (k:Int) < ((de s items i).dp.n:Int) by omega),cond_false,bh,cond_true]
    have:k=(de s items i).dp.n:=by omega
    subst this
    exact .inr ⟨_,_,rfl,rfl,rfl,l',_,rfl,g2⟩
theorem YO (s:Show) (items:Sl Int) (bl:Bool) (hs:vU s) (hn:items.n≤300) (l0:Sl aZ) (h0:l0.n=0) :
    ∃ e y,goN gJ ⟨bl,l0,(0:Int),(-(1:Int)),items,(items.n:Int),(0:Int),s⟩ = .out e y∧((e = .exit 0∧x8 s items items.n∧oM s items bl items.n 0 y.l)∨(e = .ret∧¬ x8 s items items.n∧y.l.n=0∧y.e=2)):=by
  refine dP (step:=gJ) (fun i y=>∃ l' : Sl aZ,∃ last:Int,y=⟨bl,l',(0:Int),last,items,(items.n:Int),(i:Int),s⟩∧i≤items.n∧x8 s items i∧oM s items bl i 0 l'∧(i=0∧last = -1∨∃ j,i=j+1∧last=items.get j)) _ items.n (by have:mV=1000000000000:=rfl; omega) (fun i y hi ⟨l',last,hy,g1,g2,g3,g4⟩=>?_) ⟨l0,_,rfl,Nat.zero_le _,⟨fun j hj=>by omega,fun j j' _ hj=>by omega⟩,.nil h0,.inl ⟨rfl,rfl⟩⟩
  subst hy
  unfold gJ
  by_cases aL:i < items.n
  · simp only [decide_eq_true (show (i:Int) < (items.n:Int) by omega),cond_true,Ak aL,Int.toNat_natCast]
    have bad : ¬ x8 s items (i+1)→¬ x8 s items items.n:=fun hb hc=>hb ⟨fun j hj=>hc.1 j (by omega),fun j j' q1 q2=>hc.2 j j' q1 (by omega)⟩
    by_cases c1:items.get i≤last
    · rw [decide_eq_true c1,cond_true]
      refine .inr ⟨_,_,rfl,rfl,.inr ⟨rfl,bad fun hc=>?_,rfl,rfl⟩⟩
      rcases g4 with ⟨rfl,rfl⟩ | ⟨j,rfl,rfl⟩
      · have:=(hc.1 0 (by omega)).1; omega
      · have:=hc.2 j (j+1) (by omega) (by omega); omega
    · rw [decide_eq_false c1,cond_false]
      by_cases c2:items.get i ≥ ((s.items.n:Nat):Int)
      · rw [decide_eq_true c2,cond_true]
        exact .inr ⟨_,_,rfl,rfl,.inr ⟨rfl,bad fun hc=>by have:=(hc.1 i (by omega)).2; omega,rfl,rfl⟩⟩
      · rw [decide_eq_false c2,cond_false]
        have Jp:0≤items.get i:=by
          rcases g4 with ⟨_,rfl⟩ | ⟨j,rfl,rfl⟩
          · omega
          · have:=(g2.1 j (by omega)).1; omega
        have oO:x8 s items (i+1):=by
          refine ⟨fun j hj=>?_,fun j j' q1 q2=>?_⟩
          · by_cases e:j=i
            · subst e; exact ⟨Jp,by omega⟩
            · exact g2.1 j (by omega)
          · by_cases e:j' = i
            · subst e
              rcases g4 with ⟨rfl,_⟩ | ⟨j0,rfl,rfl⟩
              · omega
              · by_cases e2:j=j0
                · subst e2; omega
                · have:=g2.2 j j0 (by omega) (by omega); omega
            · exact g2.2 j j' q1 (by omega)
        have ov:((decide ((0:Int)≤items.get i)) && (decide (items.get i < ((s.items.n:Nat):Int))))=true:=by
          rw [Bool.and_eq_true]; exact ⟨decide_eq_true Jp,decide_eq_true (by omega)⟩
        obtain ⟨l2,k,k1,k2⟩:=acw s items bl i l' 0 (items.get i) hs aL (by omega) oO g3
        have e0:dq ⟨bl,l',(0:Int),last,items,(items.n:Int),(i:Int),s⟩ = .out (.exit 2) ⟨bl,l2,(0:Int),items.get i,items.get i,items,(items.n:Int),(i:Int),((de s items i).dp.n:Int),k,s⟩:=by
          unfold dq
          simp only [Int.toNat_natCast]
          exact k1
        simp only [ov,cond_true,bh,e0,aE.jB,aE.js,dM,Nat.beq_refl,s8 (show i≤100000000000 by omega)]
        exact .inl ⟨_,rfl,aL,l2,_,rfl,aL,oO,k2.next,.inr ⟨i,rfl,rfl⟩⟩
  · simp only [decide_eq_false (show ¬ (i:Int) < (items.n:Int) by omega),cond_false,bh,cond_true]
    have:i=items.n:=by omega
    subst this
    exact .inr ⟨_,_,rfl,rfl,.inl ⟨rfl,g2,g3⟩⟩
end Go.Proofs.Ytahhdndhkgbcjaa.b
end
section
namespace Go.K.vV
variable {α:Type}
theorem HM {p:α→Bool} {d:Nat→α} {a:Nat} : ∀ {k:Nat},(∀ i,i < k→p (d (a+i))=false)→lG p d a k=0
  | 0,_=>rfl
  | k+1,h=>by rw [lG,HM (k:=k) fun i hi=>h i (by omega),h k (by omega)]; rfl
theorem YP {p:α→Bool} {d:Nat→α} {n t:Nat} (ht:t < n) (hp:p (d t)=true) (h:∀ i,i < n→i≠t→p (d i)=false):lG p d 0 n=1:=by
  have e:n=t+(1+(n - t - 1)):=by omega
  rw [e,mo,mo,GM,Nat.zero_add,hp,HM fun i hi=>by rw [Nat.zero_add]; exact h i (by omega) (by omega),HM fun i hi=>h (t+1+i) (by omega) (by omega)]
  rfl
end Go.K.vV
namespace Go.Proofs.Ytahhdndhkgbcjaa.b
open Go.K Go.K.vV
open Go.av (ai)
set_option linter.unusedSimpArgs false
set_option linter.unusedVariables false
theorem Kf {d e:aZ} : s7 d e=true ↔ e=d:=by
  obtain ⟨d1,d2⟩:=d
  obtain ⟨e1,e2⟩:=e
  simp [s7]
theorem YQ (l:Sl aZ) (d:aZ) (hn:l.n≤1000000):uo l d=some ((lG (s7 d) l.get 0 l.n:Nat):Int):=by
  obtain ⟨e,z,hz,rfl,h1⟩:∃ e z,y8 l d = .out e z∧(e = .exit 0∧z.n=((lG (s7 d) l.get 0 l.n:Nat):Int)):=by
    unfold y8
    refine dP (step:=lR) (fun j y=>y.l=l∧y.d=d∧y.i=(j:Int)∧j≤l.n∧y.n=((lG (s7 d) l.get 0 j:Nat):Int)∧lG (s7 d) l.get 0 j≤j) (fun e z=>e = .exit 0∧z.n=((lG (s7 d) l.get 0 l.n:Nat):Int)) l.n (by have:mV=1000000000000:=rfl; omega) (fun j y hj ⟨f1,f2,f3,f4,f5,f6⟩=>?_) ⟨rfl,rfl,rfl,Nat.zero_le _,rfl,Nat.le_refl _⟩
    have w1:aB (y.i+1)=y.i+1:=mQ (by omega) (by omega)
    have w2:aB (y.n+1)=y.n+1:=mQ (by omega) (by omega)
    unfold lR
    by_cases h:y.i < ((y.l.n:Nat):Int)
    · have tX:j < l.n:=by rw [f1] at h; omega
      have q:(((y.l.get (Int.toNat y.i)).item == y.d.item) && (((y.l.get (Int.toNat y.i)).GD == y.d.GD) && true))=s7 d (l.get j):=by
        rw [f1,f2,f3,Int.toNat_natCast]; rfl
      simp only [w1,w2,cond_true,decide_eq_true h,q,decide_eq_true (show (0:Int)≤y.i by omega),Bool.and_self]
      left
      cases g:s7 d (l.get j) with
      | true=>exact ⟨_,rfl,tX,f1,f2,by show y.i+1=_; omega,by omega,by show y.n+1=_; rw [lG,Nat.zero_add,g,f5]; rfl,by rw [lG,Nat.zero_add,g]; simp only [b2,cond_true]; omega⟩
      | false=>exact ⟨_,rfl,tX,f1,f2,by show y.i+1=_; omega,by omega,by show y.n=_; rw [lG,Nat.zero_add,g,f5]; rfl,by rw [lG,Nat.zero_add,g]; simp only [b2,cond_false]; omega⟩
    · simp only [cond_false,decide_eq_false h]
      have:j=l.n:=by rw [f1] at h; omega
      subst this
      exact .inr ⟨_,_,rfl,rfl,rfl,f5⟩
  unfold uo
  rw [hz]
  show some z.n=_
  rw [h1]
theorem abr {s:Show} {items:Sl Int} {bl:Bool} {l:Sl aZ} (h:oM s items bl items.n 0 l) {i k:Nat} (hi:i < items.n) (hk:k < (de s items i).dp.n):lG (s7 ⟨items.get i,(k:Int)⟩) l.get 0 l.n=cond ((de s items i).look.cQ == bl) 1 0:=by
  cases hb:((de s items i).look.cQ == bl) with
  | true=>
    obtain ⟨t,t1,t2⟩:=h.has i k (.inl ⟨hi,hk⟩) (by simpa using hb)
    refine YP t1 (Kf.2 t2) fun j hj bR=>?_
    cases hs:s7 ⟨items.get i,(k:Int)⟩ (l.get j) with
    | false=>rfl
    | true=>
      have e:=Kf.1 hs
      exfalso
      by_cases aL:j < t
      · have:=h.GQ j t aL t1
        rw [e,t2] at this
        rcases this with q | ⟨_,q⟩ <;> omega
      · have:=h.GQ t j (by omega) hj
        rw [e,t2] at this
        rcases this with q | ⟨_,q⟩ <;> omega
  | false=>
    refine HM fun t ht=>?_
    rw [Nat.zero_add]
    cases hs:s7 ⟨items.get i,(k:Int)⟩ (l.get t) with
    | false=>rfl
    | true=>
      exfalso
      have e:=Kf.1 hs
      obtain ⟨j,kk,_,q2,q3⟩:=h.mem t ht
      rw [q2] at e
      have e1:items.get j=items.get i:=congrArg aZ.item e
      have:de s items j=de s items i:=by unfold de; rw [e1]
      rw [this] at q3
      rw [q3] at hb
      simp at hb
theorem Wx (s:Show) (items:Sl Int) (hn:items.n≤300) {e:Int} (he:ll s=some e) (bc:e=0→vU s) :
    ∃ a ea,pM s items=some (a,ea)∧(e≠0→ea=e∧a.n=0)∧(e=0→¬ x8 s items items.n→ea=2∧a.n=0)∧(e=0→x8 s items items.n→ea=0∧oM s items false items.n 0 a):=by
  have key:∃ a ea,qM s items false=some (a,ea)∧(e≠0→ea=e∧a.n=0)∧(e=0→¬ x8 s items items.n→ea=2∧a.n=0)∧(e=0→x8 s items items.n→ea=0∧oM s items false items.n 0 a):=by
    have e0:tQ s items false=some e:=he
    unfold qM
    rw [e0]
    simp only [Option.isSome_some,Option.getD_some,cond_true]
    by_cases hz:e=0
    · subst hz
      rw [bne_self_eq_false,cond_false]
      obtain ⟨x,y,hy,q⟩:=YO s items false (bc rfl) hn ⟨0,(fun i=>(⟨(0:Int),(0:Int)⟩:aZ))⟩ rfl
      have e1:om s items false = .out x y:=hy
      rw [e1]
      rcases q with ⟨rfl,q1,q2⟩ | ⟨rfl,q1,q2,q3⟩
      · exact ⟨_,_,rfl,fun h=>absurd rfl h,fun _ h=>absurd q1 h,fun _ _=>⟨rfl,q2⟩⟩
      · exact ⟨_,_,rfl,fun h=>absurd rfl h,fun _ _=>⟨q3,q2⟩,fun _ h=>absurd h q1⟩
    · rw [show (e != (0:Int))=true by simpa using hz,cond_true]
      exact ⟨_,_,rfl,fun _=>⟨rfl,rfl⟩,fun h=>absurd h hz,fun h=>absurd h hz⟩
  obtain ⟨a,ea,h1,h2⟩:=key
  refine ⟨a,ea,?_,h2⟩
  have e0:sM s items=some (a,ea):=h1
  unfold pM
  rw [e0]
  rfl
structure ah4 (s:Show) (items:Sl Int) (b:Sl aZ):Prop where
  g:∃ g:Sl aZ,oM s items true items.n 0 g∧b.n=g.n∧eF (bB s lex) b.get 0 g.n∧∀ p:aZ→Bool,lG p b.get 0 g.n=lG p g.get 0 g.n
theorem Tt (s:Show) (items:Sl Int) (hn:items.n≤300) {e:Int} (he:ll s=some e) (bc:e=0→vU s) :
    ∃ a ea,oi s items=some (a,ea)∧(e≠0→ea=e∧a.n=0)∧(e=0→¬ x8 s items items.n→ea=2∧a.n=0)∧(e=0→x8 s items items.n→ea=0∧ah4 s items a):=by
  have e0:rl s items=some e:=he
  unfold oi
  rw [e0]
  simp only [Option.isSome_some,Option.getD_some,cond_true]
  by_cases hz:e=0
  · subst hz
    rw [bne_self_eq_false,cond_false]
    obtain ⟨x,y,hy,q⟩:=YN s items true (bc rfl) hn ⟨0,(fun i=>(⟨(0:Int),(0:Int)⟩:aZ))⟩ rfl
    have e1:eL s items = .out x y:=hy
    rw [e1]
    rcases q with ⟨rfl,q1,q2⟩ | ⟨rfl,q1,q2,q3⟩
    · have hsm:=q2.small (bc rfl) q1 hn (Nat.zero_le _)
      obtain ⟨D,d1,d2,d3,d4⟩:=Bb s lex y.l (by omega) (fun t ht=>by
        obtain ⟨j,kk,p1,p2,_⟩:=q2.mem t ht
        have hj:j < items.n:=by omega
        have:=q1.1 j hj
        unfold eZ
        rw [p2,Bool.and_eq_true]
        exact ⟨decide_eq_true this.1,decide_eq_true this.2⟩) (fun i j h1 h2=>q2.GQ i j h1 h2)
      have e2:jA s items = .out .ret ⟨D,(y.l.n:Int),s⟩:=by
        unfold jA
        rw [e1]
        exact d1
      rw [e2]
      simp only [aE.jB,aE.js,dM,Nat.beq_refl,cond_true,bh]
      refine ⟨_,_,rfl,fun h=>absurd rfl h,fun _ h=>absurd q1 h,fun _ _=>⟨rfl,⟨y.l,q2,rfl,?_,fun p=>?_⟩⟩⟩
      · exact d3.congr fun i _ _=>by show D.get (0+i)=D.get i; rw [Nat.zero_add]
      · exact (mR (b:=0) fun i _=>by show D.get (0+(0+i))=D.get (0+i); rw [Nat.zero_add (0+i)]).trans (d4 p)
    · obtain ⟨D,d1,d2,_,_⟩:=Bb s lex y.l (by omega) (fun t ht=>by omega) (fun i j h1 h2=>by omega)
      have e2:jA s items = .out .ret ⟨D,(y.l.n:Int),s⟩:=by
        unfold jA
        rw [e1]
        exact d1
      rw [e2]
      simp only [aE.jB,aE.js,dM,Nat.beq_refl,cond_true,cond_false,bh]
      exact ⟨_,_,rfl,fun h=>absurd rfl h,fun _ _=>⟨q3,q2⟩,fun _ h=>absurd h q1⟩
  · rw [show (e != (0:Int))=true by simpa using hz,cond_true]
    exact ⟨_,_,rfl,fun _=>⟨rfl,rfl⟩,fun h=>absurd h hz,fun h=>absurd h hz⟩
end Go.Proofs.Ytahhdndhkgbcjaa.b
end
section
namespace Go.Proofs.Ytahhdndhkgbcjaa.b
open Go.K
noncomputable def sP:List KV→KR KV:=fun _=>.ok (.bool true)
theorem qG:gN Try.prog 9 sP:=V3 funcs mixed (L:=200) (n:=60) (by kernel_rfl) (by kernel_rfl)
end Go.Proofs.Ytahhdndhkgbcjaa.b
end
section
namespace Go.Proofs.Ytahhdndhkgbcjaa.b
open Go.K
set_option linter.unusedVariables false
set_option linter.unusedSimpArgs false
noncomputable section
structure dI where
  items:(Sl Int)
  t4:Bool
  ok:Bool
  a:(Sl aZ)
  b:(Sl aZ)
  all:Int
  i:Int
  s:Show
instance:Inhabited dI:=⟨⟨default,default,default,default,default,default,default,default⟩⟩
def oP (x:dI):List KV:=[ij 3 (kI .i64) x.items,.bool x.t4,.bool x.ok,ij 47 fc x.a,ij 47 fc x.b,.int .i64 x.all,.int .i64 x.i]
def oQ (x:dI):List (List KV):=[lC x.s]
def x9 (vs:List KV) (rs:List (List KV)):dI:=⟨hZ intOf (vs.getD 0 .aq),l7 (vs.getD 1 .aq),l7 (vs.getD 2 .aq),hZ fD (vs.getD 3 .aq),hZ fD (vs.getD 4 .aq),intOf (vs.getD 5 .aq),intOf (vs.getD 6 .aq),lD (fun k=>(rs.getD 0 []).getD k .aq)⟩
def yH:aD:=⟨[(1,⟨false,[.k (.slice 3)]⟩),(4,⟨false,[.k .bool]⟩),(5,⟨false,[.k .bool]⟩),(6,⟨false,[.k (.slice 47)]⟩),(8,⟨false,[.k (.slice 47)]⟩),(10,⟨false,[.k (.int .i64)]⟩),(11,⟨false,[.k (.int .i64)]⟩)],[(2,[.k (.slice 45),.k (.slice 108)],1)],[(2,0,0)]⟩
structure bt where
  items:(Sl Int)
  t4:Bool
  ok:Bool
  a:(Sl aZ)
  b:(Sl aZ)
  all:Int
  i:Int
  k:Int
  s:Show
  x:Item
instance:Inhabited bt:=⟨⟨default,default,default,default,default,default,default,default,default,default⟩⟩
def nf (x:bt):List KV:=[ij 3 (kI .i64) x.items,.bool x.t4,.bool x.ok,ij 47 fc x.a,ij 47 fc x.b,.int .i64 x.all,.int .i64 x.i,.int .i64 x.k]
def ng (x:bt):List (List KV):=[lC x.s,Wh x.x]
def vW (vs:List KV) (rs:List (List KV)):bt:=⟨hZ intOf (vs.getD 0 .aq),l7 (vs.getD 1 .aq),l7 (vs.getD 2 .aq),hZ fD (vs.getD 3 .aq),hZ fD (vs.getD 4 .aq),intOf (vs.getD 5 .aq),intOf (vs.getD 6 .aq),intOf (vs.getD 7 .aq),lD (fun k=>(rs.getD 0 []).getD k .aq),Wj (fun k=>(rs.getD 1 []).getD k .aq)⟩
def wo:aD:=⟨[(1,⟨false,[.k (.slice 3)]⟩),(4,⟨false,[.k .bool]⟩),(5,⟨false,[.k .bool]⟩),(6,⟨false,[.k (.slice 47)]⟩),(8,⟨false,[.k (.slice 47)]⟩),(10,⟨false,[.k (.int .i64)]⟩),(11,⟨false,[.k (.int .i64)]⟩),(13,⟨false,[.k (.int .i64)]⟩)],[(2,[.k (.slice 45),.k (.slice 108)],1),(12,[.k (.slice 41),.k (.slice 176),.k (.slice 50),.k (.int .u8),.k (.int .u8),.k (.int .u8),.k (.int .u8),.k (.int .i64),.k (.int .u8),.k (.int .i64),.k .bool,.k (.int .i64),.k (.int .i64),.k (.int .i64),.k (.int .i64),.k (.int .i64),.k (.int .i64),.k (.int .i64)],1)],[(2,0,0),(12,1,0)]⟩
def Ej:=ky Try.prog (cR Try.prog [(13,wZ),(12,oj),(11,pN),(10,sE),(9,sP)] [] (fun _=>false)) 9 9 3 523558 (fh Try.prog 3 523558) wo
def iE (x:bt):(Option Int):=(uo x.a (⟨(x.items.get (Int.toNat x.i)),x.k⟩:aZ))
def iG (x:bt):(Option Int):=(uo x.b (⟨(x.items.get (Int.toNat x.i)),x.k⟩:aZ))
def eH (x:bt):aE bt:=
 (cond (decide (x.k < ((x.x.dp.n:Nat):Int)))
 (cond ((decide ((0:Int)≤x.i)) && (decide (x.i < ((x.items.n:Nat):Int))))
 (cond (iE x).isSome
 (cond (iG x).isSome
 (cond x.x.look.cQ
 (cond (((iE x).getD default) != (0:Int))
 (.out av.ai.ret (⟨x.items,false,x.ok,x.a,x.b,x.all,x.i,x.k,x.s,x.x⟩:bt))
 (cond (((iG x).getD default) != (1:Int))
 (.out av.ai.ret (⟨x.items,false,x.ok,x.a,x.b,x.all,x.i,x.k,x.s,x.x⟩:bt))
 (cond (!x.x.look.cQ)
 (cond (((iE x).getD default) != (1:Int))
 (.out av.ai.ret (⟨x.items,false,x.ok,x.a,x.b,x.all,x.i,x.k,x.s,x.x⟩:bt))
 (cond (((iG x).getD default) != (0:Int))
 (.out av.ai.ret (⟨x.items,false,x.ok,x.a,x.b,x.all,x.i,x.k,x.s,x.x⟩:bt))
 (.next (⟨x.items,x.t4,x.ok,x.a,x.b,(aB (x.all+(1:Int))),x.i,(aB (x.k+(1:Int))),x.s,x.x⟩:bt))))
 (.next (⟨x.items,x.t4,x.ok,x.a,x.b,(aB (x.all+(1:Int))),x.i,(aB (x.k+(1:Int))),x.s,x.x⟩:bt)))))
 (cond (!x.x.look.cQ)
 (cond (((iE x).getD default) != (1:Int))
 (.out av.ai.ret (⟨x.items,false,x.ok,x.a,x.b,x.all,x.i,x.k,x.s,x.x⟩:bt))
 (cond (((iG x).getD default) != (0:Int))
 (.out av.ai.ret (⟨x.items,false,x.ok,x.a,x.b,x.all,x.i,x.k,x.s,x.x⟩:bt))
 (.next (⟨x.items,x.t4,x.ok,x.a,x.b,(aB (x.all+(1:Int))),x.i,(aB (x.k+(1:Int))),x.s,x.x⟩:bt))))
 (.next (⟨x.items,x.t4,x.ok,x.a,x.b,(aB (x.all+(1:Int))),x.i,(aB (x.k+(1:Int))),x.s,x.x⟩:bt))))
 .fail)
 .fail)
 .fail)
 (.out (av.ai.exit 2) x))
theorem BI (x:bt):Ej (nf x) (ng x)=aE.enc nf ng (eH x):=by
  unfold eH
  try simp only [aE.dc]
  kernel_rfl
def il:Lp:=⟨3,523558,wo,fun vs rs=>dt nf ng (goN eH (vW vs rs)) [av.ai.exit 2,av.ai.ret],false⟩
theorem nh:il.Ok Try.prog:=fQ funcs mixed (aw.cons tw (aw.cons nN (aw.cons oL (aw.cons qD (aw.cons qG aw.nil))))) aF.nil (L:=9) (n:=9) (step:=eH) (ev:=nf) (er:=ng) (pa:=vW) rfl (fun wv wr=>⟨by kernel_rfl,by kernel_rfl⟩) BI
theorem lF:cH Try.prog il.f il.p=true:=by kernel_rfl
def GS:=ky Try.prog (cR Try.prog [(13,wZ),(12,oj),(11,pN),(10,sE),(9,sP)] [il] (fun _=>false)) 9 9 3 4090 (fh Try.prog 3 4090) yH
def bC (x:dI):(aE bt):=(goN eH (⟨x.items,x.t4,x.ok,x.a,x.b,x.all,x.i,(0:Int),x.s,(x.s.items.get (Int.toNat (x.items.get (Int.toNat x.i))))⟩:bt))
def fy (x:dI):aE dI:=
 (cond (decide (x.i < ((x.items.n:Nat):Int)))
 (cond ((decide ((0:Int)≤x.i)) && (decide (x.i < ((x.items.n:Nat):Int))))
 (cond ((decide ((0:Int)≤(x.items.get (Int.toNat x.i)))) && (decide ((x.items.get (Int.toNat x.i)) < ((x.s.items.n:Nat):Int))))
 (cond ((bC x).by (av.ai.exit 2))
 (.next (⟨(bC x).st.items,(bC x).st.t4,(bC x).st.ok,(bC x).st.a,(bC x).st.b,(bC x).st.all,(aB ((bC x).st.i+(1:Int))),(bC x).st.s⟩:dI))
 (cond ((bC x).by av.ai.ret)
 (.out av.ai.ret (⟨(bC x).st.items,(bC x).st.t4,(bC x).st.ok,(bC x).st.a,(bC x).st.b,(bC x).st.all,(bC x).st.i,(bC x).st.s⟩:dI))
 .fail))
 .fail)
 .fail)
 (.out (av.ai.exit 0) x))
theorem Ek (x:dI):GS (oP x) (oQ x)=aE.enc oP oQ (fy x):=by
  unfold fy
  try simp only [aE.dc]
  kernel_rfl
def lu:Lp:=⟨3,4090,yH,fun vs rs=>dt oP oQ (goN fy (x9 vs rs)) [av.ai.exit 0,av.ai.ret],false⟩
theorem rS:lu.Ok Try.prog:=fQ funcs mixed (aw.cons tw (aw.cons nN (aw.cons oL (aw.cons qD (aw.cons qG aw.nil))))) (aF.cons nh lF aF.nil) (L:=9) (n:=9) (step:=fy) (ev:=oP) (er:=oQ) (pa:=x9) rfl (fun wv wr=>⟨by kernel_rfl,by kernel_rfl⟩) Ek
theorem pP:cH Try.prog lu.f lu.p=true:=by kernel_rfl
structure dr where
  t4:Bool
  ok:Bool
  a:(Sl aZ)
  b:(Sl aZ)
  all:Int
  i:Int
  s:Show
instance:Inhabited dr:=⟨⟨default,default,default,default,default,default,default⟩⟩
def oS (x:dr):List KV:=[.bool x.t4,.bool x.ok,ij 47 fc x.a,ij 47 fc x.b,.int .i64 x.all,.int .i64 x.i]
def oT (x:dr):List (List KV):=[lC x.s]
def ya (vs:List KV) (rs:List (List KV)):dr:=⟨l7 (vs.getD 0 .aq),l7 (vs.getD 1 .aq),hZ fD (vs.getD 2 .aq),hZ fD (vs.getD 3 .aq),intOf (vs.getD 4 .aq),intOf (vs.getD 5 .aq),lD (fun k=>(rs.getD 0 []).getD k .aq)⟩
def yI:aD:=⟨[(4,⟨false,[.k .bool]⟩),(5,⟨false,[.k .bool]⟩),(6,⟨false,[.k (.slice 47)]⟩),(8,⟨false,[.k (.slice 47)]⟩),(10,⟨false,[.k (.int .i64)]⟩),(17,⟨false,[.k (.int .i64)]⟩)],[(2,[.k (.slice 45),.k (.slice 108)],1)],[(2,0,0)]⟩
def GU:=ky Try.prog (cR Try.prog [(13,wZ),(12,oj),(11,pN),(10,sE),(9,sP)] [il,lu] (fun _=>false)) 9 9 3 8186 (fh Try.prog 3 8186) yI
def fA (x:dr):aE dr:=
 (cond (decide (x.i < ((x.a.n:Nat):Int)))
 (cond ((decide ((0:Int)≤x.i)) && (decide (x.i < ((x.a.n:Nat):Int))))
 (cond ((decide ((0:Int)≤(aB (x.i - (1:Int))))) && (decide ((aB (x.i - (1:Int))) < ((x.a.n:Nat):Int))))
 (cond (decide ((x.a.get (Int.toNat x.i)).item < (x.a.get (Int.toNat (aB (x.i - (1:Int))))).item))
 (.out av.ai.ret (⟨false,x.ok,x.a,x.b,x.all,x.i,x.s⟩:dr))
 (cond ((decide ((0:Int)≤x.i)) && (decide (x.i < ((x.a.n:Nat):Int))))
 (cond ((decide ((0:Int)≤(aB (x.i - (1:Int))))) && (decide ((aB (x.i - (1:Int))) < ((x.a.n:Nat):Int))))
 (cond ((x.a.get (Int.toNat x.i)).item == (x.a.get (Int.toNat (aB (x.i - (1:Int))))).item)
 (cond ((decide ((0:Int)≤x.i)) && (decide (x.i < ((x.a.n:Nat):Int))))
 (cond ((decide ((0:Int)≤(aB (x.i - (1:Int))))) && (decide ((aB (x.i - (1:Int))) < ((x.a.n:Nat):Int))))
 (cond (decide ((x.a.get (Int.toNat x.i)).GD≤(x.a.get (Int.toNat (aB (x.i - (1:Int))))).GD))
 (.out av.ai.ret (⟨false,x.ok,x.a,x.b,x.all,x.i,x.s⟩:dr))
 (.next (⟨x.t4,x.ok,x.a,x.b,x.all,(aB (x.i+(1:Int))),x.s⟩:dr)))
 .fail)
 .fail)
 (.next (⟨x.t4,x.ok,x.a,x.b,x.all,(aB (x.i+(1:Int))),x.s⟩:dr)))
 .fail)
 .fail))
 .fail)
 .fail)
 (.out (av.ai.exit 4) x))
theorem El (x:dr):GU (oS x) (oT x)=aE.enc oS oT (fA x):=by
  unfold fA
  try simp only [aE.dc]
  kernel_rfl
def mZ:Lp:=⟨3,8186,yI,fun vs rs=>dt oS oT (goN fA (ya vs rs)) [av.ai.exit 4,av.ai.ret],false⟩
theorem yb:mZ.Ok Try.prog:=fQ funcs mixed (aw.cons tw (aw.cons nN (aw.cons oL (aw.cons qD (aw.cons qG aw.nil))))) (aF.cons nh lF (aF.cons rS pP aF.nil)) (L:=9) (n:=9) (step:=fA) (ev:=oS) (er:=oT) (pa:=ya) rfl (fun wv wr=>⟨by kernel_rfl,by kernel_rfl⟩) El
theorem uQ:cH Try.prog mZ.f mZ.p=true:=by kernel_rfl
structure cJ where
  t4:Bool
  ok:Bool
  a:(Sl aZ)
  b:(Sl aZ)
  all:Int
  i:Int
  s:Show
instance:Inhabited cJ:=⟨⟨default,default,default,default,default,default,default⟩⟩
def nV (x:cJ):List KV:=[.bool x.t4,.bool x.ok,ij 47 fc x.a,ij 47 fc x.b,.int .i64 x.all,.int .i64 x.i]
def nW (x:cJ):List (List KV):=[lC x.s]
def wq (vs:List KV) (rs:List (List KV)):cJ:=⟨l7 (vs.getD 0 .aq),l7 (vs.getD 1 .aq),hZ fD (vs.getD 2 .aq),hZ fD (vs.getD 3 .aq),intOf (vs.getD 4 .aq),intOf (vs.getD 5 .aq),lD (fun k=>(rs.getD 0 []).getD k .aq)⟩
def yc:aD:=⟨[(4,⟨false,[.k .bool]⟩),(5,⟨false,[.k .bool]⟩),(6,⟨false,[.k (.slice 47)]⟩),(8,⟨false,[.k (.slice 47)]⟩),(10,⟨false,[.k (.int .i64)]⟩),(18,⟨false,[.k (.int .i64)]⟩)],[(2,[.k (.slice 45),.k (.slice 108)],1)],[(2,0,0)]⟩
def E4:=ky Try.prog (cR Try.prog [(13,wZ),(12,oj),(11,pN),(10,sE),(9,sP)] [il,lu,mZ] (fun _=>false)) 9 9 3 16378 (fh Try.prog 3 16378) yc
def e8 (x:cJ):aE cJ:=
 (cond (decide (x.i < ((x.b.n:Nat):Int)))
 (cond ((decide ((0:Int)≤(aB (x.i - (1:Int))))) && (decide ((aB (x.i - (1:Int))) < ((x.b.n:Nat):Int))))
 (cond ((decide ((0:Int)≤(x.b.get (Int.toNat (aB (x.i - (1:Int))))).item)) && (decide ((x.b.get (Int.toNat (aB (x.i - (1:Int))))).item < ((x.s.items.n:Nat):Int))))
 (cond ((decide ((0:Int)≤x.i)) && (decide (x.i < ((x.b.n:Nat):Int))))
 (cond ((decide ((0:Int)≤(x.b.get (Int.toNat x.i)).item)) && (decide ((x.b.get (Int.toNat x.i)).item < ((x.s.items.n:Nat):Int))))
 (cond (decide ((x.s.items.get (Int.toNat (x.b.get (Int.toNat x.i)).item)).look.bin < (x.s.items.get (Int.toNat (x.b.get (Int.toNat (aB (x.i - (1:Int))))).item)).look.bin))
 (.out av.ai.ret (⟨false,x.ok,x.a,x.b,x.all,x.i,x.s⟩:cJ))
 (cond ((x.s.items.get (Int.toNat (x.b.get (Int.toNat x.i)).item)).look.bin == (x.s.items.get (Int.toNat (x.b.get (Int.toNat (aB (x.i - (1:Int))))).item)).look.bin)
 (cond ((decide ((0:Int)≤x.i)) && (decide (x.i < ((x.b.n:Nat):Int))))
 (cond ((decide ((0:Int)≤(aB (x.i - (1:Int))))) && (decide ((aB (x.i - (1:Int))) < ((x.b.n:Nat):Int))))
 (cond (decide ((x.b.get (Int.toNat x.i)).item < (x.b.get (Int.toNat (aB (x.i - (1:Int))))).item))
 (.out av.ai.ret (⟨false,x.ok,x.a,x.b,x.all,x.i,x.s⟩:cJ))
 (cond ((decide ((0:Int)≤x.i)) && (decide (x.i < ((x.b.n:Nat):Int))))
 (cond ((decide ((0:Int)≤(aB (x.i - (1:Int))))) && (decide ((aB (x.i - (1:Int))) < ((x.b.n:Nat):Int))))
 (cond ((x.b.get (Int.toNat x.i)).item == (x.b.get (Int.toNat (aB (x.i - (1:Int))))).item)
 (cond ((decide ((0:Int)≤x.i)) && (decide (x.i < ((x.b.n:Nat):Int))))
 (cond ((decide ((0:Int)≤(aB (x.i - (1:Int))))) && (decide ((aB (x.i - (1:Int))) < ((x.b.n:Nat):Int))))
 (cond (decide ((x.b.get (Int.toNat x.i)).GD≤(x.b.get (Int.toNat (aB (x.i - (1:Int))))).GD))
 (.out av.ai.ret (⟨false,x.ok,x.a,x.b,x.all,x.i,x.s⟩:cJ))
 (.next (⟨x.t4,x.ok,x.a,x.b,x.all,(aB (x.i+(1:Int))),x.s⟩:cJ)))
 .fail)
 .fail)
 (.next (⟨x.t4,x.ok,x.a,x.b,x.all,(aB (x.i+(1:Int))),x.s⟩:cJ)))
 .fail)
 .fail))
 .fail)
 .fail)
 (.next (⟨x.t4,x.ok,x.a,x.b,x.all,(aB (x.i+(1:Int))),x.s⟩:cJ))))
 .fail)
 .fail)
 .fail)
 .fail)
 (.out (av.ai.exit 6) x))
theorem C3 (x:cJ):E4 (nV x) (nW x)=aE.enc nV nW (e8 x):=by
  unfold e8
  try simp only [aE.dc]
  kernel_rfl
def oU:Lp:=⟨3,16378,yc,fun vs rs=>dt nV nW (goN e8 (wq vs rs)) [av.ai.exit 6,av.ai.ret],false⟩
theorem E5:oU.Ok Try.prog:=fQ funcs mixed (aw.cons tw (aw.cons nN (aw.cons oL (aw.cons qD (aw.cons qG aw.nil))))) (aF.cons nh lF (aF.cons rS pP (aF.cons yb uQ aF.nil))) (L:=9) (n:=9) (step:=e8) (ev:=nV) (er:=nW) (pa:=wq) rfl (fun wv wr=>⟨by kernel_rfl,by kernel_rfl⟩) C3
theorem BJ:cH Try.prog oU.f oU.p=true:=by kernel_rfl
def yw:List (Nat×(List KV→KR KV)):=[(13,wZ),(12,oj),(11,pN),(10,sE),(9,sP)]
def yx:List Lp:=[il,lu,mZ,oU]
theorem Mg:aw Try.prog yw:=(aw.cons tw (aw.cons nN (aw.cons oL (aw.cons qD (aw.cons qG aw.nil)))))
theorem Mh:aF Try.prog yx:=(aF.cons nh lF (aF.cons rS pP (aF.cons yb uQ (aF.cons E5 BJ aF.nil))))
def xc (s:Show) (items:(Sl Int)):(Option Bool):=(sD s)
def kv (s:Show) (items:(Sl Int)):(Option (Prod (Sl aZ) Int)):=(pM s items)
def kx (s:Show) (items:(Sl Int)):(Option (Prod (Sl aZ) Int)):=(oi s items)
def gi (s:Show) (items:(Sl Int)):(aE dI):=(goN fy (⟨items,false,true,((kv s items).getD default).fst,((kx s items).getD default).fst,(0:Int),(0:Int),s⟩:dI))
def gj (s:Show) (items:(Sl Int)):(aE dr):=(goN fA (⟨(gi s items).st.t4,(gi s items).st.ok,(gi s items).st.a,(gi s items).st.b,(gi s items).st.all,(1:Int),(gi s items).st.s⟩:dr))
def jt (s:Show) (items:(Sl Int)):(aE cJ):=(goN e8 (⟨(gj s items).st.t4,(gj s items).st.ok,(gj s items).st.a,(gj s items).st.b,(gj s items).st.all,(1:Int),(gj s items).st.s⟩:cJ))
def vX (s:Show) (items:(Sl Int)):Option (Bool):=
 (cond (xc s items).isSome
 (cond ((xc s items).getD default)
 (some (true))
 (cond (decide (((items.n:Nat):Int) > (300:Int)))
 (some (true))
 (cond (kv s items).isSome
 (cond (kx s items).isSome
 (cond (((kv s items).getD default).snd != (0:Int))
 (cond (((kv s items).getD default).snd == ((kx s items).getD default).snd)
 (cond (((((kv s items).getD default).fst.n:Nat):Int) == (0:Int))
 (some ((((((kx s items).getD default).fst.n:Nat):Int) == (0:Int))))
 (some (false)))
 (some (false)))
 (cond (((kx s items).getD default).snd != (0:Int))
 (cond (((kv s items).getD default).snd == ((kx s items).getD default).snd)
 (cond (((((kv s items).getD default).fst.n:Nat):Int) == (0:Int))
 (some ((((((kx s items).getD default).fst.n:Nat):Int) == (0:Int))))
 (some (false)))
 (some (false)))
 (cond ((gi s items).by (av.ai.exit 0))
 (cond ((gj s items).by (av.ai.exit 4))
 (cond ((jt s items).by (av.ai.exit 6))
 (cond (jt s items).st.ok
 (some (((jt s items).st.all == (aB ((((jt s items).st.a.n:Nat):Int)+(((jt s items).st.b.n:Nat):Int))))))
 (some (false)))
 (cond ((jt s items).by av.ai.ret)
 (some ((jt s items).st.t4))
 none))
 (cond ((gj s items).by av.ai.ret)
 (some ((gj s items).st.t4))
 none))
 (cond ((gi s items).by av.ai.ret)
 (some ((gi s items).st.t4))
 none))))
 none)
 none)))
 none)
theorem Ny (s:Show) (items:(Sl Int)):lL Try.prog (cR Try.prog yw yx (fun _=>false)) 9 9 3 [yr s,(ij 3 (kI .i64)) items] = (vX s items).map kB:=by
  unfold vX
  try simp only [jG]
  kernel_rfl
theorem Mi (w:Nat→KV):iC Try.prog [25,26] w 0 = [yr (sW (cf Try.prog (aK Try.prog a6) 25 (w 0))),(ij 3 (kI .i64)) ((hZ intOf) (cf Try.prog (aK Try.prog a6) 26 (w 1)))]:=by kernel_rfl
end
end Go.Proofs.Ytahhdndhkgbcjaa.b
end
section
namespace Go.Proofs.Ytahhdndhkgbcjaa.b
open Go.K Go.K.vV
open Go.av (ai)
set_option linter.unusedSimpArgs false
set_option linter.unusedVariables false
structure aeG (s:Show) (items:Sl Int) (a b:Sl aZ):Prop where
  an:a.n≤20000
  bn:b.n≤20000
  a:∀ i k:Nat,i < items.n→k < (de s items i).dp.n→lG (s7 ⟨items.get i,(k:Int)⟩) a.get 0 a.n=cond ((de s items i).look.cQ == false) 1 0
  b:∀ i k:Nat,i < items.n→k < (de s items i).dp.n→lG (s7 ⟨items.get i,(k:Int)⟩) b.get 0 b.n=cond ((de s items i).look.cQ == true) 1 0
theorem aal (s:Show) (items:Sl Int) (a b:Sl aZ) (hB:aeG s items a b) (i:Nat) (hi:i < items.n) (Yt:items.n≤300) (h64:(de s items i).dp.n≤64) (all:Nat) (ha:all≤100000) (t4:Bool) :
    ∃ k:Int,goN eH ⟨items,t4,true,a,b,(all:Int),(i:Int),(0:Int),s,de s items i⟩ = .out (.exit 2) ⟨items,t4,true,a,b,((all+(de s items i).dp.n:Nat):Int),(i:Int),k,s,de s items i⟩:=by
  refine Exists.elim (dP (step:=eH) (x:=⟨items,t4,true,a,b,(all:Int),(i:Int),(0:Int),s,de s items i⟩) (fun k y=>y=⟨items,t4,true,a,b,((all+k:Nat):Int),(i:Int),(k:Int),s,de s items i⟩∧k≤(de s items i).dp.n) (fun x y=>x = .exit 2∧∃ k:Int,y=⟨items,t4,true,a,b,((all+(de s items i).dp.n:Nat):Int),(i:Int),k,s,de s items i⟩) (de s items i).dp.n (by have:mV=1000000000000:=rfl; omega) (fun k y hk ⟨hy,g1⟩=>?_) ⟨rfl,Nat.zero_le _⟩) fun x ⟨y,hy,he,k,hl⟩=>⟨k,by rw [hy,he,hl]⟩
  subst hy
  unfold eH
  by_cases aL:k < (de s items i).dp.n
  · have e0:iE ⟨items,t4,true,a,b,((all+k:Nat):Int),(i:Int),(k:Int),s,de s items i⟩=some ((lG (s7 ⟨items.get i,(k:Int)⟩) a.get 0 a.n:Nat):Int):=by
      unfold iE
      simp only [Int.toNat_natCast]
      exact YQ a _ (by have:=hB.an; omega)
    have e1:iG ⟨items,t4,true,a,b,((all+k:Nat):Int),(i:Int),(k:Int),s,de s items i⟩=some ((lG (s7 ⟨items.get i,(k:Int)⟩) b.get 0 b.n:Nat):Int):=by
      unfold iG
      simp only [Int.toNat_natCast]
      exact YQ b _ (by have:=hB.bn; omega)
    rw [hB.a i k hi aL] at e0
    rw [hB.b i k hi aL] at e1
    have ov:=Ak hi
    simp only [decide_eq_true (show (k:Int) < (((de s items i).dp.n:Nat):Int) by omega),cond_true,ov,e0,e1,Option.isSome_some,Option.getD_some,s8 (show all+k≤100000000000 by omega),s8 (show k≤100000000000 by omega)]
    cases hb:(de s items i).look.cQ with
    | true=>exact .inl ⟨_,rfl,aL,rfl,aL⟩
    | false=>exact .inl ⟨_,rfl,aL,rfl,aL⟩
  · simp only [decide_eq_false (show ¬ (k:Int) < (((de s items i).dp.n:Nat):Int) by omega),cond_false]
    have:k=(de s items i).dp.n:=by omega
    subst this
    exact .inr ⟨_,_,rfl,rfl,rfl,_,rfl⟩
theorem acx {s:Show} {items:Sl Int} : ∀ i,mq s items false (i+1)+mq s items true (i+1)=mq s items false i+mq s items true i+(de s items i).dp.n:=fun i=>by
  rw [mq,mq]
  cases (de s items i).look.cQ <;> simp <;> omega
theorem aam (s:Show) (items:Sl Int) (a b:Sl aZ) (hs:vU s) (hi:x8 s items items.n) (hB:aeG s items a b) (Yt:items.n≤300) (t4:Bool) :
    ∃ k:Int,goN fy ⟨items,t4,true,a,b,(0:Int),(0:Int),s⟩ = .out (.exit 0) ⟨items,t4,true,a,b,((mq s items false items.n+mq s items true items.n:Nat):Int),k,s⟩:=by
  refine Exists.elim (dP (step:=fy) (x:=⟨items,t4,true,a,b,(0:Int),(0:Int),s⟩) (fun i y=>y=⟨items,t4,true,a,b,((mq s items false i+mq s items true i:Nat):Int),(i:Int),s⟩∧i≤items.n) (fun x y=>x = .exit 0∧∃ k:Int,y=⟨items,t4,true,a,b,((mq s items false items.n+mq s items true items.n:Nat):Int),k,s⟩) items.n (by have:mV=1000000000000:=rfl; omega) (fun i y hk ⟨hy,g1⟩=>?_) ⟨rfl,Nat.zero_le _⟩) fun x ⟨y,hy,he,k,hl⟩=>⟨k,by rw [hy,he,hl]⟩
  subst hy
  unfold fy
  by_cases aL:i < items.n
  · have YM:=hi.1 i aL
    have h64:(de s items i).dp.n≤64:=(hs.2 (Int.toNat (items.get i)) (by omega)).2.1
    have oO:x8 s items i:=⟨fun j hj=>hi.1 j (by omega),fun j j' q1 q2=>hi.2 j j' q1 (by omega)⟩
    have s1:=Mf hs (bl:=false) oO
    have s2:=Mf hs (bl:=true) oO
    obtain ⟨k,qO⟩:=aal s items a b hB i aL Yt h64 (mq s items false i+mq s items true i) (by omega) t4
    have e0:bC ⟨items,t4,true,a,b,((mq s items false i+mq s items true i:Nat):Int),(i:Int),s⟩ = .out (.exit 2) ⟨items,t4,true,a,b,((mq s items false i+mq s items true i+(de s items i).dp.n:Nat):Int),(i:Int),k,s,de s items i⟩:=by
      unfold bC
      simp only [Int.toNat_natCast]
      exact qO
    have ov:((decide ((0:Int)≤items.get i)) && (decide (items.get i < ((s.items.n:Nat):Int))))=true:=by
      rw [Bool.and_eq_true]; exact ⟨decide_eq_true YM.1,decide_eq_true YM.2⟩
    have TN:=Ak aL
    simp only [decide_eq_true (show (i:Int) < ((items.n:Nat):Int) by omega),cond_true,TN,Int.toNat_natCast,ov,e0,aE.jB,aE.js,dM,Nat.beq_refl,s8 (show i≤100000000000 by omega)]
    exact .inl ⟨_,rfl,aL,by rw [acx],aL⟩
  · simp only [decide_eq_false (show ¬ (i:Int) < ((items.n:Nat):Int) by omega),cond_false]
    have:i=items.n:=by omega
    subst this
    exact .inr ⟨_,_,rfl,rfl,rfl,_,rfl⟩
theorem aeH (s:Show) (a b:Sl aZ) (all:Int) (t4:Bool) (hn:a.n≤20000) (hr:∀ t t',t < t'→t' < a.n→lex (a.get t) (a.get t')) :
    ∃ k:Int,goN fA ⟨t4,true,a,b,all,(1:Int),s⟩ = .out (.exit 4) ⟨t4,true,a,b,all,k,s⟩:=by
  refine Exists.elim (dP (step:=fA) (x:=⟨t4,true,a,b,all,(1:Int),s⟩) (fun i y=>y=⟨t4,true,a,b,all,((i+1:Nat):Int),s⟩∧(i=0∨i+1≤a.n)) (fun x y=>x = .exit 4∧∃ k:Int,y=⟨t4,true,a,b,all,k,s⟩) a.n (by have:mV=1000000000000:=rfl; omega) (fun i y hk ⟨hy,g1⟩=>?_) ⟨rfl,.inl rfl⟩) fun x ⟨y,hy,he,k,hl⟩=>⟨k,by rw [hy,he,hl]⟩
  subst hy
  unfold fA
  by_cases aL:i+1 < a.n
  · have w:=Ke (i:=i+1) (by omega) (by omega)
    rw [Nat.add_sub_cancel] at w
    have h1:=Ak aL
    have h2:=Ak (show i < a.n by omega)
    have hx:=hr i (i+1) (by omega) aL
    simp only [decide_eq_true (show ((i+1:Nat):Int) < ((a.n:Nat):Int) by omega),cond_true,w,h1,h2,Int.toNat_natCast,s8 (show i+1≤100000000000 by omega)]
    rcases hx with hx | ⟨hx,Vz⟩
    · rw [decide_eq_false (show ¬ (a.get (i+1)).item < (a.get i).item by omega),cond_false,show ((a.get (i+1)).item == (a.get i).item)=false by simpa using (show ¬ (a.get (i+1)).item=(a.get i).item by omega),cond_false]
      exact .inl ⟨_,rfl,by omega,rfl,.inr (by omega)⟩
    · rw [decide_eq_false (show ¬ (a.get (i+1)).item < (a.get i).item by omega),cond_false,show ((a.get (i+1)).item == (a.get i).item)=true by simpa using hx.symm,cond_true,decide_eq_false (show ¬ (a.get (i+1)).GD≤(a.get i).GD by omega),cond_false]
      exact .inl ⟨_,rfl,by omega,rfl,.inr (by omega)⟩
  · simp only [decide_eq_false (show ¬ ((i+1:Nat):Int) < ((a.n:Nat):Int) by omega),cond_false]
    exact .inr ⟨_,_,rfl,rfl,rfl,_,rfl⟩
theorem aeI (s:Show) (a b:Sl aZ) (all:Int) (t4:Bool) (hn:b.n≤20000) (bc:∀ t,t < b.n→eZ s (b.get t)=true) (hr:eF (bB s lex) b.get 0 b.n) :
    ∃ k:Int,goN e8 ⟨t4,true,a,b,all,(1:Int),s⟩ = .out (.exit 6) ⟨t4,true,a,b,all,k,s⟩:=by
  refine Exists.elim (dP (step:=e8) (x:=⟨t4,true,a,b,all,(1:Int),s⟩) (fun i y=>y=⟨t4,true,a,b,all,((i+1:Nat):Int),s⟩∧(i=0∨i+1≤b.n)) (fun x y=>x = .exit 6∧∃ k:Int,y=⟨t4,true,a,b,all,k,s⟩) b.n (by have:mV=1000000000000:=rfl; omega) (fun i y hk ⟨hy,g1⟩=>?_) ⟨rfl,.inl rfl⟩) fun x ⟨y,hy,he,k,hl⟩=>⟨k,by rw [hy,he,hl]⟩
  subst hy
  unfold e8
  by_cases aL:i+1 < b.n
  · have w:=Ke (i:=i+1) (by omega) (by omega)
    rw [Nat.add_sub_cancel] at w
    have h1:=Ak aL
    have h2:=Ak (show i < b.n by omega)
    have o1:((decide ((0:Int)≤(b.get (i+1)).item)) && (decide ((b.get (i+1)).item < ((s.items.n:Nat):Int))))=true:=bc _ aL
    have o2:((decide ((0:Int)≤(b.get i).item)) && (decide ((b.get i).item < ((s.items.n:Nat):Int))))=true:=bc _ (by omega)
    have hx:=hr i (i+1) (Nat.zero_le _) (by omega) aL
    simp only [decide_eq_true (show ((i+1:Nat):Int) < ((b.n:Nat):Int) by omega),cond_true,w,h1,h2,o1,o2,Int.toNat_natCast,s8 (show i+1≤100000000000 by omega)]
    rcases hx with hx | ⟨hx,Vz⟩
    · have hx:(s.items.get (Int.toNat (b.get i).item)).look.bin < (s.items.get (Int.toNat (b.get (i+1)).item)).look.bin:=hx
      rw [decide_eq_false (show ¬ (s.items.get (Int.toNat (b.get (i+1)).item)).look.bin < (s.items.get (Int.toNat (b.get i).item)).look.bin by omega),cond_false,show ((s.items.get (Int.toNat (b.get (i+1)).item)).look.bin == (s.items.get (Int.toNat (b.get i).item)).look.bin)=false by simpa using (show ¬ (s.items.get (Int.toNat (b.get (i+1)).item)).look.bin=(s.items.get (Int.toNat (b.get i).item)).look.bin by omega),cond_false]
      exact .inl ⟨_,rfl,by omega,rfl,.inr (by omega)⟩
    · have hx:(s.items.get (Int.toNat (b.get i).item)).look.bin=(s.items.get (Int.toNat (b.get (i+1)).item)).look.bin:=hx
      rw [decide_eq_false (show ¬ (s.items.get (Int.toNat (b.get (i+1)).item)).look.bin < (s.items.get (Int.toNat (b.get i).item)).look.bin by omega),cond_false,show ((s.items.get (Int.toNat (b.get (i+1)).item)).look.bin == (s.items.get (Int.toNat (b.get i).item)).look.bin)=true by simpa using hx.symm,cond_true]
      rcases Vz with Vz | ⟨Vz,hx3⟩
      · rw [decide_eq_false (show ¬ (b.get (i+1)).item < (b.get i).item by omega),cond_false,show ((b.get (i+1)).item == (b.get i).item)=false by simpa using (show ¬ (b.get (i+1)).item=(b.get i).item by omega),cond_false]
        exact .inl ⟨_,rfl,by omega,rfl,.inr (by omega)⟩
      · rw [decide_eq_false (show ¬ (b.get (i+1)).item < (b.get i).item by omega),cond_false,show ((b.get (i+1)).item == (b.get i).item)=true by simpa using Vz.symm,cond_true,decide_eq_false (show ¬ (b.get (i+1)).GD≤(b.get i).GD by omega),cond_false]
        exact .inl ⟨_,rfl,by omega,rfl,.inr (by omega)⟩
  · simp only [decide_eq_false (show ¬ ((i+1:Nat):Int) < ((b.n:Nat):Int) by omega),cond_false]
    exact .inr ⟨_,_,rfl,rfl,rfl,_,rfl⟩
theorem Wy (s:Show) (items:Sl Int):vX s items=some true:=by
  obtain ⟨g,hg⟩:=agR (aco s)
  have e0:xc s items=some g:=hg
  unfold vX
  rw [e0]
  simp only [Option.isSome_some,Option.getD_some,cond_true]
  cases g with
  | true=>rfl
  | false=>
  rw [cond_false]
  rcases Nat.lt_or_ge 300 items.n with hn | hn
  · rw [decide_eq_true (show ((items.n:Nat):Int) > (300:Int) by omega)]; rfl
  rw [decide_eq_false (show ¬ ((items.n:Nat):Int) > (300:Int) by omega),cond_false]
  obtain ⟨e,he,bc⟩:=Pd s
  obtain ⟨a,ea,a1,a2,a3,a4⟩:=Wx s items hn he bc
  obtain ⟨b,eb,b1,b2,b3,b4⟩:=Tt s items hn he bc
  have e1:kv s items=some (a,ea):=a1
  have e2:kx s items=some (b,eb):=b1
  rw [e1,e2]
  simp only [Option.isSome_some,Option.getD_some,cond_true]
  by_cases hz:e=0
  · by_cases oO:x8 s items items.n
    · obtain ⟨rfl,ha⟩:=a4 hz oO
      obtain ⟨rfl,hb⟩:=b4 hz oO
      obtain ⟨w,w1,w2,w3,w4⟩:=hb.g
      have hs:=bc hz
      have an:=ha.small hs oO hn (Nat.zero_le _)
      have wn:=w1.small hs oO hn (Nat.zero_le _)
      have hB:aeG s items a b:=⟨an,by omega,fun i k hi hk=>abr ha hi hk,fun i k hi hk=>by rw [w2,w4]; exact abr w1 hi hk⟩
      obtain ⟨k1,h3⟩:=aam s items a b hs oO hB hn false
      have e3:gi s items = .out (.exit 0) ⟨items,false,true,a,b,((mq s items false items.n+mq s items true items.n:Nat):Int),k1,s⟩:=by
        unfold gi
        rw [e1,e2]
        exact h3
      obtain ⟨k2,h4⟩:=aeH s a b ((mq s items false items.n+mq s items true items.n:Nat):Int) false an ha.GQ
      have e4:gj s items = .out (.exit 4) ⟨false,true,a,b,((mq s items false items.n+mq s items true items.n:Nat):Int),k2,s⟩:=by
        unfold gj
        rw [e3]
        exact h4
      obtain ⟨k3,h5⟩:=aeI s a b ((mq s items false items.n+mq s items true items.n:Nat):Int) false (by omega) (fun t ht=>by
        obtain ⟨t',_,p1,p2⟩:=GN (a:=0) (k:=w.n) w4 (Nat.zero_le t) (by omega)
        obtain ⟨j,kk,p3,p4,_⟩:=w1.mem t' (by omega)
        have hj:j < items.n:=by omega
        have:=oO.1 j hj
        unfold eZ
        rw [p2,p4,Bool.and_eq_true]
        exact ⟨decide_eq_true this.1,decide_eq_true this.2⟩) (by rw [w2]; exact w3)
      have e5:jt s items = .out (.exit 6) ⟨false,true,a,b,((mq s items false items.n+mq s items true items.n:Nat):Int),k3,s⟩:=by
        unfold jt
        rw [e4]
        exact h5
      rw [e3,e4,e5]
      simp only [bne_self_eq_false,cond_false,cond_true,aE.jB,aE.js,dM,Nat.beq_refl]
      have h6:a.n=mq s items false items.n:=by rw [ha.n]; cases ((de s items items.n).look.cQ == false) <;> rfl
      have h7:w.n=mq s items true items.n:=by rw [w1.n]; cases ((de s items items.n).look.cQ == true) <;> rfl
      rw [OC (by omega),w2,h6,h7]
      simp
    · obtain ⟨q1,q2⟩:=a3 hz oO
      obtain ⟨q3,q4⟩:=b3 hz oO
      rw [q1,q3,q2,q4]
      rfl
  · obtain ⟨q1,q2⟩:=a2 hz
    obtain ⟨q3,q4⟩:=b2 hz
    rw [q1,q3,q2,q4,show (e != (0:Int))=true by simpa using hz]
    simp
end Go.Proofs.Ytahhdndhkgbcjaa.b
end
section
namespace Go.av
open Go.RowKit Go.WideShapes Go.ChangeShapes
theorem YR {H:Type} {enc:TypeId×Value→H} {P:Program} {f:Func} {s:ChangeSpec} {apart fresh handsOn again:Bool} {W W' : World} {args:Array Value} {v:Value} {ds gs:List (DataW H)} {before pa pv:List MemPlace}
    (whole:DataW.Whole enc P f.params.toList s.vars apart W args.toList ds gs before) (below:Below W.heap.size W W') (PC:before=pa ++ pv)
    (res:∀ (b:Nat) (sp:Nat→Bool) (hd:Bool),DataW.TrodAll enc P W' b sp hd f.resultTypes.toList (v.resultList f.resultTypes.size) (s.fn H (ds ++ gs)).results [])
    (arg:∀ sp:Nat→Bool,(∀ p ∈ before,sp p.block=true)→DataW.TrodAll enc P W' 0 sp true f.params.toList args.toList (s.fn H (ds ++ gs)).args pa)
    (var:∀ sp:Nat→Bool,(∀ p ∈ before,sp p.block=true)→DataW.TrodVars enc P W' sp s.vars (s.fn H (ds ++ gs)).vars pv)
    (wide:∀ (j:Nat) (t:TypeId) (r:Value),f.resultTypes[j]? = some t→(v.resultList f.resultTypes.size)[j]? = some r→Value.okWide P W' .any 0 t r) :
    s.post enc P f apart fresh handsOn again W args v W':=by
  have lt:∀ p ∈ before,p.block < W.heap.size:=fun p hp=>whole.lt p hp
  have fB:∀ p ∈ before,(fun b=>decide (b < W.heap.size)) p.block=true:=fun p hp=>by simpa using lt p hp
  refine ⟨ds,gs,before,[],pa,pv,whole,res _ _ _,arg _ fB,var _ fB,World.keptBut_mono (fun p hp=>⟨hp,?_⟩) (below.frame (· ∈ before)),fun _=>?_⟩
  · rw [PC,List.mem_append] at hp; exact Or.inr hp
  · obtain ⟨_,_,_,_,_,fz,nd⟩:=whole
    refine ⟨wide,_,_,([] ++ pa) ++ pv,⟨[] ++ pa,pv,trodAll_append (arg _ (fun _ _=>rfl)) (res _ _ _),var _ (fun _ _=>rfl),rfl,fun b off hp=>?_,fun ha=>?_⟩,fun p hp _=>?_⟩
    · have here:MemPlace.cell b off ∈ before:=by rw [PC]; simpa using hp
      rw [below.frozen (lt _ here)]
      exact fz b off here
    · have:=nd ha
      rw [PC] at this
      simpa using this
    · rw [PC]; simpa using hp
end Go.av
end
section
namespace Go.K
open Go Go.av Go.RowKit Go.WideShapes Go.ChangeShapes
section
variable {H:Type} {enc:TypeId×Value→H} {P:Program} {W W' : World}
theorem Mj {base:Nat} {sp:Nat→Bool} {held:Bool} : ∀ {ts:List TypeId} {vs:List Value} {ds:List (DataW H)} {ps:List MemPlace},DataW.TrodAll enc P W base sp held ts vs ds ps→ds.length=ts.length
  | [],_,_,_,h=>by
    obtain ⟨rfl,rfl,rfl⟩:=trodAll_nil h
    rfl
  | t :: ts,vs,ds,ps,h=>by
    obtain ⟨v,Yk,d,ds1,a,b,rfl,rfl,rfl,_,h2⟩:=trodAll_cons h
    simp [Mj h2]
theorem Uw {α:Type} {n:Nat} {l:List α} (h:l.length=n+1):∃ x xs,l=x :: xs:=by
  cases l with
  | nil=>simp at h
  | cons x xs=>exact ⟨x,xs,rfl⟩
theorem GV (hl:laidOutB P=true) (hb:Below W.heap.size W W') {sp:Nat→Bool} : ∀ {ts:List TypeId} {vs:List Value} {ds:List (DataW H)} {ps:List MemPlace},ts.all (fun t=>P.readableRec t && Nat.blt t P.types.size)=true→
    DataW.TrodAll enc P W 0 (fun _=>true) true ts vs ds ps→(∀ x ∈ ps,x.block < W.heap.size)→(∀ x ∈ ps,sp x.block=true)→DataW.TrodAll enc P W' 0 sp true ts vs ds ps
  | [],_,_,_,_,h,_,_=>by
    obtain ⟨rfl,rfl,rfl⟩:=trodAll_nil h
    exact trodAll_mk0
  | t :: ts,vs,ds,ps,ht,h,aL,qt=>by
    obtain ⟨v,Yk,d,ds1,a,b,rfl,rfl,rfl,h1,h2⟩:=trodAll_cons h
    simp only [List.all_cons,Bool.and_eq_true] at ht
    obtain ⟨⟨hr,iq⟩,ht⟩:=ht
    rw [Nat.blt_eq] at iq
    refine ⟨a,b,WideElems.Trod_stays hl hr iq h1 (fun x hx=>hb.same (aL x (by simp [hx]))) (fun x hx=>qt x (by simp [hx])),?_,rfl⟩
    exact GV hl hb ht h2 (fun x hx=>aL x (by simp [hx])) (fun x hx=>qt x (by simp [hx]))
theorem acz {s:ChangeSpec} {f:Func} {apart fresh handsOn again:Bool} {args:Array Value} {ds gs:List (DataW H)} {before:List MemPlace} (hl:laidOutB P=true) (hts:f.params.toList.all (fun t=>P.readableRec t && Nat.blt t P.types.size)=true)
    (aeJ:s.vars = []) (Zx:(s.fn H ds).args=ds) (AA:(s.fn H ds).results = [.lit (.bool true)]) (hv:(s.fn H ds).vars = []) {t:TypeId} (hrt:f.resultTypes = #[t]) (hb:P.underlying t=some .bool)
    (hW:DataW.Whole enc P f.params.toList s.vars apart W args.toList ds gs before) (hg:Below W.heap.size W W'):s.post enc P f apart fresh handsOn again W args (.bool true) W':=by
  have hW':=hW
  obtain ⟨p,q,hA,hV,agh,_,_⟩:=hW
  rw [aeJ] at hV
  obtain ⟨rfl,rfl⟩:=trodVars_none hV
  rw [List.append_nil] at agh
  subst agh
  have aL:∀ x ∈ before,x.block < W.heap.size:=fun x hx=>hW'.lt x (by simpa using hx)
  refine av.YR (pa:=before) (pv:=[]) hW' hg (by simp) (fun b sp hd=>?_) (fun sp qt=>?_) (fun sp qt=>?_) (ok_one hrt rfl (okWide_bool_mk hb _))
  · rw [List.append_nil,AA,hrt]
    exact trodAll_cons_mk (shut_bool hb _) trodAll_mk0
  · rw [List.append_nil,Zx]
    exact GV hl hg hts hA aL (fun x hx=>qt x (by simpa using hx))
  · rw [List.append_nil,hv,aeJ]
    rfl
end
end Go.K
end
