/- Part of the proof of ImageColors: a machine that runs the program's code over open terms, shown to be the model's, and the plain models of its functions. No conditions. -/
import Derived.Test.YtahhdndhkgbcjaaJp
import Derived.Below
import Derived.ChangeSame
import Derived.ProofKit
import Derived.Test.YtahhdndhkgbcjaaHp
import Derived.WideKeyArgs
section
namespace Go.Proofs.Ytahhdndhkgbcjaa.b
open Go.K Go.K.tr
open Go.aE (aq)
theorem adp (h:aB) (D:Sl aU) (fZ:aU→aU→Prop) (a m b:Nat) (h1:a+1=m) (h2:m≤b) (h4:b≤D.n) (h3:D.n≤10000000000) (cg:∀ t,t < D.n→hJ h (D.get t)=true) (hs:gj (bK h fZ) D.get m b) :
  ∃ i:Nat,goN cZ ⟨D,(a:Int),(m:Int),(b:Int),(m:Int),(b:Int),h⟩ = .out (.exit 0) ⟨D,(a:Int),(m:Int),(b:Int),(i:Int),(i:Int),h⟩∧m≤i∧i≤b∧(∀ t,m≤t→t < i→bV h (D.get t) < bV h (D.get a))∧∀ t,i≤t→t < b→bV h (D.get a)≤bV h (D.get t):=by
 refine Exists.elim (dE (step:=cZ) (x:=⟨D,(a:Int),(m:Int),(b:Int),(m:Int),(b:Int),h⟩) (fun k y=>∃ i j:Nat,y=⟨D,(a:Int),(m:Int),(b:Int),(i:Int),(j:Int),h⟩∧m≤i∧i≤j∧j≤b∧j - i+k≤b - m∧(∀ t,m≤t→t < i→bV h (D.get t) < bV h (D.get a))∧∀ t,j≤t→t < b→bV h (D.get a)≤bV h (D.get t)) (fun e y=>e = .exit 0∧∃ i:Nat,y=⟨D,(a:Int),(m:Int),(b:Int),(i:Int),(i:Int),h⟩∧m≤i∧i≤b∧(∀ t,m≤t→t < i→bV h (D.get t) < bV h (D.get a))∧∀ t,i≤t→t < b→bV h (D.get a)≤bV h (D.get t)) (b - m) (by have:m6=1000000000000:=rfl; omega) (fun k y hk ⟨i,j,hy,g1,g2,g3,g4,g5,g6⟩=>?_) ⟨m,b,rfl,Nat.le_refl _,h2,Nat.le_refl _,by omega,fun t t1 t2=>by omega,fun t t1 t2=>by omega⟩) fun e ⟨y,hy,he,i,hi,q⟩=>⟨i,by rw [hy,he,hi],q⟩
 ·subst hy
  unfold cZ
  by_cases bU:i < j
  ·have hh:=ado (i:=i) (j:=j) (by omega)
   obtain ⟨r,r1,r2⟩:=Ml (bV h (D.get ((i+j) / 2))) (bV h (D.get a))
   have e0:iC ⟨D,(a:Int),(m:Int),(b:Int),(i:Int),(j:Int),h⟩=some r:=by
    unfold iC
    simp only [hh,Int.toNat_natCast,Nat.zero_add]
    exact r1
   have o1:((decide ((0:Int)≤(D.get ((i+j) / 2)).item))&&(decide ((D.get ((i+j) / 2)).item < ((h.cN.items.n:Nat):Int))))=true:=cg _ (by omega)
   have o2:((decide ((0:Int)≤(D.get a).item))&&(decide ((D.get a).item < ((h.cN.items.n:Nat):Int))))=true:=cg _ (by omega)
   simp only [hh,e0,decide_eq_true (show (i:Int) < (j:Int) by omega),cond_true,Sm (show (i+j) / 2 < D.n by omega),Sm (show a < D.n by omega),Int.toNat_natCast,Nat.zero_add,o1,o2,Option.isSome_some,Option.getD_some,bc,r2]
   by_cases hc:bV h (D.get ((i+j) / 2)) < bV h (D.get a)
   ·rw [decide_eq_true hc,cond_true,Pn (by omega)]
    refine .inl ⟨_,rfl,by omega,(i+j) / 2+1,j,rfl,by omega,by omega,g3,by omega,fun t t1 t2=>?_,g6⟩
    have:=hs.key (i:=t) (j:=(i+j) / 2) t1 (by omega) (by omega)
    exact Int.lt_of_le_of_lt this hc
   ·rw [decide_eq_false hc,cond_false]
    refine .inl ⟨_,rfl,by omega,i,(i+j) / 2,rfl,g1,by omega,by omega,by omega,g5,fun t t1 t2=>?_⟩
    have:=hs.key (i:=(i+j) / 2) (j:=t) (by omega) t1 t2
    exact Int.le_trans (Int.not_lt.1 hc) this
  ·simp only [decide_eq_false (show ¬ (i:Int) < (j:Int) by omega),cond_false,bc,cond_true]
   have:j=i:=by omega
   subst this
   exact .inr ⟨_,_,rfl,rfl,rfl,j,rfl,g1,g3,g5,g6⟩
theorem adq (h:aB) (D:Sl aU) (fZ:aU→aU→Prop) (a m b:Nat) (h2:a≤m) (h4:m < D.n) (h3:D.n≤10000000000) (cg:∀ t,t < D.n→hJ h (D.get t)=true) (hs:gj (bK h fZ) D.get a m) :
  ∃ i:Nat,goN da ⟨D,(a:Int),(m:Int),(b:Int),(a:Int),(m:Int),h⟩ = .out (.exit 4) ⟨D,(a:Int),(m:Int),(b:Int),(i:Int),(i:Int),h⟩∧a≤i∧i≤m∧(∀ t,a≤t→t < i→bV h (D.get t)≤bV h (D.get m))∧∀ t,i≤t→t < m→bV h (D.get m) < bV h (D.get t):=by
 refine Exists.elim (dE (step:=da) (x:=⟨D,(a:Int),(m:Int),(b:Int),(a:Int),(m:Int),h⟩) (fun k y=>∃ i j:Nat,y=⟨D,(a:Int),(m:Int),(b:Int),(i:Int),(j:Int),h⟩∧a≤i∧i≤j∧j≤m∧j - i+k≤m - a∧(∀ t,a≤t→t < i→bV h (D.get t)≤bV h (D.get m))∧∀ t,j≤t→t < m→bV h (D.get m) < bV h (D.get t)) (fun e y=>e = .exit 4∧∃ i:Nat,y=⟨D,(a:Int),(m:Int),(b:Int),(i:Int),(i:Int),h⟩∧a≤i∧i≤m∧(∀ t,a≤t→t < i→bV h (D.get t)≤bV h (D.get m))∧∀ t,i≤t→t < m→bV h (D.get m) < bV h (D.get t)) (m - a) (by have:m6=1000000000000:=rfl; omega) (fun k y hk ⟨i,j,hy,g1,g2,g3,g4,g5,g6⟩=>?_) ⟨a,m,rfl,Nat.le_refl _,h2,Nat.le_refl _,by omega,fun t t1 t2=>by omega,fun t t1 t2=>by omega⟩) fun e ⟨y,hy,he,i,hi,q⟩=>⟨i,by rw [hy,he,hi],q⟩
 ·subst hy
  unfold da
  by_cases bU:i < j
  ·have hh:=ado (i:=i) (j:=j) (by omega)
   obtain ⟨r,r1,r2⟩:=Ml (bV h (D.get m)) (bV h (D.get ((i+j) / 2)))
   have e0:iD ⟨D,(a:Int),(m:Int),(b:Int),(i:Int),(j:Int),h⟩=some r:=by
    unfold iD
    simp only [hh,Int.toNat_natCast,Nat.zero_add]
    exact r1
   have o1:((decide ((0:Int)≤(D.get ((i+j) / 2)).item))&&(decide ((D.get ((i+j) / 2)).item < ((h.cN.items.n:Nat):Int))))=true:=cg _ (by omega)
   have o2:((decide ((0:Int)≤(D.get m).item))&&(decide ((D.get m).item < ((h.cN.items.n:Nat):Int))))=true:=cg _ (by omega)
   simp only [hh,e0,decide_eq_true (show (i:Int) < (j:Int) by omega),cond_true,Sm (show (i+j) / 2 < D.n by omega),Sm h4,Int.toNat_natCast,Nat.zero_add,o1,o2,Option.isSome_some,Option.getD_some,bc,r2]
   by_cases hc:bV h (D.get m) < bV h (D.get ((i+j) / 2))
   ·rw [decide_eq_true hc,Bool.not_true,cond_false]
    refine .inl ⟨_,rfl,by omega,i,(i+j) / 2,rfl,g1,by omega,by omega,by omega,g5,fun t t1 t2=>?_⟩
    have:=hs.key (i:=(i+j) / 2) (j:=t) (by omega) t1 t2
    exact Int.lt_of_lt_of_le hc this
   ·rw [decide_eq_false hc,Bool.not_false,cond_true,Pn (by omega)]
    refine .inl ⟨_,rfl,by omega,(i+j) / 2+1,j,rfl,by omega,by omega,g3,by omega,fun t t1 t2=>?_,g6⟩
    have:=hs.key (i:=t) (j:=(i+j) / 2) t1 (by omega) (by omega)
    exact Int.le_trans this (Int.not_lt.1 hc)
  ·simp only [decide_eq_false (show ¬ (i:Int) < (j:Int) by omega),cond_false,bc,cond_true]
   have:j=i:=by omega
   subst this
   exact .inr ⟨_,_,rfl,rfl,rfl,j,rfl,g1,g3,g5,g6⟩
theorem Sn (h:aB) (D:Sl aU) (a m b cl s0 r0:Nat) (h1:s0≤r0) (h2:r0≤m) (h5:r0≤cl) (h6:cl+m≤b+s0) (h7:m≤b) (h4:b≤D.n) (h3:D.n≤10000000000) (h8:1≤m) (cg:∀ t,t < D.n→hJ h (D.get t)=true) :
  ∃ s:Nat,goN cr ⟨D,(a:Int),(m:Int),(b:Int),(cl:Int),((cl+m:Nat):Int),(s0:Int),(r0:Int),((cl+m - 1:Nat):Int),h⟩ = .out (.exit 8) ⟨D,(a:Int),(m:Int),(b:Int),(cl:Int),((cl+m:Nat):Int),(s:Int),(s:Int),((cl+m - 1:Nat):Int),h⟩∧s0≤s∧s≤r0∧
   (s=s0∨(s0 < s∧bV h (D.get (s - 1))≤bV h (D.get (cl+m - s))))∧(s=r0∨(s < r0∧bV h (D.get (cl+m - 1 - s)) < bV h (D.get s))):=by
 refine Exists.elim (dE (step:=cr) (x:=⟨D,(a:Int),(m:Int),(b:Int),(cl:Int),((cl+m:Nat):Int),(s0:Int),(r0:Int),((cl+m - 1:Nat):Int),h⟩) (fun k y=>∃ i j:Nat,y=⟨D,(a:Int),(m:Int),(b:Int),(cl:Int),((cl+m:Nat):Int),(i:Int),(j:Int),((cl+m - 1:Nat):Int),h⟩∧s0≤i∧i≤j∧j≤r0∧j - i+k≤r0 - s0∧(i=s0∨(s0 < i∧bV h (D.get (i - 1))≤bV h (D.get (cl+m - i))))∧(j=r0∨(j < r0∧bV h (D.get (cl+m - 1 - j)) < bV h (D.get j)))) (fun e y=>e = .exit 8∧∃ i:Nat,y=⟨D,(a:Int),(m:Int),(b:Int),(cl:Int),((cl+m:Nat):Int),(i:Int),(i:Int),((cl+m - 1:Nat):Int),h⟩∧s0≤i∧i≤r0∧(i=s0∨(s0 < i∧bV h (D.get (i - 1))≤bV h (D.get (cl+m - i))))∧(i=r0∨(i < r0∧bV h (D.get (cl+m - 1 - i)) < bV h (D.get i)))) (r0 - s0) (by have:m6=1000000000000:=rfl; omega) (fun k y hk ⟨i,j,hy,g1,g2,g3,g4,g5,g6⟩=>?_) ⟨s0,r0,rfl,Nat.le_refl _,h1,Nat.le_refl _,by omega,.inl rfl,.inl rfl⟩) fun e ⟨y,hy,he,i,hi,q⟩=>⟨i,by rw [hy,he,hi],q⟩
 ·subst hy
  unfold cr
  by_cases bU:i < j
  ·have hh:=ado (i:=i) (j:=j) (by omega)
   have hp:=Br (i:=cl+m - 1) (j:=(i+j) / 2) (by omega) (by omega)
   obtain ⟨r,r1,r2⟩:=Ml (bV h (D.get (cl+m - 1 - (i+j) / 2))) (bV h (D.get ((i+j) / 2)))
   have e0:ij ⟨D,(a:Int),(m:Int),(b:Int),(cl:Int),((cl+m:Nat):Int),(i:Int),(j:Int),((cl+m - 1:Nat):Int),h⟩=some r:=by
    unfold ij
    simp only [hh,hp,Int.toNat_natCast,Nat.zero_add]
    exact r1
   have o1:((decide ((0:Int)≤(D.get ((i+j) / 2)).item))&&(decide ((D.get ((i+j) / 2)).item < ((h.cN.items.n:Nat):Int))))=true:=cg _ (by omega)
   have o2:((decide ((0:Int)≤(D.get (cl+m - 1 - (i+j) / 2)).item))&&(decide ((D.get (cl+m - 1 - (i+j) / 2)).item < ((h.cN.items.n:Nat):Int))))=true:=cg _ (by omega)
   simp only [hh,hp,e0,decide_eq_true (show (i:Int) < (j:Int) by omega),cond_true,Sm (show (i+j) / 2 < D.n by omega),Sm (show cl+m - 1 - (i+j) / 2 < D.n by omega),Int.toNat_natCast,Nat.zero_add,o1,o2,Option.isSome_some,Option.getD_some,bc,r2]
   by_cases hc:bV h (D.get (cl+m - 1 - (i+j) / 2)) < bV h (D.get ((i+j) / 2))
   ·rw [decide_eq_true hc,Bool.not_true,cond_false]
    exact .inl ⟨_,rfl,by omega,i,(i+j) / 2,rfl,g1,by omega,by omega,by omega,g5,.inr ⟨by omega,hc⟩⟩
   ·rw [decide_eq_false hc,Bool.not_false,cond_true,Pn (by omega)]
    refine .inl ⟨_,rfl,by omega,(i+j) / 2+1,j,rfl,by omega,by omega,g3,by omega,.inr ⟨by omega,?_⟩,g6⟩
    rw [show cl+m - ((i+j) / 2+1)=cl+m - 1 - (i+j) / 2 by omega,Nat.add_sub_cancel]
    exact Int.not_lt.1 hc
  ·simp only [decide_eq_false (show ¬ (i:Int) < (j:Int) by omega),cond_false,bc,cond_true]
   have:j=i:=by omega
   subst this
   exact .inr ⟨_,_,rfl,rfl,rfl,j,rfl,g1,g3,g5,g6⟩
theorem adr (h:aB) (D:Sl aU) (a m b i:Nat) (h1:a+1≤i) (h4:i≤D.n) (h3:D.n≤10000000000) :
  ∃ D',∃ k:Int,goN db ⟨D,(a:Int),(m:Int),(b:Int),(i:Int),(a:Int),h⟩ = .out (.exit 2) ⟨D',(a:Int),(m:Int),(b:Int),(i:Int),k,h⟩∧D'.n=D.n∧∀ t,D'.get t=GX D.get a (i - 1) t:=by
 refine Exists.elim (dE (step:=db) (x:=⟨D,(a:Int),(m:Int),(b:Int),(i:Int),(a:Int),h⟩) (fun k y=>∃ D',y=⟨D',(a:Int),(m:Int),(b:Int),(i:Int),((a+k:Nat):Int),h⟩∧a+k≤i - 1∧D'.n=D.n∧∀ t,D'.get t=GX D.get a (a+k) t) (fun e y=>e = .exit 2∧∃ D',∃ k:Int,y=⟨D',(a:Int),(m:Int),(b:Int),(i:Int),k,h⟩∧D'.n=D.n∧∀ t,D'.get t=GX D.get a (i - 1) t) (i - 1 - a) (by have:m6=1000000000000:=rfl; omega) (fun k y hk ⟨D',hy,g1,g2,g3⟩=>?_) ⟨D,rfl,by omega,rfl,fun t=>by rw [Nat.add_zero,aih]⟩) fun e ⟨y,hy,he,D',k,hi,q⟩=>⟨D',k,by rw [hy,he,hi],q⟩
 ·subst hy
  unfold db
  have hi:=aal (i:=i) (by omega) (by omega)
  by_cases bU:a+k < i - 1
  ·have FG:=Pn (i:=a+k) (by omega)
   simp only [hi,FG,decide_eq_true (show ((a+k:Nat):Int) < ((i - 1:Nat):Int) by omega),cond_true,Sm (show a+k < D'.n by omega),Sm (show a+k+1 < D'.n by omega),bc]
   refine .inl ⟨_,rfl,by omega,_,rfl,by omega,g2,fun t=>?_⟩
   rw [Mj,Int.toNat_natCast,Int.toNat_natCast,Nat.zero_add,Nat.zero_add,show a+(k+1)=a+k+1 by omega,aij (by omega),g3,g3,g3]
   by_cases e1:t=a+k+1
   ·subst e1; rw [if_pos rfl,if_neg (by omega),if_pos rfl]
   ·rw [if_neg e1]
    by_cases e2:t=a+k
    ·subst e2; rw [if_pos rfl,if_pos rfl]
    ·rw [if_neg e2,if_neg e2,if_neg e1]
  ·simp only [hi,decide_eq_false (show ¬ ((a+k:Nat):Int) < ((i - 1:Nat):Int) by omega),cond_false,bc,cond_true]
   exact .inr ⟨_,_,rfl,rfl,rfl,D',_,rfl,g2,fun t=>by rw [g3,show a+k=i - 1 by omega]⟩
theorem ads (h:aB) (D:Sl aU) (a m b i:Nat) (h1:i≤m) (h4:m < D.n) (h3:D.n≤10000000000) :
  ∃ D',∃ k:Int,goN cS ⟨D,(a:Int),(m:Int),(b:Int),(i:Int),(m:Int),h⟩ = .out (.exit 6) ⟨D',(a:Int),(m:Int),(b:Int),(i:Int),k,h⟩∧D'.n=D.n∧∀ t,D'.get t=ins D.get i m t:=by
 refine Exists.elim (dE (step:=cS) (x:=⟨D,(a:Int),(m:Int),(b:Int),(i:Int),(m:Int),h⟩) (fun k y=>∃ D',y=⟨D',(a:Int),(m:Int),(b:Int),(i:Int),((m - k:Nat):Int),h⟩∧i+k≤m∧D'.n=D.n∧∀ t,D'.get t=ins D.get (m - k) m t) (fun e y=>e = .exit 6∧∃ D',∃ k:Int,y=⟨D',(a:Int),(m:Int),(b:Int),(i:Int),k,h⟩∧D'.n=D.n∧∀ t,D'.get t=ins D.get i m t) (m - i) (by have:m6=1000000000000:=rfl; omega) (fun k y hk ⟨D',hy,g1,g2,g3⟩=>?_) ⟨D,rfl,by omega,rfl,fun t=>by rw [Nat.sub_zero,ab3]⟩) fun e ⟨y,hy,he,D',k,hi,q⟩=>⟨D',k,by rw [hy,he,hi],q⟩
 ·subst hy
  unfold cS
  by_cases bU:i < m - k
  ·have FG:=aal (i:=m - k) (by omega) (by omega)
   simp only [FG,decide_eq_true (show ((m - k:Nat):Int) > (i:Int) by omega),cond_true,Sm (show m - k < D'.n by omega),Sm (show m - k - 1 < D'.n by omega),bc]
   refine .inl ⟨_,rfl,by omega,_,rfl,by omega,g2,fun t=>?_⟩
   rw [Mj,Int.toNat_natCast,Int.toNat_natCast,Nat.zero_add,Nat.zero_add,show m - (k+1)=m - k - 1 by omega,ab5 (by omega) (by omega),g3,g3,g3]
  ·simp only [decide_eq_false (show ¬ ((m - k:Nat):Int) > (i:Int) by omega),cond_false,bc,cond_true]
   exact .inr ⟨_,_,rfl,rfl,rfl,D',_,rfl,g2,fun t=>by rw [g3,show m - k=i by omega]⟩
end Go.Proofs.Ytahhdndhkgbcjaa.b
end
section
namespace Go.Proofs.Ytahhdndhkgbcjaa.b
open Go.K Go.K.tr
open Go.aE (aq)
def CN (rc:ah→aI ah) (z:a6) (D:Sl aU) (h:aB):aI ah:=
 cond (decide (z.cl < aj (z.n - z.start)))
  (cond (decide (aj (z.n - z.start) < z.b))
   (cond (av D.n z.data.n) (cond ((rc ⟨D,z.cl,aj (z.n - z.start),z.b,h⟩).by .ret) (cond (av (rc ⟨D,z.cl,aj (z.n - z.start),z.b,h⟩).st.data.n z.data.n) (.out .ret ⟨(rc ⟨D,z.cl,aj (z.n - z.start),z.b,h⟩).st.data,z.a,z.m,z.b,(rc ⟨D,z.cl,aj (z.n - z.start),z.b,h⟩).st.held⟩) .fail) .fail) .fail)
   (cond (av D.n z.data.n) (.out .ret ⟨D,z.a,z.m,z.b,h⟩) .fail))
  (cond (av D.n z.data.n) (.out .ret ⟨D,z.a,z.m,z.b,h⟩) .fail)
def G0 (rc:ah→aI ah) (z:a6) (D:Sl aU) (h:aB):aI ah:=
 cond (decide (z.a < z.start))
  (cond (decide (z.start < z.cl))
   (cond (av D.n z.data.n) (cond ((rc ⟨D,z.a,z.start,z.cl,h⟩).by .ret) (CN rc z (rc ⟨D,z.a,z.start,z.cl,h⟩).st.data (rc ⟨D,z.a,z.start,z.cl,h⟩).st.held) .fail) .fail)
   (CN rc z D h))
  (CN rc z D h)
def Mm (rc:ah→aI ah) (z:a6):aI ah:=
 cond (decide (z.start < z.m))
  (cond (decide (z.m < aj (z.n - z.start)))
   (cond (av z.data.n z.data.n) (cond ((dZ ⟨z.data,z.start,z.m,aj (z.n - z.start),z.eO⟩).by .ret) (G0 rc z (dZ ⟨z.data,z.start,z.m,aj (z.n - z.start),z.eO⟩).st.data (dZ ⟨z.data,z.start,z.m,aj (z.n - z.start),z.eO⟩).st.held) .fail) .fail)
   (G0 rc z z.data z.eO))
  (G0 rc z z.data z.eO)
theorem aap (rc:ah→aI ah) (x:ah) (h1:((aj (x.m - x.a))==(1:Int))=false) (h2:((aj (x.b - x.m))==(1:Int))=false) :
  dI rc x=cond (decide (x.m > (aj (Int.fdiv (mL (aj (x.a+x.b))) (2:Int)))))
   (cond (av x.data.n x.data.n) (cond ((ae rc x).by (.exit 8)) (Mm rc (ae rc x).st) .fail) .fail)
   (cond (av x.data.n x.data.n) (cond ((aa rc x).by (.exit 8)) (Mm rc (aa rc x).st) .fail) .fail):=by
 unfold dI
 rw [h1,h2]
 rfl
def sL (h:aB) (fZ:aU→aU→Prop) (D D' : Sl aU) (a b:Nat):Prop:=D'.n=D.n∧Perm D.get D'.get a b∧gj (bK h fZ) D'.get a b
def vN (h:aB) (fZ:aU→aU→Prop) (rc:ah→aI ah) (L:Nat):Prop:=∀ (D:Sl aU) (a m b:Nat),a < m→m < b→b≤D.n→D.n≤10000000000→(∀ t,t < D.n→hJ h (D.get t)=true)→b - a≤L→gj (bK h fZ) D.get a m→gj (bK h fZ) D.get m b→DG (bK h fZ) D.get a m b→
 ∃ D',rc ⟨D,(a:Int),(m:Int),(b:Int),h⟩ = .out .ret ⟨D',(a:Int),(m:Int),(b:Int),h⟩∧sL h fZ D D' a b
theorem rP {h:aB} {D D' : Sl aU} {a b:Nat} (hn:D'.n=D.n) (hb:b≤D.n) (hp:Perm D.get D'.get a b) (cg:∀ t,t < D.n→hJ h (D.get t)=true):∀ t,t < D'.n→hJ h (D'.get t)=true:=fun t ht=>by
 rw [hn] at ht
 by_cases zu:a≤t∧t < b
 ·obtain ⟨j,j1,j2,e⟩:=hp.mem zu.1 zu.2
  rw [e]; exact cg j (by omega)
 ·rw [hp.2 t (by omega)]; exact cg t ht
section
variable {h:aB} {fZ:aU→aU→Prop} {rc:ah→aI ah} {L:Nat}
theorem aaq (hrc:vN h fZ rc L) (Z D:Sl aU) (a m b cl s e:Nat) (p:Int) (hm:m≤D.n) (hn:D.n=Z.n) (h3:D.n≤10000000000) (hb:b≤D.n) (hs:e+s=cl+m) (q1:cl≤e) (q2:e≤b) (cg:∀ t,t < D.n→hJ h (D.get t)=true) (hL:b - cl≤L) (r1:gj (bK h fZ) D.get cl e) (r2:gj (bK h fZ) D.get e b) (r0:DG (bK h fZ) D.get cl e b) :
  ∃ D',CN rc ⟨Z,(a:Int),(m:Int),(b:Int),(cl:Int),((cl+m:Nat):Int),(s:Int),(s:Int),p,h⟩ D h = .out .ret ⟨D',(a:Int),(m:Int),(b:Int),h⟩∧sL h fZ D D' cl b:=by
 have he:aj (((cl+m:Nat):Int) - (s:Int))=(e:Int):=by rw [Br (by omega) (by omega)]; congr 1; omega
 unfold CN
 simp only [he,hn,bc,cond_true]
 by_cases c1:cl < e
 ·rw [decide_eq_true (show (cl:Int) < (e:Int) by omega),cond_true]
  by_cases c2:e < b
  ·rw [decide_eq_true (show (e:Int) < (b:Int) by omega),cond_true]
   obtain ⟨D',k1,k2,k3,k4⟩:=hrc D cl e b c1 c2 hb h3 cg hL r1 r2 r0
   rw [k1]
   simp only [aI.jC,aI.jL,fc,cond_true,k2,hn,bc]
   exact ⟨D',rfl,k2,k3,k4⟩
  ·rw [decide_eq_false (show ¬ (e:Int) < (b:Int) by omega),cond_false]
   have:e=b:=by omega
   subst this
   exact ⟨D,rfl,rfl,.refl _ _ _,r1⟩
 ·rw [decide_eq_false (show ¬ (cl:Int) < (e:Int) by omega),cond_false]
  have:cl=e:=by omega
  subst this
  exact ⟨D,rfl,rfl,.refl _ _ _,r2⟩
theorem aa3 (hrc:vN h fZ rc L) (Z D:Sl aU) (a m b cl s e:Nat) (p:Int) (hm:m≤D.n) (hn:D.n=Z.n) (h3:D.n≤10000000000) (hb:b≤D.n) (hs:e+s=cl+m) (q0:a≤s) (q3:s≤cl) (q1:cl≤e) (q2:e≤b) (cg:∀ t,t < D.n→hJ h (D.get t)=true) (hL1:cl - a≤L) (hL:b - cl≤L) (u4:Split (bK h fZ) D.get a s cl e b) :
  ∃ D',G0 rc ⟨Z,(a:Int),(m:Int),(b:Int),(cl:Int),((cl+m:Nat):Int),(s:Int),(s:Int),p,h⟩ D h = .out .ret ⟨D',(a:Int),(m:Int),(b:Int),h⟩∧sL h fZ D D' a b:=by
 have rest:∀ D2:Sl aU,sL h fZ D D2 a cl→∃ D',CN rc ⟨Z,(a:Int),(m:Int),(b:Int),(cl:Int),((cl+m:Nat):Int),(s:Int),(s:Int),p,h⟩ D2 h = .out .ret ⟨D',(a:Int),(m:Int),(b:Int),h⟩∧sL h fZ D D' a b:=fun D2 ⟨m1,m2,m3⟩=>by
  have same:∀ i,cl≤i→D2.get i=D.get i:=fun i hi=>m2.2 i (.inr hi)
  obtain ⟨D',k1,k2,k3,k4⟩:=aaq hrc Z D2 a m b cl s e p (by omega) (m1.trans hn) (by omega) (by omega) hs q1 q2 (rP m1 (by omega) m2 cg) hL (u4.r1.congr fun i i1 _=>same i i1) (u4.r2.congr fun i i1 _=>same i (by omega)) (fun i j i1 i2 j1 j2=>by rw [same i i1,same j (by omega)]; exact u4.r0 i j i1 i2 j1 j2)
  exact ⟨D',k1,k2.trans m1,(m2.wide (Nat.le_refl _) (by omega) (by omega)).trans (k3.wide (by omega) (by omega) (Nat.le_refl _)),adn u4.lr m2 m3 k3 k4⟩
 unfold G0
 simp only [hn,bc,cond_true]
 by_cases c1:a < s
 ·rw [decide_eq_true (show (a:Int) < (s:Int) by omega),cond_true]
  by_cases c2:s < cl
  ·rw [decide_eq_true (show (s:Int) < (cl:Int) by omega),cond_true]
   obtain ⟨D2,k1,k2⟩:=hrc D a s cl c1 c2 (by omega) h3 cg hL1 u4.l1 u4.l2 u4.l0
   rw [k1]
   simp only [aI.jC,aI.jL,fc,cond_true]
   exact rest D2 k2
  ·rw [decide_eq_false (show ¬ (s:Int) < (cl:Int) by omega),cond_false]
   have:s=cl:=by omega
   exact rest D ⟨rfl,.refl _ _ _,by rw [← this]; exact u4.l1⟩
 ·rw [decide_eq_false (show ¬ (a:Int) < (s:Int) by omega),cond_false]
  have:a=s:=by omega
  exact rest D ⟨rfl,.refl _ _ _,by rw [this]; exact u4.l2⟩
theorem LB (hrc:vN h fZ rc L) (D:Sl aU) (a m b cl s e:Nat) (p:Int) (h3:D.n≤10000000000) (hb:b≤D.n) (hs:e+s=cl+m) (q0:a≤s) (q3:s≤cl) (q4:s≤m) (q1:cl≤e) (q5:m≤e) (q2:e≤b) (cg:∀ t,t < D.n→hJ h (D.get t)=true) (hL1:cl - a≤L) (hL:b - cl≤L) (s1:gj (bK h fZ) D.get a m) (s2:gj (bK h fZ) D.get m b) (s0:DG (bK h fZ) D.get a m b) (w1:∀ i j,a≤i→i < s→e≤j→j < b→(bK h fZ).key (D.get i)≤(bK h fZ).key (D.get j)) (w2:∀ i j,s≤i→i < m→m≤j→j < e→(bK h fZ).key (D.get j) < (bK h fZ).key (D.get i)) :
  ∃ D',Mm rc ⟨D,(a:Int),(m:Int),(b:Int),(cl:Int),((cl+m:Nat):Int),(s:Int),(s:Int),p,h⟩ = .out .ret ⟨D',(a:Int),(m:Int),(b:Int),h⟩∧sL h fZ D D' a b:=by
 have he:aj (((cl+m:Nat):Int) - (s:Int))=(e:Int):=by rw [Br (by omega) (by omega)]; congr 1; omega
 have u4:=agt (o:=bK h fZ) s1 s2 s0 q0 q4 q5 q2 hs w1 w2
 have rest:∀ D1:Sl aU,D1.n=D.n→(∀ t,D1.get t=Cx D.get s m e t)→∃ D',G0 rc ⟨D,(a:Int),(m:Int),(b:Int),(cl:Int),((cl+m:Nat):Int),(s:Int),(s:Int),p,h⟩ D1 h = .out .ret ⟨D',(a:Int),(m:Int),(b:Int),h⟩∧sL h fZ D D' a b:=fun D1 n1 g1=>by
  have hf:D1.get=Cx D.get s m e:=funext g1
  have hp:Perm D.get D1.get s e:=by rw [hf]; exact aik q4 q5
  obtain ⟨D',k1,k2,k3,k4⟩:=aa3 hrc D D1 a m b cl s e p (by omega) n1 (by omega) (by omega) hs q0 q3 q1 q2 (rP n1 (by omega) hp cg) hL1 hL (by rw [hf]; exact u4)
  exact ⟨D',k1,k2.trans n1,(hp.wide q0 (by omega) q2).trans k3,k4⟩
 unfold Mm
 simp only [he,bc,cond_true]
 by_cases c1:s < m
 ·rw [decide_eq_true (show (s:Int) < (m:Int) by omega),cond_true]
  by_cases c2:m < e
  ·rw [decide_eq_true (show (m:Int) < (e:Int) by omega),cond_true]
   obtain ⟨D1,k1,k2,k3⟩:=aan h D s m e c1 c2 (by omega) h3
   rw [k1]
   simp only [aI.jC,aI.jL,fc,cond_true]
   exact rest D1 k2 k3
  ·rw [decide_eq_false (show ¬ (m:Int) < (e:Int) by omega),cond_false]
   refine rest D rfl fun t=>?_
   by_cases ht:t < s∨e≤t
   ·rw [GY q4 q5 ht]
   ·rw [Iz (by omega) (by omega)]; congr 1; omega
 ·rw [decide_eq_false (show ¬ (s:Int) < (m:Int) by omega),cond_false]
  refine rest D rfl fun t=>?_
  by_cases ht:t < s∨e≤t
  ·rw [GY q4 q5 ht]
  ·rw [Mi (by omega) (by omega)]; congr 1; omega
theorem WO (hrc:vN h fZ rc L):vN h fZ (dI rc) (2 * L):=by
 intro D a m b h1 h2 h4 h3 cg hL s1 s2 s0
 by_cases c1:m - a=1
 ·obtain ⟨i,k1,k2,k3,k4,k5⟩:=adp h D fZ a m b (by omega) (by omega) h4 h3 cg s2
  obtain ⟨D',k,j1,j2,j3⟩:=adr h D a m b i (by omega) (by omega) h3
  have e0:ct rc ⟨D,(a:Int),(m:Int),(b:Int),h⟩=_:=k1
  have e1:cO rc ⟨D,(a:Int),(m:Int),(b:Int),h⟩ = .out (.exit 2) ⟨D',(a:Int),(m:Int),(b:Int),(i:Int),k,h⟩:=by
   unfold cO
   rw [e0]
   exact j1
  have hf:D'.get=GX D.get a (i - 1):=funext j3
  refine ⟨D',?_,j2,?_,?_⟩
  ·unfold dI
   simp only [Br (i:=m) (j:=a) (by omega) (by omega),c1,e0,e1]
   simp only [bc,cond_true,aI.jC,aI.jL,fc,Nat.beq_refl,show (((1:Nat):Int)==(1:Int))=true from rfl]
  ·rw [hf]
   exact (aii (d:=D.get) (a:=a) (k:=i - 1) (by omega)).wide (Nat.le_refl _) (by omega) (by omega)
  ·rw [hf]
   have hm:m=a+1:=by omega
   subst hm
   exact afo (o:=bK h fZ) s2 s0 k2 k3 k4 k5
 ·by_cases c2:b - m=1
  ·obtain ⟨i,k1,k2,k3,k4,k5⟩:=adq h D fZ a m b (by omega) (by omega) h3 cg s1
   obtain ⟨D',k,j1,j2,j3⟩:=ads h D a m b i k3 (by omega) h3
   have e0:cu rc ⟨D,(a:Int),(m:Int),(b:Int),h⟩=_:=k1
   have e1:cP rc ⟨D,(a:Int),(m:Int),(b:Int),h⟩ = .out (.exit 6) ⟨D',(a:Int),(m:Int),(b:Int),(i:Int),k,h⟩:=by
    unfold cP
    rw [e0]
    exact j1
   have hf:D'.get=ins D.get i m:=funext j3
   have hb:b=m+1:=by omega
   refine ⟨D',?_,j2,?_,?_⟩
   ·unfold dI
    simp only [Br (i:=m) (j:=a) (by omega) (by omega),Br (i:=b) (j:=m) (by omega) (by omega),c2,e0,e1,show (((m - a:Nat):Int)==(1:Int))=false by simpa using (show ¬ ((m - a:Nat):Int)=1 by omega),cond_false]
    simp only [bc,cond_true,aI.jC,aI.jL,fc,Nat.beq_refl,show (((1:Nat):Int)==(1:Int))=true from rfl]
   ·rw [hf,hb]
    exact (ab4 (d:=D.get) (a:=a) k2 k3)
   ·rw [hf,hb]
    rw [hb] at s0
    exact VH s1 s0 k2 k3 k4 k5
  ·have akb:=ado (i:=a) (j:=b) (by omega)
   have hn:=aak (i:=(a+b) / 2) (j:=m) (by omega)
   have hp:=aal (i:=(a+b) / 2+m) (by omega) (by omega)
   have g1:((aj ((m:Int) - (a:Int)))==(1:Int))=false:=by
    rw [Br (by omega) (by omega)]
    simpa using (show ¬ ((m - a:Nat):Int)=1 by omega)
   have g2:((aj ((b:Int) - (m:Int)))==(1:Int))=false:=by
    rw [Br (by omega) (by omega)]
    simpa using (show ¬ ((b - m:Nat):Int)=1 by omega)
   rw [aap rc _ g1 g2]
   simp only [akb,bc,cond_true]
   by_cases c3:(a+b) / 2 < m
   ·rw [decide_eq_true (show (m:Int) > (((a+b) / 2:Nat):Int) by omega),cond_true]
    have iM:=Br (i:=(a+b) / 2+m) (j:=b) (by omega) (by omega)
    obtain ⟨s,k1,k2,k3,k4,k5⟩:=Sn h D a m b ((a+b) / 2) ((a+b) / 2+m - b) ((a+b) / 2) (by omega) (by omega) (Nat.le_refl _) (by omega) (by omega) h4 h3 (by omega) cg
    have e4:ae rc ⟨D,(a:Int),(m:Int),(b:Int),h⟩ = .out (.exit 8) ⟨D,(a:Int),(m:Int),(b:Int),(((a+b) / 2:Nat):Int),(((a+b) / 2+m:Nat):Int),(s:Int),(s:Int),(((a+b) / 2+m - 1:Nat):Int),h⟩:=by
     unfold ae
     simp only [akb,hn,hp,iM]
     exact k1
    rw [e4]
    simp only [aI.jC,aI.jL,fc,Nat.beq_refl,cond_true]
    obtain ⟨w1,w2⟩:=NP (o:=bK h fZ) (s:=s) (s0:=(a+b) / 2+m - b) (r0:=(a+b) / 2) (cl:=(a+b) / 2) s1 s2 (by omega) (by omega) (by omega) (by omega) (k4.imp (fun e=>⟨e,.inr (by omega)⟩) fun ⟨q1,q2⟩=>⟨by omega,by omega,q2⟩) (k5.imp (fun e=>⟨e,.inr rfl⟩) fun ⟨q1,q2⟩=>⟨by omega,q1,q2⟩)
    exact LB hrc D a m b ((a+b) / 2) s ((a+b) / 2+m - s) _ h3 h4 (by omega) (by omega) (by omega) (by omega) (by omega) (by omega) (by omega) cg (by omega) (by omega) s1 s2 s0 w1 w2
   ·rw [decide_eq_false (show ¬ (m:Int) > (((a+b) / 2:Nat):Int) by omega),cond_false]
    obtain ⟨s,k1,k2,k3,k4,k5⟩:=Sn h D a m b ((a+b) / 2) a m (by omega) (Nat.le_refl _) (by omega) (by omega) (by omega) h4 h3 (by omega) cg
    have e4:aa rc ⟨D,(a:Int),(m:Int),(b:Int),h⟩ = .out (.exit 8) ⟨D,(a:Int),(m:Int),(b:Int),(((a+b) / 2:Nat):Int),(((a+b) / 2+m:Nat):Int),(s:Int),(s:Int),(((a+b) / 2+m - 1:Nat):Int),h⟩:=by
     unfold aa
     simp only [akb,hn,hp]
     exact k1
    rw [e4]
    simp only [aI.jC,aI.jL,fc,Nat.beq_refl,cond_true]
    obtain ⟨w1,w2⟩:=NP (o:=bK h fZ) (s:=s) (s0:=a) (r0:=m) (cl:=(a+b) / 2) s1 s2 (by omega) (by omega) (by omega) (by omega) (k4.imp (fun e=>⟨e,.inl rfl⟩) fun ⟨q1,q2⟩=>⟨q1,by omega,q2⟩) (k5.imp (fun e=>⟨e,.inl rfl⟩) fun ⟨q1,q2⟩=>⟨q1,by omega,q2⟩)
    exact LB hrc D a m b ((a+b) / 2) s ((a+b) / 2+m - s) _ h3 h4 (by omega) (by omega) (by omega) (by omega) (by omega) (by omega) (by omega) cg (by omega) (by omega) s1 s2 s0 w1 w2
end
theorem Aq (h:aB) (fZ:aU→aU→Prop):∀ n:Nat,vN h fZ (gD n) (2 ^ n)
 | 0=>fun D a m b h1 h2 _ _ _ hL=>by simp at hL; omega
 | n+1=>by
  have:=WO (Aq h fZ n)
  rw [Nat.pow_succ,Nat.mul_comm]
  exact this
end Go.Proofs.Ytahhdndhkgbcjaa.b
end
section
namespace Go.Proofs.Ytahhdndhkgbcjaa.b
open Go.K Go.K.tr
open Go.aE (aq)
section
variable {h:Show} {fZ:ZW→ZW→Prop} {rc:nG→aI nG} {L:Nat}
end
end Go.Proofs.Ytahhdndhkgbcjaa.b
end
section
namespace Go.K.tr
variable {α:Type} {o:Ord α}
def Bl (o:Ord α) (g d:Nat→α) (l r:Nat):Prop:=gj o d l r∧∀ p:α→Bool,si p d l (r - l)=si p g l (r - l)
theorem Bl.congr {g d d' : Nat→α} {l r:Nat} (h:Bl o g d l r) (e:∀ i,l≤i→i < r→d' i=d i):Bl o g d' l r:=
 ⟨h.1.congr e,fun p=>by rw [pr (d:=d') (d':=d) (a:=l) (b:=l) fun i hi=>e _ (by omega) (by omega)]; exact h.2 p⟩
theorem Bl.join {g d d' : Nat→α} {a m b:Nat} (h1:Bl o g d a m) (h2:Bl o g d m b) (q1:a≤m) (q2:m≤b) (hp:Perm d d' a b) (hs:gj o d' a b):Bl o g d' a b:=by
 refine ⟨hs,fun p=>(hp.1 p).trans ?_⟩
 rw [show b - a=(m - a)+(b - m) by omega,pt,pt,show a+(m - a)=m by omega,h1.2,h2.2]
theorem Bs {M l a:Nat} (h1:M ∣ l) (h2:M ∣ a) (h:l < a):l+M≤a:=by
 have:=Nat.le_of_dvd (by omega) (Nat.dvd_sub h2 h1)
 omega
def Bls (o:Ord α) (g d:Nat→α) (B n:Nat):Prop:=∀ l,B ∣ l→l < n→Bl o g d l (min (l+B) n)
end Go.K.tr
namespace Go.Proofs.Ytahhdndhkgbcjaa.b
open Go.K Go.K.tr
open Go.aE (aq)
section
variable (h:Show) (fZ:ZW→ZW→Prop) (G:Sl ZW)
end
end Go.Proofs.Ytahhdndhkgbcjaa.b
end
section
namespace Go.Proofs.Ytahhdndhkgbcjaa.b
open Go.K Go.K.tr
open Go.aE (aq)
section
variable (h:aB) (fZ:aU→aU→Prop) (G:Sl aU)
theorem adt (h3:G.n≤10000000000) (cg:∀ t,t < G.n→hJ h (G.get t)=true) (hr:ab6 (bK h fZ) G.get G.n) :
  ∃ D:Sl aU,∃ a:Nat,∃ b:Int,goN dA ⟨G,(G.n:Int),(20:Int),(0:Int),(20:Int),h⟩ = .out (.exit 0) ⟨D,(G.n:Int),(20:Int),(a:Int),b,h⟩∧D.n=G.n∧20 ∣ a∧a≤G.n∧G.n < a+20∧(∀ l,20 ∣ l→l < a→Bl (bK h fZ) G.get D.get l (l+20))∧(∀ i,a≤i→D.get i=G.get i)∧∀ t,t < D.n→hJ h (D.get t)=true:=by
 refine Exists.elim (dE (step:=dA) (x:=⟨G,(G.n:Int),(20:Int),(0:Int),(20:Int),h⟩) (fun k y=>∃ D:Sl aU,∃ a:Nat,y=⟨D,(G.n:Int),(20:Int),(a:Int),((a+20:Nat):Int),h⟩∧k≤a∧D.n=G.n∧20 ∣ a∧a≤G.n∧(∀ l,20 ∣ l→l < a→Bl (bK h fZ) G.get D.get l (l+20))∧(∀ i,a≤i→D.get i=G.get i)∧∀ t,t < D.n→hJ h (D.get t)=true) (fun e y=>e = .exit 0∧∃ D:Sl aU,∃ a:Nat,∃ b:Int,y=⟨D,(G.n:Int),(20:Int),(a:Int),b,h⟩∧D.n=G.n∧20 ∣ a∧a≤G.n∧G.n < a+20∧(∀ l,20 ∣ l→l < a→Bl (bK h fZ) G.get D.get l (l+20))∧(∀ i,a≤i→D.get i=G.get i)∧∀ t,t < D.n→hJ h (D.get t)=true) G.n (by have:m6=1000000000000:=rfl; omega) (fun k y hk ⟨D,a,hy,g0,g1,g2,g3,g4,g5,g6⟩=>?_) ⟨G,0,rfl,Nat.le_refl _,rfl,Nat.dvd_zero _,Nat.zero_le _,fun l _ hl=>by omega,fun _ _=>rfl,cg⟩) fun e ⟨y,hy,he,D,a,b,hi,q⟩=>⟨D,a,b,by rw [hy,he,hi],q⟩
 subst hy
 unfold dA
 by_cases hle:a+20≤G.n
 ·obtain ⟨D',k1,k2,k3,k4⟩:=GZ h fZ D a (a+20) (by omega) (by omega) (by omega) g6 (fun s t s1 s2 t1=>by rw [g5 s s1,g5 t (by omega)]; exact hr s t s2 (by omega))
  have e0:gT ⟨D,(G.n:Int),(20:Int),(a:Int),((a+20:Nat):Int),h⟩=_:=k1
  have e1:aj (((a+20:Nat):Int)+(20:Int))=((a+20+20:Nat):Int):=by rw [xl (by omega) (by omega)]; omega
  simp only [decide_eq_true (show ((a+20:Nat):Int)≤(G.n:Int) by omega),cond_true,e0,e1,bc,aI.jC,aI.jL,fc,k2]
  refine .inl ⟨_,rfl,by omega,D',a+20,rfl,by omega,k2.trans g1,Nat.dvd_add g2 (Nat.dvd_refl _),hle,fun l l1 l2=>?_,fun i hi=>?_,rP k2 (by omega) k3 g6⟩
  ·by_cases hl:l < a
   ·have:=Bs l1 g2 hl
    exact (g4 l l1 hl).congr fun i i1 i2=>k3.2 i (.inl (by omega))
   ·have:l=a:=by
     by_cases e:a=l
     ·exact e.symm
     ·have:=Bs g2 l1 (by omega); omega
    subst this
    refine ⟨k4,fun p=>(k3.1 p).trans (pr fun i hi=>g5 _ (by omega))⟩
  ·rw [k3.2 i (.inr hi)]; exact g5 i (by omega)
 ·simp only [decide_eq_false (show ¬ ((a+20:Nat):Int)≤(G.n:Int) by omega),cond_false,bc,cond_true]
  exact .inr ⟨_,_,rfl,rfl,rfl,D,a,_,rfl,g1,g2,g3,by omega,g4,g5,g6⟩
theorem afp (E:Sl aU) (B:Nat) (h3:G.n≤10000000000) (hB:1≤B) (hB2:B < G.n) (hr:ab6 (bK h fZ) G.get G.n) (hn:E.n=G.n) (cg:∀ t,t < E.n→hJ h (E.get t)=true) (hb:Bls (bK h fZ) G.get E.get B G.n) :
  ∃ D:Sl aU,∃ a:Nat,∃ b:Int,goN dk ⟨E,(G.n:Int),(B:Int),(0:Int),((2 * B:Nat):Int),h⟩ = .out (.exit 4) ⟨D,(G.n:Int),(B:Int),(a:Int),b,h⟩∧D.n=G.n∧2 * B ∣ a∧a≤G.n∧G.n < a+2 * B∧(∀ l,2 * B ∣ l→l < a→Bl (bK h fZ) G.get D.get l (l+2 * B))∧(∀ l,B ∣ l→a≤l→l < G.n→Bl (bK h fZ) G.get D.get l (min (l+B) G.n))∧∀ t,t < D.n→hJ h (D.get t)=true:=by
 refine Exists.elim (dE (step:=dk) (x:=⟨E,(G.n:Int),(B:Int),(0:Int),((2 * B:Nat):Int),h⟩) (fun k y=>∃ D:Sl aU,∃ a:Nat,y=⟨D,(G.n:Int),(B:Int),(a:Int),((a+2 * B:Nat):Int),h⟩∧k≤a∧D.n=G.n∧2 * B ∣ a∧a≤G.n∧(∀ l,2 * B ∣ l→l < a→Bl (bK h fZ) G.get D.get l (l+2 * B))∧(∀ l,B ∣ l→a≤l→l < G.n→Bl (bK h fZ) G.get D.get l (min (l+B) G.n))∧∀ t,t < D.n→hJ h (D.get t)=true) (fun e y=>e = .exit 4∧∃ D:Sl aU,∃ a:Nat,∃ b:Int,y=⟨D,(G.n:Int),(B:Int),(a:Int),b,h⟩∧D.n=G.n∧2 * B ∣ a∧a≤G.n∧G.n < a+2 * B∧(∀ l,2 * B ∣ l→l < a→Bl (bK h fZ) G.get D.get l (l+2 * B))∧(∀ l,B ∣ l→a≤l→l < G.n→Bl (bK h fZ) G.get D.get l (min (l+B) G.n))∧∀ t,t < D.n→hJ h (D.get t)=true) G.n (by have:m6=1000000000000:=rfl; omega) (fun k y hk ⟨D,a,hy,g0,g1,g2,g3,g4,g5,g6⟩=>?_) ⟨E,0,by rw [Nat.zero_add]; rfl,Nat.le_refl _,hn,Nat.dvd_zero _,Nat.zero_le _,fun l _ hl=>by omega,fun l l1 _ l3=>hb l l1 l3,cg⟩) fun e ⟨y,hy,he,D,a,b,hi,q⟩=>⟨D,a,b,by rw [hy,he,hi],q⟩
 subst hy
 unfold dk
 have hBa:B ∣ a:=Nat.dvd_trans (Nat.dvd_mul_left B 2) g2
 by_cases hle:a+2 * B≤G.n
 ·have b1:Bl (bK h fZ) G.get D.get a (a+B):=by have:=g5 a hBa (Nat.le_refl _) (by omega); rwa [Nat.min_eq_left (by omega)] at this
  have b2:Bl (bK h fZ) G.get D.get (a+B) (a+2 * B):=by have:=g5 (a+B) (Nat.dvd_add hBa (Nat.dvd_refl _)) (by omega) (by omega); rwa [Nat.min_eq_left (by omega),show a+B+B=a+2 * B by omega] at this
  have hc:DG (bK h fZ) D.get a (a+B) (a+2 * B):=ab7 hr hle (by omega) (by omega) b1.2 b2.2
  obtain ⟨D',k1,k2,k3,k4⟩:=Aq h fZ 64 D a (a+B) (a+2 * B) (by omega) (by omega) (by omega) (by omega) g6 (Nat.le_trans (show _≤10000000000 by omega) (by decide)) b1.1 b2.1 hc
  have e2:aj ((a:Int)+(B:Int))=((a+B:Nat):Int):=aak (by omega)
  have e0:eW ⟨D,(G.n:Int),(B:Int),(a:Int),((a+2 * B:Nat):Int),h⟩ = .out .ret ⟨D',(a:Int),((a+B:Nat):Int),((a+2 * B:Nat):Int),h⟩:=by
   unfold eW
   simp only [e2]
   exact k1
  have e1:aj (((a+2 * B:Nat):Int)+aj ((2:Int) * (B:Int)))=((a+2 * B+2 * B:Nat):Int):=by rw [xl (n:=(2:Int) * (B:Int)) (by omega) (by omega),xl (by omega) (by omega)]; omega
  simp only [decide_eq_true (show ((a+2 * B:Nat):Int)≤(G.n:Int) by omega),cond_true,e0,e1,bc,aI.jC,aI.jL,fc,k2]
  refine .inl ⟨_,rfl,by omega,D',a+2 * B,rfl,by omega,k2.trans g1,Nat.dvd_add g2 (Nat.dvd_refl _),hle,fun l l1 l2=>?_,fun l l1 l2 l3=>?_,rP k2 (by omega) k3 g6⟩
  ·by_cases hl:l < a
   ·have:=Bs l1 g2 hl
    exact (g4 l l1 hl).congr fun i i1 i2=>k3.2 i (.inl (by omega))
   ·have:l=a:=by
     by_cases e:a=l
     ·exact e.symm
     ·have:=Bs g2 l1 (by omega); omega
    subst this
    exact b1.join b2 (by omega) (by omega) k3 k4
  ·exact (g5 l l1 (by omega) l3).congr fun i i1 i2=>k3.2 i (.inr (by omega))
 ·simp only [decide_eq_false (show ¬ ((a+2 * B:Nat):Int)≤(G.n:Int) by omega),cond_false,bc,cond_true]
  exact .inr ⟨_,_,rfl,rfl,rfl,D,a,_,rfl,g1,g2,g3,by omega,g4,g5,g6⟩
theorem aa4 (E:Sl aU) (h3:G.n≤10000000000) (hr:ab6 (bK h fZ) G.get G.n) (hn:E.n=G.n) (cg:∀ t,t < E.n→hJ h (E.get t)=true) (hb:Bls (bK h fZ) G.get E.get 20 G.n) :
  ∃ D:Sl aU,∃ B:Nat,goN dB ⟨E,(G.n:Int),(20:Int),h⟩ = .out (.exit 2) ⟨D,(G.n:Int),(B:Int),h⟩∧D.n=G.n∧G.n≤B∧Bls (bK h fZ) G.get D.get B G.n:=by
 refine Exists.elim (dE (step:=dB) (x:=⟨E,(G.n:Int),(20:Int),h⟩) (fun k y=>∃ D:Sl aU,∃ B:Nat,y=⟨D,(G.n:Int),(B:Int),h⟩∧k+1≤B∧D.n=G.n∧Bls (bK h fZ) G.get D.get B G.n∧∀ t,t < D.n→hJ h (D.get t)=true) (fun e y=>e = .exit 2∧∃ D:Sl aU,∃ B:Nat,y=⟨D,(G.n:Int),(B:Int),h⟩∧D.n=G.n∧G.n≤B∧Bls (bK h fZ) G.get D.get B G.n) G.n (by have:m6=1000000000000:=rfl; omega) (fun k y hk ⟨D,B,hy,g0,g1,g2,g3⟩=>?_) ⟨E,20,rfl,by omega,hn,hb,cg⟩) fun e ⟨y,hy,he,D,B,hi,q⟩=>⟨D,B,by rw [hy,he,hi],q⟩
 subst hy
 unfold dB
 by_cases bU:B < G.n
 ·obtain ⟨D1,a,b,k1,k2,k3,k4,k5,k6,k7,k8⟩:=afp h fZ G D B h3 (by omega) bU hr g1 g3 g2
  have e2:aj ((2:Int) * (B:Int))=((2 * B:Nat):Int):=by rw [xl (by omega) (by omega)]; omega
  have e3:aj ((B:Int) * (2:Int))=((2 * B:Nat):Int):=by rw [xl (by omega) (by omega)]; omega
  have e4:aj ((a:Int)+(B:Int))=((a+B:Nat):Int):=aak (by omega)
  have e0:aH ⟨D,(G.n:Int),(B:Int),h⟩ = .out (.exit 4) ⟨D1,(G.n:Int),(B:Int),(a:Int),b,h⟩:=by
   unfold aH
   simp only [e2]
   exact k1
  have hBa:B ∣ a:=Nat.dvd_trans (Nat.dvd_mul_left B 2) k3
  have fin:∀ D' : Sl aU,(∀ i,i < a→D'.get i=D1.get i)→(a < G.n→Bl (bK h fZ) G.get D'.get a G.n)→Bls (bK h fZ) G.get D'.get (2 * B) G.n:=fun D' q1 q2 l l1 l2=>by
   by_cases hl:l < a
   ·have:=Bs l1 k3 hl
    rw [Nat.min_eq_left (by omega)]
    exact (k6 l l1 hl).congr fun i i1 i2=>q1 i (by omega)
   ·have:l=a:=by
     by_cases e:a=l
     ·exact e.symm
     ·have:=Bs k3 l1 (by omega); omega
    subst this
    rw [Nat.min_eq_right (by omega)]
    exact q2 l2
  simp only [decide_eq_true (show (B:Int) < (G.n:Int) by omega),cond_true,e0,bc,aI.jC,aI.jL,fc,Nat.beq_refl,e3,e4]
  by_cases hm:a+B < G.n
  ·have b1:Bl (bK h fZ) G.get D1.get a (a+B):=by have:=k7 a hBa (Nat.le_refl _) (by omega); rwa [Nat.min_eq_left (by omega)] at this
   have b2:Bl (bK h fZ) G.get D1.get (a+B) G.n:=by have:=k7 (a+B) (Nat.dvd_add hBa (Nat.dvd_refl _)) (by omega) hm; rwa [Nat.min_eq_right (by omega)] at this
   have hc:DG (bK h fZ) D1.get a (a+B) G.n:=ab7 hr (Nat.le_refl _) (by omega) (by omega) b1.2 b2.2
   obtain ⟨D',j1,j2,j3,j4⟩:=Aq h fZ 64 D1 a (a+B) G.n (by omega) hm (by omega) (by omega) k8 (Nat.le_trans (show _≤10000000000 by omega) (by decide)) b1.1 b2.1 hc
   have e1:fH ⟨D,(G.n:Int),(B:Int),h⟩ = .out .ret ⟨D',(a:Int),((a+B:Nat):Int),(G.n:Int),h⟩:=by
    unfold fH
    rw [e0]
    simp only [aI.jL,e4]
    exact j1
   simp only [decide_eq_true (show ((a+B:Nat):Int) < (G.n:Int) by omega),cond_true,e1,bc,aI.jC,aI.jL,fc,j2]
   exact .inl ⟨_,rfl,by omega,D',2 * B,rfl,by omega,j2.trans k2,fin D' (fun i hi=>j3.2 i (.inl hi)) (fun _=>b1.join b2 (by omega) (by omega) j3 j4),rP j2 (by omega) j3 k8⟩
  ·simp only [decide_eq_false (show ¬ ((a+B:Nat):Int) < (G.n:Int) by omega),cond_false]
   exact .inl ⟨_,rfl,by omega,D1,2 * B,rfl,by omega,k2,fin D1 (fun _ _=>rfl) (fun ha=>by have:=k7 a hBa (Nat.le_refl _) ha; rwa [Nat.min_eq_right (by omega)] at this),k8⟩
 ·simp only [decide_eq_false (show ¬ (B:Int) < (G.n:Int) by omega),cond_false,bc,cond_true]
  exact .inr ⟨_,_,rfl,rfl,rfl,D,B,rfl,g1,by omega,g2⟩
theorem Sp (h3:G.n≤10000000000) (cg:∀ t,t < G.n→hJ h (G.get t)=true) (hr:ab6 (bK h fZ) G.get G.n) :
  ∃ D:Sl aU,jF ⟨G,(G.n:Int),h⟩ = .out .ret ⟨D,(G.n:Int),h⟩∧D.n=G.n∧gj (bK h fZ) D.get 0 G.n∧∀ p:aU→Bool,si p D.get 0 G.n=si p G.get 0 G.n:=by
 obtain ⟨D0,a,b,k1,k2,k3,k4,k5,k6,k7,k8⟩:=adt h fZ G h3 cg hr
 have e0:cL ⟨G,(G.n:Int),h⟩=_:=k1
 obtain ⟨D1,j1,j2,j3,j4⟩:=GZ h fZ D0 a G.n k4 (by omega) (by omega) k8 (fun s t s1 s2 t1=>by rw [k7 s s1,k7 t (by omega)]; exact hr s t s2 t1)
 have e1:gE ⟨G,(G.n:Int),h⟩ = .out .ret ⟨D1,(a:Int),(G.n:Int),h⟩:=by
  unfold gE
  rw [e0]
  exact j1
 have hb:Bls (bK h fZ) G.get D1.get 20 G.n:=fun l l1 l2=>by
  by_cases hl:l < a
  ·have:=Bs l1 k3 hl
   rw [Nat.min_eq_left (by omega)]
   exact (k6 l l1 hl).congr fun i i1 i2=>j3.2 i (.inl (by omega))
  ·have:l=a:=by
    by_cases e:a=l
    ·exact e.symm
    ·have:=Bs k3 l1 (by omega); omega
   subst this
   rw [Nat.min_eq_right (by omega)]
   exact ⟨j4,fun p=>(j3.1 p).trans (pr fun i hi=>k7 _ (by omega))⟩
 obtain ⟨D2,B,q1,q2,q3,q4⟩:=aa4 h fZ G D1 h3 hr (j2.trans k2) (rP j2 (by omega) j3 k8) hb
 have e2:ew ⟨G,(G.n:Int),h⟩ = .out (.exit 2) ⟨D2,(G.n:Int),(B:Int),h⟩:=by
  unfold ew
  rw [e0,e1]
  exact q1
 refine ⟨D2,?_,q2,?_⟩
 ·unfold jF kv
  rw [e0,e1,e2]
  simp only [bc,cond_true,aI.jC,aI.jL,fc,Nat.beq_refl,j2]
 ·by_cases hz:G.n=0
  ·rw [hz]
   exact ⟨fun i j _ _ hj=>by omega,fun p=>rfl⟩
  ·have:=q4 0 (Nat.dvd_zero _) (by omega)
   rw [Nat.zero_add,Nat.min_eq_right q3] at this
   exact ⟨this.1,fun p=>by have:=this.2 p; rwa [Nat.sub_zero] at this⟩
end
end Go.Proofs.Ytahhdndhkgbcjaa.b
end
section
namespace Go.Proofs.Ytahhdndhkgbcjaa.b
open Go.K Go.K.tr
open Go.aE (aq)
theorem aar {α:Type} (p:α→Bool) (d:Nat→α):∀ k,si p d 0 k=((List.range k).map d).countP p
 | 0=>rfl
 | k+1=>by
  rw [si,aar p d k,List.range_succ,List.map_append,List.countP_append,Nat.zero_add]
  have e:b2 (p (d k)) = [d k].countP p:=by
   rw [List.countP_singleton]
   cases p (d k) <;> rfl
  rw [e]
  rfl
theorem LC {α:Type} {D G:List α} (h:∀ p:α→Bool,D.countP p=G.countP p) {v:α} (hv:v∈D):v∈G:=by
 have hp:0 < G.countP (fun a=>@decide (a=v) (Classical.propDecidable _)):=by
  rw [← h]
  exact List.countP_pos_iff.2 ⟨v,hv,by simp⟩
 obtain ⟨a,h1,h2⟩:=List.countP_pos_iff.1 hp
 have:a=v:=by simpa using h2
 exact this ▸ h1
def sM (s:Show) (b:aU×Bool) (f:aU):Bool:=qw s f&&(!b.2||decide (f.d > b.1.d))
theorem akc {n:Nat} (h:n≤98304):((Nat.ble (((n+1)+512) * 48) 17592186044416)&&(Nat.ble (n+1) 17592186044416))=true:=by
 rw [Bool.and_eq_true]
 exact ⟨Nat.ble_eq_true_of_le (by omega),Nat.ble_eq_true_of_le (by omega)⟩
theorem Sq {α:Type} {p:α→Bool} {l:List α} {f:α} : (l++[f]).filter p=l.filter p++cond (p f) [f] []:=by
 rw [List.filter_append,List.filter_cons,List.filter_nil]
 cases p f <;> rfl
theorem agu (s:Show) (b:aU×Bool) (x:aC) (hs:x.dU.cN=s) (zR:x.pJ=b.2) (rb:x.oM=b.1) (hi:∀ j,j < x.t14.n→0≤(x.t14.get j).cU.item∧(x.t14.get j).cU.item < (s.items.n:Int)) (hn:x.t14.n≤98304) (h15:x.t15=(x.t14.n:Int)) (h16:x.t16=0) (h0:x.fV.n=0) :
  ∃ e y,goN bM x = .out e y∧(e = .exit 0∧y.dU=x.dU∧y.fV.n≤98304∧eh y.fV=(n7 x.x x.y (eh x.t14)).filter (sM s b)):=by
 refine dE (step:=bM) (fun j y=>y.t14=x.t14∧y.t15=(x.t14.n:Int)∧y.t16=(j:Int)∧y.x=x.x∧y.y=x.y∧j≤x.t14.n∧y.dU=x.dU∧y.pJ=b.2∧y.oM=b.1∧y.fV.n≤j∧eh y.fV=(n7 x.x x.y ((eh x.t14).take j)).filter (sM s b)) _ x.t14.n (by have:m6=1000000000000:=rfl; omega) (fun j y hj ⟨f1,f2,f3,f4,f5,f6,f7,f8,f9,f10,f11⟩=>?_) ⟨rfl,h15,h16,rfl,rfl,Nat.zero_le _,rfl,zR,rb,by omega,List.length_eq_zero_iff.1 (by rw [lQ,h0])⟩
 have w1:aj (y.t16+1)=y.t16+1:=a9 (by omega) (by omega)
 unfold bM
 by_cases h:y.t16 < y.t15
 ·have nW:j < x.t14.n:=by omega
  have hg:y.t14.get (Int.toNat y.t16)=x.t14.get j:=by rw [f1,f3,Int.toNat_natCast]
  obtain ⟨sp,e,hp⟩:=Lw (x.t14.get j).t x.x x.y
  have e0:bb y=some (sp,e):=by
   unfold bb
   rw [hg,f4,f5]
   exact hp
  obtain ⟨i1,i2⟩:=hi j nW
  have tk:=Ux (x:=x.x) (y:=x.y) x.t14 j nW
  have po:=akc (n:=y.fV.n) (by omega)
  simp only [e0,hg,w1,po,bc,cond_true,Bool.and_self,Option.isSome_some,Option.getD_some,decide_eq_true h,decide_eq_true (show (0:Int)≤y.t16 by omega),decide_eq_true (show y.t16 < ((y.t14.n:Nat):Int) by rw [f1]; omega),decide_eq_true i1,decide_eq_true (show (x.t14.get j).cU.item < ((y.dU.cN.items.n:Nat):Int) by rw [f7,hs]; exact i2)]
  have II:∀ {y' : aC},y'.t14=y.t14→y'.t15=y.t15→y'.t16=y.t16+1→y'.x=y.x→y'.y=y.y→y'.dU=y.dU→y'.pJ=y.pJ→y'.oM=y.oM→y'.fV.n≤j+1→eh y'.fV=(n7 x.x x.y ((eh x.t14).take (j+1))).filter (sM s b)→
    (∃ x',(aI.next y' : aI aC) = .next x'∧j < x.t14.n∧x'.t14=x.t14∧x'.t15=(x.t14.n:Int)∧x'.t16=((j+1:Nat):Int)∧x'.x=x.x∧x'.y=x.y∧j+1≤x.t14.n∧x'.dU=x.dU∧x'.pJ=b.2∧x'.oM=b.1∧x'.fV.n≤j+1∧eh x'.fV=(n7 x.x x.y ((eh x.t14).take (j+1))).filter (sM s b)):=fun {y'} q1 q2 q3 q4 q5 q6 q7 q8 q9 q10=>
   ⟨y',rfl,nW,q1.trans f1,q2.trans f2,by omega,q4.trans f4,q5.trans f5,by omega,q6.trans f7,q7.trans f8,q8.trans f9,q9,q10⟩
  cases he:(e==(0:Int)) with
  | false=>
   have DK:oz x.x x.y (x.t14.get j)=none:=by
    unfold oz
    rw [hp]
    simp only [he,cond_false]
   rw [cond_false]
   exact .inl (II rfl rfl rfl rfl rfl rfl rfl rfl (by show y.fV.n≤_; omega) (by show eh y.fV=_; rw [tk,DK,f11]; simp))
  | true=>
   have DK:oz x.x x.y (x.t14.get j)=some ⟨aj ((x.t14.get j).cU.d+sp.d),(x.t14.get j).cU.item,(x.t14.get j).cU.gW,(x.t14.get j).cU.part,sp.u,sp.v⟩:=by
    unfold oz
    rw [hp]
    simp only [he,cond_true]
   have N8:(y.dU.cN.items.get (Int.toNat (x.t14.get j).cU.item)).look.Ii=qw s ⟨aj ((x.t14.get j).cU.d+sp.d),(x.t14.get j).cU.item,(x.t14.get j).cU.gW,(x.t14.get j).cU.part,sp.u,sp.v⟩:=by
    rw [f7,hs]
    rfl
   rw [cond_true,N8]
   generalize hf:(⟨aj ((x.t14.get j).cU.d+sp.d),(x.t14.get j).cU.item,(x.t14.get j).cU.gW,(x.t14.get j).cU.part,sp.u,sp.v⟩:aU)=f at *
   have hd:aj ((x.t14.get j).cU.d+sp.d)=f.d:=by rw [← hf]
   rw [hd,f8,f9]
   have m4:(n7 x.x x.y ((eh x.t14).take (j+1))).filter (sM s b)=eh y.fV++cond (sM s b f) [f] []:=by
    rw [tk,DK,f11]
    exact Sq
   have yes:sM s b f=true→∃ x',(aI.next (⟨y.x,y.y,y.t14,y.t15,y.t16+1,y.dU,b.2,b.1,y.fV.push f⟩:aC)) = .next x'∧j < x.t14.n∧x'.t14=x.t14∧x'.t15=(x.t14.n:Int)∧x'.t16=((j+1:Nat):Int)∧x'.x=x.x∧x'.y=x.y∧j+1≤x.t14.n∧x'.dU=x.dU∧x'.pJ=b.2∧x'.oM=b.1∧x'.fV.n≤j+1∧eh x'.fV=(n7 x.x x.y ((eh x.t14).take (j+1))).filter (sM s b):=fun ho=>
    II rfl rfl rfl rfl rfl rfl f8.symm f9.symm (by show y.fV.n+1≤_; omega) (by show eh (Sl.push _ _)=_; rw [Uq,m4,ho]; rfl)
   have no:sM s b f=false→∃ x',(aI.next (⟨y.x,y.y,y.t14,y.t15,y.t16+1,y.dU,b.2,b.1,y.fV⟩:aC)) = .next x'∧j < x.t14.n∧x'.t14=x.t14∧x'.t15=(x.t14.n:Int)∧x'.t16=((j+1:Nat):Int)∧x'.x=x.x∧x'.y=x.y∧j+1≤x.t14.n∧x'.dU=x.dU∧x'.pJ=b.2∧x'.oM=b.1∧x'.fV.n≤j+1∧eh x'.fV=(n7 x.x x.y ((eh x.t14).take (j+1))).filter (sM s b):=fun ho=>
    II rfl rfl rfl rfl rfl rfl f8.symm f9.symm (by show y.fV.n≤_; omega) (by show eh y.fV=_; rw [m4,ho]; exact (List.append_nil _).symm)
   have ho:sM s b f=(qw s f&&(!b.2||decide (f.d > b.1.d))):=rfl
   cases hb:qw s f with
   | false=>
    rw [cond_false]
    exact .inl (no (by rw [ho,hb]; rfl))
   | true=>
    rw [cond_true]
    cases hc:(!b.2) with
    | true=>
     rw [cond_true]
     exact .inl (yes (by rw [ho,hb,hc]; rfl))
    | false=>
     rw [cond_false]
     cases hd:decide (f.d > b.1.d) with
     | true=>
      rw [cond_true]
      exact .inl (yes (by rw [ho,hb,hc,hd]; rfl))
     | false=>
      rw [cond_false]
      exact .inl (no (by rw [ho,hb,hc,hd]; rfl))
 ·simp only [bc,cond_true,cond_false,decide_eq_false h]
  refine .inr ⟨_,_,rfl,rfl,rfl,f7,by omega,?_⟩
  rw [f11,show j=x.t14.n by omega,List.take_of_length_le (by rw [lQ]; exact Nat.le_refl _)]
def mD (s:Show) (f:aU):Color:=((jj (s.items.get (Int.toNat f.item)).look s.aK f.u f.v).getD default).fst
def lay (p g:Color):Color:=(AY p g).getD default
def lK (s:Show) (g:Color) (l:List aU):Color:=l.foldl (fun g f=>lay (mD s f) g) g
def DH (s:Show):Prop:=gh s.aK=some 0∧∀ i,i < s.items.n→fJ (s.items.get i).look (s.aK.n:Int)=some 0
theorem aim {s:Show} (h:kX s=some 0):DH s:=by
 obtain ⟨_,_,h3,h4⟩:=(agr s).1 h
 exact ⟨h3,fun i hi=>aif (h4 i hi)⟩
theorem VJ {s:Show} {r:aB} {f:aU} (hl:DH s) (h1:r.cN=s) (hf:0≤f.item∧f.item < (s.items.n:Int)):jZ r f=some (mD s f):=by
 subst h1
 obtain ⟨c,e,h2,_⟩:=VG (u:=f.u) (v:=f.v) hl.1 (hl.2 (Int.toNat f.item) (by omega))
 have e0:sJ r f=some (c,e):=h2
 unfold jZ mD
 simp only [e0,h2,Option.isSome_some,Option.getD_some,cond_true,decide_eq_true hf.1,decide_eq_true hf.2,Bool.and_self]
theorem aas (s:Show) (hl:DH s) (x:cv) (hs:x.s.cN=s) (hi:∀ j,j < x.t33.n→0≤(x.t33.get j).item∧(x.t33.get j).item < (s.items.n:Int)) (hn:x.t33.n≤98304) (h34:x.t34=(x.t33.n:Int)) (h35:x.t35=0) :
  ∃ e y,goN dS x = .out e y∧(e = .exit 0∧y.ground=lK s x.ground (eh x.t33)):=by
 refine dE (step:=dS) (fun j y=>y.t33=x.t33∧y.t34=(x.t33.n:Int)∧y.t35=(j:Int)∧j≤x.t33.n∧y.s=x.s∧y.ground=lK s x.ground ((eh x.t33).take j)) _ x.t33.n (by have:m6=1000000000000:=rfl; omega) (fun j y hj ⟨f1,f2,f3,f4,f5,f6⟩=>?_) ⟨rfl,h34,h35,Nat.zero_le _,rfl,rfl⟩
 have w1:aj (y.t35+1)=y.t35+1:=a9 (by omega) (by omega)
 unfold dS
 by_cases h:y.t35 < y.t34
 ·have nW:j < x.t33.n:=by omega
  have e0:b7 y=some (mD s (x.t33.get j)):=by
   unfold b7
   rw [f1,f3,f5,Int.toNat_natCast,Nat.zero_add]
   exact VJ hl hs (hi j nW)
  simp only [e0,w1,bc,cond_true,Bool.and_self,Option.isSome_some,Option.getD_some,decide_eq_true h,decide_eq_true (show (0:Int)≤y.t35 by omega),decide_eq_true (show y.t35 < ((y.t33.n:Nat):Int) by rw [f1]; omega)]
  refine .inl ⟨_,rfl,nW,f1,f2,by show y.t35+1=_; omega,by omega,f5,?_⟩
  show lay (mD s (x.t33.get j)) y.ground=_
  rw [Ur x.t33 j nW,f6]
  unfold lK
  rw [List.foldl_append]
  rfl
 ·simp only [bc,cond_true,cond_false,decide_eq_false h]
  refine .inr ⟨_,_,rfl,rfl,rfl,?_⟩
  rw [f6,show j=x.t33.n by omega,List.take_of_length_le (by rw [lQ]; exact Nat.le_refl _)]
theorem VL (s:Show) (c:a8) (r:aB) (ground:Color) (x y:Int) (fZ:aU→aU→Prop) (hl:DH s) (h1:r.cN=s) (h2:eh r.parts=lA s c) (h3:r.parts.n≤98304)
  (hr:∀ G:Sl aU,eh G=(n7 x y (lA s c)).filter (sM s (DD s (n7 x y (lA s c))))→ab6 (bK r fZ) G.get G.n) :
  ∃ D:Sl aU,fY r ground x y=some (lK s (cond (DD s (n7 x y (lA s c))).2 (mD s (DD s (n7 x y (lA s c))).1) ground) (eh D))∧gj (bK r fZ) D.get 0 D.n∧∀ p:aU→Bool,(eh D).countP p=((n7 x y (lA s c)).filter (sM s (DD s (n7 x y (lA s c))))).countP p:=by
 have hw:=Sb s c r x y h1 h2 h3
 have hwp:=ab2 s (n7 x y (lA s c))
 generalize hb:DD s (n7 x y (lA s c))=b at *
 have e0:kx r ground x y=some b:=hw
 have hit:∀ j,j < r.parts.n→0≤(r.parts.get j).cU.item∧(r.parts.get j).cU.item < (s.items.n:Int):=fun j hj=>by
  have hm:r.parts.get j∈eh r.parts:=Lv hj
  rw [h2] at hm
  obtain ⟨i,k,n,i1,i2,i3,e⟩:=Uy hm
  rw [e]
  show 0≤(i:Int)∧(i:Int) < (s.items.n:Int)
  omega
 obtain ⟨e,z,hz,rfl,z1,z2,z3⟩:∃ e z,cf r ground x y = .out e z∧(e = .exit 0∧z.dU=r∧z.fV.n≤98304∧eh z.fV=(n7 x y (eh r.parts)).filter (sM s b)):=by
  unfold cf
  exact agu s b _ h1 (by rw [e0]; rfl) (by rw [e0]; rfl) hit h3 rfl rfl rfl
 rw [h2] at z3
 have b1:(cf r ground x y).by (.exit 0)=true:=by rw [hz]; rfl
 have b2:(cf r ground x y).st=z:=by rw [hz]; rfl
 have inG:∀ v∈eh z.fV,0≤v.item∧v.item < (s.items.n:Int):=fun v hv=>by
  rw [z3] at hv
  exact CM (List.mem_filter.1 hv).1
 obtain ⟨D,hD,d1,d2,d3⟩:=Sp r fZ z.fV (by omega) (fun t ht=>by
  have:=inG _ (Lv ht)
  unfold hJ
  rw [h1,decide_eq_true this.1,decide_eq_true this.2]
  rfl) (hr z.fV z3)
 have hD' : dT r ground x y = .out .ret ⟨D,(z.fV.n:Int),r⟩:=by
  unfold dT
  rw [b2,z1]
  exact hD
 have b3:(dT r ground x y).by .ret=true:=by rw [hD']; rfl
 have b4:(dT r ground x y).st=⟨D,(z.fV.n:Int),r⟩:=by rw [hD']; rfl
 have alg:∀ p:aU→Bool,(eh D).countP p=(eh z.fV).countP p:=fun p=>by
  have:=d3 p
  rw [aar,aar,← d1] at this
  rw [d1] at this
  show ((List.range D.n).map D.get).countP p=((List.range z.fV.n).map z.fV.get).countP p
  rw [d1]
  exact this
 have inD:∀ j,j < D.n→0≤(D.get j).item∧(D.get j).item < (s.items.n:Int):=fun j hj=>inG _ (LC alg (Lv hj))
 refine ⟨D,?_,by rw [d1]; exact d2,fun p=>by rw [alg p,z3]⟩
 unfold fY
 simp only [e0,b1,b2,b3,b4,d1,bc,Option.isSome_some,Option.getD_some,cond_true]
 cases rb:b.2 with
 | true=>
  have kJ:b.1∈n7 x y (lA s c):=by
   rcases hwp with ⟨q,_⟩ | ⟨_,q,_⟩
   ·rw [rb] at q; simp at q
   ·exact q
  have e1:oA r ground x y=some (mD s b.1):=by
   unfold oA
   rw [e0]
   exact VJ hl h1 (CM kJ)
  obtain ⟨e,u,hu,rfl,u1⟩:∃ e u,ky r ground x y = .out e u∧(e = .exit 0∧u.ground=lK s (mD s b.1) (eh D)):=by
   unfold ky
   rw [b2,b4,e1]
   exact aas s hl _ h1 inD (by show D.n≤98304; omega) (by show (z.fV.n:Int)=(D.n:Int); rw [d1]) rfl
  have b5:(ky r ground x y).by (.exit 0)=true:=by rw [hu]; rfl
  have b6:(ky r ground x y).st=u:=by rw [hu]; rfl
  simp only [e1,b5,b6,Option.isSome_some,cond_true]
  rw [u1]
 | false=>
  obtain ⟨e,u,hu,rfl,u1⟩:∃ e u,kz r ground x y = .out e u∧(e = .exit 0∧u.ground=lK s ground (eh D)):=by
   unfold kz
   rw [b2,b4]
   exact aas s hl _ h1 inD (by show D.n≤98304; omega) (by show (z.fV.n:Int)=(D.n:Int); rw [d1]) rfl
  have b5:(kz r ground x y).by (.exit 0)=true:=by rw [hu]; rfl
  have b6:(kz r ground x y).st=u:=by rw [hu]; rfl
  simp only [b5,b6,cond_true,cond_false]
  rw [u1]
theorem ain (s:Show) (c:a8) (r:aB) (ground:Color) (x y:Int) (hl:DH s) (h1:r.cN=s) (h2:eh r.parts=lA s c) (h3:r.parts.n≤98304):∃ v,fY r ground x y=some v:=by
 obtain ⟨D,h,_⟩:=VL s c r ground x y (fun a b=>∃ (i j:Nat),i < j∧((n7 x y (lA s c)).filter (sM s (DD s (n7 x y (lA s c)))))[i]? = some a∧((n7 x y (lA s c)).filter (sM s (DD s (n7 x y (lA s c)))))[j]? = some b) hl h1 h2 h3 (fun G hG i j Ct hj=>⟨i,j,Ct,by rw [← hG]; exact Mg G i (by omega),by rw [← hG]; exact Mg G j hj⟩)
 exact ⟨_,h⟩
end Go.Proofs.Ytahhdndhkgbcjaa.b
end
section
namespace Go.Proofs.Ytahhdndhkgbcjaa.b
open Go.K Go.K.tr
open Go.aE (aq)
def qP (s:Show) (c:a8) (x y:Int):aU×Bool:=DD s (n7 x y (lA s c))
def NR (r:aB) (ground:Color) (x y:Int):Color:=(fY r ground x y).getD default
structure DI (s:Show) (c:a8) (r:aB):Prop where
 looks:DH s
 cN:r.cN=s
 parts:eh r.parts=lA s c
 n:r.parts.n≤98304
theorem DI.DD {s:Show} {c:a8} {r:aB} (h:DI s c r) (x y:Int):hU r x y=some (qP s c x y):=Sb s c r x y h.cN h.parts h.n
theorem DI.col {s:Show} {c:a8} {r:aB} (h:DI s c r) (ground:Color) (x y:Int):fY r ground x y=some (NR r ground x y):=by
 obtain ⟨v,hv⟩:=ain s c r ground x y h.looks h.cN h.parts h.n
 unfold NR
 rw [hv]
 rfl
theorem adu {s:Show} {c:a8} (h:jX s c=some 0):kX s=some 0:=by
 obtain ⟨e,h1,_⟩:=Jn s
 obtain ⟨f,h3,_⟩:=tQ c
 have e0:rH s c=some e:=h1
 have e1:vw s c=some f:=h3
 unfold jX at h
 simp only [e0,e1,Option.isSome_some,Option.getD_some,cond_true] at h
 cases he:(e != (0:Int)) with
 | true=>
  rw [he,cond_true] at h
  simp at he
  exact absurd (Option.some.inj h) he
 | false=>rw [h1]; simp at he; rw [he]
inductive AtP (s:Show) (c:a8) (ground:Color) (x y:Int):Prop where
 | no (e:Int) (he:e≠0) (h1:∃ l,mz s c x y=some (l,e)) (h2:mO s c x y=some (⟨0,0,0,0,0,0⟩,false,e)) (h3:nL s c ground x y=some (⟨0,0,0,0⟩,e)):AtP s c ground x y
 | yes (r:aB) (l:Sl aU) (hr:DI s c r) (ho:qp s c=some r) (hs:ED s) (hc:Ll c) (ha:jX s c=some 0) (hx:0≤x∧x < c.w) (hy:0≤y∧y < c.h)
   (h1:mz s c x y=some (l,0)) (hl:eh l=n7 x y (lA s c)) (h2:mO s c x y=some (cond (qP s c x y).2 (qP s c x y).1 ⟨0,0,0,0,0,0⟩,(qP s c x y).2,0)) (h3:nL s c ground x y=some (NR r ground x y,0)):AtP s c ground x y
theorem atP (s:Show) (c:a8) (ground:Color) (x y:Int):AtP s c ground x y:=by
 obtain ⟨l,e,h1,h2⟩:=adi s c x y
 rcases h2 with ⟨he,r,hr⟩ | ⟨rfl,r,hr,hs,hc,hx,hy,ha,ho,h3,h4,h5,h6⟩
 ·have e0:nU s c x y=some (r,e):=hr
  have e1:oW s c ground x y=some (r,e):=hr
  have hb:(e != (0:Int))=true:=by simpa using he
  refine .no e he ⟨l,h1⟩ ?_ ?_
  ·unfold mO
   simp only [e0,Option.isSome_some,Option.getD_some,cond_true,hb]
  ·unfold nL
   simp only [e1,Option.isSome_some,Option.getD_some,cond_true,hb]
 ·have hk:DI s c r:=⟨aim (adu ha),h3,h4,h5⟩
  have e0:nU s c x y=some (r,0):=hr
  have e1:oW s c ground x y=some (r,0):=hr
  have e2:qz s c x y=some (qP s c x y):=by
   unfold qz
   rw [e0]
   exact hk.DD x y
  have e3:vM s c ground x y=some (NR r ground x y):=by
   unfold vM
   rw [e1]
   exact hk.col ground x y
  refine .yes r l hk ho hs hc ha hx hy h1 h6 ?_ ?_
  ·unfold mO
   simp only [e0,e2,Option.isSome_some,Option.getD_some,cond_true,bne_self_eq_false,cond_false]
   cases (qP s c x y).2 <;> rfl
  ·unfold nL
   simp only [e1,e3,Option.isSome_some,Option.getD_some,cond_true,bne_self_eq_false,cond_false]
end Go.Proofs.Ytahhdndhkgbcjaa.b
end
section
namespace Go.Proofs.Ytahhdndhkgbcjaa.b
open Go.K
set_option linter.unusedVariables false
set_option linter.unusedSimpArgs false
noncomputable section
def VM:List (Nat×(List KV→KR KV)):=[]
def VN:List Lp:=[]
theorem aa5:ao Try.prog VM:=ao.nil
theorem aa6:az Try.prog VN:=az.nil
def Po  : Option (Color):=
 (some ((⟨(255:Int),(0:Int),(0:Int),(255:Int)⟩:Color)))
theorem adv  : dp Try.prog (bu Try.prog VM VN (fun q=>Nat.beq q 1000041||Nat.beq q 1000176||Nat.beq q 1000050)) 9 9 39 [] = (Po ).map ic:=by
 unfold Po
 kernel_rfl
def Pp:List KV→KR KV:=cA Try.prog 39 (cF ic fun vs=>Po )
theorem aa7 (w:Nat→KV):cM Try.prog [] w 0 = []:=by kernel_rfl
theorem NS:ca Try.prog 39 Pp:=aY funcs mixed aa5 aa6 (L:=9) (n:=9) fun w=>by
 have e:aJ Try.prog 39 = []:=by kernel_rfl
 rw [e,aa7]
 exact (adv ).trans (by kernel_rfl)
def LD:List (Nat×(List KV→KR KV)):=[(39,Pp)]
def LF:List Lp:=[]
theorem aa8:ao Try.prog LD:=(ao.cons NS ao.nil)
theorem aa9:az Try.prog LF:=az.nil
def Pq  : Option (Show):=(dp Try.prog (bu Try.prog LD LF (fun q=>Nat.beq q 1000041||Nat.beq q 1000176||Nat.beq q 1000050)) 9 9 36 []).map mv
theorem adw  : dp Try.prog (bu Try.prog LD LF (fun q=>Nat.beq q 1000041||Nat.beq q 1000176||Nat.beq q 1000050)) 9 9 36 [] = (Pq ).map pP:=by
 unfold Pq
 kernel_rfl
def aat:List KV→KR KV:=cA Try.prog 36 (cF pP fun vs=>Pq )
theorem aba (w:Nat→KV):cM Try.prog [] w 0 = []:=by kernel_rfl
theorem abb:ca Try.prog 36 aat:=aY funcs mixed aa8 aa9 (L:=9) (n:=9) fun w=>by
 have e:aJ Try.prog 36 = []:=by kernel_rfl
 rw [e,aba]
 exact (adw ).trans (by kernel_rfl)
end
end Go.Proofs.Ytahhdndhkgbcjaa.b
end
section
namespace Go.Proofs.Ytahhdndhkgbcjaa.b
open Go.K
set_option linter.unusedVariables false
set_option linter.unusedSimpArgs false
noncomputable section
def VO:List (Nat×(List KV→KR KV)):=[]
def VP:List Lp:=[]
theorem abc:ao Try.prog VO:=ao.nil
theorem abd:az Try.prog VP:=az.nil
def Pr  : Option (a8):=
 (some ((⟨(⟨(0:Int),(0:Int),(0:Int)⟩:eE),(⟨(⟨(256:Int),(0:Int),(0:Int)⟩:fj),(⟨(0:Int),(256:Int),(0:Int)⟩:fj),(⟨(0:Int),(0:Int),(256:Int)⟩:fj)⟩:gL),(64:Int),(256:Int),(4:Int),(4:Int)⟩:a8)))
theorem adx  : dp Try.prog (bu Try.prog VO VP (fun _=>false)) 9 9 37 [] = (Pr ).map jB:=by
 unfold Pr
 kernel_rfl
def aau:List KV→KR KV:=cA Try.prog 37 (cF jB fun vs=>Pr )
theorem abe (w:Nat→KV):cM Try.prog [] w 0 = []:=by kernel_rfl
theorem abf:ca Try.prog 37 aau:=aY funcs mixed abc abd (L:=9) (n:=9) fun w=>by
 have e:aJ Try.prog 37 = []:=by kernel_rfl
 rw [e,abe]
 exact (adx ).trans (by kernel_rfl)
def NT:List (Nat×(List KV→KR KV)):=[]
def NU:List Lp:=[]
theorem WQ:ao Try.prog NT:=ao.nil
theorem WR:az Try.prog NU:=az.nil
def IA  : Option (Color):=
 (some ((⟨(0:Int),(0:Int),(0:Int),(255:Int)⟩:Color)))
theorem aav  : dp Try.prog (bu Try.prog NT NU (fun _=>false)) 9 9 38 [] = (IA ).map ic:=by
 unfold IA
 kernel_rfl
def Sr:List KV→KR KV:=cA Try.prog 38 (cF ic fun vs=>IA )
theorem WS (w:Nat→KV):cM Try.prog [] w 0 = []:=by kernel_rfl
theorem WT:ca Try.prog 38 Sr:=aY funcs mixed WQ WR (L:=9) (n:=9) fun w=>by
 have e:aJ Try.prog 38 = []:=by kernel_rfl
 rw [e,WS]
 exact (aav ).trans (by kernel_rfl)
def NV:List (Nat×(List KV→KR KV)):=[(39,Pp),(17,uT),(38,Sr),(16,s5),(37,aau),(36,aat)]
def NW:List Lp:=[]
theorem WU:ao Try.prog NV:=(ao.cons NS (ao.cons tW (ao.cons WT (ao.cons sK (ao.cons abf (ao.cons abb ao.nil))))))
theorem WV:az Try.prog NW:=az.nil
def IB  : Option (Bool):=
 (some (true))
theorem aaw  : dp Try.prog (bu Try.prog NV NW (fun _=>false)) 9 9 14 [] = (IB ).map kB:=by
 unfold IB
 kernel_rfl
def Cy:List KV→KR KV:=cA Try.prog 14 (cF kB fun vs=>IB )
theorem WW (w:Nat→KV):cM Try.prog [] w 0 = []:=by kernel_rfl
theorem BV:ca Try.prog 14 Cy:=aY funcs mixed WU WV (L:=9) (n:=9) fun w=>by
 have e:aJ Try.prog 14 = []:=by kernel_rfl
 rw [e,WW]
 exact (aaw ).trans (by kernel_rfl)
end
end Go.Proofs.Ytahhdndhkgbcjaa.b
end
section
namespace Go.Proofs.Ytahhdndhkgbcjaa.b
open Go.K
set_option linter.unusedVariables false
set_option linter.unusedSimpArgs false
noncomputable section
end
end Go.Proofs.Ytahhdndhkgbcjaa.b
end
section
namespace Go.Proofs.Ytahhdndhkgbcjaa.b
open Go.K Go.K.tr
open Go.aE (aq)
theorem ady (l:Sl eC):(vz l).isSome=true:=by
 obtain ⟨e,z,hz,rfl⟩:∃ e z,rJ l = .out e z∧e = .exit 0:=by
  unfold rJ
  refine dE (step:=lH) (fun j y=>y.i=(j:Int)) (fun e _=>e = .exit 0) 100 (by decide) (fun j y hj f1=>?_) rfl
  have w1:aj (y.i+1)=y.i+1:=a9 (by omega) (by omega)
  unfold lH
  cases h:decide (y.i < ((y.l.n:Nat):Int)) with
  | false=>exact .inr ⟨_,_,rfl,rfl,rfl⟩
  | true=>
   cases h2:decide (y.i < (100:Int)) with
   | false=>exact .inr ⟨_,_,rfl,rfl,rfl⟩
   | true=>
    have CV:=of_decide_eq_true h2
    simp only [w1,cond_true,Bool.and_self,decide_eq_true (show (0:Int)≤y.i by omega)]
    exact .inl ⟨_,rfl,by omega,by show y.i+1=_; omega⟩
 have b1:(rJ l).by (.exit 0)=true:=by rw [hz]; rfl
 unfold vz
 simp only [b1,cond_true]
 exact kA (fun _=>rfl) (fun _=>rfl)
theorem afq (s:Show):(vC s).isSome=true:=by
 obtain ⟨e,z,hz,rfl⟩:∃ e z,pf s = .out e z∧e = .exit 0:=by
  unfold pf
  refine dE (step:=lI) (fun j y=>y.i=(j:Int)) (fun e _=>e = .exit 0) 300 (by decide) (fun j y hj f1=>?_) rfl
  have w1:aj (y.i+1)=y.i+1:=a9 (by omega) (by omega)
  unfold lI
  cases h:decide (y.i < ((y.s.items.n:Nat):Int)) with
  | false=>exact .inr ⟨_,_,rfl,rfl,rfl⟩
  | true=>
   cases h2:decide (y.i < (300:Int)) with
   | false=>exact .inr ⟨_,_,rfl,rfl,rfl⟩
   | true=>
    have CV:=of_decide_eq_true h2
    simp only [w1,cond_true,Bool.and_self,decide_eq_true (show (0:Int)≤y.i by omega)]
    exact .inl ⟨_,rfl,by omega,by show y.i+1=_; omega⟩
 have b1:(pf s).by (.exit 0)=true:=by rw [hz]; rfl
 have e1:(Dy s).isSome=true:=ady _
 unfold vC
 simp only [b1,e1,cond_true]
 exact kA (fun _=>rfl) (fun _=>kA (fun _=>rfl) (fun _=>rfl))
end Go.Proofs.Ytahhdndhkgbcjaa.b
end
section
namespace Go.Proofs.Ytahhdndhkgbcjaa.b
open Go.K Go.K.tr
open Go.aE (aq)
theorem UJ {p d:Int} (hp:0≤p∧p≤137438953472) (hd:1≤d∧d≤65536):p≤p * d∧p * d≤p * 65536:=by
 have h1:p * 1≤p * d:=Int.mul_le_mul_of_nonneg_left hd.1 hp.1
 have h2:p * d≤p * 65536:=Int.mul_le_mul_of_nonneg_left hd.2 hp.1
 omega
theorem adz {a u:Int} (ha:0≤a) (hu:0≤u∧u≤255):0≤a * u∧a * u≤a * 255:=⟨Int.mul_nonneg ha hu.1,Int.mul_le_mul_of_nonneg_left hu.2 ha⟩
theorem aax {p q r d0 d1 d2 u0 u1 u2:Int} (hp:0≤p) (hq:0≤q) (hr:0≤r) (hs:1≤p+q+r∧p+q+r≤137438953472) (h0:1≤d0∧d0≤65536) (h1:1≤d1∧d1≤65536) (h2:1≤d2∧d2≤65536) (k0:0≤u0∧u0≤255) (k1:0≤u1∧u1≤255) (k2:0≤u2∧u2≤255) :
  ∃ m,dQ (aj ((aj ((aj ((0:Int)+(aj ((aj (p * d0)) * u0))))+(aj ((aj (q * d1)) * u1))))+(aj ((aj (r * d2)) * u2)))) (aj ((aj ((aj ((0:Int)+(aj ((aj (p * d0)) * (1:Int)))))+(aj ((aj (q * d1)) * (1:Int)))))+(aj ((aj (r * d2)) * (1:Int)))))=some (m,0)∧0≤m∧m≤255:=by
 have a0:=UJ ⟨hp,by omega⟩ h0
 have a1:=UJ ⟨hq,by omega⟩ h1
 have a2:=UJ ⟨hr,by omega⟩ h2
 have b0:=adz (show 0≤p * d0 by omega) k0
 have b1:=adz (show 0≤q * d1 by omega) k1
 have b2:=adz (show 0≤r * d2 by omega) k2
 rw [a9 (n:=p * d0) (by omega) (by omega),a9 (n:=q * d1) (by omega) (by omega),a9 (n:=r * d2) (by omega) (by omega)]
 generalize p * d0=A0 at *
 generalize q * d1=A1 at *
 generalize r * d2=A2 at *
 generalize A0 * u0=B0 at *
 generalize A1 * u1=B1 at *
 generalize A2 * u2=B2 at *
 rw [Int.mul_one,Int.mul_one,Int.mul_one,a9 (n:=A0) (by omega) (by omega),a9 (n:=A1) (by omega) (by omega),a9 (n:=A2) (by omega) (by omega),a9 (n:=B0) (by omega) (by omega),a9 (n:=B1) (by omega) (by omega),a9 (n:=B2) (by omega) (by omega),
  a9 (n:=0+A0) (by omega) (by omega),a9 (n:=0+A0+A1) (by omega) (by omega),a9 (n:=0+A0+A1+A2) (by omega) (by omega),a9 (n:=0+B0) (by omega) (by omega),a9 (n:=0+B0+B1) (by omega) (by omega),a9 (n:=0+B0+B1+B2) (by omega) (by omega)]
 rw [afa _ _ (by omega) (by omega)]
 refine ⟨_,rfl,Int.ediv_nonneg (by omega) (by omega),?_⟩
 have:(0+B0+B1+B2) / (0+A0+A1+A2) < 256:=Int.ediv_lt_of_lt_mul (by omega) (by omega)
 omega
theorem aio {t:bt} {x y:Int} {sp:fU} (h:mM t x y=some (sp,0)):(0≤sp.u∧sp.u≤255)∧0≤sp.v∧sp.v≤255:=by
 obtain ⟨s',e0,hs,hq⟩:=VF t x y
 rw [h] at hs
 injection hs with hs
 injection hs with hs1 kf
 obtain ⟨hf,hpix,g0,g1,g2⟩:=hq kf.symm
 obtain ⟨⟨⟨x0,y0,d0,u0,v0⟩,⟨x1,y1,d1,u1,v1⟩,x2,y2,d2,u2,v2⟩,harea⟩:=hf
 have hsum:W0 t (8 * x+4) (8 * y+4)+W1 t (8 * x+4) (8 * y+4)+W2 t (8 * x+4) (8 * y+4)=VE t:=afd _ _ _ _ _ _ _ _
 have hab:VE t≤137438953472:=by
  unfold VE
  have m1:=Aj (a:=t.e1.x - t.e0.x) (b:=t.e2.y - t.e0.y) (c:=262144) (d:=262144) (by omega) (by omega) (by omega)
  have m2:=Aj (a:=t.e2.x - t.e0.x) (b:=t.e1.y - t.e0.y) (c:=262144) (d:=262144) (by omega) (by omega) (by omega)
  omega
 obtain ⟨c,e,h1,h2⟩:=R1 t x y
 have E0:tg t x y=some (c,e):=h1
 unfold mM at h
 rw [E0] at h
 simp only [Option.isSome_some,cond_true,Option.getD_some] at h
 cases he:(e != (0:Int)) with
 | true=>
  rw [he,cond_true] at h
  injection h with h
  injection h with _ h
  simp [h] at he
 | false=>
 rw [he,cond_false] at h
 cases c with
 | false=>
  simp only [Bool.not_false,cond_true] at h
  injection h with h
  injection h with _ h
  exact absurd h (by decide)
 | true=>
 simp only [Bool.not_true,cond_false] at h
 rcases Lj t x y with ⟨_,_,hE⟩ | ⟨w,e',hE,A6⟩
 ·have E1:dD t x y=some (⟨W0 t (8 * x+4) (8 * y+4),W1 t (8 * x+4) (8 * y+4),W2 t (8 * x+4) (8 * y+4)⟩,0):=hE
  obtain ⟨r2,G2⟩:∃ r,AO t x y=some r:=Bn _ _
  obtain ⟨m,G3,m0,m1⟩:∃ m,wP t x y=some (m,0)∧0≤m∧m≤255:=by
   unfold wP
   rw [E1]
   exact aax (p:=W0 t (8 * x+4) (8 * y+4)) (q:=W1 t (8 * x+4) (8 * y+4)) (r:=W2 t (8 * x+4) (8 * y+4)) g0 g1 g2 (by omega) d0 d1 d2 u0 u1 u2
  obtain ⟨n,G4,n0,n1⟩:∃ m,wQ t x y=some (m,0)∧0≤m∧m≤255:=by
   unfold wQ
   rw [E1]
   exact aax (p:=W0 t (8 * x+4) (8 * y+4)) (q:=W1 t (8 * x+4) (8 * y+4)) (r:=W2 t (8 * x+4) (8 * y+4)) g0 g1 g2 (by omega) d0 d1 d2 v0 v1 v2
  rw [E1,G2,G3,G4] at h
  simp only [Option.isSome_some,cond_true,Option.getD_some,bne_self_eq_false,cond_false] at h
  injection h with h
  injection h with h _
  subst h
  exact ⟨⟨m0,m1⟩,n0,n1⟩
 ·have E1:dD t x y=some (w,e'):=hE
  rw [E1] at h
  simp only [Option.isSome_some,cond_true,Option.getD_some,show (e' != (0:Int))=true by simpa using A6] at h
  injection h with h
  injection h with _ h
  exact absurd h A6
theorem akd {x y:Int} {p:di} {f:aU} (h:oz x y p=some f):(0≤f.u∧f.u≤255)∧0≤f.v∧f.v≤255:=by
 unfold oz at h
 split at h
 ·rename_i sp e hp
  cases he:(e==(0:Int)) with
  | true=>
   have he:e=0:=by simpa using he
   subst he
   rw [show ((0:Int)==0)=true from rfl,cond_true] at h
   injection h with h
   subst h
   exact aio hp
  | false=>rw [he,cond_false] at h; simp at h
 ·simp at h
theorem aay {s:Show} {c:a8} {x y:Int} {f:aU} (hl:DH s) (h:f∈n7 x y (lA s c)):jj (s.items.get (Int.toNat f.item)).look s.aK f.u f.v=some (mD s f,0):=by
 obtain ⟨i1,i2⟩:=CM h
 obtain ⟨p,_,hp⟩:=List.mem_filterMap.1 h
 obtain ⟨k,e,h1,h2⟩:=VG (u:=f.u) (v:=f.v) hl.1 (hl.2 (Int.toNat f.item) (by omega))
 have:=h2 (akd hp)
 subst this
 unfold mD
 rw [h1]
 rfl
end Go.Proofs.Ytahhdndhkgbcjaa.b
end
section
namespace Go.Proofs.Ytahhdndhkgbcjaa.b
open Go.K
set_option linter.unusedVariables false
set_option linter.unusedSimpArgs false
noncomputable section
structure cI where
 t10:Bool
 ok:Bool
 l:(Sl aU)
 mF:Bool
 g:Int
 h:Int
 bin:Int
 s:Show
 f:aU
 rQ:Color
 want:Color
instance:Inhabited cI:=⟨⟨default,default,default,default,default,default,default,default,default,default,default⟩⟩
def mW (x:cI):List KV:=[.bool x.t10,.bool x.ok,jf 58 iJ x.l,.bool x.mF,.int .i64 x.g,.int .i64 x.h,.int .i64 x.bin]
def mX (x:cI):List (List KV):=[K7 x.s,ZX x.f,Ig x.rQ,Ig x.want]
def vS (vs:List KV) (rs:List (List KV)):cI:=⟨nP (vs.getD 0 .aw),nP (vs.getD 1 .aw),iQ jh (vs.getD 2 .aw),nP (vs.getD 3 .aw),intOf (vs.getD 4 .aw),intOf (vs.getD 5 .aw),intOf (vs.getD 6 .aw),K8 (fun k=>(rs.getD 0 []).getD k .aw),ZY (fun k=>(rs.getD 1 []).getD k .aw),Ih (fun k=>(rs.getD 2 []).getD k .aw),Ih (fun k=>(rs.getD 3 []).getD k .aw)⟩
def wW:aQ:=⟨[(10,⟨false,[.k .bool]⟩),(11,⟨false,[.k .bool]⟩),(12,⟨false,[.k (.slice 58)]⟩),(15,⟨false,[.k .bool]⟩),(16,⟨false,[.k (.int .i64)]⟩),(18,⟨false,[.k (.int .i64)]⟩),(22,⟨false,[.k (.int .i64)]⟩)],[(5,[.k (.slice 45),.k (.slice 108)],1),(14,[.k (.int .i64),.k (.int .i64),.k (.int .i64),.k (.int .i64),.k (.int .i64),.k (.int .i64)],1),(17,[.k (.int .u8),.k (.int .u8),.k (.int .u8),.k (.int .u8)],1),(19,[.k (.int .u8),.k (.int .u8),.k (.int .u8),.k (.int .u8)],1)],[(5,0,0),(14,1,0),(17,2,0),(19,3,0)]⟩
structure bp where
 t10:Bool
 ok:Bool
 l:(Sl aU)
 mF:Bool
 g:Int
 h:Int
 bin:Int
 i:Int
 s:Show
 f:aU
 rQ:Color
 want:Color
instance:Inhabited bp:=⟨⟨default,default,default,default,default,default,default,default,default,default,default,default⟩⟩
def lX (x:bp):List KV:=[.bool x.t10,.bool x.ok,jf 58 iJ x.l,.bool x.mF,.int .i64 x.g,.int .i64 x.h,.int .i64 x.bin,.int .i64 x.i]
def lY (x:bp):List (List KV):=[K7 x.s,ZX x.f,Ig x.rQ,Ig x.want]
def tX (vs:List KV) (rs:List (List KV)):bp:=⟨nP (vs.getD 0 .aw),nP (vs.getD 1 .aw),iQ jh (vs.getD 2 .aw),nP (vs.getD 3 .aw),intOf (vs.getD 4 .aw),intOf (vs.getD 5 .aw),intOf (vs.getD 6 .aw),intOf (vs.getD 7 .aw),K8 (fun k=>(rs.getD 0 []).getD k .aw),ZY (fun k=>(rs.getD 1 []).getD k .aw),Ih (fun k=>(rs.getD 2 []).getD k .aw),Ih (fun k=>(rs.getD 3 []).getD k .aw)⟩
def uU:aQ:=⟨[(10,⟨false,[.k .bool]⟩),(11,⟨false,[.k .bool]⟩),(12,⟨false,[.k (.slice 58)]⟩),(15,⟨false,[.k .bool]⟩),(16,⟨false,[.k (.int .i64)]⟩),(18,⟨false,[.k (.int .i64)]⟩),(22,⟨false,[.k (.int .i64)]⟩),(23,⟨false,[.k (.int .i64)]⟩)],[(5,[.k (.slice 45),.k (.slice 108)],1),(14,[.k (.int .i64),.k (.int .i64),.k (.int .i64),.k (.int .i64),.k (.int .i64),.k (.int .i64)],1),(17,[.k (.int .u8),.k (.int .u8),.k (.int .u8),.k (.int .u8)],1),(19,[.k (.int .u8),.k (.int .u8),.k (.int .u8),.k (.int .u8)],1)],[(5,0,0),(14,1,0),(17,2,0),(19,3,0)]⟩
def Cz:=jk Try.prog (bu Try.prog [(19,qI),(18,uQ),(17,uT),(16,s5),(15,zk),(10,Cw),(14,Cy)] [] (fun _=>false)) 9 9 4 1048210 (fh Try.prog 4 1048210) uU
def aG (x:bp):(Option (Prod Color Int)):=(jj (x.s.items.get (Int.toNat (x.l.get (Int.toNat x.i)).item)).look x.s.aK (x.l.get (Int.toNat x.i)).u (x.l.get (Int.toNat x.i)).v)
def eA (x:bp):aI bp:=
 (cond (decide (x.i < ((x.l.n:Nat):Int)))
 (cond ((decide ((0:Int)≤x.i))&&(decide (x.i < ((x.l.n:Nat):Int))))
 (cond ((decide ((0:Int)≤(x.l.get (Int.toNat x.i)).item))&&(decide ((x.l.get (Int.toNat x.i)).item < ((x.s.items.n:Nat):Int))))
 (cond (!(x.s.items.get (Int.toNat (x.l.get (Int.toNat x.i)).item)).look.Ii)
 (.next (⟨x.t10,x.ok,x.l,x.mF,x.g,x.h,x.bin,(aj (x.i+(1:Int))),x.s,x.f,x.rQ,x.want⟩:bp))
 (cond ((x.s.items.get (Int.toNat (x.l.get (Int.toNat x.i)).item)).look.bin != x.bin)
 (.next (⟨x.t10,x.ok,x.l,x.mF,x.g,x.h,x.bin,(aj (x.i+(1:Int))),x.s,x.f,x.rQ,x.want⟩:bp))
 (cond x.mF
 (cond ((decide ((0:Int)≤x.i))&&(decide (x.i < ((x.l.n:Nat):Int))))
 (cond (decide ((x.l.get (Int.toNat x.i)).d≤x.f.d))
 (.next (⟨x.t10,x.ok,x.l,x.mF,x.g,x.h,x.bin,(aj (x.i+(1:Int))),x.s,x.f,x.rQ,x.want⟩:bp))
 (cond ((decide ((0:Int)≤x.i))&&(decide (x.i < ((x.l.n:Nat):Int))))
 (cond ((decide ((0:Int)≤x.i))&&(decide (x.i < ((x.l.n:Nat):Int))))
 (cond (aG x).isSome
 (cond (((aG x).getD default).snd != (0:Int))
 (.out aE.aq.ret (⟨false,x.ok,x.l,x.mF,x.g,x.h,x.bin,x.i,x.s,x.f,x.rQ,x.want⟩:bp))
 (.next (⟨x.t10,x.ok,x.l,x.mF,x.g,x.h,x.bin,(aj (x.i+(1:Int))),x.s,x.f,x.rQ,(⟨(w8 (aj (Int.tdiv (aj ((aj ((aj ((aG x).getD default).fst.e0) * (aj ((aG x).getD default).fst.e3)))+(aj ((aj x.want.e0) * (aj ((255:Int) - (aj ((aG x).getD default).fst.e3))))))) (255:Int)))),(w8 (aj (Int.tdiv (aj ((aj ((aj ((aG x).getD default).fst.e1) * (aj ((aG x).getD default).fst.e3)))+(aj ((aj x.want.e1) * (aj ((255:Int) - (aj ((aG x).getD default).fst.e3))))))) (255:Int)))),(w8 (aj (Int.tdiv (aj ((aj ((aj ((aG x).getD default).fst.e2) * (aj ((aG x).getD default).fst.e3)))+(aj ((aj x.want.e2) * (aj ((255:Int) - (aj ((aG x).getD default).fst.e3))))))) (255:Int)))),(w8 (aj (Int.tdiv (aj ((aj ((255:Int) * (aj ((aG x).getD default).fst.e3)))+(aj ((aj x.want.e3) * (aj ((255:Int) - (aj ((aG x).getD default).fst.e3))))))) (255:Int))))⟩:Color)⟩:bp)))
 .fail)
 .fail)
 .fail))
 .fail)
 (cond ((decide ((0:Int)≤x.i))&&(decide (x.i < ((x.l.n:Nat):Int))))
 (cond ((decide ((0:Int)≤x.i))&&(decide (x.i < ((x.l.n:Nat):Int))))
 (cond (aG x).isSome
 (cond (((aG x).getD default).snd != (0:Int))
 (.out aE.aq.ret (⟨false,x.ok,x.l,x.mF,x.g,x.h,x.bin,x.i,x.s,x.f,x.rQ,x.want⟩:bp))
 (.next (⟨x.t10,x.ok,x.l,x.mF,x.g,x.h,x.bin,(aj (x.i+(1:Int))),x.s,x.f,x.rQ,(⟨(w8 (aj (Int.tdiv (aj ((aj ((aj ((aG x).getD default).fst.e0) * (aj ((aG x).getD default).fst.e3)))+(aj ((aj x.want.e0) * (aj ((255:Int) - (aj ((aG x).getD default).fst.e3))))))) (255:Int)))),(w8 (aj (Int.tdiv (aj ((aj ((aj ((aG x).getD default).fst.e1) * (aj ((aG x).getD default).fst.e3)))+(aj ((aj x.want.e1) * (aj ((255:Int) - (aj ((aG x).getD default).fst.e3))))))) (255:Int)))),(w8 (aj (Int.tdiv (aj ((aj ((aj ((aG x).getD default).fst.e2) * (aj ((aG x).getD default).fst.e3)))+(aj ((aj x.want.e2) * (aj ((255:Int) - (aj ((aG x).getD default).fst.e3))))))) (255:Int)))),(w8 (aj (Int.tdiv (aj ((aj ((255:Int) * (aj ((aG x).getD default).fst.e3)))+(aj ((aj x.want.e3) * (aj ((255:Int) - (aj ((aG x).getD default).fst.e3))))))) (255:Int))))⟩:Color)⟩:bp)))
 .fail)
 .fail)
 .fail))))
 .fail)
 .fail)
 (.out (aE.aq.exit 2) x))
theorem Bt (x:bp):Cz (lX x) (lY x)=aI.enc lX lY (eA x):=by
 unfold eA
 try simp only [aI.dn]
 kernel_rfl
def j6:Lp:=⟨4,1048210,uU,fun vs rs=>dL lX lY (goN eA (tX vs rs)) [aE.aq.exit 2,aE.aq.ret],false⟩
theorem tY:j6.Ok Try.prog:=eM funcs mixed (ao.cons oV (ao.cons tV (ao.cons tW (ao.cons sK (ao.cons zl (ao.cons BO (ao.cons BV ao.nil))))))) az.nil (L:=9) (n:=9) (step:=eA) (ev:=lX) (er:=lY) (pa:=tX) rfl (fun wv wr=>⟨by kernel_rfl,by kernel_rfl⟩) Bt
theorem rR:cC Try.prog j6.f j6.p=true:=by kernel_rfl
def DQ:=jk Try.prog (bu Try.prog [(19,qI),(18,uQ),(17,uT),(16,s5),(15,zk),(10,Cw),(14,Cy)] [j6] (fun _=>false)) 9 9 4 16378 (fh Try.prog 4 16378) wW
def aR (x:cI):(aI bp):=(goN eA (⟨x.t10,x.ok,x.l,x.mF,x.g,x.h,x.bin,(0:Int),x.s,x.f,x.rQ,x.want⟩:bp))
def ee (x:cI):aI cI:=
 (cond (decide (x.bin < (16:Int)))
 (cond ((aR x).by (aE.aq.exit 2))
 (.next (⟨(aR x).st.t10,(aR x).st.ok,(aR x).st.l,(aR x).st.mF,(aR x).st.g,(aR x).st.h,(aj ((aR x).st.bin+(1:Int))),(aR x).st.s,(aR x).st.f,(aR x).st.rQ,(aR x).st.want⟩:cI))
 (cond ((aR x).by aE.aq.ret)
 (.out aE.aq.ret (⟨(aR x).st.t10,(aR x).st.ok,(aR x).st.l,(aR x).st.mF,(aR x).st.g,(aR x).st.h,(aR x).st.bin,(aR x).st.s,(aR x).st.f,(aR x).st.rQ,(aR x).st.want⟩:cI))
 .fail))
 (.out (aE.aq.exit 0) x))
theorem CA (x:cI):DQ (mW x) (mX x)=aI.enc mW mX (ee x):=by
 unfold ee
 try simp only [aI.dn]
 kernel_rfl
def nz:Lp:=⟨4,16378,wW,fun vs rs=>dL mW mX (goN ee (vS vs rs)) [aE.aq.exit 0,aE.aq.ret],false⟩
theorem DR:nz.Ok Try.prog:=eM funcs mixed (ao.cons oV (ao.cons tV (ao.cons tW (ao.cons sK (ao.cons zl (ao.cons BO (ao.cons BV ao.nil))))))) (az.cons tY rR az.nil) (L:=9) (n:=9) (step:=ee) (ev:=mW) (er:=mX) (pa:=vS) rfl (fun wv wr=>⟨by kernel_rfl,by kernel_rfl⟩) CA
theorem BW:cC Try.prog nz.f nz.p=true:=by kernel_rfl
def wu:List (Nat×(List KV→KR KV)):=[(19,qI),(18,uQ),(17,uT),(16,s5),(15,zk),(10,Cw),(14,Cy)]
def wx:List Lp:=[j6,nz]
theorem JE:ao Try.prog wu:=(ao.cons oV (ao.cons tV (ao.cons tW (ao.cons sK (ao.cons zl (ao.cons BO (ao.cons BV ao.nil)))))))
theorem JF:az Try.prog wx:=(az.cons tY rR (az.cons DR BW az.nil))
def uW (s:Show) (c:a8) (ground:Color) (x:Int) (y:Int):(Option Bool):=(vC s)
def j7 (s:Show) (c:a8) (ground:Color) (x:Int) (y:Int):(Option (Prod (Sl aU) Int)):=(mz s c x y)
def dr (s:Show) (c:a8) (ground:Color) (x:Int) (y:Int):(Option (Prod aU (Prod Bool Int))):=(mO s c x y)
def eJ (s:Show) (c:a8) (ground:Color) (x:Int) (y:Int):(Option (Prod Color Int)):=(nL s c ground x y)
def nM (s:Show) (c:a8) (ground:Color) (x:Int) (y:Int):(Option (Prod Color Int)):=(jj (s.items.get (Int.toNat ((dr s c ground x y).getD default).fst.item)).look s.aK ((dr s c ground x y).getD default).fst.u ((dr s c ground x y).getD default).fst.v)
def dc (s:Show) (c:a8) (ground:Color) (x:Int) (y:Int):(aI cI):=(goN ee (⟨false,true,((j7 s c ground x y).getD default).fst,((dr s c ground x y).getD default).snd.fst,((dr s c ground x y).getD default).snd.snd,((eJ s c ground x y).getD default).snd,(0:Int),s,((dr s c ground x y).getD default).fst,((eJ s c ground x y).getD default).fst,((nM s c ground x y).getD default).fst⟩:cI))
def de (s:Show) (c:a8) (ground:Color) (x:Int) (y:Int):(aI cI):=(goN ee (⟨false,true,((j7 s c ground x y).getD default).fst,((dr s c ground x y).getD default).snd.fst,((dr s c ground x y).getD default).snd.snd,((eJ s c ground x y).getD default).snd,(0:Int),s,((dr s c ground x y).getD default).fst,((eJ s c ground x y).getD default).fst,ground⟩:cI))
def sN (s:Show) (c:a8) (ground:Color) (x:Int) (y:Int):Option (Bool):=
 (cond (uW s c ground x y).isSome
 (cond ((uW s c ground x y).getD default)
 (some (true))
 (cond (j7 s c ground x y).isSome
 (cond (dr s c ground x y).isSome
 (cond (eJ s c ground x y).isSome
 (cond (((j7 s c ground x y).getD default).snd != (0:Int))
 (cond (((j7 s c ground x y).getD default).snd==((eJ s c ground x y).getD default).snd)
 (some (((((eJ s c ground x y).getD default).fst.e0==(0:Int))&&((((eJ s c ground x y).getD default).fst.e1==(0:Int))&&((((eJ s c ground x y).getD default).fst.e2==(0:Int))&&((((eJ s c ground x y).getD default).fst.e3==(0:Int))&&true))))))
 (some (false)))
 (cond ((dr s c ground x y).getD default).snd.fst
 (cond ((decide ((0:Int)≤((dr s c ground x y).getD default).fst.item))&&(decide (((dr s c ground x y).getD default).fst.item < ((s.items.n:Nat):Int))))
 (cond (nM s c ground x y).isSome
 (cond (((nM s c ground x y).getD default).snd != (0:Int))
 (some (false))
 (cond ((dc s c ground x y).by (aE.aq.exit 0))
 (cond (dc s c ground x y).st.ok
 (cond ((dc s c ground x y).st.g==(0:Int))
 (cond ((dc s c ground x y).st.h==(0:Int))
 (some ((((dc s c ground x y).st.rQ.e0==(dc s c ground x y).st.want.e0)&&(((dc s c ground x y).st.rQ.e1==(dc s c ground x y).st.want.e1)&&(((dc s c ground x y).st.rQ.e2==(dc s c ground x y).st.want.e2)&&(((dc s c ground x y).st.rQ.e3==(dc s c ground x y).st.want.e3)&&true))))))
 (some (false)))
 (some (false)))
 (some (false)))
 (cond ((dc s c ground x y).by aE.aq.ret)
 (some ((dc s c ground x y).st.t10))
 none)))
 none)
 none)
 (cond ((de s c ground x y).by (aE.aq.exit 0))
 (cond (de s c ground x y).st.ok
 (cond ((de s c ground x y).st.g==(0:Int))
 (cond ((de s c ground x y).st.h==(0:Int))
 (some ((((de s c ground x y).st.rQ.e0==(de s c ground x y).st.want.e0)&&(((de s c ground x y).st.rQ.e1==(de s c ground x y).st.want.e1)&&(((de s c ground x y).st.rQ.e2==(de s c ground x y).st.want.e2)&&(((de s c ground x y).st.rQ.e3==(de s c ground x y).st.want.e3)&&true))))))
 (some (false)))
 (some (false)))
 (some (false)))
 (cond ((de s c ground x y).by aE.aq.ret)
 (some ((de s c ground x y).st.t10))
 none))))
 none)
 none)
 none))
 none)
theorem LG (s:Show) (c:a8) (ground:Color) (x:Int) (y:Int):dp Try.prog (bu Try.prog wu wx (fun _=>false)) 9 9 4 [pP s,jB c,ic ground,(kI .i64) x,(kI .i64) y] = (sN s c ground x y).map kB:=by
 unfold sN
 try simp only [ch]
 kernel_rfl
theorem JG (w:Nat→KV):cM Try.prog [25,53,37,3,3] w 0 = [pP (mv (ay Try.prog (ak Try.prog au) 25 (w 0))),jB (gn (ay Try.prog (ak Try.prog au) 53 (w 1))),ic (nR (ay Try.prog (ak Try.prog au) 37 (w 2))),(kI .i64) (intOf (ay Try.prog (ak Try.prog au) 3 (w 3))),(kI .i64) (intOf (ay Try.prog (ak Try.prog au) 3 (w 4)))]:=by kernel_rfl
end
end Go.Proofs.Ytahhdndhkgbcjaa.b
end
section
namespace Go.Proofs.Ytahhdndhkgbcjaa.b
open Go.K Go.K.tr
open Go.aE (aq)
def KL (a b:aU):Prop:=a.item < b.item∨a.item=b.item∧(a.gW < b.gW∨a.gW=b.gW∧a.part < b.part)
theorem agv (s:Show) (c:a8):(lA s c).Pairwise (fun p q=>KL p.cU q.cU):=by
 unfold lA
 refine List.pairwise_flatMap.2 ⟨fun i _=>?_,List.pairwise_lt_range.imp fun {i j} Ct p hp q hq=>?_⟩
 ·unfold Lm
  refine List.pairwise_flatMap.2 ⟨fun k _=>?_,List.pairwise_lt_range.imp fun {k m} Pt p hp q hq=>?_⟩
  ·unfold R5
   refine List.pairwise_map.2 (List.pairwise_lt_range.imp fun {a b} hab=>?_)
   exact .inr ⟨rfl,.inr ⟨rfl,by show (a:Int) < (b:Int); omega⟩⟩
  ·unfold R5 at hp hq
   obtain ⟨a,_,rfl⟩:=List.mem_map.1 hp
   obtain ⟨b,_,rfl⟩:=List.mem_map.1 hq
   exact .inr ⟨rfl,.inl (by show (k:Int) < (m:Int); omega)⟩
 ·unfold Lm at hp hq
  obtain ⟨k,_,hp⟩:=List.mem_flatMap.1 hp
  obtain ⟨m,_,hq⟩:=List.mem_flatMap.1 hq
  unfold R5 at hp hq
  obtain ⟨a,_,rfl⟩:=List.mem_map.1 hp
  obtain ⟨b,_,rfl⟩:=List.mem_map.1 hq
  exact .inl (by show (i:Int) < (j:Int); omega)
theorem aip (s:Show) (c:a8) (x y:Int):(n7 x y (lA s c)).Pairwise KL:=by
 unfold n7
 refine List.pairwise_filterMap.2 ((agv s c).imp fun {p q} h f hf g hg=>?_)
 obtain ⟨a1,a2,a3⟩:=Uz hf
 obtain ⟨b1,b2,b3⟩:=Uz hg
 unfold KL at *
 rw [a1,a2,a3,b1,b2,b3]
 exact h
theorem aaz {α:Type} {lt:α→α→Prop} (ahn:∀ a b,lt a b→lt b a→False):∀ {A B:List α},A.Pairwise lt→B.Pairwise lt→(∀ v,v∈A↔v∈B)→A=B
 | [],[],_,_,_=>rfl
 | [],b::B,_,_,h=>absurd ((h b).2 (List.mem_cons_self ..)) (by simp)
 | a::A,[],_,_,h=>absurd ((h a).1 (List.mem_cons_self ..)) (by simp)
 | a::A,b::B,hA,hB,h=>by
  obtain ⟨ha,hA'⟩:=List.pairwise_cons.1 hA
  obtain ⟨hb,hB'⟩:=List.pairwise_cons.1 hB
  have hab:a=b:=by
   rcases List.mem_cons.1 ((h a).1 (List.mem_cons_self ..)) with e | e
   ·exact e
   ·rcases List.mem_cons.1 ((h b).2 (List.mem_cons_self ..)) with e' | e'
    ·exact e'.symm
    ·exact (ahn _ _ (ha b e') (hb a e)).elim
  subst hab
  rw [aaz ahn hA' hB' fun v=>⟨fun hv=>by
   rcases List.mem_cons.1 ((h v).1 (List.mem_cons_of_mem _ hv)) with e | e
   ·subst e; exact (ahn _ _ (ha v hv) (ha v hv)).elim
   ·exact e,fun hv=>by
   rcases List.mem_cons.1 ((h v).2 (List.mem_cons_of_mem _ hv)) with e | e
   ·subst e; exact (ahn _ _ (hb v hv) (hb v hv)).elim
   ·exact e⟩]
theorem aiq {α:Type} {R:α→α→Prop} {G:Sl α} (h:(eh G).Pairwise R):∀ i j,i < j→j < G.n→R (G.get i) (G.get j):=fun i j Ct hj=>by
 have:=List.pairwise_iff_getElem.1 h i j (by rw [lQ]; omega) (by rw [lQ]; omega) Ct
 have e1:=Mg G i (by omega)
 have e2:=Mg G j (by omega)
 rw [List.getElem?_eq_getElem (by rw [lQ]; omega)] at e1 e2
 rw [Option.some.inj e1,Option.some.inj e2] at this
 exact this
theorem air {α:Type} {R:α→α→Prop} {G:Sl α} (h:∀ i j,i < j→j < G.n→R (G.get i) (G.get j)):(eh G).Pairwise R:=by
 unfold eh
 refine List.pairwise_map.2 (List.pairwise_iff_getElem.2 fun i j hi hj Ct=>?_)
 rw [List.getElem_range,List.getElem_range]
 exact h i j Ct (by simpa using hj)
def BX (s:Show) (f:aU):Int:=(s.items.get (Int.toNat f.item)).look.bin
def wX (s:Show) (w:aU×Bool) (b:Int) (f:aU):Bool:=sM s w f&&(BX s f==b)
def tt (s:Show) (w:aU×Bool) (l:List aU) (n:Nat):List aU:=(List.range n).flatMap fun (b:Nat)=>l.filter (wX s w (b:Int))
theorem afr (s:Show) (c:a8) (r:aB) (ground:Color) (x y:Int) (hk:DI s c r):NR r ground x y=lK s (cond (qP s c x y).2 (mD s (qP s c x y).1) ground) (tt s (qP s c x y) (n7 x y (lA s c)) 16):=by
 have ake:=aip s c x y
 obtain ⟨D,h1,h2,h3⟩:=VL s c r ground x y KL hk.looks hk.cN hk.parts hk.n (fun G hG=>fun i j Ct hj=>by
  have:(eh G).Pairwise KL:=by rw [hG]; exact ake.filter _
  exact aiq this i j Ct hj)
 have e:eh D=tt s (qP s c x y) (n7 x y (lA s c)) 16:=by
  refine aaz (lt:=(bK r KL).lt) (fun a b h h'=>?_) (air fun i j Ct hj=>h2 i j (Nat.zero_le _) Ct hj) ?_ (fun v=>?_)
  ·unfold Ord.lt bK KL at h h'
   simp only at h h'
   generalize bV r a=ka at *
   generalize bV r b=kb at *
   omega
  ·unfold tt
   have key:∀ v b,wX s (qP s c x y) b v=true→bV r v=b:=fun v b hv=>by
    unfold wX at hv
    rw [Bool.and_eq_true] at hv
    have:BX s v=b:=by simpa using hv.2
    rw [← this,← hk.cN]
    rfl
   refine List.pairwise_flatMap.2 ⟨fun b _=>?_,List.pairwise_lt_range.imp fun {a b} hab p hp q hq=>?_⟩
   ·refine List.Pairwise.imp_of_mem (R:=KL) (fun {p q} hp hq h=>?_) (ake.filter _)
    have kp:=key _ _ (List.mem_filter.1 hp).2
    have kq:=key _ _ (List.mem_filter.1 hq).2
    exact .inr ⟨kp.trans kq.symm,h⟩
   ·have kp:=key _ _ (List.mem_filter.1 hp).2
    have kq:=key _ _ (List.mem_filter.1 hq).2
    refine .inl ?_
    show bV r p < bV r q
    rw [kp,kq]
    omega
  ·have m1:v∈eh D↔v∈(n7 x y (lA s c)).filter (sM s (qP s c x y)):=⟨fun h=>LC h3 h,fun h=>LC (fun p=>(h3 p).symm) h⟩
   rw [m1]
   unfold tt
   constructor
   ·intro h
    obtain ⟨h4,h5⟩:=List.mem_filter.1 h
    obtain ⟨i1,i2⟩:=CM h4
    have hl:=afm (hk.looks.2 (Int.toNat v.item) (by omega))
    have hb0:0≤BX s v∧BX s v≤15:=⟨hl.n0,hl.n1⟩
    refine List.mem_flatMap.2 ⟨Int.toNat (BX s v),List.mem_range.2 (by omega),List.mem_filter.2 ⟨h4,?_⟩⟩
    unfold wX
    rw [h5,Int.toNat_of_nonneg hb0.1]
    simp
   ·intro h
    obtain ⟨b,_,h4⟩:=List.mem_flatMap.1 h
    obtain ⟨h5,h6⟩:=List.mem_filter.1 h4
    unfold wX at h6
    rw [Bool.and_eq_true] at h6
    exact List.mem_filter.2 ⟨h5,h6.1⟩
 have h1' : fY r ground x y=some (lK s (cond (qP s c x y).2 (mD s (qP s c x y).1) ground) (eh D)):=h1
 unfold NR
 rw [h1',e]
 rfl
theorem afs (s:Show) (g:Color) (l:List aU) (f:aU):lK s g (l++[f])=lay (mD s f) (lK s g l):=by
 unfold lK
 rw [List.foldl_append]
 rfl
theorem abg (s:Show) (g:Color) (l m:List aU):lK s g (l++m)=lK s (lK s g l) m:=by
 unfold lK
 rw [List.foldl_append]
theorem agw (s:Show) (l:Sl aU) (t10 ok mF:Bool) (g h bin:Int) (f:aU) (rQ want:Color) (hn:l.n≤98304) (hit:∀ j,j < l.n→0≤(l.get j).item∧(l.get j).item < (s.items.n:Int)) (hp:∀ j,j < l.n→jj (s.items.get (Int.toNat (l.get j).item)).look s.aK (l.get j).u (l.get j).v=some (mD s (l.get j),0)) :
  ∃ i:Int,goN eA ⟨t10,ok,l,mF,g,h,bin,0,s,f,rQ,want⟩ = .out (.exit 2) ⟨t10,ok,l,mF,g,h,bin,i,s,f,rQ,lK s want ((eh l).filter (wX s (f,mF) bin))⟩:=by
 refine Exists.elim (dE (step:=eA) (x:=⟨t10,ok,l,mF,g,h,bin,0,s,f,rQ,want⟩) (fun j z=>z=⟨t10,ok,l,mF,g,h,bin,(j:Int),s,f,rQ,lK s want (((eh l).take j).filter (wX s (f,mF) bin))⟩∧j≤l.n) (fun e z=>e = .exit 2∧∃ i:Int,z=⟨t10,ok,l,mF,g,h,bin,i,s,f,rQ,lK s want ((eh l).filter (wX s (f,mF) bin))⟩) l.n (by have:m6=1000000000000:=rfl; omega) (fun j z hj ⟨hz,hjl⟩=>?_) ⟨rfl,Nat.zero_le _⟩) (fun e h=>Exists.elim h fun z ⟨h1,h2,i,h3⟩=>⟨i,by rw [h1,h2,h3]⟩)
 subst hz
 have w1:aj ((j:Int)+1)=((j+1:Nat):Int):=by rw [a9 (by omega) (by omega)]; omega
 unfold eA
 by_cases bU:(j:Int) < ((l.n:Nat):Int)
 ·have nW:j < l.n:=by omega
  obtain ⟨i1,i2⟩:=hit j nW
  have e0:∀ (w:Color),aG ⟨t10,ok,l,mF,g,h,bin,(j:Int),s,f,rQ,w⟩=some (mD s (l.get j),0):=fun w=>by
   unfold aG
   simp only [Int.toNat_natCast]
   exact hp j nW
  have tk:((eh l).take (j+1)).filter (wX s (f,mF) bin)=((eh l).take j).filter (wX s (f,mF) bin)++cond (wX s (f,mF) bin (l.get j)) [l.get j] []:=by rw [Ur l j nW]; exact Sq
  simp only [e0,w1,Int.toNat_natCast,cond_true,Bool.and_self,Option.isSome_some,Option.getD_some,bne_self_eq_false,cond_false,decide_eq_true bU,decide_eq_true (show (0:Int)≤(j:Int) by omega),decide_eq_true i1,decide_eq_true i2]
  have hb:(s.items.get (Int.toNat (l.get j).item)).look.Ii=qw s (l.get j):=rfl
  have Mp:(s.items.get (Int.toNat (l.get j).item)).look.bin=BX s (l.get j):=rfl
  rw [hb,Mp]
  have hP:wX s (f,mF) bin (l.get j)=((qw s (l.get j)&&(!mF||decide ((l.get j).d > f.d)))&&(BX s (l.get j)==bin)):=rfl
  have no:wX s (f,mF) bin (l.get j)=false→(∃ x',(aI.next (⟨t10,ok,l,mF,g,h,bin,((j+1:Nat):Int),s,f,rQ,lK s want (((eh l).take j).filter (wX s (f,mF) bin))⟩:bp)) = .next x'∧j < l.n∧x' = ⟨t10,ok,l,mF,g,h,bin,((j+1:Nat):Int),s,f,rQ,lK s want (((eh l).take (j+1)).filter (wX s (f,mF) bin))⟩∧j+1≤l.n):=fun hf=>
   ⟨_,rfl,nW,by rw [tk,hf,cond_false,List.append_nil],by omega⟩
  have yes:wX s (f,mF) bin (l.get j)=true→(∃ x',(aI.next (⟨t10,ok,l,mF,g,h,bin,((j+1:Nat):Int),s,f,rQ,lay (mD s (l.get j)) (lK s want (((eh l).take j).filter (wX s (f,mF) bin)))⟩:bp)) = .next x'∧j < l.n∧x' = ⟨t10,ok,l,mF,g,h,bin,((j+1:Nat):Int),s,f,rQ,lK s want (((eh l).take (j+1)).filter (wX s (f,mF) bin))⟩∧j+1≤l.n):=fun hf=>
   ⟨_,rfl,nW,by rw [tk,hf,cond_true,afs],by omega⟩
  cases N8:qw s (l.get j) with
  | false=>
   rw [Bool.not_false,cond_true]
   exact .inl (no (by rw [hP,N8]; rfl))
  | true=>
   rw [Bool.not_true,cond_false]
   by_cases hq:BX s (l.get j)=bin
   ·rw [show (BX s (l.get j) != bin)=false by simpa using hq,cond_false]
    have hq' : (BX s (l.get j)==bin)=true:=by simpa using hq
    cases mF with
    | false=>
     rw [cond_false]
     exact .inl (yes (by rw [hP,N8,hq']; rfl))
    | true=>
     rw [cond_true]
     by_cases hd:(l.get j).d≤f.d
     ·rw [decide_eq_true hd,cond_true]
      exact .inl (no (by rw [hP,N8,hq',decide_eq_false (show ¬ (l.get j).d > f.d by omega)]; rfl))
     ·rw [decide_eq_false hd,cond_false]
      exact .inl (yes (by rw [hP,N8,hq',decide_eq_true (show (l.get j).d > f.d by omega)]; rfl))
   ·rw [show (BX s (l.get j) != bin)=true by simpa using hq,cond_true]
    have hq' : (BX s (l.get j)==bin)=false:=by simpa using hq
    exact .inl (no (by rw [hP,hq',Bool.and_false]))
 ·simp only [cond_false,decide_eq_false bU]
  refine .inr ⟨_,_,rfl,rfl,rfl,(j:Int),?_⟩
  have:((eh l).take j)=eh l:=List.take_of_length_le (by rw [lQ]; omega)
  rw [this]
theorem agx (s:Show) (l:Sl aU) (t10 ok mF:Bool) (g h:Int) (f:aU) (rQ want:Color) (hn:l.n≤98304) (hit:∀ j,j < l.n→0≤(l.get j).item∧(l.get j).item < (s.items.n:Int)) (hp:∀ j,j < l.n→jj (s.items.get (Int.toNat (l.get j).item)).look s.aK (l.get j).u (l.get j).v=some (mD s (l.get j),0)) :
  goN ee ⟨t10,ok,l,mF,g,h,0,s,f,rQ,want⟩ = .out (.exit 0) ⟨t10,ok,l,mF,g,h,16,s,f,rQ,lK s want (tt s (f,mF) (eh l) 16)⟩:=by
 refine Exists.elim (dE (step:=ee) (x:=⟨t10,ok,l,mF,g,h,0,s,f,rQ,want⟩) (fun b z=>z=⟨t10,ok,l,mF,g,h,(b:Int),s,f,rQ,lK s want (tt s (f,mF) (eh l) b)⟩∧b≤16) (fun e z=>e = .exit 0∧z=⟨t10,ok,l,mF,g,h,16,s,f,rQ,lK s want (tt s (f,mF) (eh l) 16)⟩) 16 (by decide) (fun b z hb ⟨hz,N8⟩=>?_) ⟨rfl,Nat.zero_le _⟩) (fun e h=>Exists.elim h fun z ⟨h1,h2,h3⟩=>by rw [h1,h2,h3])
 subst hz
 have w1:aj ((b:Int)+1)=((b+1:Nat):Int):=by rw [a9 (by omega) (by omega)]; omega
 unfold ee
 by_cases bU:(b:Int) < 16
 ·obtain ⟨i,hi⟩:=agw s l t10 ok mF g h (b:Int) f rQ (lK s want (tt s (f,mF) (eh l) b)) hn hit hp
  have e0:aR ⟨t10,ok,l,mF,g,h,(b:Int),s,f,rQ,lK s want (tt s (f,mF) (eh l) b)⟩ = .out (.exit 2) ⟨t10,ok,l,mF,g,h,(b:Int),i,s,f,rQ,lK s (lK s want (tt s (f,mF) (eh l) b)) ((eh l).filter (wX s (f,mF) (b:Int)))⟩:=hi
  rw [e0]
  simp only [aI.jC,aI.jL,fc,Nat.beq_refl,cond_true,w1,decide_eq_true bU]
  refine .inl ⟨_,rfl,by omega,?_,by omega⟩
  have:tt s (f,mF) (eh l) (b+1)=tt s (f,mF) (eh l) b++(eh l).filter (wX s (f,mF) (b:Int)):=by
   unfold tt
   exact Ln _ b
  rw [this,abg]
 ·simp only [cond_false,decide_eq_false bU]
  have:b=16:=by omega
  subst this
  exact .inr ⟨_,_,rfl,rfl,rfl,rfl⟩
theorem Ps (s:Show) (c:a8) (ground:Color) (x y:Int):sN s c ground x y=some true:=by
 obtain ⟨gr,Ta⟩:=Pb (afq s)
 have e0:uW s c ground x y=some gr:=Ta
 unfold sN
 simp only [e0,Option.isSome_some,Option.getD_some,cond_true]
 cases gr with
 | true=>rfl
 | false=>
 rw [cond_false]
 rcases atP s c ground x y with ⟨e,he,⟨l,h1⟩,h2,h3⟩ | ⟨r,l,hr,ho,hs,hc,ha,hx,hy,h1,hl,h2,h3⟩
 ·have e1:j7 s c ground x y=some (l,e):=h1
  have e2:dr s c ground x y=some (⟨0,0,0,0,0,0⟩,false,e):=h2
  have e3:eJ s c ground x y=some (⟨0,0,0,0⟩,e):=h3
  simp only [e1,e2,e3,Option.isSome_some,Option.getD_some,cond_true,show (e != (0:Int))=true by simpa using he,beq_self_eq_true,Bool.and_self]
 ·have e1:j7 s c ground x y=some (l,0):=h1
  have e2:dr s c ground x y=some (cond (qP s c x y).2 (qP s c x y).1 ⟨0,0,0,0,0,0⟩,(qP s c x y).2,0):=h2
  have e3:eJ s c ground x y=some (NR r ground x y,0):=h3
  have hp:aj7 s (n7 x y (lA s c)) (qP s c x y):=ab2 _ _
  have hln:l.n≤98304:=by
   rw [← lQ l,hl]
   refine Nat.le_trans (aj5 _ _ _) ?_
   rw [← hr.parts,lQ]
   exact hr.n
  have inL:∀ j,j < l.n→l.get j∈n7 x y (lA s c):=fun j hj=>by rw [← hl]; exact Lv hj
  have ab8:=afr s c r ground x y hr
  have aho:=fun (f:aU) (want:Color)=>agx s l false true (qP s c x y).2 0 0 f (NR r ground x y) want hln (fun j hj=>CM (inL j hj)) (fun j hj=>aay hr.looks (inL j hj))
  simp only [e1,e2,e3,Option.isSome_some,Option.getD_some,cond_true,bne_self_eq_false,cond_false]
  cases hb:(qP s c x y).2 with
  | true=>
   rw [hb] at aho ab8
   have kJ:(qP s c x y).1∈n7 x y (lA s c):=by
    rcases hp with ⟨q,_⟩ | ⟨_,q,_⟩
    ·rw [hb] at q; simp at q
    ·exact q
   have i1:=CM kJ
   have e4:nM s c ground x y=some (mD s (qP s c x y).1,0):=by
    unfold nM
    rw [e2,hb]
    exact aay hr.looks kJ
   have e5:dc s c ground x y = .out (.exit 0) ⟨false,true,l,true,0,0,16,s,(qP s c x y).1,NR r ground x y,lK s (mD s (qP s c x y).1) (tt s ((qP s c x y).1,true) (eh l) 16)⟩:=by
    unfold dc
    rw [e1,e2,e3,e4,hb]
    exact aho _ _
   rw [e5]
   simp only [e4,aI.jC,aI.jL,fc,Nat.beq_refl,Option.isSome_some,Option.getD_some,cond_true,bne_self_eq_false,cond_false,beq_self_eq_true,decide_eq_true i1.1,decide_eq_true i1.2,Bool.and_self]
   rw [show ((qP s c x y).1,true)=qP s c x y from by rw [← hb],hl]
   rw [cond_true] at ab8
   rw [← ab8]
   simp
  | false=>
   rw [hb] at aho ab8
   have e5:de s c ground x y = .out (.exit 0) ⟨false,true,l,false,0,0,16,s,⟨0,0,0,0,0,0⟩,NR r ground x y,lK s ground (tt s (⟨0,0,0,0,0,0⟩,false) (eh l) 16)⟩:=by
    unfold de
    rw [e1,e2,e3,hb]
    exact aho _ _
   rw [e5]
   simp only [aI.jC,aI.jL,fc,Nat.beq_refl,cond_true,cond_false,beq_self_eq_true]
   have Bw:tt s (⟨0,0,0,0,0,0⟩,false) (eh l) 16=tt s (qP s c x y) (n7 x y (lA s c)) 16:=by
    rw [hl]
    unfold tt
    congr 1
    funext b
    congr 1
    funext f
    unfold wX sM
    rw [hb]
    rfl
   rw [cond_false] at ab8
   rw [Bw,← ab8]
   simp
end Go.Proofs.Ytahhdndhkgbcjaa.b
end
section
namespace Go.aE
open Go.RowKit Go.WideShapes Go.ChangeShapes
theorem aft {H:Type} {enc:TypeId×Value→H} {P:Program} {f:Func} {s:ChangeSpec} {apart fresh handsOn again:Bool} {W W' : World} {args:Array Value} {v:Value} {ds gs:List (DataW H)} {before pa pv:List MemPlace}
  (whole:DataW.Whole enc P f.params.toList s.vars apart W args.toList ds gs before) (below:Below W.heap.size W W') (Xl:before=pa++pv)
  (res:∀ (b:Nat) (sp:Nat→Bool) (hd:Bool),DataW.TrodAll enc P W' b sp hd f.resultTypes.toList (v.resultList f.resultTypes.size) (s.fn H (ds++gs)).results [])
  (arg:∀ sp:Nat→Bool,(∀ p∈before,sp p.block=true)→DataW.TrodAll enc P W' 0 sp true f.params.toList args.toList (s.fn H (ds++gs)).args pa)
  (var:∀ sp:Nat→Bool,(∀ p∈before,sp p.block=true)→DataW.TrodVars enc P W' sp s.vars (s.fn H (ds++gs)).vars pv)
  (wide:∀ (j:Nat) (t:TypeId) (r:Value),f.resultTypes[j]? = some t→(v.resultList f.resultTypes.size)[j]? = some r→Value.okWide P W' .any 0 t r) :
  s.post enc P f apart fresh handsOn again W args v W':=by
 have lt:∀ p∈before,p.block < W.heap.size:=fun p hp=>whole.lt p hp
 have gV:∀ p∈before,(fun b=>decide (b < W.heap.size)) p.block=true:=fun p hp=>by simpa using lt p hp
 refine ⟨ds,gs,before,[],pa,pv,whole,res _ _ _,arg _ gV,var _ gV,World.keptBut_mono (fun p hp=>⟨hp,?_⟩) (below.frame (·∈before)),fun _=>?_⟩
 ·rw [Xl,List.mem_append] at hp; exact Or.inr hp
 ·obtain ⟨_,_,_,_,_,fz,nd⟩:=whole
  refine ⟨wide,_,_,([]++pa)++pv,⟨[]++pa,pv,trodAll_append (arg _ (fun _ _=>rfl)) (res _ _ _),var _ (fun _ _=>rfl),rfl,fun b off hp=>?_,fun ha=>?_⟩,fun p hp _=>?_⟩
  ·have here:MemPlace.cell b off∈before:=by rw [Xl]; simpa using hp
   rw [below.frozen (lt _ here)]
   exact fz b off here
  ·have:=nd ha
   rw [Xl] at this
   simpa using this
  ·rw [Xl]; simpa using hp
end Go.aE
end
section
namespace Go.K
open Go Go.aE Go.RowKit Go.WideShapes Go.ChangeShapes
section
variable {H:Type} {enc:TypeId×Value→H} {P:Program} {W W' : World}
theorem Ss {base:Nat} {sp:Nat→Bool} {held:Bool} : ∀ {ts:List TypeId} {vs:List Value} {ds:List (DataW H)} {ps:List MemPlace},DataW.TrodAll enc P W base sp held ts vs ds ps→ds.length=ts.length
 | [],_,_,_,h=>by
  obtain ⟨rfl,rfl,rfl⟩:=trodAll_nil h
  rfl
 | t::ts,vs,ds,ps,h=>by
  obtain ⟨v,vs1,d,ds1,a,b,rfl,rfl,rfl,_,h2⟩:=trodAll_cons h
  simp [Ss h2]
theorem G7 {α:Type} {n:Nat} {l:List α} (h:l.length=n+1):∃ x xs,l=x::xs:=by
 cases l with
 | nil=>simp at h
 | cons x xs=>exact ⟨x,xs,rfl⟩
theorem LH (hl:laidOutB P=true) (hb:Below W.heap.size W W') {sp:Nat→Bool} : ∀ {ts:List TypeId} {vs:List Value} {ds:List (DataW H)} {ps:List MemPlace},ts.all (fun t=>P.readableRec t&&Nat.blt t P.types.size)=true→
  DataW.TrodAll enc P W 0 (fun _=>true) true ts vs ds ps→(∀ x∈ps,x.block < W.heap.size)→(∀ x∈ps,sp x.block=true)→DataW.TrodAll enc P W' 0 sp true ts vs ds ps
 | [],_,_,_,_,h,_,_=>by
  obtain ⟨rfl,rfl,rfl⟩:=trodAll_nil h
  exact trodAll_mk0
 | t::ts,vs,ds,ps,ht,h,bU,u4=>by
  obtain ⟨v,vs1,d,ds1,a,b,rfl,rfl,rfl,h1,h2⟩:=trodAll_cons h
  simp only [List.all_cons,Bool.and_eq_true] at ht
  obtain ⟨⟨hr,jz⟩,ht⟩:=ht
  rw [Nat.blt_eq] at jz
  refine ⟨a,b,WideElems.Trod_stays hl hr jz h1 (fun x hx=>hb.same (bU x (by simp [hx]))) (fun x hx=>u4 x (by simp [hx])),?_,rfl⟩
  exact LH hl hb ht h2 (fun x hx=>bU x (by simp [hx])) (fun x hx=>u4 x (by simp [hx]))
theorem ait {s:ChangeSpec} {f:Func} {apart fresh handsOn again:Bool} {args:Array Value} {ds gs:List (DataW H)} {before:List MemPlace} (hl:laidOutB P=true) (hts:f.params.toList.all (fun t=>P.readableRec t&&Nat.blt t P.types.size)=true)
  (akf:s.vars = []) (alP:(s.fn H ds).args=ds) (aeA:(s.fn H ds).results = [.lit (.bool true)]) (hv:(s.fn H ds).vars = []) {t:TypeId} (hrt:f.resultTypes = #[t]) (hb:P.underlying t=some .bool)
  (hW:DataW.Whole enc P f.params.toList s.vars apart W args.toList ds gs before) (hg:Below W.heap.size W W'):s.post enc P f apart fresh handsOn again W args (.bool true) W':=by
 have hW':=hW
 obtain ⟨p,q,hA,hV,alh,_,_⟩:=hW
 rw [akf] at hV
 obtain ⟨rfl,rfl⟩:=trodVars_none hV
 rw [List.append_nil] at alh
 subst alh
 have bU:∀ x∈before,x.block < W.heap.size:=fun x hx=>hW'.lt x (by simpa using hx)
 refine aE.aft (pa:=before) (pv:=[]) hW' hg (by simp) (fun b sp hd=>?_) (fun sp u4=>?_) (fun sp u4=>?_) (ok_one hrt rfl (okWide_bool_mk hb _))
 ·rw [List.append_nil,aeA,hrt]
  exact trodAll_cons_mk (shut_bool hb _) trodAll_mk0
 ·rw [List.append_nil,alP]
  exact LH hl hg hts hA bU (fun x hx=>u4 x (by simpa using hx))
 ·rw [List.append_nil,hv,akf]
  rfl
end
end Go.K
end
