/- Part of the proof of ImageLeaves: a machine that runs the program's code over open terms, shown to be the model's, and the plain models of its functions. No conditions. -/
import Derived.Test.YtahhdndhkgbcjaaJp
import Derived.Below
import Derived.ChangeSame
import Derived.ProofKit
import Derived.Test.YtahhdndhkgbcjaaHp
import Derived.WideKeyArgs
section
namespace Go.Proofs.Ytahhdndhkgbcjaa.b
open Go.K Go.K.se
open Go.aE (ak)
theorem aek (h:aB) (D:Sl aK) (gd:aK→aK→Prop) (a m b:Nat) (h1:a+1=m) (h2:m≤b) (h4:b≤D.n) (h3:D.n≤10000000000) (b9:∀ t,t < D.n→hX h (D.get t)=true) (hs:gp (bJ h gd) D.get m b) :
  ∃ i:Nat,goN da ⟨D,(a:Int),(m:Int),(b:Int),(m:Int),(b:Int),h⟩ = .out (.exit 0) ⟨D,(a:Int),(m:Int),(b:Int),(i:Int),(i:Int),h⟩∧m≤i∧i≤b∧(∀ t,m≤t→t < i→bT h (D.get t) < bT h (D.get a))∧∀ t,i≤t→t < b→bT h (D.get a)≤bT h (D.get t):=by
 refine Exists.elim (dp (step:=da) (x:=⟨D,(a:Int),(m:Int),(b:Int),(m:Int),(b:Int),h⟩) (fun k y=>∃ i j:Nat,y=⟨D,(a:Int),(m:Int),(b:Int),(i:Int),(j:Int),h⟩∧m≤i∧i≤j∧j≤b∧j - i+k≤b - m∧(∀ t,m≤t→t < i→bT h (D.get t) < bT h (D.get a))∧∀ t,j≤t→t < b→bT h (D.get a)≤bT h (D.get t)) (fun e y=>e = .exit 0∧∃ i:Nat,y=⟨D,(a:Int),(m:Int),(b:Int),(i:Int),(i:Int),h⟩∧m≤i∧i≤b∧(∀ t,m≤t→t < i→bT h (D.get t) < bT h (D.get a))∧∀ t,i≤t→t < b→bT h (D.get a)≤bT h (D.get t)) (b - m) (by have:mm=1000000000000:=rfl; omega) (fun k y hk ⟨i,j,hy,g1,g2,g3,g4,g5,g6⟩=>?_) ⟨m,b,rfl,Nat.le_refl _,h2,Nat.le_refl _,by omega,fun t t1 t2=>by omega,fun t t1 t2=>by omega⟩) fun e ⟨y,hy,he,i,hi,q⟩=>⟨i,by rw [hy,he,hi],q⟩
 ·subst hy
  unfold da
  by_cases bV:i < j
  ·have hh:=aej (i:=i) (j:=j) (by omega)
   obtain ⟨r,r1,r2⟩:=M3 (bT h (D.get ((i+j) / 2))) (bT h (D.get a))
   have e0:iL ⟨D,(a:Int),(m:Int),(b:Int),(i:Int),(j:Int),h⟩=some r:=by
    unfold iL
    simp only [hh,Int.toNat_natCast,Nat.zero_add]
    exact r1
   have o1:((decide ((0:Int)≤(D.get ((i+j) / 2)).item))&&(decide ((D.get ((i+j) / 2)).item < ((h.cT.items.n:Nat):Int))))=true:=b9 _ (by omega)
   have o2:((decide ((0:Int)≤(D.get a).item))&&(decide ((D.get a).item < ((h.cT.items.n:Nat):Int))))=true:=b9 _ (by omega)
   simp only [hh,e0,decide_eq_true (show (i:Int) < (j:Int) by omega),cond_true,Th (show (i+j) / 2 < D.n by omega),Th (show a < D.n by omega),Int.toNat_natCast,Nat.zero_add,o1,o2,Option.isSome_some,Option.getD_some,aZ,r2]
   by_cases hc:bT h (D.get ((i+j) / 2)) < bT h (D.get a)
   ·rw [decide_eq_true hc,cond_true,Qg (by omega)]
    refine .inl ⟨_,rfl,by omega,(i+j) / 2+1,j,rfl,by omega,by omega,g3,by omega,fun t t1 t2=>?_,g6⟩
    have:=hs.key (i:=t) (j:=(i+j) / 2) t1 (by omega) (by omega)
    exact Int.lt_of_le_of_lt this hc
   ·rw [decide_eq_false hc,cond_false]
    refine .inl ⟨_,rfl,by omega,i,(i+j) / 2,rfl,g1,by omega,by omega,by omega,g5,fun t t1 t2=>?_⟩
    have:=hs.key (i:=(i+j) / 2) (j:=t) (by omega) t1 t2
    exact Int.le_trans (Int.not_lt.1 hc) this
  ·simp only [decide_eq_false (show ¬ (i:Int) < (j:Int) by omega),cond_false,aZ,cond_true]
   have:j=i:=by omega
   subst this
   exact .inr ⟨_,_,rfl,rfl,rfl,j,rfl,g1,g3,g5,g6⟩
theorem ael (h:aB) (D:Sl aK) (gd:aK→aK→Prop) (a m b:Nat) (h2:a≤m) (h4:m < D.n) (h3:D.n≤10000000000) (b9:∀ t,t < D.n→hX h (D.get t)=true) (hs:gp (bJ h gd) D.get a m) :
  ∃ i:Nat,goN db ⟨D,(a:Int),(m:Int),(b:Int),(a:Int),(m:Int),h⟩ = .out (.exit 4) ⟨D,(a:Int),(m:Int),(b:Int),(i:Int),(i:Int),h⟩∧a≤i∧i≤m∧(∀ t,a≤t→t < i→bT h (D.get t)≤bT h (D.get m))∧∀ t,i≤t→t < m→bT h (D.get m) < bT h (D.get t):=by
 refine Exists.elim (dp (step:=db) (x:=⟨D,(a:Int),(m:Int),(b:Int),(a:Int),(m:Int),h⟩) (fun k y=>∃ i j:Nat,y=⟨D,(a:Int),(m:Int),(b:Int),(i:Int),(j:Int),h⟩∧a≤i∧i≤j∧j≤m∧j - i+k≤m - a∧(∀ t,a≤t→t < i→bT h (D.get t)≤bT h (D.get m))∧∀ t,j≤t→t < m→bT h (D.get m) < bT h (D.get t)) (fun e y=>e = .exit 4∧∃ i:Nat,y=⟨D,(a:Int),(m:Int),(b:Int),(i:Int),(i:Int),h⟩∧a≤i∧i≤m∧(∀ t,a≤t→t < i→bT h (D.get t)≤bT h (D.get m))∧∀ t,i≤t→t < m→bT h (D.get m) < bT h (D.get t)) (m - a) (by have:mm=1000000000000:=rfl; omega) (fun k y hk ⟨i,j,hy,g1,g2,g3,g4,g5,g6⟩=>?_) ⟨a,m,rfl,Nat.le_refl _,h2,Nat.le_refl _,by omega,fun t t1 t2=>by omega,fun t t1 t2=>by omega⟩) fun e ⟨y,hy,he,i,hi,q⟩=>⟨i,by rw [hy,he,hi],q⟩
 ·subst hy
  unfold db
  by_cases bV:i < j
  ·have hh:=aej (i:=i) (j:=j) (by omega)
   obtain ⟨r,r1,r2⟩:=M3 (bT h (D.get m)) (bT h (D.get ((i+j) / 2)))
   have e0:iM ⟨D,(a:Int),(m:Int),(b:Int),(i:Int),(j:Int),h⟩=some r:=by
    unfold iM
    simp only [hh,Int.toNat_natCast,Nat.zero_add]
    exact r1
   have o1:((decide ((0:Int)≤(D.get ((i+j) / 2)).item))&&(decide ((D.get ((i+j) / 2)).item < ((h.cT.items.n:Nat):Int))))=true:=b9 _ (by omega)
   have o2:((decide ((0:Int)≤(D.get m).item))&&(decide ((D.get m).item < ((h.cT.items.n:Nat):Int))))=true:=b9 _ (by omega)
   simp only [hh,e0,decide_eq_true (show (i:Int) < (j:Int) by omega),cond_true,Th (show (i+j) / 2 < D.n by omega),Th h4,Int.toNat_natCast,Nat.zero_add,o1,o2,Option.isSome_some,Option.getD_some,aZ,r2]
   by_cases hc:bT h (D.get m) < bT h (D.get ((i+j) / 2))
   ·rw [decide_eq_true hc,Bool.not_true,cond_false]
    refine .inl ⟨_,rfl,by omega,i,(i+j) / 2,rfl,g1,by omega,by omega,by omega,g5,fun t t1 t2=>?_⟩
    have:=hs.key (i:=(i+j) / 2) (j:=t) (by omega) t1 t2
    exact Int.lt_of_lt_of_le hc this
   ·rw [decide_eq_false hc,Bool.not_false,cond_true,Qg (by omega)]
    refine .inl ⟨_,rfl,by omega,(i+j) / 2+1,j,rfl,by omega,by omega,g3,by omega,fun t t1 t2=>?_,g6⟩
    have:=hs.key (i:=t) (j:=(i+j) / 2) t1 (by omega) (by omega)
    exact Int.le_trans this (Int.not_lt.1 hc)
  ·simp only [decide_eq_false (show ¬ (i:Int) < (j:Int) by omega),cond_false,aZ,cond_true]
   have:j=i:=by omega
   subst this
   exact .inr ⟨_,_,rfl,rfl,rfl,j,rfl,g1,g3,g5,g6⟩
theorem Ti (h:aB) (D:Sl aK) (a m b cn s0 r0:Nat) (h1:s0≤r0) (h2:r0≤m) (h5:r0≤cn) (h6:cn+m≤b+s0) (h7:m≤b) (h4:b≤D.n) (h3:D.n≤10000000000) (h8:1≤m) (b9:∀ t,t < D.n→hX h (D.get t)=true) :
  ∃ s:Nat,goN ct ⟨D,(a:Int),(m:Int),(b:Int),(cn:Int),((cn+m:Nat):Int),(s0:Int),(r0:Int),((cn+m - 1:Nat):Int),h⟩ = .out (.exit 8) ⟨D,(a:Int),(m:Int),(b:Int),(cn:Int),((cn+m:Nat):Int),(s:Int),(s:Int),((cn+m - 1:Nat):Int),h⟩∧s0≤s∧s≤r0∧
   (s=s0∨(s0 < s∧bT h (D.get (s - 1))≤bT h (D.get (cn+m - s))))∧(s=r0∨(s < r0∧bT h (D.get (cn+m - 1 - s)) < bT h (D.get s))):=by
 refine Exists.elim (dp (step:=ct) (x:=⟨D,(a:Int),(m:Int),(b:Int),(cn:Int),((cn+m:Nat):Int),(s0:Int),(r0:Int),((cn+m - 1:Nat):Int),h⟩) (fun k y=>∃ i j:Nat,y=⟨D,(a:Int),(m:Int),(b:Int),(cn:Int),((cn+m:Nat):Int),(i:Int),(j:Int),((cn+m - 1:Nat):Int),h⟩∧s0≤i∧i≤j∧j≤r0∧j - i+k≤r0 - s0∧(i=s0∨(s0 < i∧bT h (D.get (i - 1))≤bT h (D.get (cn+m - i))))∧(j=r0∨(j < r0∧bT h (D.get (cn+m - 1 - j)) < bT h (D.get j)))) (fun e y=>e = .exit 8∧∃ i:Nat,y=⟨D,(a:Int),(m:Int),(b:Int),(cn:Int),((cn+m:Nat):Int),(i:Int),(i:Int),((cn+m - 1:Nat):Int),h⟩∧s0≤i∧i≤r0∧(i=s0∨(s0 < i∧bT h (D.get (i - 1))≤bT h (D.get (cn+m - i))))∧(i=r0∨(i < r0∧bT h (D.get (cn+m - 1 - i)) < bT h (D.get i)))) (r0 - s0) (by have:mm=1000000000000:=rfl; omega) (fun k y hk ⟨i,j,hy,g1,g2,g3,g4,g5,g6⟩=>?_) ⟨s0,r0,rfl,Nat.le_refl _,h1,Nat.le_refl _,by omega,.inl rfl,.inl rfl⟩) fun e ⟨y,hy,he,i,hi,q⟩=>⟨i,by rw [hy,he,hi],q⟩
 ·subst hy
  unfold ct
  by_cases bV:i < j
  ·have hh:=aej (i:=i) (j:=j) (by omega)
   have hp:=BD (i:=cn+m - 1) (j:=(i+j) / 2) (by omega) (by omega)
   obtain ⟨r,r1,r2⟩:=M3 (bT h (D.get (cn+m - 1 - (i+j) / 2))) (bT h (D.get ((i+j) / 2)))
   have e0:ir ⟨D,(a:Int),(m:Int),(b:Int),(cn:Int),((cn+m:Nat):Int),(i:Int),(j:Int),((cn+m - 1:Nat):Int),h⟩=some r:=by
    unfold ir
    simp only [hh,hp,Int.toNat_natCast,Nat.zero_add]
    exact r1
   have o1:((decide ((0:Int)≤(D.get ((i+j) / 2)).item))&&(decide ((D.get ((i+j) / 2)).item < ((h.cT.items.n:Nat):Int))))=true:=b9 _ (by omega)
   have o2:((decide ((0:Int)≤(D.get (cn+m - 1 - (i+j) / 2)).item))&&(decide ((D.get (cn+m - 1 - (i+j) / 2)).item < ((h.cT.items.n:Nat):Int))))=true:=b9 _ (by omega)
   simp only [hh,hp,e0,decide_eq_true (show (i:Int) < (j:Int) by omega),cond_true,Th (show (i+j) / 2 < D.n by omega),Th (show cn+m - 1 - (i+j) / 2 < D.n by omega),Int.toNat_natCast,Nat.zero_add,o1,o2,Option.isSome_some,Option.getD_some,aZ,r2]
   by_cases hc:bT h (D.get (cn+m - 1 - (i+j) / 2)) < bT h (D.get ((i+j) / 2))
   ·rw [decide_eq_true hc,Bool.not_true,cond_false]
    exact .inl ⟨_,rfl,by omega,i,(i+j) / 2,rfl,g1,by omega,by omega,by omega,g5,.inr ⟨by omega,hc⟩⟩
   ·rw [decide_eq_false hc,Bool.not_false,cond_true,Qg (by omega)]
    refine .inl ⟨_,rfl,by omega,(i+j) / 2+1,j,rfl,by omega,by omega,g3,by omega,.inr ⟨by omega,?_⟩,g6⟩
    rw [show cn+m - ((i+j) / 2+1)=cn+m - 1 - (i+j) / 2 by omega,Nat.add_sub_cancel]
    exact Int.not_lt.1 hc
  ·simp only [decide_eq_false (show ¬ (i:Int) < (j:Int) by omega),cond_false,aZ,cond_true]
   have:j=i:=by omega
   subst this
   exact .inr ⟨_,_,rfl,rfl,rfl,j,rfl,g1,g3,g5,g6⟩
theorem aem (h:aB) (D:Sl aK) (a m b i:Nat) (h1:a+1≤i) (h4:i≤D.n) (h3:D.n≤10000000000) :
  ∃ D',∃ k:Int,goN dc ⟨D,(a:Int),(m:Int),(b:Int),(i:Int),(a:Int),h⟩ = .out (.exit 2) ⟨D',(a:Int),(m:Int),(b:Int),(i:Int),k,h⟩∧D'.n=D.n∧∀ t,D'.get t=HA D.get a (i - 1) t:=by
 refine Exists.elim (dp (step:=dc) (x:=⟨D,(a:Int),(m:Int),(b:Int),(i:Int),(a:Int),h⟩) (fun k y=>∃ D',y=⟨D',(a:Int),(m:Int),(b:Int),(i:Int),((a+k:Nat):Int),h⟩∧a+k≤i - 1∧D'.n=D.n∧∀ t,D'.get t=HA D.get a (a+k) t) (fun e y=>e = .exit 2∧∃ D',∃ k:Int,y=⟨D',(a:Int),(m:Int),(b:Int),(i:Int),k,h⟩∧D'.n=D.n∧∀ t,D'.get t=HA D.get a (i - 1) t) (i - 1 - a) (by have:mm=1000000000000:=rfl; omega) (fun k y hk ⟨D',hy,g1,g2,g3⟩=>?_) ⟨D,rfl,by omega,rfl,fun t=>by rw [Nat.add_zero,ajd]⟩) fun e ⟨y,hy,he,D',k,hi,q⟩=>⟨D',k,by rw [hy,he,hi],q⟩
 ·subst hy
  unfold dc
  have hi:=aa9 (i:=i) (by omega) (by omega)
  by_cases bV:a+k < i - 1
  ·have Ge:=Qg (i:=a+k) (by omega)
   simp only [hi,Ge,decide_eq_true (show ((a+k:Nat):Int) < ((i - 1:Nat):Int) by omega),cond_true,Th (show a+k < D'.n by omega),Th (show a+k+1 < D'.n by omega),aZ]
   refine .inl ⟨_,rfl,by omega,_,rfl,by omega,g2,fun t=>?_⟩
   rw [M1,Int.toNat_natCast,Int.toNat_natCast,Nat.zero_add,Nat.zero_add,show a+(k+1)=a+k+1 by omega,ajf (by omega),g3,g3,g3]
   by_cases e1:t=a+k+1
   ·subst e1; rw [if_pos rfl,if_neg (by omega),if_pos rfl]
   ·rw [if_neg e1]
    by_cases e2:t=a+k
    ·subst e2; rw [if_pos rfl,if_pos rfl]
    ·rw [if_neg e2,if_neg e2,if_neg e1]
  ·simp only [hi,decide_eq_false (show ¬ ((a+k:Nat):Int) < ((i - 1:Nat):Int) by omega),cond_false,aZ,cond_true]
   exact .inr ⟨_,_,rfl,rfl,rfl,D',_,rfl,g2,fun t=>by rw [g3,show a+k=i - 1 by omega]⟩
theorem aen (h:aB) (D:Sl aK) (a m b i:Nat) (h1:i≤m) (h4:m < D.n) (h3:D.n≤10000000000) :
  ∃ D',∃ k:Int,goN cU ⟨D,(a:Int),(m:Int),(b:Int),(i:Int),(m:Int),h⟩ = .out (.exit 6) ⟨D',(a:Int),(m:Int),(b:Int),(i:Int),k,h⟩∧D'.n=D.n∧∀ t,D'.get t=ins D.get i m t:=by
 refine Exists.elim (dp (step:=cU) (x:=⟨D,(a:Int),(m:Int),(b:Int),(i:Int),(m:Int),h⟩) (fun k y=>∃ D',y=⟨D',(a:Int),(m:Int),(b:Int),(i:Int),((m - k:Nat):Int),h⟩∧i+k≤m∧D'.n=D.n∧∀ t,D'.get t=ins D.get (m - k) m t) (fun e y=>e = .exit 6∧∃ D',∃ k:Int,y=⟨D',(a:Int),(m:Int),(b:Int),(i:Int),k,h⟩∧D'.n=D.n∧∀ t,D'.get t=ins D.get i m t) (m - i) (by have:mm=1000000000000:=rfl; omega) (fun k y hk ⟨D',hy,g1,g2,g3⟩=>?_) ⟨D,rfl,by omega,rfl,fun t=>by rw [Nat.sub_zero,acZ]⟩) fun e ⟨y,hy,he,D',k,hi,q⟩=>⟨D',k,by rw [hy,he,hi],q⟩
 ·subst hy
  unfold cU
  by_cases bV:i < m - k
  ·have Ge:=aa9 (i:=m - k) (by omega) (by omega)
   simp only [Ge,decide_eq_true (show ((m - k:Nat):Int) > (i:Int) by omega),cond_true,Th (show m - k < D'.n by omega),Th (show m - k - 1 < D'.n by omega),aZ]
   refine .inl ⟨_,rfl,by omega,_,rfl,by omega,g2,fun t=>?_⟩
   rw [M1,Int.toNat_natCast,Int.toNat_natCast,Nat.zero_add,Nat.zero_add,show m - (k+1)=m - k - 1 by omega,ac1 (by omega) (by omega),g3,g3,g3]
  ·simp only [decide_eq_false (show ¬ ((m - k:Nat):Int) > (i:Int) by omega),cond_false,aZ,cond_true]
   exact .inr ⟨_,_,rfl,rfl,rfl,D',_,rfl,g2,fun t=>by rw [g3,show m - k=i by omega]⟩
end Go.Proofs.Ytahhdndhkgbcjaa.b
end
section
namespace Go.Proofs.Ytahhdndhkgbcjaa.b
open Go.K Go.K.se
open Go.aE (ak)
def C2 (rc:ah→aI ah) (z:a7) (D:Sl aK) (h:aB):aI ah:=
 cond (decide (z.cn < au (z.n - z.start)))
  (cond (decide (au (z.n - z.start) < z.b))
   (cond (av D.n z.data.n) (cond ((rc ⟨D,z.cn,au (z.n - z.start),z.b,h⟩).by .ret) (cond (av (rc ⟨D,z.cn,au (z.n - z.start),z.b,h⟩).st.data.n z.data.n) (.out .ret ⟨(rc ⟨D,z.cn,au (z.n - z.start),z.b,h⟩).st.data,z.a,z.m,z.b,(rc ⟨D,z.cn,au (z.n - z.start),z.b,h⟩).st.held⟩) .fail) .fail) .fail)
   (cond (av D.n z.data.n) (.out .ret ⟨D,z.a,z.m,z.b,h⟩) .fail))
  (cond (av D.n z.data.n) (.out .ret ⟨D,z.a,z.m,z.b,h⟩) .fail)
def HD (rc:ah→aI ah) (z:a7) (D:Sl aK) (h:aB):aI ah:=
 cond (decide (z.a < z.start))
  (cond (decide (z.start < z.cn))
   (cond (av D.n z.data.n) (cond ((rc ⟨D,z.a,z.start,z.cn,h⟩).by .ret) (C2 rc z (rc ⟨D,z.a,z.start,z.cn,h⟩).st.data (rc ⟨D,z.a,z.start,z.cn,h⟩).st.held) .fail) .fail)
   (C2 rc z D h))
  (C2 rc z D h)
def M4 (rc:ah→aI ah) (z:a7):aI ah:=
 cond (decide (z.start < z.m))
  (cond (decide (z.m < au (z.n - z.start)))
   (cond (av z.data.n z.data.n) (cond ((dZ ⟨z.data,z.start,z.m,au (z.n - z.start),z.eN⟩).by .ret) (HD rc z (dZ ⟨z.data,z.start,z.m,au (z.n - z.start),z.eN⟩).st.data (dZ ⟨z.data,z.start,z.m,au (z.n - z.start),z.eN⟩).st.held) .fail) .fail)
   (HD rc z z.data z.eN))
  (HD rc z z.data z.eN)
theorem abd (rc:ah→aI ah) (x:ah) (h1:((au (x.m - x.a))==(1:Int))=false) (h2:((au (x.b - x.m))==(1:Int))=false) :
  dG rc x=cond (decide (x.m > (au (Int.fdiv (m4 (au (x.a+x.b))) (2:Int)))))
   (cond (av x.data.n x.data.n) (cond ((ae rc x).by (.exit 8)) (M4 rc (ae rc x).st) .fail) .fail)
   (cond (av x.data.n x.data.n) (cond ((aa rc x).by (.exit 8)) (M4 rc (aa rc x).st) .fail) .fail):=by
 unfold dG
 rw [h1,h2]
 rfl
def s5 (h:aB) (gd:aK→aK→Prop) (D D' : Sl aK) (a b:Nat):Prop:=D'.n=D.n∧Perm D.get D'.get a b∧gp (bJ h gd) D'.get a b
def vW (h:aB) (gd:aK→aK→Prop) (rc:ah→aI ah) (L:Nat):Prop:=∀ (D:Sl aK) (a m b:Nat),a < m→m < b→b≤D.n→D.n≤10000000000→(∀ t,t < D.n→hX h (D.get t)=true)→b - a≤L→gp (bJ h gd) D.get a m→gp (bJ h gd) D.get m b→DY (bJ h gd) D.get a m b→
 ∃ D',rc ⟨D,(a:Int),(m:Int),(b:Int),h⟩ = .out .ret ⟨D',(a:Int),(m:Int),(b:Int),h⟩∧s5 h gd D D' a b
theorem sf {h:aB} {D D' : Sl aK} {a b:Nat} (hn:D'.n=D.n) (hb:b≤D.n) (hp:Perm D.get D'.get a b) (b9:∀ t,t < D.n→hX h (D.get t)=true):∀ t,t < D'.n→hX h (D'.get t)=true:=fun t ht=>by
 rw [hn] at ht
 by_cases wN:a≤t∧t < b
 ·obtain ⟨j,j1,j2,e⟩:=hp.mem wN.1 wN.2
  rw [e]; exact b9 j (by omega)
 ·rw [hp.2 t (by omega)]; exact b9 t ht
section
variable {h:aB} {gd:aK→aK→Prop} {rc:ah→aI ah} {L:Nat}
theorem abe (hrc:vW h gd rc L) (Z D:Sl aK) (a m b cn s e:Nat) (p:Int) (hm:m≤D.n) (hn:D.n=Z.n) (h3:D.n≤10000000000) (hb:b≤D.n) (hs:e+s=cn+m) (q1:cn≤e) (q2:e≤b) (b9:∀ t,t < D.n→hX h (D.get t)=true) (hL:b - cn≤L) (r1:gp (bJ h gd) D.get cn e) (r2:gp (bJ h gd) D.get e b) (r0:DY (bJ h gd) D.get cn e b) :
  ∃ D',C2 rc ⟨Z,(a:Int),(m:Int),(b:Int),(cn:Int),((cn+m:Nat):Int),(s:Int),(s:Int),p,h⟩ D h = .out .ret ⟨D',(a:Int),(m:Int),(b:Int),h⟩∧s5 h gd D D' cn b:=by
 have he:au (((cn+m:Nat):Int) - (s:Int))=(e:Int):=by rw [BD (by omega) (by omega)]; congr 1; omega
 unfold C2
 simp only [he,hn,aZ,cond_true]
 by_cases c1:cn < e
 ·rw [decide_eq_true (show (cn:Int) < (e:Int) by omega),cond_true]
  by_cases c2:e < b
  ·rw [decide_eq_true (show (e:Int) < (b:Int) by omega),cond_true]
   obtain ⟨D',k1,k2,k3,k4⟩:=hrc D cn e b c1 c2 hb h3 b9 hL r1 r2 r0
   rw [k1]
   simp only [aI.jR,aI.kA,fB,cond_true,k2,hn,aZ]
   exact ⟨D',rfl,k2,k3,k4⟩
  ·rw [decide_eq_false (show ¬ (e:Int) < (b:Int) by omega),cond_false]
   have:e=b:=by omega
   subst this
   exact ⟨D,rfl,rfl,.refl _ _ _,r1⟩
 ·rw [decide_eq_false (show ¬ (cn:Int) < (e:Int) by omega),cond_false]
  have:cn=e:=by omega
  subst this
  exact ⟨D,rfl,rfl,.refl _ _ _,r2⟩
theorem abT (hrc:vW h gd rc L) (Z D:Sl aK) (a m b cn s e:Nat) (p:Int) (hm:m≤D.n) (hn:D.n=Z.n) (h3:D.n≤10000000000) (hb:b≤D.n) (hs:e+s=cn+m) (q0:a≤s) (q3:s≤cn) (q1:cn≤e) (q2:e≤b) (b9:∀ t,t < D.n→hX h (D.get t)=true) (hL1:cn - a≤L) (hL:b - cn≤L) (vg:Split (bJ h gd) D.get a s cn e b) :
  ∃ D',HD rc ⟨Z,(a:Int),(m:Int),(b:Int),(cn:Int),((cn+m:Nat):Int),(s:Int),(s:Int),p,h⟩ D h = .out .ret ⟨D',(a:Int),(m:Int),(b:Int),h⟩∧s5 h gd D D' a b:=by
 have rest:∀ D2:Sl aK,s5 h gd D D2 a cn→∃ D',C2 rc ⟨Z,(a:Int),(m:Int),(b:Int),(cn:Int),((cn+m:Nat):Int),(s:Int),(s:Int),p,h⟩ D2 h = .out .ret ⟨D',(a:Int),(m:Int),(b:Int),h⟩∧s5 h gd D D' a b:=fun D2 ⟨m1,m2,m3⟩=>by
  have same:∀ i,cn≤i→D2.get i=D.get i:=fun i hi=>m2.2 i (.inr hi)
  obtain ⟨D',k1,k2,k3,k4⟩:=abe hrc Z D2 a m b cn s e p (by omega) (m1.trans hn) (by omega) (by omega) hs q1 q2 (sf m1 (by omega) m2 b9) hL (vg.r1.congr fun i i1 _=>same i i1) (vg.r2.congr fun i i1 _=>same i (by omega)) (fun i j i1 i2 j1 j2=>by rw [same i i1,same j (by omega)]; exact vg.r0 i j i1 i2 j1 j2)
  exact ⟨D',k1,k2.trans m1,(m2.wide (Nat.le_refl _) (by omega) (by omega)).trans (k3.wide (by omega) (by omega) (Nat.le_refl _)),aei vg.lr m2 m3 k3 k4⟩
 unfold HD
 simp only [hn,aZ,cond_true]
 by_cases c1:a < s
 ·rw [decide_eq_true (show (a:Int) < (s:Int) by omega),cond_true]
  by_cases c2:s < cn
  ·rw [decide_eq_true (show (s:Int) < (cn:Int) by omega),cond_true]
   obtain ⟨D2,k1,k2⟩:=hrc D a s cn c1 c2 (by omega) h3 b9 hL1 vg.l1 vg.l2 vg.l0
   rw [k1]
   simp only [aI.jR,aI.kA,fB,cond_true]
   exact rest D2 k2
  ·rw [decide_eq_false (show ¬ (s:Int) < (cn:Int) by omega),cond_false]
   have:s=cn:=by omega
   exact rest D ⟨rfl,.refl _ _ _,by rw [← this]; exact vg.l1⟩
 ·rw [decide_eq_false (show ¬ (a:Int) < (s:Int) by omega),cond_false]
  have:a=s:=by omega
  exact rest D ⟨rfl,.refl _ _ _,by rw [this]; exact vg.l2⟩
theorem Md (hrc:vW h gd rc L) (D:Sl aK) (a m b cn s e:Nat) (p:Int) (h3:D.n≤10000000000) (hb:b≤D.n) (hs:e+s=cn+m) (q0:a≤s) (q3:s≤cn) (q4:s≤m) (q1:cn≤e) (q5:m≤e) (q2:e≤b) (b9:∀ t,t < D.n→hX h (D.get t)=true) (hL1:cn - a≤L) (hL:b - cn≤L) (s1:gp (bJ h gd) D.get a m) (s2:gp (bJ h gd) D.get m b) (s0:DY (bJ h gd) D.get a m b) (w1:∀ i j,a≤i→i < s→e≤j→j < b→(bJ h gd).key (D.get i)≤(bJ h gd).key (D.get j)) (w2:∀ i j,s≤i→i < m→m≤j→j < e→(bJ h gd).key (D.get j) < (bJ h gd).key (D.get i)) :
  ∃ D',M4 rc ⟨D,(a:Int),(m:Int),(b:Int),(cn:Int),((cn+m:Nat):Int),(s:Int),(s:Int),p,h⟩ = .out .ret ⟨D',(a:Int),(m:Int),(b:Int),h⟩∧s5 h gd D D' a b:=by
 have he:au (((cn+m:Nat):Int) - (s:Int))=(e:Int):=by rw [BD (by omega) (by omega)]; congr 1; omega
 have vg:=ahr (o:=bJ h gd) s1 s2 s0 q0 q4 q5 q2 hs w1 w2
 have rest:∀ D1:Sl aK,D1.n=D.n→(∀ t,D1.get t=CO D.get s m e t)→∃ D',HD rc ⟨D,(a:Int),(m:Int),(b:Int),(cn:Int),((cn+m:Nat):Int),(s:Int),(s:Int),p,h⟩ D1 h = .out .ret ⟨D',(a:Int),(m:Int),(b:Int),h⟩∧s5 h gd D D' a b:=fun D1 n1 g1=>by
  have hf:D1.get=CO D.get s m e:=funext g1
  have hp:Perm D.get D1.get s e:=by rw [hf]; exact ajg q4 q5
  obtain ⟨D',k1,k2,k3,k4⟩:=abT hrc D D1 a m b cn s e p (by omega) n1 (by omega) (by omega) hs q0 q3 q1 q2 (sf n1 (by omega) hp b9) hL1 hL (by rw [hf]; exact vg)
  exact ⟨D',k1,k2.trans n1,(hp.wide q0 (by omega) q2).trans k3,k4⟩
 unfold M4
 simp only [he,aZ,cond_true]
 by_cases c1:s < m
 ·rw [decide_eq_true (show (s:Int) < (m:Int) by omega),cond_true]
  by_cases c2:m < e
  ·rw [decide_eq_true (show (m:Int) < (e:Int) by omega),cond_true]
   obtain ⟨D1,k1,k2,k3⟩:=abb h D s m e c1 c2 (by omega) h3
   rw [k1]
   simp only [aI.jR,aI.kA,fB,cond_true]
   exact rest D1 k2 k3
  ·rw [decide_eq_false (show ¬ (m:Int) < (e:Int) by omega),cond_false]
   refine rest D rfl fun t=>?_
   by_cases ht:t < s∨e≤t
   ·rw [HB q4 q5 ht]
   ·rw [Jd (by omega) (by omega)]; congr 1; omega
 ·rw [decide_eq_false (show ¬ (s:Int) < (m:Int) by omega),cond_false]
  refine rest D rfl fun t=>?_
  by_cases ht:t < s∨e≤t
  ·rw [HB q4 q5 ht]
  ·rw [M0 (by omega) (by omega)]; congr 1; omega
theorem XG (hrc:vW h gd rc L):vW h gd (dG rc) (2 * L):=by
 intro D a m b h1 h2 h4 h3 b9 hL s1 s2 s0
 by_cases c1:m - a=1
 ·obtain ⟨i,k1,k2,k3,k4,k5⟩:=aek h D gd a m b (by omega) (by omega) h4 h3 b9 s2
  obtain ⟨D',k,j1,j2,j3⟩:=aem h D a m b i (by omega) (by omega) h3
  have e0:cu rc ⟨D,(a:Int),(m:Int),(b:Int),h⟩=_:=k1
  have e1:cP rc ⟨D,(a:Int),(m:Int),(b:Int),h⟩ = .out (.exit 2) ⟨D',(a:Int),(m:Int),(b:Int),(i:Int),k,h⟩:=by
   unfold cP
   rw [e0]
   exact j1
  have hf:D'.get=HA D.get a (i - 1):=funext j3
  refine ⟨D',?_,j2,?_,?_⟩
  ·unfold dG
   simp only [BD (i:=m) (j:=a) (by omega) (by omega),c1,e0,e1]
   simp only [aZ,cond_true,aI.jR,aI.kA,fB,Nat.beq_refl,show (((1:Nat):Int)==(1:Int))=true from rfl]
  ·rw [hf]
   exact (aje (d:=D.get) (a:=a) (k:=i - 1) (by omega)).wide (Nat.le_refl _) (by omega) (by omega)
  ·rw [hf]
   have hm:m=a+1:=by omega
   subst hm
   exact agk (o:=bJ h gd) s2 s0 k2 k3 k4 k5
 ·by_cases c2:b - m=1
  ·obtain ⟨i,k1,k2,k3,k4,k5⟩:=ael h D gd a m b (by omega) (by omega) h3 b9 s1
   obtain ⟨D',k,j1,j2,j3⟩:=aen h D a m b i k3 (by omega) h3
   have e0:cv rc ⟨D,(a:Int),(m:Int),(b:Int),h⟩=_:=k1
   have e1:cQ rc ⟨D,(a:Int),(m:Int),(b:Int),h⟩ = .out (.exit 6) ⟨D',(a:Int),(m:Int),(b:Int),(i:Int),k,h⟩:=by
    unfold cQ
    rw [e0]
    exact j1
   have hf:D'.get=ins D.get i m:=funext j3
   have hb:b=m+1:=by omega
   refine ⟨D',?_,j2,?_,?_⟩
   ·unfold dG
    simp only [BD (i:=m) (j:=a) (by omega) (by omega),BD (i:=b) (j:=m) (by omega) (by omega),c2,e0,e1,show (((m - a:Nat):Int)==(1:Int))=false by simpa using (show ¬ ((m - a:Nat):Int)=1 by omega),cond_false]
    simp only [aZ,cond_true,aI.jR,aI.kA,fB,Nat.beq_refl,show (((1:Nat):Int)==(1:Int))=true from rfl]
   ·rw [hf,hb]
    exact (ac0 (d:=D.get) (a:=a) k2 k3)
   ·rw [hf,hb]
    rw [hb] at s0
    exact Wu s1 s0 k2 k3 k4 k5
  ·have ak9:=aej (i:=a) (j:=b) (by omega)
   have hn:=aa8 (i:=(a+b) / 2) (j:=m) (by omega)
   have hp:=aa9 (i:=(a+b) / 2+m) (by omega) (by omega)
   have g1:((au ((m:Int) - (a:Int)))==(1:Int))=false:=by
    rw [BD (by omega) (by omega)]
    simpa using (show ¬ ((m - a:Nat):Int)=1 by omega)
   have g2:((au ((b:Int) - (m:Int)))==(1:Int))=false:=by
    rw [BD (by omega) (by omega)]
    simpa using (show ¬ ((b - m:Nat):Int)=1 by omega)
   rw [abd rc _ g1 g2]
   simp only [ak9,aZ,cond_true]
   by_cases c3:(a+b) / 2 < m
   ·rw [decide_eq_true (show (m:Int) > (((a+b) / 2:Nat):Int) by omega),cond_true]
    have iX:=BD (i:=(a+b) / 2+m) (j:=b) (by omega) (by omega)
    obtain ⟨s,k1,k2,k3,k4,k5⟩:=Ti h D a m b ((a+b) / 2) ((a+b) / 2+m - b) ((a+b) / 2) (by omega) (by omega) (Nat.le_refl _) (by omega) (by omega) h4 h3 (by omega) b9
    have e4:ae rc ⟨D,(a:Int),(m:Int),(b:Int),h⟩ = .out (.exit 8) ⟨D,(a:Int),(m:Int),(b:Int),(((a+b) / 2:Nat):Int),(((a+b) / 2+m:Nat):Int),(s:Int),(s:Int),(((a+b) / 2+m - 1:Nat):Int),h⟩:=by
     unfold ae
     simp only [ak9,hn,hp,iX]
     exact k1
    rw [e4]
    simp only [aI.jR,aI.kA,fB,Nat.beq_refl,cond_true]
    obtain ⟨w1,w2⟩:=OE (o:=bJ h gd) (s:=s) (s0:=(a+b) / 2+m - b) (r0:=(a+b) / 2) (cn:=(a+b) / 2) s1 s2 (by omega) (by omega) (by omega) (by omega) (k4.imp (fun e=>⟨e,.inr (by omega)⟩) fun ⟨q1,q2⟩=>⟨by omega,by omega,q2⟩) (k5.imp (fun e=>⟨e,.inr rfl⟩) fun ⟨q1,q2⟩=>⟨by omega,q1,q2⟩)
    exact Md hrc D a m b ((a+b) / 2) s ((a+b) / 2+m - s) _ h3 h4 (by omega) (by omega) (by omega) (by omega) (by omega) (by omega) (by omega) b9 (by omega) (by omega) s1 s2 s0 w1 w2
   ·rw [decide_eq_false (show ¬ (m:Int) > (((a+b) / 2:Nat):Int) by omega),cond_false]
    obtain ⟨s,k1,k2,k3,k4,k5⟩:=Ti h D a m b ((a+b) / 2) a m (by omega) (Nat.le_refl _) (by omega) (by omega) (by omega) h4 h3 (by omega) b9
    have e4:aa rc ⟨D,(a:Int),(m:Int),(b:Int),h⟩ = .out (.exit 8) ⟨D,(a:Int),(m:Int),(b:Int),(((a+b) / 2:Nat):Int),(((a+b) / 2+m:Nat):Int),(s:Int),(s:Int),(((a+b) / 2+m - 1:Nat):Int),h⟩:=by
     unfold aa
     simp only [ak9,hn,hp]
     exact k1
    rw [e4]
    simp only [aI.jR,aI.kA,fB,Nat.beq_refl,cond_true]
    obtain ⟨w1,w2⟩:=OE (o:=bJ h gd) (s:=s) (s0:=a) (r0:=m) (cn:=(a+b) / 2) s1 s2 (by omega) (by omega) (by omega) (by omega) (k4.imp (fun e=>⟨e,.inl rfl⟩) fun ⟨q1,q2⟩=>⟨q1,by omega,q2⟩) (k5.imp (fun e=>⟨e,.inl rfl⟩) fun ⟨q1,q2⟩=>⟨q1,by omega,q2⟩)
    exact Md hrc D a m b ((a+b) / 2) s ((a+b) / 2+m - s) _ h3 h4 (by omega) (by omega) (by omega) (by omega) (by omega) (by omega) (by omega) b9 (by omega) (by omega) s1 s2 s0 w1 w2
end
theorem AH (h:aB) (gd:aK→aK→Prop):∀ n:Nat,vW h gd (gH n) (2 ^ n)
 | 0=>fun D a m b h1 h2 _ _ _ hL=>by simp at hL; omega
 | n+1=>by
  have:=XG (AH h gd n)
  rw [Nat.pow_succ,Nat.mul_comm]
  exact this
end Go.Proofs.Ytahhdndhkgbcjaa.b
end
section
namespace Go.Proofs.Ytahhdndhkgbcjaa.b
open Go.K Go.K.se
open Go.aE (ak)
section
variable {h:Show} {gd:aaM→aaM→Prop} {rc:nW→aI nW} {L:Nat}
end
end Go.Proofs.Ytahhdndhkgbcjaa.b
end
section
namespace Go.K.se
variable {α:Type} {o:Ord α}
def Bl (o:Ord α) (g d:Nat→α) (l r:Nat):Prop:=gp o d l r∧∀ p:α→Bool,sI p d l (r - l)=sI p g l (r - l)
theorem Bl.congr {g d d' : Nat→α} {l r:Nat} (h:Bl o g d l r) (e:∀ i,l≤i→i < r→d' i=d i):Bl o g d' l r:=
 ⟨h.1.congr e,fun p=>by rw [pG (d:=d') (d':=d) (a:=l) (b:=l) fun i hi=>e _ (by omega) (by omega)]; exact h.2 p⟩
theorem Bl.join {g d d' : Nat→α} {a m b:Nat} (h1:Bl o g d a m) (h2:Bl o g d m b) (q1:a≤m) (q2:m≤b) (hp:Perm d d' a b) (hs:gp o d' a b):Bl o g d' a b:=by
 refine ⟨hs,fun p=>(hp.1 p).trans ?_⟩
 rw [show b - a=(m - a)+(b - m) by omega,pH,pH,show a+(m - a)=m by omega,h1.2,h2.2]
theorem BF {M l a:Nat} (h1:M ∣ l) (h2:M ∣ a) (h:l < a):l+M≤a:=by
 have:=Nat.le_of_dvd (by omega) (Nat.dvd_sub h2 h1)
 omega
def Bls (o:Ord α) (g d:Nat→α) (B n:Nat):Prop:=∀ l,B ∣ l→l < n→Bl o g d l (min (l+B) n)
end Go.K.se
namespace Go.Proofs.Ytahhdndhkgbcjaa.b
open Go.K Go.K.se
open Go.aE (ak)
section
variable (h:Show) (gd:aaM→aaM→Prop) (G:Sl aaM)
end
end Go.Proofs.Ytahhdndhkgbcjaa.b
end
section
namespace Go.Proofs.Ytahhdndhkgbcjaa.b
open Go.K Go.K.se
open Go.aE (ak)
section
variable (h:aB) (gd:aK→aK→Prop) (G:Sl aK)
theorem aeo (h3:G.n≤10000000000) (b9:∀ t,t < G.n→hX h (G.get t)=true) (hr:ac2 (bJ h gd) G.get G.n) :
  ∃ D:Sl aK,∃ a:Nat,∃ b:Int,goN dy ⟨G,(G.n:Int),(20:Int),(0:Int),(20:Int),h⟩ = .out (.exit 0) ⟨D,(G.n:Int),(20:Int),(a:Int),b,h⟩∧D.n=G.n∧20 ∣ a∧a≤G.n∧G.n < a+20∧(∀ l,20 ∣ l→l < a→Bl (bJ h gd) G.get D.get l (l+20))∧(∀ i,a≤i→D.get i=G.get i)∧∀ t,t < D.n→hX h (D.get t)=true:=by
 refine Exists.elim (dp (step:=dy) (x:=⟨G,(G.n:Int),(20:Int),(0:Int),(20:Int),h⟩) (fun k y=>∃ D:Sl aK,∃ a:Nat,y=⟨D,(G.n:Int),(20:Int),(a:Int),((a+20:Nat):Int),h⟩∧k≤a∧D.n=G.n∧20 ∣ a∧a≤G.n∧(∀ l,20 ∣ l→l < a→Bl (bJ h gd) G.get D.get l (l+20))∧(∀ i,a≤i→D.get i=G.get i)∧∀ t,t < D.n→hX h (D.get t)=true) (fun e y=>e = .exit 0∧∃ D:Sl aK,∃ a:Nat,∃ b:Int,y=⟨D,(G.n:Int),(20:Int),(a:Int),b,h⟩∧D.n=G.n∧20 ∣ a∧a≤G.n∧G.n < a+20∧(∀ l,20 ∣ l→l < a→Bl (bJ h gd) G.get D.get l (l+20))∧(∀ i,a≤i→D.get i=G.get i)∧∀ t,t < D.n→hX h (D.get t)=true) G.n (by have:mm=1000000000000:=rfl; omega) (fun k y hk ⟨D,a,hy,g0,g1,g2,g3,g4,g5,g6⟩=>?_) ⟨G,0,rfl,Nat.le_refl _,rfl,Nat.dvd_zero _,Nat.zero_le _,fun l _ hl=>by omega,fun _ _=>rfl,b9⟩) fun e ⟨y,hy,he,D,a,b,hi,q⟩=>⟨D,a,b,by rw [hy,he,hi],q⟩
 subst hy
 unfold dy
 by_cases hle:a+20≤G.n
 ·obtain ⟨D',k1,k2,k3,k4⟩:=HC h gd D a (a+20) (by omega) (by omega) (by omega) g6 (fun s t s1 s2 t1=>by rw [g5 s s1,g5 t (by omega)]; exact hr s t s2 (by omega))
  have e0:gW ⟨D,(G.n:Int),(20:Int),(a:Int),((a+20:Nat):Int),h⟩=_:=k1
  have e1:au (((a+20:Nat):Int)+(20:Int))=((a+20+20:Nat):Int):=by rw [zy (by omega) (by omega)]; omega
  simp only [decide_eq_true (show ((a+20:Nat):Int)≤(G.n:Int) by omega),cond_true,e0,e1,aZ,aI.jR,aI.kA,fB,k2]
  refine .inl ⟨_,rfl,by omega,D',a+20,rfl,by omega,k2.trans g1,Nat.dvd_add g2 (Nat.dvd_refl _),hle,fun l l1 l2=>?_,fun i hi=>?_,sf k2 (by omega) k3 g6⟩
  ·by_cases hl:l < a
   ·have:=BF l1 g2 hl
    exact (g4 l l1 hl).congr fun i i1 i2=>k3.2 i (.inl (by omega))
   ·have:l=a:=by
     by_cases e:a=l
     ·exact e.symm
     ·have:=BF g2 l1 (by omega); omega
    subst this
    refine ⟨k4,fun p=>(k3.1 p).trans (pG fun i hi=>g5 _ (by omega))⟩
  ·rw [k3.2 i (.inr hi)]; exact g5 i (by omega)
 ·simp only [decide_eq_false (show ¬ ((a+20:Nat):Int)≤(G.n:Int) by omega),cond_false,aZ,cond_true]
  exact .inr ⟨_,_,rfl,rfl,rfl,D,a,_,rfl,g1,g2,g3,by omega,g4,g5,g6⟩
theorem agl (E:Sl aK) (B:Nat) (h3:G.n≤10000000000) (hB:1≤B) (hB2:B < G.n) (hr:ac2 (bJ h gd) G.get G.n) (hn:E.n=G.n) (b9:∀ t,t < E.n→hX h (E.get t)=true) (hb:Bls (bJ h gd) G.get E.get B G.n) :
  ∃ D:Sl aK,∃ a:Nat,∃ b:Int,goN dj ⟨E,(G.n:Int),(B:Int),(0:Int),((2 * B:Nat):Int),h⟩ = .out (.exit 4) ⟨D,(G.n:Int),(B:Int),(a:Int),b,h⟩∧D.n=G.n∧2 * B ∣ a∧a≤G.n∧G.n < a+2 * B∧(∀ l,2 * B ∣ l→l < a→Bl (bJ h gd) G.get D.get l (l+2 * B))∧(∀ l,B ∣ l→a≤l→l < G.n→Bl (bJ h gd) G.get D.get l (min (l+B) G.n))∧∀ t,t < D.n→hX h (D.get t)=true:=by
 refine Exists.elim (dp (step:=dj) (x:=⟨E,(G.n:Int),(B:Int),(0:Int),((2 * B:Nat):Int),h⟩) (fun k y=>∃ D:Sl aK,∃ a:Nat,y=⟨D,(G.n:Int),(B:Int),(a:Int),((a+2 * B:Nat):Int),h⟩∧k≤a∧D.n=G.n∧2 * B ∣ a∧a≤G.n∧(∀ l,2 * B ∣ l→l < a→Bl (bJ h gd) G.get D.get l (l+2 * B))∧(∀ l,B ∣ l→a≤l→l < G.n→Bl (bJ h gd) G.get D.get l (min (l+B) G.n))∧∀ t,t < D.n→hX h (D.get t)=true) (fun e y=>e = .exit 4∧∃ D:Sl aK,∃ a:Nat,∃ b:Int,y=⟨D,(G.n:Int),(B:Int),(a:Int),b,h⟩∧D.n=G.n∧2 * B ∣ a∧a≤G.n∧G.n < a+2 * B∧(∀ l,2 * B ∣ l→l < a→Bl (bJ h gd) G.get D.get l (l+2 * B))∧(∀ l,B ∣ l→a≤l→l < G.n→Bl (bJ h gd) G.get D.get l (min (l+B) G.n))∧∀ t,t < D.n→hX h (D.get t)=true) G.n (by have:mm=1000000000000:=rfl; omega) (fun k y hk ⟨D,a,hy,g0,g1,g2,g3,g4,g5,g6⟩=>?_) ⟨E,0,by rw [Nat.zero_add]; rfl,Nat.le_refl _,hn,Nat.dvd_zero _,Nat.zero_le _,fun l _ hl=>by omega,fun l l1 _ l3=>hb l l1 l3,b9⟩) fun e ⟨y,hy,he,D,a,b,hi,q⟩=>⟨D,a,b,by rw [hy,he,hi],q⟩
 subst hy
 unfold dj
 have hBa:B ∣ a:=Nat.dvd_trans (Nat.dvd_mul_left B 2) g2
 by_cases hle:a+2 * B≤G.n
 ·have b1:Bl (bJ h gd) G.get D.get a (a+B):=by have:=g5 a hBa (Nat.le_refl _) (by omega); rwa [Nat.min_eq_left (by omega)] at this
  have b2:Bl (bJ h gd) G.get D.get (a+B) (a+2 * B):=by have:=g5 (a+B) (Nat.dvd_add hBa (Nat.dvd_refl _)) (by omega) (by omega); rwa [Nat.min_eq_left (by omega),show a+B+B=a+2 * B by omega] at this
  have hc:DY (bJ h gd) D.get a (a+B) (a+2 * B):=ac3 hr hle (by omega) (by omega) b1.2 b2.2
  obtain ⟨D',k1,k2,k3,k4⟩:=AH h gd 64 D a (a+B) (a+2 * B) (by omega) (by omega) (by omega) (by omega) g6 (Nat.le_trans (show _≤10000000000 by omega) (by decide)) b1.1 b2.1 hc
  have e2:au ((a:Int)+(B:Int))=((a+B:Nat):Int):=aa8 (by omega)
  have e0:eV ⟨D,(G.n:Int),(B:Int),(a:Int),((a+2 * B:Nat):Int),h⟩ = .out .ret ⟨D',(a:Int),((a+B:Nat):Int),((a+2 * B:Nat):Int),h⟩:=by
   unfold eV
   simp only [e2]
   exact k1
  have e1:au (((a+2 * B:Nat):Int)+au ((2:Int) * (B:Int)))=((a+2 * B+2 * B:Nat):Int):=by rw [zy (n:=(2:Int) * (B:Int)) (by omega) (by omega),zy (by omega) (by omega)]; omega
  simp only [decide_eq_true (show ((a+2 * B:Nat):Int)≤(G.n:Int) by omega),cond_true,e0,e1,aZ,aI.jR,aI.kA,fB,k2]
  refine .inl ⟨_,rfl,by omega,D',a+2 * B,rfl,by omega,k2.trans g1,Nat.dvd_add g2 (Nat.dvd_refl _),hle,fun l l1 l2=>?_,fun l l1 l2 l3=>?_,sf k2 (by omega) k3 g6⟩
  ·by_cases hl:l < a
   ·have:=BF l1 g2 hl
    exact (g4 l l1 hl).congr fun i i1 i2=>k3.2 i (.inl (by omega))
   ·have:l=a:=by
     by_cases e:a=l
     ·exact e.symm
     ·have:=BF g2 l1 (by omega); omega
    subst this
    exact b1.join b2 (by omega) (by omega) k3 k4
  ·exact (g5 l l1 (by omega) l3).congr fun i i1 i2=>k3.2 i (.inr (by omega))
 ·simp only [decide_eq_false (show ¬ ((a+2 * B:Nat):Int)≤(G.n:Int) by omega),cond_false,aZ,cond_true]
  exact .inr ⟨_,_,rfl,rfl,rfl,D,a,_,rfl,g1,g2,g3,by omega,g4,g5,g6⟩
theorem abU (E:Sl aK) (h3:G.n≤10000000000) (hr:ac2 (bJ h gd) G.get G.n) (hn:E.n=G.n) (b9:∀ t,t < E.n→hX h (E.get t)=true) (hb:Bls (bJ h gd) G.get E.get 20 G.n) :
  ∃ D:Sl aK,∃ B:Nat,goN dz ⟨E,(G.n:Int),(20:Int),h⟩ = .out (.exit 2) ⟨D,(G.n:Int),(B:Int),h⟩∧D.n=G.n∧G.n≤B∧Bls (bJ h gd) G.get D.get B G.n:=by
 refine Exists.elim (dp (step:=dz) (x:=⟨E,(G.n:Int),(20:Int),h⟩) (fun k y=>∃ D:Sl aK,∃ B:Nat,y=⟨D,(G.n:Int),(B:Int),h⟩∧k+1≤B∧D.n=G.n∧Bls (bJ h gd) G.get D.get B G.n∧∀ t,t < D.n→hX h (D.get t)=true) (fun e y=>e = .exit 2∧∃ D:Sl aK,∃ B:Nat,y=⟨D,(G.n:Int),(B:Int),h⟩∧D.n=G.n∧G.n≤B∧Bls (bJ h gd) G.get D.get B G.n) G.n (by have:mm=1000000000000:=rfl; omega) (fun k y hk ⟨D,B,hy,g0,g1,g2,g3⟩=>?_) ⟨E,20,rfl,by omega,hn,hb,b9⟩) fun e ⟨y,hy,he,D,B,hi,q⟩=>⟨D,B,by rw [hy,he,hi],q⟩
 subst hy
 unfold dz
 by_cases bV:B < G.n
 ·obtain ⟨D1,a,b,k1,k2,k3,k4,k5,k6,k7,k8⟩:=agl h gd G D B h3 (by omega) bV hr g1 g3 g2
  have e2:au ((2:Int) * (B:Int))=((2 * B:Nat):Int):=by rw [zy (by omega) (by omega)]; omega
  have e3:au ((B:Int) * (2:Int))=((2 * B:Nat):Int):=by rw [zy (by omega) (by omega)]; omega
  have e4:au ((a:Int)+(B:Int))=((a+B:Nat):Int):=aa8 (by omega)
  have e0:aG ⟨D,(G.n:Int),(B:Int),h⟩ = .out (.exit 4) ⟨D1,(G.n:Int),(B:Int),(a:Int),b,h⟩:=by
   unfold aG
   simp only [e2]
   exact k1
  have hBa:B ∣ a:=Nat.dvd_trans (Nat.dvd_mul_left B 2) k3
  have fin:∀ D' : Sl aK,(∀ i,i < a→D'.get i=D1.get i)→(a < G.n→Bl (bJ h gd) G.get D'.get a G.n)→Bls (bJ h gd) G.get D'.get (2 * B) G.n:=fun D' q1 q2 l l1 l2=>by
   by_cases hl:l < a
   ·have:=BF l1 k3 hl
    rw [Nat.min_eq_left (by omega)]
    exact (k6 l l1 hl).congr fun i i1 i2=>q1 i (by omega)
   ·have:l=a:=by
     by_cases e:a=l
     ·exact e.symm
     ·have:=BF k3 l1 (by omega); omega
    subst this
    rw [Nat.min_eq_right (by omega)]
    exact q2 l2
  simp only [decide_eq_true (show (B:Int) < (G.n:Int) by omega),cond_true,e0,aZ,aI.jR,aI.kA,fB,Nat.beq_refl,e3,e4]
  by_cases hm:a+B < G.n
  ·have b1:Bl (bJ h gd) G.get D1.get a (a+B):=by have:=k7 a hBa (Nat.le_refl _) (by omega); rwa [Nat.min_eq_left (by omega)] at this
   have b2:Bl (bJ h gd) G.get D1.get (a+B) G.n:=by have:=k7 (a+B) (Nat.dvd_add hBa (Nat.dvd_refl _)) (by omega) hm; rwa [Nat.min_eq_right (by omega)] at this
   have hc:DY (bJ h gd) D1.get a (a+B) G.n:=ac3 hr (Nat.le_refl _) (by omega) (by omega) b1.2 b2.2
   obtain ⟨D',j1,j2,j3,j4⟩:=AH h gd 64 D1 a (a+B) G.n (by omega) hm (by omega) (by omega) k8 (Nat.le_trans (show _≤10000000000 by omega) (by decide)) b1.1 b2.1 hc
   have e1:fI ⟨D,(G.n:Int),(B:Int),h⟩ = .out .ret ⟨D',(a:Int),((a+B:Nat):Int),(G.n:Int),h⟩:=by
    unfold fI
    rw [e0]
    simp only [aI.kA,e4]
    exact j1
   simp only [decide_eq_true (show ((a+B:Nat):Int) < (G.n:Int) by omega),cond_true,e1,aZ,aI.jR,aI.kA,fB,j2]
   exact .inl ⟨_,rfl,by omega,D',2 * B,rfl,by omega,j2.trans k2,fin D' (fun i hi=>j3.2 i (.inl hi)) (fun _=>b1.join b2 (by omega) (by omega) j3 j4),sf j2 (by omega) j3 k8⟩
  ·simp only [decide_eq_false (show ¬ ((a+B:Nat):Int) < (G.n:Int) by omega),cond_false]
   exact .inl ⟨_,rfl,by omega,D1,2 * B,rfl,by omega,k2,fin D1 (fun _ _=>rfl) (fun ha=>by have:=k7 a hBa (Nat.le_refl _) ha; rwa [Nat.min_eq_right (by omega)] at this),k8⟩
 ·simp only [decide_eq_false (show ¬ (B:Int) < (G.n:Int) by omega),cond_false,aZ,cond_true]
  exact .inr ⟨_,_,rfl,rfl,rfl,D,B,rfl,g1,by omega,g2⟩
theorem Tj (h3:G.n≤10000000000) (b9:∀ t,t < G.n→hX h (G.get t)=true) (hr:ac2 (bJ h gd) G.get G.n) :
  ∃ D:Sl aK,jM ⟨G,(G.n:Int),h⟩ = .out .ret ⟨D,(G.n:Int),h⟩∧D.n=G.n∧gp (bJ h gd) D.get 0 G.n∧∀ p:aK→Bool,sI p D.get 0 G.n=sI p G.get 0 G.n:=by
 obtain ⟨D0,a,b,k1,k2,k3,k4,k5,k6,k7,k8⟩:=aeo h gd G h3 b9 hr
 have e0:cO ⟨G,(G.n:Int),h⟩=_:=k1
 obtain ⟨D1,j1,j2,j3,j4⟩:=HC h gd D0 a G.n k4 (by omega) (by omega) k8 (fun s t s1 s2 t1=>by rw [k7 s s1,k7 t (by omega)]; exact hr s t s2 t1)
 have e1:gI ⟨G,(G.n:Int),h⟩ = .out .ret ⟨D1,(a:Int),(G.n:Int),h⟩:=by
  unfold gI
  rw [e0]
  exact j1
 have hb:Bls (bJ h gd) G.get D1.get 20 G.n:=fun l l1 l2=>by
  by_cases hl:l < a
  ·have:=BF l1 k3 hl
   rw [Nat.min_eq_left (by omega)]
   exact (k6 l l1 hl).congr fun i i1 i2=>j3.2 i (.inl (by omega))
  ·have:l=a:=by
    by_cases e:a=l
    ·exact e.symm
    ·have:=BF k3 l1 (by omega); omega
   subst this
   rw [Nat.min_eq_right (by omega)]
   exact ⟨j4,fun p=>(j3.1 p).trans (pG fun i hi=>k7 _ (by omega))⟩
 obtain ⟨D2,B,q1,q2,q3,q4⟩:=abU h gd G D1 h3 hr (j2.trans k2) (sf j2 (by omega) j3 k8) hb
 have e2:ew ⟨G,(G.n:Int),h⟩ = .out (.exit 2) ⟨D2,(G.n:Int),(B:Int),h⟩:=by
  unfold ew
  rw [e0,e1]
  exact q1
 refine ⟨D2,?_,q2,?_⟩
 ·unfold jM kF
  rw [e0,e1,e2]
  simp only [aZ,cond_true,aI.jR,aI.kA,fB,Nat.beq_refl,j2]
 ·by_cases hz:G.n=0
  ·rw [hz]
   exact ⟨fun i j _ _ hj=>by omega,fun p=>rfl⟩
  ·have:=q4 0 (Nat.dvd_zero _) (by omega)
   rw [Nat.zero_add,Nat.min_eq_right q3] at this
   exact ⟨this.1,fun p=>by have:=this.2 p; rwa [Nat.sub_zero] at this⟩
end
end Go.Proofs.Ytahhdndhkgbcjaa.b
end
section
namespace Go.Proofs.Ytahhdndhkgbcjaa.b
open Go.K Go.K.se
open Go.aE (ak)
theorem abf {α:Type} (p:α→Bool) (d:Nat→α):∀ k,sI p d 0 k=((List.range k).map d).countP p
 | 0=>rfl
 | k+1=>by
  rw [sI,abf p d k,List.range_succ,List.map_append,List.countP_append,Nat.zero_add]
  have e:b2 (p (d k)) = [d k].countP p:=by
   rw [List.countP_singleton]
   cases p (d k) <;> rfl
  rw [e]
  rfl
theorem Mf {α:Type} {D G:List α} (h:∀ p:α→Bool,D.countP p=G.countP p) {v:α} (hv:v∈D):v∈G:=by
 have hp:0 < G.countP (fun a=>@decide (a=v) (Classical.propDecidable _)):=by
  rw [← h]
  exact List.countP_pos_iff.2 ⟨v,hv,by simp⟩
 obtain ⟨a,h1,h2⟩:=List.countP_pos_iff.1 hp
 have:a=v:=by simpa using h2
 exact this ▸ h1
def s6 (s:Show) (b:aK×Bool) (f:aK):Bool:=pE s f&&(!b.2||decide (f.d > b.1.d))
theorem agm {n:Nat} (h:n≤98304):((Nat.ble (((n+1)+512) * 48) 17592186044416)&&(Nat.ble (n+1) 17592186044416))=true:=by
 rw [Bool.and_eq_true]
 exact ⟨Nat.ble_eq_true_of_le (by omega),Nat.ble_eq_true_of_le (by omega)⟩
theorem aep {α:Type} {p:α→Bool} {l:List α} {f:α} : (l++[f]).filter p=l.filter p++cond (p f) [f] []:=by
 rw [List.filter_append,List.filter_cons,List.filter_nil]
 cases p f <;> rfl
theorem ahs (s:Show) (b:aK×Bool) (x:aC) (hs:x.bZ.cT=s) (Ac:x.pX=b.2) (rG:x.oX=b.1) (hi:∀ j,j < x.t14.n→0≤(x.t14.get j).cm.item∧(x.t14.get j).cm.item < (s.items.n:Int)) (hn:x.t14.n≤98304) (h15:x.t15=(x.t14.n:Int)) (h16:x.t16=0) (h0:x.fY.n=0) :
  ∃ e y,goN bL x = .out e y∧(e = .exit 0∧y.bZ=x.bZ∧y.fY.n≤98304∧eX y.fY=(kX x.x x.y (eX x.t14)).filter (s6 s b)):=by
 refine dp (step:=bL) (fun j y=>y.t14=x.t14∧y.t15=(x.t14.n:Int)∧y.t16=(j:Int)∧y.x=x.x∧y.y=x.y∧j≤x.t14.n∧y.bZ=x.bZ∧y.pX=b.2∧y.oX=b.1∧y.fY.n≤j∧eX y.fY=(kX x.x x.y ((eX x.t14).take j)).filter (s6 s b)) _ x.t14.n (by have:mm=1000000000000:=rfl; omega) (fun j y hj ⟨f1,f2,f3,f4,f5,f6,f7,f8,f9,f10,f11⟩=>?_) ⟨rfl,h15,h16,rfl,rfl,Nat.zero_le _,rfl,Ac,rG,by omega,List.length_eq_zero_iff.1 (by rw [kV,h0])⟩
 have w1:au (y.t16+1)=y.t16+1:=bx (by omega) (by omega)
 unfold bL
 by_cases h:y.t16 < y.t15
 ·have mr:j < x.t14.n:=by omega
  have hg:y.t14.get (Int.toNat y.t16)=x.t14.get j:=by rw [f1,f3,Int.toNat_natCast]
  obtain ⟨sp,e,hp⟩:=EY (x.t14.get j).t x.x x.y
  have e0:ba y=some (sp,e):=by
   unfold ba
   rw [hg,f4,f5]
   exact hp
  obtain ⟨i1,i2⟩:=hi j mr
  have tk:=MU (x:=x.x) (y:=x.y) x.t14 j mr
  have po:=agm (n:=y.fY.n) (by omega)
  simp only [e0,hg,w1,po,aZ,cond_true,Bool.and_self,Option.isSome_some,Option.getD_some,decide_eq_true h,decide_eq_true (show (0:Int)≤y.t16 by omega),decide_eq_true (show y.t16 < ((y.t14.n:Nat):Int) by rw [f1]; omega),decide_eq_true i1,decide_eq_true (show (x.t14.get j).cm.item < ((y.bZ.cT.items.n:Nat):Int) by rw [f7,hs]; exact i2)]
  have Jn:∀ {y' : aC},y'.t14=y.t14→y'.t15=y.t15→y'.t16=y.t16+1→y'.x=y.x→y'.y=y.y→y'.bZ=y.bZ→y'.pX=y.pX→y'.oX=y.oX→y'.fY.n≤j+1→eX y'.fY=(kX x.x x.y ((eX x.t14).take (j+1))).filter (s6 s b)→
    (∃ x',(aI.next y' : aI aC) = .next x'∧j < x.t14.n∧x'.t14=x.t14∧x'.t15=(x.t14.n:Int)∧x'.t16=((j+1:Nat):Int)∧x'.x=x.x∧x'.y=x.y∧j+1≤x.t14.n∧x'.bZ=x.bZ∧x'.pX=b.2∧x'.oX=b.1∧x'.fY.n≤j+1∧eX x'.fY=(kX x.x x.y ((eX x.t14).take (j+1))).filter (s6 s b)):=fun {y'} q1 q2 q3 q4 q5 q6 q7 q8 q9 q10=>
   ⟨y',rfl,mr,q1.trans f1,q2.trans f2,by omega,q4.trans f4,q5.trans f5,by omega,q6.trans f7,q7.trans f8,q8.trans f9,q9,q10⟩
  cases he:(e==(0:Int)) with
  | false=>
   have yK:mi x.x x.y (x.t14.get j)=none:=by
    unfold mi
    rw [hp]
    simp only [he,cond_false]
   rw [cond_false]
   exact .inl (Jn rfl rfl rfl rfl rfl rfl rfl rfl (by show y.fY.n≤_; omega) (by show eX y.fY=_; rw [tk,yK,f11]; simp))
  | true=>
   have yK:mi x.x x.y (x.t14.get j)=some ⟨au ((x.t14.get j).cm.d+sp.d),(x.t14.get j).cm.item,(x.t14.get j).cm.gA,(x.t14.get j).cm.part,sp.u,sp.v⟩:=by
    unfold mi
    rw [hp]
    simp only [he,cond_true]
   have hbl:(y.bZ.cT.items.get (Int.toNat (x.t14.get j).cm.item)).look.FQ=pE s ⟨au ((x.t14.get j).cm.d+sp.d),(x.t14.get j).cm.item,(x.t14.get j).cm.gA,(x.t14.get j).cm.part,sp.u,sp.v⟩:=by
    rw [f7,hs]
    rfl
   rw [cond_true,hbl]
   generalize hf:(⟨au ((x.t14.get j).cm.d+sp.d),(x.t14.get j).cm.item,(x.t14.get j).cm.gA,(x.t14.get j).cm.part,sp.u,sp.v⟩:aK)=f at *
   have hd:au ((x.t14.get j).cm.d+sp.d)=f.d:=by rw [← hf]
   rw [hd,f8,f9]
   have ng:(kX x.x x.y ((eX x.t14).take (j+1))).filter (s6 s b)=eX y.fY++cond (s6 s b f) [f] []:=by
    rw [tk,yK,f11]
    exact aep
   have yes:s6 s b f=true→∃ x',(aI.next (⟨y.x,y.y,y.t14,y.t15,y.t16+1,y.bZ,b.2,b.1,y.fY.push f⟩:aC)) = .next x'∧j < x.t14.n∧x'.t14=x.t14∧x'.t15=(x.t14.n:Int)∧x'.t16=((j+1:Nat):Int)∧x'.x=x.x∧x'.y=x.y∧j+1≤x.t14.n∧x'.bZ=x.bZ∧x'.pX=b.2∧x'.oX=b.1∧x'.fY.n≤j+1∧eX x'.fY=(kX x.x x.y ((eX x.t14).take (j+1))).filter (s6 s b):=fun ho=>
    Jn rfl rfl rfl rfl rfl rfl f8.symm f9.symm (by show y.fY.n+1≤_; omega) (by show eX (Sl.push _ _)=_; rw [MT,ng,ho]; rfl)
   have no:s6 s b f=false→∃ x',(aI.next (⟨y.x,y.y,y.t14,y.t15,y.t16+1,y.bZ,b.2,b.1,y.fY⟩:aC)) = .next x'∧j < x.t14.n∧x'.t14=x.t14∧x'.t15=(x.t14.n:Int)∧x'.t16=((j+1:Nat):Int)∧x'.x=x.x∧x'.y=x.y∧j+1≤x.t14.n∧x'.bZ=x.bZ∧x'.pX=b.2∧x'.oX=b.1∧x'.fY.n≤j+1∧eX x'.fY=(kX x.x x.y ((eX x.t14).take (j+1))).filter (s6 s b):=fun ho=>
    Jn rfl rfl rfl rfl rfl rfl f8.symm f9.symm (by show y.fY.n≤_; omega) (by show eX y.fY=_; rw [ng,ho]; exact (List.append_nil _).symm)
   have ho:s6 s b f=(pE s f&&(!b.2||decide (f.d > b.1.d))):=rfl
   cases hb:pE s f with
   | false=>
    rw [cond_false]
    exact .inl (no (by rw [ho,hb]; rfl))
   | true=>
    rw [cond_true]
    cases hc:(!b.2) with
    | true=>
     rw [cond_true]
     exact .inl (yes (by rw [ho,hb,hc]; rfl))
    | false=>
     rw [cond_false]
     cases hd:decide (f.d > b.1.d) with
     | true=>
      rw [cond_true]
      exact .inl (yes (by rw [ho,hb,hc,hd]; rfl))
     | false=>
      rw [cond_false]
      exact .inl (no (by rw [ho,hb,hc,hd]; rfl))
 ·simp only [aZ,cond_true,cond_false,decide_eq_false h]
  refine .inr ⟨_,_,rfl,rfl,rfl,f7,by omega,?_⟩
  rw [f11,show j=x.t14.n by omega,List.take_of_length_le (by rw [kV]; exact Nat.le_refl _)]
def pI (s:Show) (f:aK):Color:=((pF (s.items.get (Int.toNat f.item)).look s.aL f.u f.v).getD default).fst
def lay (p g:Color):Color:=(Bf p g).getD default
def Cd (s:Show) (g:Color) (l:List aK):Color:=l.foldl (fun g f=>lay (pI s f) g) g
def HF (s:Show):Prop:=gk s.aL=some 0∧∀ i,i < s.items.n→fJ (s.items.get i).look (s.aL.n:Int)=some 0
theorem ac4 {s:Show} (h:iA s=some 0):HF s:=by
 obtain ⟨_,_,h3,h4⟩:=(Qf s).1 h
 exact ⟨h3,fun i hi=>ajc (h4 i hi)⟩
theorem Ww {s:Show} {r:aB} {f:aK} (hl:HF s) (h1:r.cT=s) (hf:0≤f.item∧f.item < (s.items.n:Int)):kc r f=some (pI s f):=by
 subst h1
 obtain ⟨c,e,h2,_⟩:=agj (u:=f.u) (v:=f.v) hl.1 (hl.2 (Int.toNat f.item) (by omega))
 have e0:s4 r f=some (c,e):=h2
 unfold kc pI
 simp only [e0,h2,Option.isSome_some,Option.getD_some,cond_true,decide_eq_true hf.1,decide_eq_true hf.2,Bool.and_self]
theorem abg (s:Show) (hl:HF s) (x:cz) (hs:x.s.cT=s) (hi:∀ j,j < x.t33.n→0≤(x.t33.get j).item∧(x.t33.get j).item < (s.items.n:Int)) (hn:x.t33.n≤98304) (h34:x.t34=(x.t33.n:Int)) (h35:x.t35=0) :
  ∃ e y,goN dR x = .out e y∧(e = .exit 0∧y.ground=Cd s x.ground (eX x.t33)):=by
 refine dp (step:=dR) (fun j y=>y.t33=x.t33∧y.t34=(x.t33.n:Int)∧y.t35=(j:Int)∧j≤x.t33.n∧y.s=x.s∧y.ground=Cd s x.ground ((eX x.t33).take j)) _ x.t33.n (by have:mm=1000000000000:=rfl; omega) (fun j y hj ⟨f1,f2,f3,f4,f5,f6⟩=>?_) ⟨rfl,h34,h35,Nat.zero_le _,rfl,rfl⟩
 have w1:au (y.t35+1)=y.t35+1:=bx (by omega) (by omega)
 unfold dR
 by_cases h:y.t35 < y.t34
 ·have mr:j < x.t33.n:=by omega
  have e0:b7 y=some (pI s (x.t33.get j)):=by
   unfold b7
   rw [f1,f3,f5,Int.toNat_natCast,Nat.zero_add]
   exact Ww hl hs (hi j mr)
  simp only [e0,w1,aZ,cond_true,Bool.and_self,Option.isSome_some,Option.getD_some,decide_eq_true h,decide_eq_true (show (0:Int)≤y.t35 by omega),decide_eq_true (show y.t35 < ((y.t33.n:Nat):Int) by rw [f1]; omega)]
  refine .inl ⟨_,rfl,mr,f1,f2,by show y.t35+1=_; omega,by omega,f5,?_⟩
  show lay (pI s (x.t33.get j)) y.ground=_
  rw [acU x.t33 j mr,f6]
  unfold Cd
  rw [List.foldl_append]
  rfl
 ·simp only [aZ,cond_true,cond_false,decide_eq_false h]
  refine .inr ⟨_,_,rfl,rfl,rfl,?_⟩
  rw [f6,show j=x.t33.n by omega,List.take_of_length_le (by rw [kV]; exact Nat.le_refl _)]
theorem Wx (s:Show) (c:aP) (r:aB) (ground:Color) (x y:Int) (gd:aK→aK→Prop) (hl:HF s) (h1:r.cT=s) (h2:eX r.parts=iI s c) (h3:r.parts.n≤98304)
  (hr:∀ G:Sl aK,eX G=(kX x y (iI s c)).filter (s6 s (tL s (kX x y (iI s c))))→ac2 (bJ r gd) G.get G.n) :
  ∃ D:Sl aK,gb r ground x y=some (Cd s (cond (tL s (kX x y (iI s c))).2 (pI s (tL s (kX x y (iI s c))).1) ground) (eX D))∧gp (bJ r gd) D.get 0 D.n∧∀ p:aK→Bool,(eX D).countP p=((kX x y (iI s c)).filter (s6 s (tL s (kX x y (iI s c))))).countP p:=by
 have hw:=aeg s c r x y h1 h2 h3
 have hwp:=Vn s (kX x y (iI s c))
 generalize hb:tL s (kX x y (iI s c))=b at *
 have e0:kG r ground x y=some b:=hw
 have hit:∀ j,j < r.parts.n→0≤(r.parts.get j).cm.item∧(r.parts.get j).cm.item < (s.items.n:Int):=fun j hj=>by
  have hm:r.parts.get j∈eX r.parts:=L6 hj
  rw [h2] at hm
  obtain ⟨i,k,n,i1,i2,i3,e⟩:=Vm hm
  rw [e]
  show 0≤(i:Int)∧(i:Int) < (s.items.n:Int)
  omega
 obtain ⟨e,z,hz,rfl,z1,z2,z3⟩:∃ e z,cj r ground x y = .out e z∧(e = .exit 0∧z.bZ=r∧z.fY.n≤98304∧eX z.fY=(kX x y (eX r.parts)).filter (s6 s b)):=by
  unfold cj
  exact ahs s b _ h1 (by rw [e0]; rfl) (by rw [e0]; rfl) hit h3 rfl rfl rfl
 rw [h2] at z3
 have b1:(cj r ground x y).by (.exit 0)=true:=by rw [hz]; rfl
 have b2:(cj r ground x y).st=z:=by rw [hz]; rfl
 have inG:∀ v∈eX z.fY,0≤v.item∧v.item < (s.items.n:Int):=fun v hv=>by
  rw [z3] at hv
  exact C1 (List.mem_filter.1 hv).1
 obtain ⟨D,hD,d1,d2,d3⟩:=Tj r gd z.fY (by omega) (fun t ht=>by
  have:=inG _ (L6 ht)
  unfold hX
  rw [h1,decide_eq_true this.1,decide_eq_true this.2]
  rfl) (hr z.fY z3)
 have hD' : dS r ground x y = .out .ret ⟨D,(z.fY.n:Int),r⟩:=by
  unfold dS
  rw [b2,z1]
  exact hD
 have b3:(dS r ground x y).by .ret=true:=by rw [hD']; rfl
 have b4:(dS r ground x y).st=⟨D,(z.fY.n:Int),r⟩:=by rw [hD']; rfl
 have ami:∀ p:aK→Bool,(eX D).countP p=(eX z.fY).countP p:=fun p=>by
  have:=d3 p
  rw [abf,abf,← d1] at this
  rw [d1] at this
  show ((List.range D.n).map D.get).countP p=((List.range z.fY.n).map z.fY.get).countP p
  rw [d1]
  exact this
 have inD:∀ j,j < D.n→0≤(D.get j).item∧(D.get j).item < (s.items.n:Int):=fun j hj=>inG _ (Mf ami (L6 hj))
 refine ⟨D,?_,by rw [d1]; exact d2,fun p=>by rw [ami p,z3]⟩
 unfold gb
 simp only [e0,b1,b2,b3,b4,d1,aZ,Option.isSome_some,Option.getD_some,cond_true]
 cases rG:b.2 with
 | true=>
  have lj:b.1∈kX x y (iI s c):=by
   rcases hwp with ⟨q,_⟩ | ⟨_,q,_⟩
   ·rw [rG] at q; simp at q
   ·exact q
  have e1:oL r ground x y=some (pI s b.1):=by
   unfold oL
   rw [e0]
   exact Ww hl h1 (C1 lj)
  obtain ⟨e,u,hu,rfl,u1⟩:∃ e u,kH r ground x y = .out e u∧(e = .exit 0∧u.ground=Cd s (pI s b.1) (eX D)):=by
   unfold kH
   rw [b2,b4,e1]
   exact abg s hl _ h1 inD (by show D.n≤98304; omega) (by show (z.fY.n:Int)=(D.n:Int); rw [d1]) rfl
  have b5:(kH r ground x y).by (.exit 0)=true:=by rw [hu]; rfl
  have b6:(kH r ground x y).st=u:=by rw [hu]; rfl
  simp only [e1,b5,b6,Option.isSome_some,cond_true]
  rw [u1]
 | false=>
  obtain ⟨e,u,hu,rfl,u1⟩:∃ e u,kJ r ground x y = .out e u∧(e = .exit 0∧u.ground=Cd s ground (eX D)):=by
   unfold kJ
   rw [b2,b4]
   exact abg s hl _ h1 inD (by show D.n≤98304; omega) (by show (z.fY.n:Int)=(D.n:Int); rw [d1]) rfl
  have b5:(kJ r ground x y).by (.exit 0)=true:=by rw [hu]; rfl
  have b6:(kJ r ground x y).st=u:=by rw [hu]; rfl
  simp only [b5,b6,cond_true,cond_false]
  rw [u1]
theorem aji (s:Show) (c:aP) (r:aB) (ground:Color) (x y:Int) (hl:HF s) (h1:r.cT=s) (h2:eX r.parts=iI s c) (h3:r.parts.n≤98304):∃ v,gb r ground x y=some v:=by
 obtain ⟨D,h,_⟩:=Wx s c r ground x y (fun a b=>∃ (i j:Nat),i < j∧((kX x y (iI s c)).filter (s6 s (tL s (kX x y (iI s c)))))[i]? = some a∧((kX x y (iI s c)).filter (s6 s (tL s (kX x y (iI s c)))))[j]? = some b) hl h1 h2 h3 (fun G hG i j CI hj=>⟨i,j,CI,by rw [← hG]; exact C0 G i (by omega),by rw [← hG]; exact C0 G j hj⟩)
 exact ⟨_,h⟩
end Go.Proofs.Ytahhdndhkgbcjaa.b
end
section
namespace Go.Proofs.Ytahhdndhkgbcjaa.b
open Go.K Go.K.se
open Go.aE (ak)
def E5 (s:Show) (c:aP) (x y:Int):aK×Bool:=tL s (kX x y (iI s c))
def J4 (r:aB) (ground:Color) (x y:Int):Color:=(gb r ground x y).getD default
structure BG (s:Show) (c:aP) (r:aB):Prop where
 looks:HF s
 cT:r.cT=s
 parts:eX r.parts=iI s c
 n:r.parts.n≤98304
theorem BG.col {s:Show} {c:aP} {r:aB} (h:BG s c r) (ground:Color) (x y:Int):gb r ground x y=some (J4 r ground x y):=by
 obtain ⟨v,hv⟩:=aji s c r ground x y h.looks h.cT h.parts h.n
 unfold J4
 rw [hv]
 rfl
theorem Je {s:Show} {c:aP} (h:gU s c=some 0):iA s=some 0:=by
 obtain ⟨e,h1,_⟩:=JW s
 obtain ⟨f,h3,_⟩:=qH c
 have e0:o8 s c=some e:=h1
 have e1:rX s c=some f:=h3
 unfold gU at h
 simp only [e0,e1,Option.isSome_some,Option.getD_some,cond_true] at h
 cases he:(e != (0:Int)) with
 | true=>
  rw [he,cond_true] at h
  simp at he
  exact absurd (Option.some.inj h) he
 | false=>rw [h1]; simp at he; rw [he]
end Go.Proofs.Ytahhdndhkgbcjaa.b
end
section
namespace Go.Proofs.Ytahhdndhkgbcjaa.b
open Go.K
set_option linter.unusedVariables false
set_option linter.unusedSimpArgs false
noncomputable section
def Wy:List (Nat×(List KV→KR KV)):=[]
def Wz:List Lp:=[]
theorem abV:ao Try.prog Wy:=ao.nil
theorem abW:az Try.prog Wz:=az.nil
def Qh  : Option (Color):=
 (some ((⟨(255:Int),(0:Int),(0:Int),(255:Int)⟩:Color)))
theorem aeq  : dm Try.prog (bo Try.prog Wy Wz (fun q=>Nat.beq q 1000041||Nat.beq q 1000176||Nat.beq q 1000050)) 9 9 39 [] = (Qh ).map il:=by
 unfold Qh
 kernel_rfl
def Qi:List KV→KR KV:=cw Try.prog 39 (cG il fun vs=>Qh )
theorem abX (w:Nat→KV):cM Try.prog [] w 0 = []:=by kernel_rfl
theorem OG:ca Try.prog 39 Qi:=aY funcs mixed abV abW (L:=9) (n:=9) fun w=>by
 have e:aJ Try.prog 39 = []:=by kernel_rfl
 rw [e,abX]
 exact (aeq ).trans (by kernel_rfl)
def Mg:List (Nat×(List KV→KR KV)):=[(39,Qi)]
def Mh:List Lp:=[]
theorem abY:ao Try.prog Mg:=(ao.cons OG ao.nil)
theorem abZ:az Try.prog Mh:=az.nil
def Qj  : Option (Show):=(dm Try.prog (bo Try.prog Mg Mh (fun q=>Nat.beq q 1000041||Nat.beq q 1000176||Nat.beq q 1000050)) 9 9 36 []).map mO
theorem aer  : dm Try.prog (bo Try.prog Mg Mh (fun q=>Nat.beq q 1000041||Nat.beq q 1000176||Nat.beq q 1000050)) 9 9 36 [] = (Qj ).map oK:=by
 unfold Qj
 kernel_rfl
def abh:List KV→KR KV:=cw Try.prog 36 (cG oK fun vs=>Qj )
theorem ab0 (w:Nat→KV):cM Try.prog [] w 0 = []:=by kernel_rfl
theorem ab1:ca Try.prog 36 abh:=aY funcs mixed abY abZ (L:=9) (n:=9) fun w=>by
 have e:aJ Try.prog 36 = []:=by kernel_rfl
 rw [e,ab0]
 exact (aer ).trans (by kernel_rfl)
end
end Go.Proofs.Ytahhdndhkgbcjaa.b
end
section
namespace Go.Proofs.Ytahhdndhkgbcjaa.b
open Go.K
set_option linter.unusedVariables false
set_option linter.unusedSimpArgs false
noncomputable section
def WA:List (Nat×(List KV→KR KV)):=[]
def WB:List Lp:=[]
theorem ab2:ao Try.prog WA:=ao.nil
theorem ab3:az Try.prog WB:=az.nil
def Qk  : Option (aP):=
 (some ((⟨(⟨(0:Int),(0:Int),(0:Int)⟩:dY),(⟨(⟨(256:Int),(0:Int),(0:Int)⟩:eL),(⟨(0:Int),(256:Int),(0:Int)⟩:eL),(⟨(0:Int),(0:Int),(256:Int)⟩:eL)⟩:gN),(64:Int),(256:Int),(4:Int),(4:Int)⟩:aP)))
theorem aes  : dm Try.prog (bo Try.prog WA WB (fun _=>false)) 9 9 37 [] = (Qk ).map kK:=by
 unfold Qk
 kernel_rfl
def abi:List KV→KR KV:=cw Try.prog 37 (cG kK fun vs=>Qk )
theorem ab4 (w:Nat→KV):cM Try.prog [] w 0 = []:=by kernel_rfl
theorem ab5:ca Try.prog 37 abi:=aY funcs mixed ab2 ab3 (L:=9) (n:=9) fun w=>by
 have e:aJ Try.prog 37 = []:=by kernel_rfl
 rw [e,ab4]
 exact (aes ).trans (by kernel_rfl)
def OH:List (Nat×(List KV→KR KV)):=[]
def OI:List Lp:=[]
theorem XH:ao Try.prog OH:=ao.nil
theorem XI:az Try.prog OI:=az.nil
def Jf  : Option (Color):=
 (some ((⟨(0:Int),(0:Int),(0:Int),(255:Int)⟩:Color)))
theorem abj  : dm Try.prog (bo Try.prog OH OI (fun _=>false)) 9 9 38 [] = (Jf ).map il:=by
 unfold Jf
 kernel_rfl
def Tk:List KV→KR KV:=cw Try.prog 38 (cG il fun vs=>Jf )
theorem XJ (w:Nat→KV):cM Try.prog [] w 0 = []:=by kernel_rfl
theorem XK:ca Try.prog 38 Tk:=aY funcs mixed XH XI (L:=9) (n:=9) fun w=>by
 have e:aJ Try.prog 38 = []:=by kernel_rfl
 rw [e,XJ]
 exact (abj ).trans (by kernel_rfl)
def OJ:List (Nat×(List KV→KR KV)):=[(39,Qi),(17,va),(38,Tk),(16,J1),(37,abi),(36,abh)]
def OK:List Lp:=[]
theorem XL:ao Try.prog OJ:=(ao.cons OG (ao.cons uq (ao.cons XK (ao.cons Qe (ao.cons ab5 (ao.cons ab1 ao.nil))))))
theorem XM:az Try.prog OK:=az.nil
def Jg  : Option (Bool):=
 (some (true))
theorem abk  : dm Try.prog (bo Try.prog OJ OK (fun _=>false)) 9 9 14 [] = (Jg ).map kB:=by
 unfold Jg
 kernel_rfl
def CP:List KV→KR KV:=cw Try.prog 14 (cG kB fun vs=>Jg )
theorem XN (w:Nat→KV):cM Try.prog [] w 0 = []:=by kernel_rfl
theorem Ce:ca Try.prog 14 CP:=aY funcs mixed XL XM (L:=9) (n:=9) fun w=>by
 have e:aJ Try.prog 14 = []:=by kernel_rfl
 rw [e,XN]
 exact (abk ).trans (by kernel_rfl)
end
end Go.Proofs.Ytahhdndhkgbcjaa.b
end
section
namespace Go.Proofs.Ytahhdndhkgbcjaa.b
open Go.K
set_option linter.unusedVariables false
set_option linter.unusedSimpArgs false
noncomputable section
end
end Go.Proofs.Ytahhdndhkgbcjaa.b
end
section
namespace Go.Proofs.Ytahhdndhkgbcjaa.b
open Go.K Go.K.se
open Go.aE (ak)
theorem aet (l:Sl ek):(vI l).isSome=true:=by
 obtain ⟨e,z,hz,rfl⟩:∃ e z,rZ l = .out e z∧e = .exit 0:=by
  unfold rZ
  refine dp (step:=lU) (fun j y=>y.i=(j:Int)) (fun e _=>e = .exit 0) 100 (by decide) (fun j y hj f1=>?_) rfl
  have w1:au (y.i+1)=y.i+1:=bx (by omega) (by omega)
  unfold lU
  cases h:decide (y.i < ((y.l.n:Nat):Int)) with
  | false=>exact .inr ⟨_,_,rfl,rfl,rfl⟩
  | true=>
   cases h2:decide (y.i < (100:Int)) with
   | false=>exact .inr ⟨_,_,rfl,rfl,rfl⟩
   | true=>
    have Db:=of_decide_eq_true h2
    simp only [w1,cond_true,Bool.and_self,decide_eq_true (show (0:Int)≤y.i by omega)]
    exact .inl ⟨_,rfl,by omega,by show y.i+1=_; omega⟩
 have b1:(rZ l).by (.exit 0)=true:=by rw [hz]; rfl
 unfold vI
 simp only [b1,cond_true]
 exact kL (fun _=>rfl) (fun _=>rfl)
theorem agn (s:Show):(vL s).isSome=true:=by
 obtain ⟨e,z,hz,rfl⟩:∃ e z,px s = .out e z∧e = .exit 0:=by
  unfold px
  refine dp (step:=lV) (fun j y=>y.i=(j:Int)) (fun e _=>e = .exit 0) 300 (by decide) (fun j y hj f1=>?_) rfl
  have w1:au (y.i+1)=y.i+1:=bx (by omega) (by omega)
  unfold lV
  cases h:decide (y.i < ((y.s.items.n:Nat):Int)) with
  | false=>exact .inr ⟨_,_,rfl,rfl,rfl⟩
  | true=>
   cases h2:decide (y.i < (300:Int)) with
   | false=>exact .inr ⟨_,_,rfl,rfl,rfl⟩
   | true=>
    have Db:=of_decide_eq_true h2
    simp only [w1,cond_true,Bool.and_self,decide_eq_true (show (0:Int)≤y.i by omega)]
    exact .inl ⟨_,rfl,by omega,by show y.i+1=_; omega⟩
 have b1:(px s).by (.exit 0)=true:=by rw [hz]; rfl
 have e1:(DR s).isSome=true:=aet _
 unfold vL
 simp only [b1,e1,cond_true]
 exact kL (fun _=>rfl) (fun _=>kL (fun _=>rfl) (fun _=>rfl))
end Go.Proofs.Ytahhdndhkgbcjaa.b
end
section
namespace Go.Proofs.Ytahhdndhkgbcjaa.b
open Go.K Go.K.se
open Go.aE (ak)
end Go.Proofs.Ytahhdndhkgbcjaa.b
end
section
namespace Go.Proofs.Ytahhdndhkgbcjaa.b
open Go.K
set_option linter.unusedVariables false
set_option linter.unusedSimpArgs false
noncomputable section
end
end Go.Proofs.Ytahhdndhkgbcjaa.b
end
section
namespace Go.Proofs.Ytahhdndhkgbcjaa.b
open Go.K Go.K.se
open Go.aE (ak)
def KL (a b:aK):Prop:=a.item < b.item∨a.item=b.item∧(a.gA < b.gA∨a.gA=b.gA∧a.part < b.part)
theorem aht (s:Show) (c:aP):(iI s c).Pairwise (fun p q=>KL p.cm q.cm):=by
 unfold iI
 refine List.pairwise_flatMap.2 ⟨fun i _=>?_,List.pairwise_lt_range.imp fun {i j} CI p hp q hq=>?_⟩
 ·unfold xZ
  refine List.pairwise_flatMap.2 ⟨fun k _=>?_,List.pairwise_lt_range.imp fun {k m} Qp p hp q hq=>?_⟩
  ·unfold LV
   refine List.pairwise_map.2 (List.pairwise_lt_range.imp fun {a b} hab=>?_)
   exact .inr ⟨rfl,.inr ⟨rfl,by show (a:Int) < (b:Int); omega⟩⟩
  ·unfold LV at hp hq
   obtain ⟨a,_,rfl⟩:=List.mem_map.1 hp
   obtain ⟨b,_,rfl⟩:=List.mem_map.1 hq
   exact .inr ⟨rfl,.inl (by show (k:Int) < (m:Int); omega)⟩
 ·unfold xZ at hp hq
  obtain ⟨k,_,hp⟩:=List.mem_flatMap.1 hp
  obtain ⟨m,_,hq⟩:=List.mem_flatMap.1 hq
  unfold LV at hp hq
  obtain ⟨a,_,rfl⟩:=List.mem_map.1 hp
  obtain ⟨b,_,rfl⟩:=List.mem_map.1 hq
  exact .inl (by show (i:Int) < (j:Int); omega)
theorem ajj (s:Show) (c:aP) (x y:Int):(kX x y (iI s c)).Pairwise KL:=by
 unfold kX
 refine List.pairwise_filterMap.2 ((aht s c).imp fun {p q} h f hf g hg=>?_)
 obtain ⟨a1,a2,a3⟩:=MX hf
 obtain ⟨b1,b2,b3⟩:=MX hg
 unfold KL at *
 rw [a1,a2,a3,b1,b2,b3]
 exact h
theorem abl {α:Type} {lt:α→α→Prop} (aio:∀ a b,lt a b→lt b a→False):∀ {A B:List α},A.Pairwise lt→B.Pairwise lt→(∀ v,v∈A↔v∈B)→A=B
 | [],[],_,_,_=>rfl
 | [],b::B,_,_,h=>absurd ((h b).2 (List.mem_cons_self ..)) (by simp)
 | a::A,[],_,_,h=>absurd ((h a).1 (List.mem_cons_self ..)) (by simp)
 | a::A,b::B,hA,hB,h=>by
  obtain ⟨ha,hA'⟩:=List.pairwise_cons.1 hA
  obtain ⟨hb,hB'⟩:=List.pairwise_cons.1 hB
  have hab:a=b:=by
   rcases List.mem_cons.1 ((h a).1 (List.mem_cons_self ..)) with e | e
   ·exact e
   ·rcases List.mem_cons.1 ((h b).2 (List.mem_cons_self ..)) with e' | e'
    ·exact e'.symm
    ·exact (aio _ _ (ha b e') (hb a e)).elim
  subst hab
  rw [abl aio hA' hB' fun v=>⟨fun hv=>by
   rcases List.mem_cons.1 ((h v).1 (List.mem_cons_of_mem _ hv)) with e | e
   ·subst e; exact (aio _ _ (ha v hv) (ha v hv)).elim
   ·exact e,fun hv=>by
   rcases List.mem_cons.1 ((h v).2 (List.mem_cons_of_mem _ hv)) with e | e
   ·subst e; exact (aio _ _ (hb v hv) (hb v hv)).elim
   ·exact e⟩]
theorem ajk {α:Type} {R:α→α→Prop} {G:Sl α} (h:(eX G).Pairwise R):∀ i j,i < j→j < G.n→R (G.get i) (G.get j):=fun i j CI hj=>by
 have:=List.pairwise_iff_getElem.1 h i j (by rw [kV]; omega) (by rw [kV]; omega) CI
 have e1:=C0 G i (by omega)
 have e2:=C0 G j (by omega)
 rw [List.getElem?_eq_getElem (by rw [kV]; omega)] at e1 e2
 rw [Option.some.inj e1,Option.some.inj e2] at this
 exact this
theorem ajl {α:Type} {R:α→α→Prop} {G:Sl α} (h:∀ i j,i < j→j < G.n→R (G.get i) (G.get j)):(eX G).Pairwise R:=by
 unfold eX
 refine List.pairwise_map.2 (List.pairwise_iff_getElem.2 fun i j hi hj CI=>?_)
 rw [List.getElem_range,List.getElem_range]
 exact h i j CI (by simpa using hj)
def Mi (s:Show) (f:aK):Int:=(s.items.get (Int.toNat f.item)).look.bin
def abm (s:Show) (w:aK×Bool) (b:Int) (f:aK):Bool:=s6 s w f&&(Mi s f==b)
def Jh (s:Show) (w:aK×Bool) (l:List aK) (n:Nat):List aK:=(List.range n).flatMap fun (b:Nat)=>l.filter (abm s w (b:Int))
theorem WC (s:Show) (c:aP) (r:aB) (ground:Color) (x y:Int) (hk:BG s c r):J4 r ground x y=Cd s (cond (E5 s c x y).2 (pI s (E5 s c x y).1) ground) (Jh s (E5 s c x y) (kX x y (iI s c)) 16):=by
 have ala:=ajj s c x y
 obtain ⟨D,h1,h2,h3⟩:=Wx s c r ground x y KL hk.looks hk.cT hk.parts hk.n (fun G hG=>fun i j CI hj=>by
  have:(eX G).Pairwise KL:=by rw [hG]; exact ala.filter _
  exact ajk this i j CI hj)
 have e:eX D=Jh s (E5 s c x y) (kX x y (iI s c)) 16:=by
  refine abl (lt:=(bJ r KL).lt) (fun a b h h'=>?_) (ajl fun i j CI hj=>h2 i j (Nat.zero_le _) CI hj) ?_ (fun v=>?_)
  ·unfold Ord.lt bJ KL at h h'
   simp only at h h'
   generalize bT r a=ka at *
   generalize bT r b=kb at *
   omega
  ·unfold Jh
   have key:∀ v b,abm s (E5 s c x y) b v=true→bT r v=b:=fun v b hv=>by
    unfold abm at hv
    rw [Bool.and_eq_true] at hv
    have:Mi s v=b:=by simpa using hv.2
    rw [← this,← hk.cT]
    rfl
   refine List.pairwise_flatMap.2 ⟨fun b _=>?_,List.pairwise_lt_range.imp fun {a b} hab p hp q hq=>?_⟩
   ·refine List.Pairwise.imp_of_mem (R:=KL) (fun {p q} hp hq h=>?_) (ala.filter _)
    have kp:=key _ _ (List.mem_filter.1 hp).2
    have kq:=key _ _ (List.mem_filter.1 hq).2
    exact .inr ⟨kp.trans kq.symm,h⟩
   ·have kp:=key _ _ (List.mem_filter.1 hp).2
    have kq:=key _ _ (List.mem_filter.1 hq).2
    refine .inl ?_
    show bT r p < bT r q
    rw [kp,kq]
    omega
  ·have m1:v∈eX D↔v∈(kX x y (iI s c)).filter (s6 s (E5 s c x y)):=⟨fun h=>Mf h3 h,fun h=>Mf (fun p=>(h3 p).symm) h⟩
   rw [m1]
   unfold Jh
   constructor
   ·intro h
    obtain ⟨h4,h5⟩:=List.mem_filter.1 h
    obtain ⟨i1,i2⟩:=C1 h4
    have hl:=agh (hk.looks.2 (Int.toNat v.item) (by omega))
    have hb0:0≤Mi s v∧Mi s v≤15:=⟨hl.n0,hl.n1⟩
    refine List.mem_flatMap.2 ⟨Int.toNat (Mi s v),List.mem_range.2 (by omega),List.mem_filter.2 ⟨h4,?_⟩⟩
    unfold abm
    rw [h5,Int.toNat_of_nonneg hb0.1]
    simp
   ·intro h
    obtain ⟨b,_,h4⟩:=List.mem_flatMap.1 h
    obtain ⟨h5,h6⟩:=List.mem_filter.1 h4
    unfold abm at h6
    rw [Bool.and_eq_true] at h6
    exact List.mem_filter.2 ⟨h5,h6.1⟩
 have h1' : gb r ground x y=some (Cd s (cond (E5 s c x y).2 (pI s (E5 s c x y).1) ground) (eX D)):=h1
 unfold J4
 rw [h1',e]
 rfl
end Go.Proofs.Ytahhdndhkgbcjaa.b
end
section
namespace Go.Proofs.Ytahhdndhkgbcjaa.b
open Go.K Go.K.se
open Go.aE (ak)
theorem aeu {s s' : Show} {c:aP} {i i' : Nat} (k:Int) (hi:i < s.items.n) (OM:i' < s'.items.n) (h:s'.items.get i' = s.items.get i):lx s' c (i' : Int) k=lx s c (i:Int) k:=by
 have e0:o5 s' c i' k=o5 s c i k:=by unfold o5; rw [Int.toNat_natCast,Int.toNat_natCast,h]
 have e1:o6 s' c i' k=o6 s c i k:=by unfold o6; rw [Int.toNat_natCast,Int.toNat_natCast,h]
 have e2:o7 s' c i' k=o7 s c i k:=by unfold o7; rw [Int.toNat_natCast,Int.toNat_natCast,h]
 have e3:nv s' c i' k=nv s c i k:=by unfold nv; rw [e0,e1,e2,Int.toNat_natCast,Int.toNat_natCast,h]
 have e4:kz s' c i' k=kz s c i k:=by unfold kz; rw [e3,Int.toNat_natCast,Int.toNat_natCast,h]
 unfold lx
 rw [e0,e1,e2,e3,e4,Int.toNat_natCast,Int.toNat_natCast,h,decide_eq_true (show (i' : Int) < ((s'.items.n:Nat):Int) by omega),decide_eq_true (show (i:Int) < ((s.items.n:Nat):Int) by omega),decide_eq_true (show 0≤(i:Int) by omega),decide_eq_true (show 0≤(i' : Int) by omega)]
def Ea (n i:Nat):Nat:=if i < n then i else i+1
def sig (n:Nat) (i:Int):Int:=if i > (n:Int) then i - 1 else i
structure sn (s:Show) (n:Nat) (s' : Show):Prop where
 hn:n < s.items.n
 n1:s'.items.n+1=s.items.n
 it:∀ i,i < s'.items.n→s'.items.get i=s.items.get (Ea n i)
 tx:s'.aL=s.aL
theorem aip {s s' : Show} {n:Nat} (h:sn s n s') {i:Nat} (hi:i < s'.items.n):Ea n i < s.items.n∧Ea n i≠n:=by
 have:=h.hn
 have:=h.n1
 unfold Ea
 split <;> omega
theorem alb {n i:Nat} : sig n (Ea n i:Int)=(i:Int):=by
 unfold sig Ea
 split
 ·split
  ·omega
  ·omega
 ·split
  ·omega
  ·omega
theorem sn.check {s s' : Show} {n:Nat} (h:sn s n s') (hc:iA s=some 0):iA s' = some 0:=by
 obtain ⟨h1,h2,h3,h4⟩:=(Qf s).1 hc
 have:=h.n1
 refine (Qf s').2 ⟨by omega,by rw [h.tx]; exact h2,by rw [h.tx]; exact h3,fun i hi=>?_⟩
 rw [h.it i hi,h.tx]
 exact h4 _ (aip h hi).1
theorem ac5 {s:Show} {c:aP} (h:iA s=some 0):gU s c=kf c:=by
 obtain ⟨f,h3,_⟩:=qH c
 have e0:o8 s c=some 0:=h
 have e1:rX s c=some f:=h3
 unfold gU
 simp only [e0,e1,Option.isSome_some,Option.getD_some,cond_true,bne_self_eq_false,cond_false]
 exact h3.symm
theorem sn.Vh {s s' : Show} {n:Nat} (h:sn s n s') (c:aP) {i:Nat} (k:Nat) (hi:i < s'.items.n):Vh s' c i k=Vh s c (Ea n i) k:=by
 unfold b.Vh
 rw [aeu (s:=s) (s':=s') (i:=Ea n i) (i':=i) (k:Int) (aip h hi).1 hi (h.it i hi)]
def WD (n:Nat) (p:cH):cH:=⟨p.t,⟨p.cm.d,sig n p.cm.item,p.cm.gA,p.cm.part,p.cm.u,p.cm.v⟩⟩
def mU (n:Nat) (f:aK):aK:=⟨f.d,sig n f.item,f.gA,f.part,f.u,f.v⟩
theorem sn.item {s s' : Show} {n:Nat} (h:sn s n s') (c:aP) {i:Nat} (hi:i < s'.items.n):xZ s' c i=(xZ s c (Ea n i)).map (WD n):=by
 unfold xZ
 rw [List.map_flatMap,h.it i hi]
 congr 1
 funext k
 unfold LV
 rw [List.map_map,h.Vh c k hi]
 congr 1
 funext a
 show partAt s' c i k a=WD n (partAt s c (Ea n i) k a)
 unfold partAt WD
 simp only [h.Vh c k hi,h.it i hi,alb]
theorem ahu (n:Nat):∀ m,n≤m→(List.range m).map (Ea n)=(List.range (m+1)).filter (fun i=>!(Nat.beq i n)):=by
 intro m hm
 induction m with
 | zero=>
  have:n=0:=by omega
  subst this
  rfl
 | succ m ih=>
  by_cases hmn:n≤m
  ·rw [List.range_succ,List.map_append,ih hmn,List.range_succ (n:=m+1),List.filter_append]
   congr 1
   show [Ea n m] = _
   unfold Ea
   rw [if_neg (by omega)]
   have:Nat.beq (m+1) n=false:=by
    cases hb:Nat.beq (m+1) n with
    | false=>rfl
    | true=>have:=Nat.eq_of_beq_eq_true hb; omega
   simp [this]
  ·have:n=m+1:=by omega
   subst this
   have e1:(List.range (m+1)).map (Ea (m+1))=List.range (m+1):=by
    refine (List.map_congr_left (g:=id) fun i hi=>?_).trans (List.map_id _)
    have:=List.mem_range.1 hi
    unfold Ea
    rw [if_pos this]
    rfl
   rw [e1,List.range_succ (n:=m+1),List.filter_append]
   have e2:(List.range (m+1)).filter (fun i=>!(Nat.beq i (m+1)))=List.range (m+1):=by
    refine List.filter_eq_self.2 fun i hi=>?_
    have:=List.mem_range.1 hi
    cases hb:Nat.beq i (m+1) with
    | false=>rfl
    | true=>have:=Nat.eq_of_beq_eq_true hb; omega
   rw [e2]
   simp
theorem Cf {α β:Type} {p:α→Bool} {g:α→List β} : ∀ {l:List α},(∀ a∈l,p a=false→g a = [])→(l.filter p).flatMap g=l.flatMap g
 | [],_=>rfl
 | a::l,h=>by
  rw [List.filter_cons,List.flatMap_cons]
  cases hp:p a with
  | true=>
   rw [if_pos rfl,List.flatMap_cons,Cf fun b hb=>h b (List.mem_cons_of_mem _ hb)]
  | false=>
   rw [if_neg (by simp),h a (List.mem_cons_self ..) hp,Cf fun b hb=>h b (List.mem_cons_of_mem _ hb)]
   rfl
theorem ago (n:Nat) (x y:Int) (p:cH):mi x y (WD n p)=(mi x y p).map (mU n):=by
 unfold mi WD
 simp only
 split
 ·rename_i sp e _
  cases he:(e==(0:Int)) with
  | true=>rfl
  | false=>rfl
 ·rfl
theorem agp (n:Nat) (x y:Int) (l:List cH):kX x y (l.map (WD n))=(kX x y l).map (mU n):=by
 unfold kX
 rw [List.filterMap_map,List.map_filterMap]
 congr 1
 funext p
 exact ago n x y p
theorem Vx (x y:Int) {α:Type} (l:List α) (g:α→List cH):kX x y (l.flatMap g)=l.flatMap fun a=>kX x y (g a):=by
 unfold kX
 rw [List.filterMap_flatMap]
theorem sn.ahv {s s' : Show} {n:Nat} (h:sn s n s') (c:aP) (x y:Int) (Pg:∀ f∈kX x y (iI s c),f.item≠(n:Int)):kX x y (iI s' c)=(kX x y (iI s c)).map (mU n):=by
 have hn:=h.hn
 have WJ:=h.n1
 have e1:iI s' c=((List.range s'.items.n).map (Ea n)).flatMap fun i=>(xZ s c i).map (WD n):=by
  unfold iI
  rw [List.flatMap_map]
  have:∀ l:List Nat,(∀ i∈l,i < s'.items.n)→l.flatMap (xZ s' c)=l.flatMap fun i=>(xZ s c (Ea n i)).map (WD n):=by
   intro l
   induction l with
   | nil=>intro _; rfl
   | cons a l ih=>
    intro hl
    rw [List.flatMap_cons,List.flatMap_cons,ih fun i hi=>hl i (List.mem_cons_of_mem _ hi),h.item c (hl a (List.mem_cons_self ..))]
  exact this _ fun i hi=>List.mem_range.1 hi
 rw [e1,ahu n _ (by omega),WJ,Vx,Cf]
 ·unfold iI
  rw [Vx,List.map_flatMap]
  congr 1
  funext i
  exact agp n x y _
 ·intro i hi hb
  have wN:i=n:=by
   have:Nat.beq i n=true:=by simpa using hb
   exact Nat.eq_of_beq_eq_true this
  subst wN
  rw [agp,List.map_eq_nil_iff]
  refine List.eq_nil_iff_forall_not_mem.2 fun f hf=>?_
  have lj:f∈kX x y (iI s c):=by
   unfold iI
   rw [Vx]
   exact List.mem_flatMap.2 ⟨i,List.mem_range.2 hn,hf⟩
  refine Pg f lj ?_
  obtain ⟨p,hp1,hp2⟩:=List.mem_filterMap.1 hf
  unfold xZ at hp1
  obtain ⟨k,_,hp1⟩:=List.mem_flatMap.1 hp1
  unfold LV at hp1
  obtain ⟨a,_,rfl⟩:=List.mem_map.1 hp1
  rw [(MX hp2).1]
  rfl
theorem sn.get {s s' : Show} {n:Nat} (h:sn s n s') {i:Int} (h0:0≤i∧i < (s.items.n:Int)) (dJ:i≠(n:Int)):(0≤sig n i∧sig n i < (s'.items.n:Int))∧s'.items.get (Int.toNat (sig n i))=s.items.get (Int.toNat i):=by
 have hn:=h.hn
 have WJ:=h.n1
 have hr:0≤sig n i∧sig n i < (s'.items.n:Int):=by
  unfold sig
  split <;> omega
 refine ⟨hr,?_⟩
 rw [h.it _ (by omega)]
 congr 1
 unfold Ea sig at *
 split <;> split <;> omega
structure OkF (s:Show) (n:Nat) (f:aK):Prop where
 h0:0≤f.item
 h1:f.item < (s.items.n:Int)
 dJ:f.item≠(n:Int)
theorem sn.FQ {s s' : Show} {n:Nat} (h:sn s n s') {f:aK} (hf:OkF s n f):pE s' (mU n f)=pE s f:=by
 unfold pE mU
 rw [(h.get ⟨hf.h0,hf.h1⟩ hf.dJ).2]
theorem sn.bin {s s' : Show} {n:Nat} (h:sn s n s') {f:aK} (hf:OkF s n f):Mi s' (mU n f)=Mi s f:=by
 unfold Mi mU
 rw [(h.get ⟨hf.h0,hf.h1⟩ hf.dJ).2]
theorem sn.alc {s s' : Show} {n:Nat} (h:sn s n s') {f:aK} (hf:OkF s n f):pI s' (mU n f)=pI s f:=by
 unfold pI mU
 simp only
 rw [(h.get ⟨hf.h0,hf.h1⟩ hf.dJ).2,h.tx]
theorem ajm {n:Nat} {a b:aK} (ha:a.item≠(n:Int)) (hb:b.item≠(n:Int)):xb (mU n a) (mU n b)↔xb a b:=by
 unfold xb mU
 simp only
 have h1:sig n a.item < sig n b.item↔a.item < b.item:=by unfold sig; split <;> split <;> omega
 have h2:sig n a.item=sig n b.item↔a.item=b.item:=by unfold sig; split <;> split <;> omega
 rw [h1,h2]
theorem sn.tL {s s' : Show} {n:Nat} (h:sn s n s') (l:List aK):(∀ f∈l,OkF s n f)→tL s' (l.map (mU n))=(mU n (tL s l).1,(tL s l).2):=by
 refine acX (Q:=fun l=>(∀ f∈l,OkF s n f)→b.tL s' (l.map (mU n))=(mU n (b.tL s l).1,(b.tL s l).2)) (fun _=>?_) (fun l f ih hl=>?_) l
 ·show (MV,false)=(mU n MV,false)
  unfold mU MV sig
  simp only
  rw [if_neg (by omega)]
 ·have hf:=hl f (List.mem_append_right _ (List.mem_singleton.2 rfl))
  rw [List.map_append]
  show b.tL s' (l.map (mU n)++[mU n f])=_
  rw [MW,MW,ih fun g hg=>hl g (List.mem_append_left _ hg)]
  have hp:=Vn s l
  unfold acW
  rw [h.FQ hf]
  cases hb:(!pE s f) with
  | false=>rfl
  | true=>
   rw [cond_true,cond_true]
   rcases hp with ⟨p1,p2,p3⟩ | ⟨p1,p2,p3,p4⟩
   ·rw [p1]; rfl
   ·simp only [p1,Bool.not_true,cond_false]
    have dJ:((b.tL s l).1).item≠(n:Int):=(hl _ (List.mem_append_left _ p2)).dJ
    rw [show decide (xb (mU n f) (mU n (b.tL s l).1))=decide (xb f (b.tL s l).1) from decide_eq_decide.2 (ajm hf.dJ dJ)]
    cases decide (xb f (b.tL s l).1) with
    | true=>rfl
    | false=>show (mU n (b.tL s l).1,true)=(mU n (b.tL s l).1,(b.tL s l).2); rw [p1]
theorem Mj {α:Type} {p q:α→Bool} : ∀ {l:List α},(∀ a∈l,p a=q a)→l.filter p=l.filter q
 | [],_=>rfl
 | a::l,h=>by rw [List.filter_cons,List.filter_cons,h a (List.mem_cons_self ..),Mj fun b hb=>h b (List.mem_cons_of_mem _ hb)]
theorem sn.anM {s s' : Show} {n:Nat} (h:sn s n s') (l:List aK) (hl:∀ f∈l,OkF s n f) (w:aK×Bool) (m:Nat):Jh s' (mU n w.1,w.2) (l.map (mU n)) m=(Jh s w l m).map (mU n):=by
 unfold Jh
 rw [List.map_flatMap]
 congr 1
 funext b
 rw [List.filter_map]
 congr 1
 refine Mj fun f hf=>?_
 show abm s' (mU n w.1,w.2) (b:Int) (mU n f)=_
 unfold abm s6
 rw [h.FQ (hl f hf),h.bin (hl f hf)]
 rfl
theorem sn.amj {s s' : Show} {n:Nat} (h:sn s n s'):∀ (l:List aK) (g:Color),(∀ f∈l,OkF s n f)→Cd s' g (l.map (mU n))=Cd s g l
 | [],g,_=>rfl
 | f::l,g,hl=>by
  show Cd s' (lay (pI s' (mU n f)) g) (l.map (mU n))=Cd s (lay (pI s f) g) l
  rw [h.alc (hl f (List.mem_cons_self ..))]
  exact h.amj l _ fun q hq=>hl q (List.mem_cons_of_mem _ hq)
theorem sn.color {s s' : Show} {n:Nat} (h:sn s n s') (c:aP) (r r' : aB) (ground:Color) (x y:Int) (hr:BG s c r) (hr' : BG s' c r') (Pg:∀ f∈kX x y (iI s c),f.item≠(n:Int)):J4 r' ground x y=J4 r ground x y:=by
 have b9:∀ f∈kX x y (iI s c),OkF s n f:=fun f hf=>⟨(C1 hf).1,(C1 hf).2,Pg f hf⟩
 rw [WC s c r ground x y hr,WC s' c r' ground x y hr']
 have e1:E5 s' c x y=(mU n (E5 s c x y).1,(E5 s c x y).2):=by
  unfold E5
  rw [h.ahv c x y Pg]
  exact h.tL _ b9
 have e2:kX x y (iI s' c)=(kX x y (iI s c)).map (mU n):=h.ahv c x y Pg
 have wN:∀ f∈Jh s (E5 s c x y) (kX x y (iI s c)) 16,OkF s n f:=fun f hf=>by
  unfold Jh at hf
  obtain ⟨b,_,hf⟩:=List.mem_flatMap.1 hf
  exact b9 f (List.mem_filter.1 hf).1
 rw [e2,e1,h.anM _ b9,h.amj _ _ wN]
 congr 1
 have hp:ak5 s (kX x y (iI s c)) (E5 s c x y):=Vn _ _
 rcases hp with ⟨p1,p2,p3⟩ | ⟨p1,p2,p3,p4⟩
 ·rw [p1]; rfl
 ·rw [p1]
  exact h.alc (b9 _ p2)
end Go.Proofs.Ytahhdndhkgbcjaa.b
end
section
namespace Go.Proofs.Ytahhdndhkgbcjaa.b
open Go.K
set_option linter.unusedVariables false
set_option linter.unusedSimpArgs false
noncomputable section
structure gY where
 n:Int
 l:(Sl Item)
 i:Int
 s:Show
 t4:Show
instance:Inhabited gY:=⟨⟨default,default,default,default,default⟩⟩
def s7 (x:gY):List KV:=[.int .i64 x.n,iE 45 BX x.l,.int .i64 x.i]
def s8 (x:gY):List (List KV):=[I0 x.s,I0 x.t4]
def DZ (vs:List KV) (rs:List (List KV)):gY:=⟨intOf (vs.getD 0 .aw),gZ Az (vs.getD 1 .aw),intOf (vs.getD 2 .aw),I1 (fun k=>(rs.getD 0 []).getD k .aw),I1 (fun k=>(rs.getD 1 []).getD k .aw)⟩
def E6:aU:=⟨[(1,⟨false,[.k (.int .i64)]⟩),(5,⟨false,[.bc 45]⟩),(6,⟨false,[.k (.int .i64)]⟩)],[(2,[.k (.slice 45),.k (.slice 108)],1),(4,[.k (.slice 45),.k (.slice 108)],1)],[(2,0,0),(4,1,0)]⟩
def Ql:=jh Try.prog (bo Try.prog [] [] (fun q=>Nat.beq q 58||Nat.beq q 2000021)) 9 9 20 58 (eZ Try.prog 20 58) E6
def kd (x:gY):aI gY:=
 (cond (decide (x.i < ((x.s.items.n:Nat):Int)))
 (cond (x.i != x.n)
 (cond ((decide ((0:Int)≤x.i))&&(decide (x.i < ((x.s.items.n:Nat):Int))))
 (cond ((av x.l.n x.l.n)&&(fe 168 x.l.n 1))
 (cond (av (x.l.n+1) (x.l.n+1))
 (.next (⟨x.n,(x.l.push (x.s.items.get (Int.toNat x.i))),(au (x.i+(1:Int))),x.s,x.t4⟩:gY))
 .fail)
 .fail)
 .fail)
 (cond (av x.l.n x.l.n)
 (.next (⟨x.n,x.l,(au (x.i+(1:Int))),x.s,x.t4⟩:gY))
 .fail))
 (cond (av x.l.n x.l.n)
 (.out (aE.ak.exit 0) x)
 .fail))
theorem Ml (x:gY):Ql (s7 x) (s8 x)=aI.enc s7 s8 (kd x):=by
 unfold kd
 try simp only [aI.df,ahj]
 kernel_rfl
def ur:Lp:=⟨20,58,E6,fun vs rs=>dC s7 s8 (goN kd (DZ vs rs)) [aE.ak.exit 0],false⟩
theorem Qm:ur.Ok Try.prog:=eH funcs mixed ao.nil az.nil (L:=9) (n:=9) (step:=kd) (ev:=s7) (er:=s8) (pa:=DZ) rfl (fun wv wr=>⟨by kernel_rfl,by kernel_rfl⟩) Ml
theorem Kh:cA Try.prog ur.f ur.p=true:=by kernel_rfl
def J5:List (Nat×(List KV→KR KV)):=[]
def J6:List Lp:=[ur]
theorem Tl:ao Try.prog J5:=ao.nil
theorem Tn:az Try.prog J6:=(az.cons Qm Kh az.nil)
def nB (s:Show) (n:Int):(aI gY):=(goN kd (⟨n,(⟨0,(fun i=>(⟨(⟨0,(fun i=>(⟨(0:Int),(0:Int),(0:Int)⟩:dY))⟩:Sl _),(⟨0,(fun i=>(⟨(0:Int),(0:Int)⟩:uc))⟩:Sl _),(⟨0,(fun i=>(⟨(0:Int),(0:Int),(0:Int)⟩:eL))⟩:Sl _),(⟨(⟨(0:Int),(0:Int),(0:Int),(0:Int)⟩:Color),(0:Int),(0:Int),(0:Int),false,(0:Int)⟩:tt),(⟨(⟨(0:Int),(0:Int),(0:Int)⟩:dY),(⟨(0:Int),(0:Int),(0:Int)⟩:dY)⟩:tr)⟩:Item))⟩:Sl _),(0:Int),s,(⟨(⟨0,(fun i=>(⟨(⟨0,(fun i=>(⟨(0:Int),(0:Int),(0:Int)⟩:dY))⟩:Sl _),(⟨0,(fun i=>(⟨(0:Int),(0:Int)⟩:uc))⟩:Sl _),(⟨0,(fun i=>(⟨(0:Int),(0:Int),(0:Int)⟩:eL))⟩:Sl _),(⟨(⟨(0:Int),(0:Int),(0:Int),(0:Int)⟩:Color),(0:Int),(0:Int),(0:Int),false,(0:Int)⟩:tt),(⟨(⟨(0:Int),(0:Int),(0:Int)⟩:dY),(⟨(0:Int),(0:Int),(0:Int)⟩:dY)⟩:tr)⟩:Item))⟩:Sl _),(⟨0,(fun i=>(⟨(0:Int),(0:Int),(⟨0,(fun i=>(⟨(0:Int),(0:Int),(0:Int),(0:Int)⟩:Color))⟩:Sl _)⟩:ek))⟩:Sl _)⟩:Show)⟩:gY))
def pJ (s:Show) (n:Int):Option (Show):=
 (cond ((nB s n).by (aE.ak.exit 0))
 (some ((⟨(nB s n).st.l,(nB s n).st.s.aL⟩:Show)))
 none)
theorem Vy (s:Show) (n:Int):dm Try.prog (bo Try.prog J5 J6 (fun q=>Nat.beq q 58||Nat.beq q 2000021)) 9 9 20 [oK s,(kI .i64) n] = (pJ s n).map oK:=by
 unfold pJ
 try simp only [cc]
 kernel_rfl
def zI:List KV→KR KV:=cw Try.prog 20 (cG oK fun vs=>pJ (mO (vs.getD 0 .aw)) (intOf (vs.getD 1 .aw)))
theorem Tp (w:Nat→KV):cM Try.prog [25,3] w 0 = [oK (mO (ay Try.prog (aj Try.prog aq) 25 (w 0))),(kI .i64) (intOf (ay Try.prog (aj Try.prog aq) 3 (w 1)))]:=by kernel_rfl
theorem zJ:ca Try.prog 20 zI:=aY funcs mixed Tl Tn (L:=9) (n:=9) fun w=>by
 have e:aJ Try.prog 20 = [25,3]:=by kernel_rfl
 rw [e,Tp]
 exact (Vy (mO (ay Try.prog (aj Try.prog aq) 25 (w 0))) (intOf (ay Try.prog (aj Try.prog aq) 3 (w 1)))).trans (by kernel_rfl)
structure fU where
 a:(Sl aK)
 b:(Sl aK)
 t4:Bool
 i:Int
instance:Inhabited fU:=⟨⟨default,default,default,default⟩⟩
def qO (x:fU):List KV:=[iE 58 hJ x.a,iE 58 hJ x.b,.bool x.t4,.int .i64 x.i]
def qP (x:fU):List (List KV):=[]
def BH (vs:List KV) (rs:List (List KV)):fU:=⟨gZ gP (vs.getD 0 .aw),gZ gP (vs.getD 1 .aw),ql (vs.getD 2 .aw),intOf (vs.getD 3 .aw)⟩
def Cp:aU:=⟨[(0,⟨false,[.k (.slice 58)]⟩),(1,⟨false,[.k (.slice 58)]⟩),(4,⟨false,[.k .bool]⟩),(5,⟨false,[.k (.int .i64)]⟩)],[],[]⟩
def Mm:=jh Try.prog (bo Try.prog [] [] (fun q=>Nat.beq q 58||Nat.beq q 2000021)) 9 9 21 58 (eZ Try.prog 21 58) Cp
def jq (x:fU):aI fU:=
 (cond (decide (x.i < ((x.a.n:Nat):Int)))
 (cond ((decide ((0:Int)≤x.i))&&(decide (x.i < ((x.a.n:Nat):Int))))
 (cond ((decide ((0:Int)≤x.i))&&(decide (x.i < ((x.b.n:Nat):Int))))
 (cond (!(((x.a.get (Int.toNat x.i)).d==(x.b.get (Int.toNat x.i)).d)&&(((x.a.get (Int.toNat x.i)).item==(x.b.get (Int.toNat x.i)).item)&&(((x.a.get (Int.toNat x.i)).gA==(x.b.get (Int.toNat x.i)).gA)&&(((x.a.get (Int.toNat x.i)).part==(x.b.get (Int.toNat x.i)).part)&&(((x.a.get (Int.toNat x.i)).u==(x.b.get (Int.toNat x.i)).u)&&(((x.a.get (Int.toNat x.i)).v==(x.b.get (Int.toNat x.i)).v)&&true)))))))
 (.out aE.ak.ret (⟨x.a,x.b,false,x.i⟩:fU))
 (.next (⟨x.a,x.b,x.t4,(au (x.i+(1:Int)))⟩:fU)))
 .fail)
 .fail)
 (.out (aE.ak.exit 0) x))
theorem Ji (x:fU):Mm (qO x) (qP x)=aI.enc qO qP (jq x):=by
 unfold jq
 try simp only [aI.df]
 kernel_rfl
def rA:Lp:=⟨21,58,Cp,fun vs rs=>dC qO qP (goN jq (BH vs rs)) [aE.ak.exit 0,aE.ak.ret],false⟩
theorem Mn:rA.Ok Try.prog:=eH funcs mixed ao.nil az.nil (L:=9) (n:=9) (step:=jq) (ev:=qO) (er:=qP) (pa:=BH) rfl (fun wv wr=>⟨by kernel_rfl,by kernel_rfl⟩) Ji
theorem HG:cA Try.prog rA.f rA.p=true:=by kernel_rfl
def E7:List (Nat×(List KV→KR KV)):=[]
def E8:List Lp:=[rA]
theorem Nw:ao Try.prog E7:=ao.nil
theorem Nx:az Try.prog E8:=(az.cons Mn HG az.nil)
def nC (a:(Sl aK)) (b:(Sl aK)):(aI fU):=(goN jq (⟨a,b,false,(0:Int)⟩:fU))
def mb (a:(Sl aK)) (b:(Sl aK)):Option (Bool):=
 (cond (((a.n:Nat):Int) != ((b.n:Nat):Int))
 (some (false))
 (cond ((nC a b).by (aE.ak.exit 0))
 (some (true))
 (cond ((nC a b).by aE.ak.ret)
 (some ((nC a b).st.t4))
 none)))
theorem Qn (a:(Sl aK)) (b:(Sl aK)):dm Try.prog (bo Try.prog E7 E8 (fun q=>Nat.beq q 58||Nat.beq q 2000021)) 9 9 21 [(iE 58 hJ) a,(iE 58 hJ) b] = (mb a b).map kB:=by
 unfold mb
 try simp only [cc]
 kernel_rfl
def vX:List KV→KR KV:=cw Try.prog 21 (cG kB fun vs=>mb ((gZ gP) (vs.getD 0 .aw)) ((gZ gP) (vs.getD 1 .aw)))
theorem Ny (w:Nat→KV):cM Try.prog [54,54] w 0 = [(iE 58 hJ) ((gZ gP) (ay Try.prog (aj Try.prog aq) 54 (w 0))),(iE 58 hJ) ((gZ gP) (ay Try.prog (aj Try.prog aq) 54 (w 1)))]:=by kernel_rfl
theorem wF:ca Try.prog 21 vX:=aY funcs mixed Nw Nx (L:=9) (n:=9) fun w=>by
 have e:aJ Try.prog 21 = [54,54]:=by kernel_rfl
 rw [e,Ny]
 exact (Qn ((gZ gP) (ay Try.prog (aj Try.prog aq) 54 (w 0))) ((gZ gP) (ay Try.prog (aj Try.prog aq) 54 (w 1)))).trans (by kernel_rfl)
structure aH where
 x:Int
 y:Int
 t14:(Sl cH)
 t15:Int
 t16:Int
 bZ:(Sl aK)
instance:Inhabited aH:=⟨⟨default,default,default,default,default,default⟩⟩
def fN (x:aH):List KV:=[.int .i64 x.x,.int .i64 x.y,.fn (.func 42) [] [.ptr 0 0],iE 139 sW x.t14,.int .i64 x.t15,.int .i64 x.t16]
def fO (x:aH):List (List KV):=[[iE 58 hJ x.bZ]]
def mn (vs:List KV) (rs:List (List KV)):aH:=⟨intOf (vs.getD 0 .aw),intOf (vs.getD 1 .aw),gZ sX (vs.getD 3 .aw),intOf (vs.getD 4 .aw),intOf (vs.getD 5 .aw),gZ gP ((rs.getD 0 []).getD 0 .aw)⟩
def mV:aU:=⟨[(1,⟨false,[.k (.int .i64)]⟩),(2,⟨false,[.k (.int .i64)]⟩),(3,⟨false,[.ref (.fn (.func 42) [] [.ptr 0 0])]⟩),(14,⟨false,[.k (.slice 139)]⟩),(15,⟨false,[.k (.int .i64)]⟩),(16,⟨false,[.k (.int .i64)]⟩)],[(100003,[.arr 58],1)],[]⟩
def sg:=jh Try.prog (bo Try.prog [(21,vX),(17,va),(20,zI),(40,yu),(66,qy),(10,CM),(14,CP)] [] (fun q=>Nat.beq q 58||Nat.beq q 2000021)) 9 9 41 14 (eZ Try.prog 41 14) mV
def cF (x:aH):(Option (Prod fX Int)):=(nU (x.t14.get (Int.toNat x.t16)).t x.x x.y)
def bq (x:aH):aI aH:=
 (cond (decide (x.t16 < x.t15))
 (cond ((decide ((0:Int)≤x.t16))&&(decide (x.t16 < ((x.t14.n:Nat):Int))))
 (cond (cF x).isSome
 (cond (((cF x).getD default).snd==(0:Int))
 (cond ((Nat.ble (((x.bZ.n+1)+512) * 48) 17592186044416)&&(Nat.ble (x.bZ.n+1) 17592186044416))
 (cond (av x.bZ.n x.bZ.n)
 (.next (⟨x.x,x.y,x.t14,x.t15,(au (x.t16+(1:Int))),(x.bZ.push (⟨(au ((x.t14.get (Int.toNat x.t16)).cm.d+((cF x).getD default).fst.d)),(x.t14.get (Int.toNat x.t16)).cm.item,(x.t14.get (Int.toNat x.t16)).cm.gA,(x.t14.get (Int.toNat x.t16)).cm.part,((cF x).getD default).fst.u,((cF x).getD default).fst.v⟩:aK))⟩:aH))
 .fail)
 .fail)
 (cond (av x.bZ.n x.bZ.n)
 (.next (⟨x.x,x.y,x.t14,x.t15,(au (x.t16+(1:Int))),x.bZ⟩:aH))
 .fail))
 .fail)
 .fail)
 (cond (av x.bZ.n x.bZ.n)
 (.out (aE.ak.exit 0) x)
 .fail))
theorem rm (x:aH):sg (fN x) (fO x)=aI.enc fN fO (bq x):=by
 unfold bq
 try simp only [aI.df,aaO]
 kernel_rfl
def eD:Lp:=⟨41,14,mV,fun vs rs=>dC fN fO (goN bq (mn vs rs)) [aE.ak.exit 0],false⟩
theorem mo:eD.Ok Try.prog:=eH funcs mixed (ao.cons wF (ao.cons uq (ao.cons zJ (ao.cons u7 (ao.cons nV (ao.cons B5 (ao.cons Ce ao.nil))))))) az.nil (L:=9) (n:=9) (step:=bq) (ev:=fN) (er:=fO) (pa:=mn) rfl (fun wv wr=>⟨by kernel_rfl,by kernel_rfl⟩) rm
theorem lA:cA Try.prog eD.f eD.p=true:=by kernel_rfl
structure dB where
 x:Int
 y:Int
 n:Int
 t12:Bool
 ok:Bool
 l:(Sl aK)
 i:Int
 s:Show
 c:aP
 ground:Color
instance:Inhabited dB:=⟨⟨default,default,default,default,default,default,default,default,default,default⟩⟩
def nL (x:dB):List KV:=[.int .i64 x.x,.int .i64 x.y,.int .i64 x.n,.bool x.t12,.bool x.ok,iE 58 hJ x.l,.int .i64 x.i]
def nM (x:dB):List (List KV):=[I0 x.s,GQ x.c,X7 x.ground]
def xc (vs:List KV) (rs:List (List KV)):dB:=⟨intOf (vs.getD 0 .aw),intOf (vs.getD 1 .aw),intOf (vs.getD 2 .aw),ql (vs.getD 3 .aw),ql (vs.getD 4 .aw),gZ gP (vs.getD 5 .aw),intOf (vs.getD 6 .aw),I1 (fun k=>(rs.getD 0 []).getD k .aw),GS (fun k=>(rs.getD 1 []).getD k .aw),X8 (fun k=>(rs.getD 2 []).getD k .aw)⟩
def yv:aU:=⟨[(3,⟨false,[.k (.int .i64)]⟩),(4,⟨false,[.k (.int .i64)]⟩),(5,⟨false,[.k (.int .i64)]⟩),(12,⟨false,[.k .bool]⟩),(13,⟨false,[.k .bool]⟩),(14,⟨false,[.arr 58]⟩),(16,⟨false,[.k (.int .i64)]⟩)],[(6,[.k (.slice 45),.k (.slice 108)],1),(7,[.k (.int .i64),.k (.int .i64),.k (.int .i64),.k (.int .i64),.k (.int .i64),.k (.int .i64),.k (.int .i64),.k (.int .i64),.k (.int .i64),.k (.int .i64),.k (.int .i64),.k (.int .i64),.k (.int .i64),.k (.int .i64),.k (.int .i64),.k (.int .i64)],1),(8,[.k (.int .u8),.k (.int .u8),.k (.int .u8),.k (.int .u8)],1)],[(6,0,0),(7,1,0),(8,2,0)]⟩
def FY:=jh Try.prog (bo Try.prog [(21,vX),(17,va),(20,zI),(40,yu),(66,qy),(10,CM),(14,CP)] [eD] (fun q=>Nat.beq q 58||Nat.beq q 2000021)) 9 9 5 1018 (eZ Try.prog 5 1018) yv
def fk (x:dB):aI dB:=
 (cond (decide (x.i < ((x.l.n:Nat):Int)))
 (cond ((decide ((0:Int)≤x.i))&&(decide (x.i < ((x.l.n:Nat):Int))))
 (cond ((x.l.get (0+(Int.toNat x.i))).item==x.n)
 (cond (av x.l.n x.l.n)
 (.out aE.ak.ret (⟨x.x,x.y,x.n,x.ok,x.ok,x.l,x.i,x.s,x.c,x.ground⟩:dB))
 .fail)
 (cond ((decide ((0:Int)≤x.i))&&(decide (x.i < ((x.l.n:Nat):Int))))
 (cond (decide ((x.l.get (0+(Int.toNat x.i))).item > x.n))
 (cond ((decide ((0:Int)≤x.i))&&(decide (x.i < ((x.l.n:Nat):Int))))
 (cond ((decide ((0:Int)≤x.i))&&(decide (x.i < ((x.l.n:Nat):Int))))
 (cond (av x.l.n x.l.n)
 (.next (⟨x.x,x.y,x.n,x.t12,x.ok,(x.l.set (0+(Int.toNat x.i)) (⟨(x.l.get (0+(Int.toNat x.i))).d,(au ((x.l.get (0+(Int.toNat x.i))).item - (1:Int))),(x.l.get (0+(Int.toNat x.i))).gA,(x.l.get (0+(Int.toNat x.i))).part,(x.l.get (0+(Int.toNat x.i))).u,(x.l.get (0+(Int.toNat x.i))).v⟩:aK)),(au (x.i+(1:Int))),x.s,x.c,x.ground⟩:dB))
 .fail)
 .fail)
 .fail)
 (cond (av x.l.n x.l.n)
 (.next (⟨x.x,x.y,x.n,x.t12,x.ok,x.l,(au (x.i+(1:Int))),x.s,x.c,x.ground⟩:dB))
 .fail))
 .fail))
 .fail)
 (cond (av x.l.n x.l.n)
 (.out (aE.ak.exit 0) x)
 .fail))
theorem D4 (x:dB):FY (nL x) (nM x)=aI.enc nL nM (fk x):=by
 unfold fk
 try simp only [aI.df,Hh]
 kernel_rfl
def n9:Lp:=⟨5,1018,yv,fun vs rs=>dC nL nM (goN fk (xc vs rs)) [aE.ak.exit 0,aE.ak.ret],false⟩
theorem FZ:n9.Ok Try.prog:=eH funcs mixed (ao.cons wF (ao.cons uq (ao.cons zJ (ao.cons u7 (ao.cons nV (ao.cons B5 (ao.cons Ce ao.nil))))))) (az.cons mo lA az.nil) (L:=9) (n:=9) (step:=fk) (ev:=nL) (er:=nM) (pa:=xc) rfl (fun wv wr=>⟨by kernel_rfl,by kernel_rfl⟩) D4
theorem CQ:cA Try.prog n9.f n9.p=true:=by kernel_rfl
def wG:List (Nat×(List KV→KR KV)):=[(21,vX),(17,va),(20,zI),(40,yu),(66,qy),(10,CM),(14,CP)]
def wH:List Lp:=[n9,eD]
theorem Ki:ao Try.prog wG:=(ao.cons wF (ao.cons uq (ao.cons zJ (ao.cons u7 (ao.cons nV (ao.cons B5 (ao.cons Ce ao.nil)))))))
theorem Kj:az Try.prog wH:=(az.cons FZ CQ (az.cons mo lA az.nil))
def vb (s:Show) (c:aP) (ground:Color) (x:Int) (y:Int) (n:Int):(Option Bool):=(vL s)
def jb (s:Show) (c:aP) (ground:Color) (x:Int) (y:Int) (n:Int):(Option (Prod aB Int)):=(jC s c x y)
def jc (s:Show) (c:aP) (ground:Color) (x:Int) (y:Int) (n:Int):(aI aH):=(goN bq (⟨x,y,((jb s c ground x y n).getD default).fst.parts,((((jb s c ground x y n).getD default).fst.parts.n:Nat):Int),(0:Int),(⟨0,(fun i=>(⟨(0:Int),(0:Int),(0:Int),(0:Int),(0:Int),(0:Int)⟩:aK))⟩:Sl _)⟩:aH))
def bn (s:Show) (c:aP) (ground:Color) (x:Int) (y:Int) (n:Int):(aI dB):=(goN fk (⟨x,y,n,false,true,(jc s c ground x y n).st.bZ,(0:Int),s,c,ground⟩:dB))
def ke (s:Show) (c:aP) (ground:Color) (x:Int) (y:Int) (n:Int):(Option Show):=(pJ (bn s c ground x y n).st.s (bn s c ground x y n).st.n)
def jd (s:Show) (c:aP) (ground:Color) (x:Int) (y:Int) (n:Int):(Option (Prod aB Int)):=(jC ((ke s c ground x y n).getD default) (bn s c ground x y n).st.c (bn s c ground x y n).st.x (bn s c ground x y n).st.y)
def mc (s:Show) (c:aP) (ground:Color) (x:Int) (y:Int) (n:Int):(aI aH):=(goN bq (⟨(bn s c ground x y n).st.x,(bn s c ground x y n).st.y,((jd s c ground x y n).getD default).fst.parts,((((jd s c ground x y n).getD default).fst.parts.n:Nat):Int),(0:Int),(⟨0,(fun i=>(⟨(0:Int),(0:Int),(0:Int),(0:Int),(0:Int),(0:Int)⟩:aK))⟩:Sl _)⟩:aH))
def dH (s:Show) (c:aP) (ground:Color) (x:Int) (y:Int) (n:Int):(Option (Prod Color Int)):=(mT (bn s c ground x y n).st.s (bn s c ground x y n).st.c (bn s c ground x y n).st.ground (bn s c ground x y n).st.x (bn s c ground x y n).st.y)
def dI (s:Show) (c:aP) (ground:Color) (x:Int) (y:Int) (n:Int):(Option (Prod Color Int)):=(mT ((ke s c ground x y n).getD default) (bn s c ground x y n).st.c (bn s c ground x y n).st.ground (bn s c ground x y n).st.x (bn s c ground x y n).st.y)
def qQ (s:Show) (c:aP) (ground:Color) (x:Int) (y:Int) (n:Int):(Option Bool):=(mb (⟨(bn s c ground x y n).st.l.n,(fun i=>((bn s c ground x y n).st.l.get (0+i)))⟩:Sl _) (⟨(mc s c ground x y n).st.bZ.n,(fun i=>((mc s c ground x y n).st.bZ.get (0+i)))⟩:Sl _))
def z6 (s:Show) (c:aP) (ground:Color) (x:Int) (y:Int) (n:Int):(Option Bool):=(mb (⟨(bn s c ground x y n).st.l.n,(fun i=>((bn s c ground x y n).st.l.get (0+i)))⟩:Sl _) (⟨0,(fun i=>(⟨(0:Int),(0:Int),(0:Int),(0:Int),(0:Int),(0:Int)⟩:aK))⟩:Sl _))
def nj (s:Show) (c:aP) (ground:Color) (x:Int) (y:Int) (n:Int):(Option Show):=(pJ s n)
def lg (s:Show) (c:aP) (ground:Color) (x:Int) (y:Int) (n:Int):(Option (Prod aB Int)):=(jC ((nj s c ground x y n).getD default) c x y)
def tM (s:Show) (c:aP) (ground:Color) (x:Int) (y:Int) (n:Int):(aI aH):=(goN bq (⟨x,y,((lg s c ground x y n).getD default).fst.parts,((((lg s c ground x y n).getD default).fst.parts.n:Nat):Int),(0:Int),(⟨0,(fun i=>(⟨(0:Int),(0:Int),(0:Int),(0:Int),(0:Int),(0:Int)⟩:aK))⟩:Sl _)⟩:aH))
def eh (s:Show) (c:aP) (ground:Color) (x:Int) (y:Int) (n:Int):(Option (Prod Color Int)):=(mT s c ground x y)
def ei (s:Show) (c:aP) (ground:Color) (x:Int) (y:Int) (n:Int):(Option (Prod Color Int)):=(mT ((nj s c ground x y n).getD default) c ground x y)
def z7 (s:Show) (c:aP) (ground:Color) (x:Int) (y:Int) (n:Int):(Option Bool):=(mb (⟨0,(fun i=>(⟨(0:Int),(0:Int),(0:Int),(0:Int),(0:Int),(0:Int)⟩:aK))⟩:Sl _) (⟨(tM s c ground x y n).st.bZ.n,(fun i=>((tM s c ground x y n).st.bZ.get (0+i)))⟩:Sl _))
def s9 (s:Show) (c:aP) (ground:Color) (x:Int) (y:Int) (n:Int):Option (Bool):=
 (cond (vb s c ground x y n).isSome
 (cond ((vb s c ground x y n).getD default)
 (some (true))
 (cond (jb s c ground x y n).isSome
 (cond (((jb s c ground x y n).getD default).snd==(0:Int))
 (cond ((jc s c ground x y n).by (aE.ak.exit 0))
 (cond (((jb s c ground x y n).getD default).snd != (0:Int))
 (some (true))
 (cond (decide (n < (0:Int)))
 (some (true))
 (cond (decide (n ≥ ((s.items.n:Nat):Int)))
 (some (true))
 (cond (av (jc s c ground x y n).st.bZ.n (jc s c ground x y n).st.bZ.n)
 (cond ((bn s c ground x y n).by (aE.ak.exit 0))
 (cond (ke s c ground x y n).isSome
 (cond (jd s c ground x y n).isSome
 (cond (((jd s c ground x y n).getD default).snd==(0:Int))
 (cond ((mc s c ground x y n).by (aE.ak.exit 0))
 (cond (dH s c ground x y n).isSome
 (cond (ke s c ground x y n).isSome
 (cond (dI s c ground x y n).isSome
 (cond (bn s c ground x y n).st.ok
 (cond (((jd s c ground x y n).getD default).snd==(0:Int))
 (cond (((dH s c ground x y n).getD default).snd==(0:Int))
 (cond (((dI s c ground x y n).getD default).snd==(0:Int))
 (cond ((((dH s c ground x y n).getD default).fst.e0==((dI s c ground x y n).getD default).fst.e0)&&((((dH s c ground x y n).getD default).fst.e1==((dI s c ground x y n).getD default).fst.e1)&&((((dH s c ground x y n).getD default).fst.e2==((dI s c ground x y n).getD default).fst.e2)&&((((dH s c ground x y n).getD default).fst.e3==((dI s c ground x y n).getD default).fst.e3)&&true))))
 (cond (qQ s c ground x y n).isSome
 (some (((qQ s c ground x y n).getD default)))
 none)
 (some (false)))
 (some (false)))
 (some (false)))
 (some (false)))
 (some (false)))
 none)
 none)
 none)
 none)
 (cond (dH s c ground x y n).isSome
 (cond (ke s c ground x y n).isSome
 (cond (dI s c ground x y n).isSome
 (cond (bn s c ground x y n).st.ok
 (cond (((jd s c ground x y n).getD default).snd==(0:Int))
 (cond (((dH s c ground x y n).getD default).snd==(0:Int))
 (cond (((dI s c ground x y n).getD default).snd==(0:Int))
 (cond ((((dH s c ground x y n).getD default).fst.e0==((dI s c ground x y n).getD default).fst.e0)&&((((dH s c ground x y n).getD default).fst.e1==((dI s c ground x y n).getD default).fst.e1)&&((((dH s c ground x y n).getD default).fst.e2==((dI s c ground x y n).getD default).fst.e2)&&((((dH s c ground x y n).getD default).fst.e3==((dI s c ground x y n).getD default).fst.e3)&&true))))
 (cond (z6 s c ground x y n).isSome
 (some (((z6 s c ground x y n).getD default)))
 none)
 (some (false)))
 (some (false)))
 (some (false)))
 (some (false)))
 (some (false)))
 none)
 none)
 none))
 none)
 none)
 (cond ((bn s c ground x y n).by aE.ak.ret)
 (some ((bn s c ground x y n).st.t12))
 none))
 none))))
 none)
 (cond (((jb s c ground x y n).getD default).snd != (0:Int))
 (some (true))
 (cond (decide (n < (0:Int)))
 (some (true))
 (cond (decide (n ≥ ((s.items.n:Nat):Int)))
 (some (true))
 (cond (nj s c ground x y n).isSome
 (cond (lg s c ground x y n).isSome
 (cond (((lg s c ground x y n).getD default).snd==(0:Int))
 (cond ((tM s c ground x y n).by (aE.ak.exit 0))
 (cond (eh s c ground x y n).isSome
 (cond (nj s c ground x y n).isSome
 (cond (ei s c ground x y n).isSome
 (cond (((lg s c ground x y n).getD default).snd==(0:Int))
 (cond (((eh s c ground x y n).getD default).snd==(0:Int))
 (cond (((ei s c ground x y n).getD default).snd==(0:Int))
 (cond ((((eh s c ground x y n).getD default).fst.e0==((ei s c ground x y n).getD default).fst.e0)&&((((eh s c ground x y n).getD default).fst.e1==((ei s c ground x y n).getD default).fst.e1)&&((((eh s c ground x y n).getD default).fst.e2==((ei s c ground x y n).getD default).fst.e2)&&((((eh s c ground x y n).getD default).fst.e3==((ei s c ground x y n).getD default).fst.e3)&&true))))
 (cond (z7 s c ground x y n).isSome
 (some (((z7 s c ground x y n).getD default)))
 none)
 (some (false)))
 (some (false)))
 (some (false)))
 (some (false)))
 none)
 none)
 none)
 none)
 (cond (eh s c ground x y n).isSome
 (cond (nj s c ground x y n).isSome
 (cond (ei s c ground x y n).isSome
 (cond (((lg s c ground x y n).getD default).snd==(0:Int))
 (cond (((eh s c ground x y n).getD default).snd==(0:Int))
 (cond (((ei s c ground x y n).getD default).snd==(0:Int))
 (cond ((((eh s c ground x y n).getD default).fst.e0==((ei s c ground x y n).getD default).fst.e0)&&((((eh s c ground x y n).getD default).fst.e1==((ei s c ground x y n).getD default).fst.e1)&&((((eh s c ground x y n).getD default).fst.e2==((ei s c ground x y n).getD default).fst.e2)&&((((eh s c ground x y n).getD default).fst.e3==((ei s c ground x y n).getD default).fst.e3)&&true))))
 (some (true))
 (some (false)))
 (some (false)))
 (some (false)))
 (some (false)))
 none)
 none)
 none))
 none)
 none)))))
 none))
 none)
theorem Mo (s:Show) (c:aP) (ground:Color) (x:Int) (y:Int) (n:Int):dm Try.prog (bo Try.prog wG wH (fun q=>Nat.beq q 58||Nat.beq q 2000021)) 9 9 5 [oK s,kK c,il ground,(kI .i64) x,(kI .i64) y,(kI .i64) n] = (s9 s c ground x y n).map kB:=by
 unfold s9
 try simp only [cc]
 kernel_rfl
theorem Kk (w:Nat→KV):cM Try.prog [25,53,37,3,3,3] w 0 = [oK (mO (ay Try.prog (aj Try.prog aq) 25 (w 0))),kK (hY (ay Try.prog (aj Try.prog aq) 53 (w 1))),il (n6 (ay Try.prog (aj Try.prog aq) 37 (w 2))),(kI .i64) (intOf (ay Try.prog (aj Try.prog aq) 3 (w 3))),(kI .i64) (intOf (ay Try.prog (aj Try.prog aq) 3 (w 4))),(kI .i64) (intOf (ay Try.prog (aj Try.prog aq) 3 (w 5)))]:=by kernel_rfl
end
end Go.Proofs.Ytahhdndhkgbcjaa.b
end
section
namespace Go.Proofs.Ytahhdndhkgbcjaa.b
open Go.K Go.K.se
open Go.aE (ak)
theorem alU (s:Show) (c:aP) (x y:Int) (h0:gU s c=some 0) (hx:0≤x∧x < c.w) (hy:0≤y∧y < c.h):∃ r,jC s c x y=some (r,0)∧BG s c r:=by
 obtain ⟨e,h1,h2⟩:=Ws s c
 have he:e=0:=by
  rw [h0] at h1
  injection h1 with h1
  exact h1.symm
 obtain ⟨hs,_⟩:=h2 he
 obtain ⟨r,hr,h3,h4,h5⟩:=acV s c hs
 have e0:w4 s c x y=some 0:=h0
 have e1:Bc s c x y=some r:=hr
 refine ⟨r,?_,ac4 (Je h0),h3,h4,h5⟩
 unfold jC
 simp only [e0,e1,Option.isSome_some,Option.getD_some,cond_true,cond_false,bne_self_eq_false,decide_eq_false (show ¬ x < 0 by omega),decide_eq_false (show ¬ x ≥ c.w by omega),decide_eq_false (show ¬ y < 0 by omega),decide_eq_false (show ¬ y ≥ c.h by omega)]
theorem abn {s:Show} {c:aP} {x y:Int} {r:aB} (ground:Color) (h:jC s c x y=some (r,0)) (hk:BG s c r):mT s c ground x y=some (J4 r ground x y,0):=by
 have e1:sa s c ground x y=some (r,0):=h
 have e3:vV s c ground x y=some (J4 r ground x y):=by
  unfold vV
  rw [e1]
  exact hk.col ground x y
 unfold mT
 simp only [e1,e3,Option.isSome_some,Option.getD_some,cond_true,bne_self_eq_false,cond_false]
theorem Tq (x:aH) (hn:x.t14.n≤98304) (h15:x.t15=(x.t14.n:Int)) (h16:x.t16=0) (h0:x.bZ.n=0) :
  ∃ e y,goN bq x = .out e y∧(e = .exit 0∧y.bZ.n≤98304∧eX y.bZ=kX x.x x.y (eX x.t14)):=by
 refine dp (step:=bq) (fun j y=>y.t14=x.t14∧y.t15=(x.t14.n:Int)∧y.t16=(j:Int)∧y.x=x.x∧y.y=x.y∧j≤x.t14.n∧y.bZ.n≤j∧eX y.bZ=kX x.x x.y ((eX x.t14).take j)) _ x.t14.n (by have:mm=1000000000000:=rfl; omega) (fun j y hj ⟨f1,f2,f3,f4,f5,f6,f7,f8⟩=>?_) ⟨rfl,h15,h16,rfl,rfl,Nat.zero_le _,by omega,List.length_eq_zero_iff.1 (by rw [kV,h0])⟩
 have w1:au (y.t16+1)=y.t16+1:=bx (by omega) (by omega)
 have po:=agm (n:=y.bZ.n) (by omega)
 unfold bq
 by_cases h:y.t16 < y.t15
 ·have mr:j < x.t14.n:=by omega
  have hg:y.t14.get (Int.toNat y.t16)=x.t14.get j:=by rw [f1,f3,Int.toNat_natCast]
  obtain ⟨sp,e,hp⟩:=EY (x.t14.get j).t x.x x.y
  have e0:cF y=some (sp,e):=by
   unfold cF
   rw [hg,f4,f5]
   exact hp
  have tk:=MU (x:=x.x) (y:=x.y) x.t14 j mr
  simp only [e0,w1,po,aZ,cond_true,Bool.and_self,Option.isSome_some,Option.getD_some,decide_eq_true h,decide_eq_true (show (0:Int)≤y.t16 by omega),decide_eq_true (show y.t16 < ((y.t14.n:Nat):Int) by rw [f1]; omega)]
  cases he:(e==(0:Int)) with
  | true=>
   have yK:mi x.x x.y (x.t14.get j)=some ⟨au ((x.t14.get j).cm.d+sp.d),(x.t14.get j).cm.item,(x.t14.get j).cm.gA,(x.t14.get j).cm.part,sp.u,sp.v⟩:=by
    unfold mi
    rw [hp]
    simp only [he,cond_true]
   rw [cond_true]
   refine .inl ⟨_,rfl,by omega,f1,f2,by show y.t16+1=_; omega,f4,f5,by omega,by simp only [Sl.CN]; omega,?_⟩
   show eX (Sl.push _ _)=_
   rw [MT,f8,tk,yK,hg]
   rfl
  | false=>
   have yK:mi x.x x.y (x.t14.get j)=none:=by
    unfold mi
    rw [hp]
    simp only [he,cond_false]
   rw [cond_false]
   refine .inl ⟨_,rfl,by omega,f1,f2,by show y.t16+1=_; omega,f4,f5,by omega,by show y.bZ.n≤_; omega,?_⟩
   show eX y.bZ=_
   rw [tk,yK,f8]
   simp
 ·simp only [aZ,cond_true,cond_false,decide_eq_false h]
  refine .inr ⟨_,_,rfl,rfl,rfl,by omega,?_⟩
  rw [f8,show j=x.t14.n by omega,List.take_of_length_le (by rw [kV]; exact Nat.le_refl _)]
theorem ab6 (s:Show) (n:Nat) (hn:n < s.items.n) (hs:s.items.n≤256):∃ s',pJ s (n:Int)=some s'∧sn s n s':=by
 obtain ⟨e,z,hz,rfl,h1,h2,h3⟩:∃ e z,nB s (n:Int) = .out e z∧(e = .exit 0∧z.s=s∧z.l.n+1=s.items.n∧∀ i,i < z.l.n→z.l.get i=s.items.get (Ea n i)):=by
  unfold nB
  refine dp (step:=kd) (fun j y=>y.n=(n:Int)∧y.s=s∧y.i=(j:Int)∧j≤s.items.n∧(y.l.n=if j≤n then j else j - 1)∧∀ i,i < y.l.n→y.l.get i=s.items.get (Ea n i)) _ s.items.n (by have:mm=1000000000000:=rfl; omega) (fun j y hj ⟨f1,f2,f3,f4,f5,f6⟩=>?_) ⟨rfl,rfl,rfl,Nat.zero_le _,by rw [if_pos (Nat.zero_le _)],fun i hi=>absurd hi (Nat.not_lt_zero _)⟩
  have hln:y.l.n≤j:=by rw [f5]; split <;> omega
  have w1:au (y.i+1)=y.i+1:=bx (by omega) (by omega)
  have a1:fe 168 y.l.n 1=true:=DS (by omega) (by omega) (by omega)
  unfold kd
  by_cases h:y.i < ((y.s.items.n:Nat):Int)
  ·have mr:j < s.items.n:=by rw [f2] at h; omega
   simp only [w1,a1,aZ,cond_true,Bool.and_self,decide_eq_true h,decide_eq_true (show (0:Int)≤y.i by omega)]
   by_cases dJ:j=n
   ·have:(y.i != y.n)=false:=by rw [f1,f3,dJ]; simp
    rw [this,cond_false]
    refine .inl ⟨_,rfl,mr,f1,f2,by show y.i+1=_; omega,by omega,?_,f6⟩
    show y.l.n=_
    rw [f5,if_pos (by omega),if_neg (by omega)]
    omega
   ·have:(y.i != y.n)=true:=by
     rw [f1,f3]
     simpa using fun e:(j:Int)=(n:Int)=>dJ (by omega)
    rw [this,cond_true]
    refine .inl ⟨_,rfl,mr,f1,f2,by show y.i+1=_; omega,by omega,?_,fun i hi=>?_⟩
    ·show y.l.n+1=_
     rw [f5]
     split <;> split <;> omega
    ·have hi:i < y.l.n+1:=hi
     by_cases hl:i < y.l.n
     ·show (y.l.push _).get i=_
      rw [Sl.acP hl]
      exact f6 i hl
     ·have e:i=y.l.n:=by omega
      show (y.l.push _).get i=_
      have e2:Ea n y.l.n=j:=by
       unfold Ea
       by_cases hjn:j≤n
       ·rw [if_pos hjn] at f5
        rw [if_pos (by omega),f5]
       ·rw [if_neg hjn] at f5
        rw [if_neg (by omega),f5]
        omega
      rw [e,Sl.acQ,f2,f3,Int.toNat_natCast,e2]
  ·simp only [aZ,cond_true,cond_false,decide_eq_false h]
   have mr:j=s.items.n:=by rw [f2] at h; omega
   refine .inr ⟨_,_,rfl,rfl,rfl,f2,?_,f6⟩
   rw [f5,if_neg (by omega)]
   omega
 have b1:(nB s (n:Int)).by (.exit 0)=true:=by rw [hz]; rfl
 have b2:(nB s (n:Int)).st=z:=by rw [hz]; rfl
 refine ⟨⟨z.l,s.aL⟩,?_,⟨hn,h2,h3,rfl⟩⟩
 unfold pJ
 rw [b1,b2,h1,cond_true]
theorem ahw (a b:Sl aK) (hn:a.n=b.n) (hb:a.n≤98304) (h:∀ i,i < a.n→a.get i=b.get i):mb a b=some true:=by
 obtain ⟨e,z,hz,rfl⟩:∃ e z,nC a b = .out e z∧e = .exit 0:=by
  unfold nC
  refine dp (step:=jq) (fun j y=>y.a=a∧y.b=b∧y.i=(j:Int)∧j≤a.n) (fun e _=>e = .exit 0) a.n (by have:mm=1000000000000:=rfl; omega) (fun j y hj ⟨f1,f2,f3,f4⟩=>?_) ⟨rfl,rfl,rfl,Nat.zero_le _⟩
  have w1:au (y.i+1)=y.i+1:=bx (by omega) (by omega)
  unfold jq
  by_cases bV:y.i < ((y.a.n:Nat):Int)
  ·have mr:j < a.n:=by rw [f1] at bV; omega
   have hg:y.a.get (Int.toNat y.i)=y.b.get (Int.toNat y.i):=by rw [f1,f2,f3,Int.toNat_natCast]; exact h j mr
   simp only [hg,w1,cond_true,cond_false,Bool.and_self,beq_self_eq_true,Bool.not_true,decide_eq_true bV,decide_eq_true (show (0:Int)≤y.i by omega),decide_eq_true (show y.i < ((y.b.n:Nat):Int) by rw [f2]; omega)]
   exact .inl ⟨_,rfl,mr,f1,f2,by show y.i+1=_; omega,by omega⟩
  ·simp only [cond_false,decide_eq_false bV]
   exact .inr ⟨_,_,rfl,rfl,rfl⟩
 have b1:(nC a b).by (.exit 0)=true:=by rw [hz]; rfl
 unfold mb
 rw [hn,bne_self_eq_false,cond_false,b1,cond_true]
theorem aev (s:Show) (c:aP) (ground:Color) (x y:Int) (n:Nat) (l:Sl aK) (hn:l.n≤98304) (hit:∀ j,j < l.n→0≤(l.get j).item∧(l.get j).item < 1000) :
  ∃ e z,goN fk ⟨x,y,(n:Int),false,true,l,0,s,c,ground⟩ = .out e z∧(e = .ret∧z.t12=true∨e = .exit 0∧(∀ j,j < l.n→(l.get j).item≠(n:Int))∧∃ (l' : Sl aK) (i:Int),z=⟨x,y,(n:Int),false,true,l',i,s,c,ground⟩∧l'.n=l.n∧∀ j,j < l.n→l'.get j=mU n (l.get j)):=by
 refine dp (step:=fk) (fun j z=>∃ l' : Sl aK,z=⟨x,y,(n:Int),false,true,l',(j:Int),s,c,ground⟩∧j≤l.n∧l'.n=l.n∧(∀ k,k < j→l'.get k=mU n (l.get k)∧(l.get k).item≠(n:Int))∧∀ k,j≤k→l'.get k=l.get k) _ l.n (by have:mm=1000000000000:=rfl; omega) (fun j z hj ⟨l',hz,hjl,f1,f2,f3⟩=>?_) ⟨l,rfl,Nat.zero_le _,rfl,fun k hk=>absurd hk (Nat.not_lt_zero _),fun k _=>rfl⟩
 subst hz
 have w1:au ((j:Int)+1)=((j+1:Nat):Int):=by rw [bx (by omega) (by omega)]; omega
 unfold fk
 by_cases h:(j:Int) < ((l'.n:Nat):Int)
 ·have mr:j < l.n:=by omega
  have hg:l'.get (0+j)=l.get j:=by rw [Nat.zero_add]; exact f3 j (Nat.le_refl _)
  obtain ⟨i1,i2⟩:=hit j mr
  simp only [w1,hg,Int.toNat_natCast,aZ,cond_true,Bool.and_self,decide_eq_true h,decide_eq_true (show (0:Int)≤(j:Int) by omega)]
  by_cases he:(l.get j).item=(n:Int)
  ·rw [show ((l.get j).item==(n:Int))=true by simpa using he,cond_true]
   exact .inr ⟨_,_,rfl,rfl,.inl ⟨rfl,rfl⟩⟩
  ·rw [show ((l.get j).item==(n:Int))=false by simpa using he,cond_false]
   by_cases hgt:(l.get j).item > (n:Int)
   ·rw [decide_eq_true hgt,cond_true,bx (n:=(l.get j).item - 1) (by omega) (by omega)]
    refine .inl ⟨_,rfl,mr,l'.set (0+j) _,rfl,by omega,f1,fun k hk=>?_,fun k hk=>?_⟩
    ·show cond (Nat.beq k (0+j)) _ _=_∧_
     rw [Nat.zero_add]
     by_cases hkj:k=j
     ·subst hkj
      rw [Nat.beq_refl,cond_true]
      refine ⟨?_,he⟩
      unfold mU sig
      rw [if_pos hgt]
     ·rw [show Nat.beq k j=false from by
       cases hb:Nat.beq k j with
       | false=>rfl
       | true=>exact absurd (Nat.eq_of_beq_eq_true hb) hkj,cond_false]
      exact f2 k (by omega)
    ·show cond (Nat.beq k (0+j)) _ _=_
     rw [Nat.zero_add,show Nat.beq k j=false from by
       cases hb:Nat.beq k j with
       | false=>rfl
       | true=>have:=Nat.eq_of_beq_eq_true hb; omega,cond_false]
     exact f3 k (by omega)
   ·rw [decide_eq_false hgt,cond_false]
    refine .inl ⟨_,rfl,mr,l',rfl,by omega,f1,fun k hk=>?_,fun k hk=>f3 k (by omega)⟩
    by_cases hkj:k=j
    ·subst hkj
     refine ⟨?_,he⟩
     rw [f3 k (Nat.le_refl _)]
     unfold mU sig
     rw [if_neg hgt]
    ·exact f2 k (by omega)
 ·simp only [aZ,cond_true,cond_false,decide_eq_false h]
  have mr:j=l.n:=by omega
  subst mr
  exact .inr ⟨_,_,rfl,rfl,.inr ⟨rfl,fun k hk=>(f2 k hk).2,l',_,rfl,f1,fun k hk=>(f2 k hk).1⟩⟩
theorem Qo (s:Show) (c:aP) (ground:Color) (x y n:Int):s9 s c ground x y n=some true:=by
 obtain ⟨gr,TY⟩:=PT (agn s)
 have e0:vb s c ground x y n=some gr:=TY
 unfold s9
 simp only [e0,Option.isSome_some,Option.getD_some,cond_true]
 cases gr with
 | true=>rfl
 | false=>
 rw [cond_false]
 obtain ⟨l0,e,_,ahx⟩:=aed s c x y
 rcases ahx with ⟨he,r,hr⟩ | ⟨rfl,r,hr,hs,hc,hx,hy,ha,ho,h3,h4,h5,h6⟩
 ·have e1:jb s c ground x y n=some (r,e):=hr
  simp only [e1,Option.isSome_some,Option.getD_some,cond_true,show (e==(0:Int))=false by simpa using he,show (e != (0:Int))=true by simpa using he,cond_false]
 ·have hk:BG s c r:=⟨ac4 (Je ha),h3,h4,h5⟩
  have e1:jb s c ground x y n=some (r,0):=hr
  obtain ⟨e,z,hz,rfl,z1,z2⟩:∃ e z,jc s c ground x y n = .out e z∧(e = .exit 0∧z.bZ.n≤98304∧eX z.bZ=kX x y (iI s c)):=by
   unfold jc
   rw [e1,← h4]
   exact Tq _ h5 rfl rfl rfl
  have b1:(jc s c ground x y n).by (.exit 0)=true:=by rw [hz]; rfl
  have b2:(jc s c ground x y n).st=z:=by rw [hz]; rfl
  simp only [e1,b1,b2,aZ,Option.isSome_some,Option.getD_some,cond_true,beq_self_eq_true,bne_self_eq_false,cond_false]
  by_cases c1:n < 0
  ·rw [decide_eq_true c1,cond_true]
  by_cases c2:n ≥ ((s.items.n:Nat):Int)
  ·rw [decide_eq_false c1,decide_eq_true c2,cond_false,cond_true]
  rw [decide_eq_false c1,decide_eq_false c2,cond_false,cond_false]
  obtain ⟨N,rfl⟩:∃ N:Nat,n=(N:Int):=⟨Int.toNat n,by omega⟩
  have inL:∀ j,j < z.bZ.n→z.bZ.get j∈kX x y (iI s c):=fun j hj=>by rw [← z2]; exact L6 hj
  have amR:=hs.1
  obtain ⟨e,u,hu,ahx⟩:=aev s c ground x y N z.bZ z1 (fun j hj=>by have:=C1 (inL j hj); omega)
  have e3:bn s c ground x y N = .out e u:=by
   unfold bn
   rw [b2]
   exact hu
  rw [e3]
  rcases ahx with ⟨rfl,hu1⟩ | ⟨rfl,Pg,l',i,hu1,hl1,mq⟩
  ·simp only [aI.jR,aI.kA,fB,cond_true,cond_false,hu1]
  ·subst hu1
   have amk:∀ f∈kX x y (iI s c),f.item≠(N:Int):=fun f hf=>by
    rw [← z2] at hf
    obtain ⟨j,hj,rfl⟩:=ak3 hf
    exact Pg j hj
   obtain ⟨s',hs',hw⟩:=ab6 s N (by omega) amR
   have e4:ke s c ground x y N=some s':=by
    unfold ke
    rw [e3]
    exact hs'
   have HY:gU s' c=some 0:=by
    have hck:=Je ha
    rw [ac5 (hw.check hck),← ac5 hck]
    exact ha
   obtain ⟨r',hr',te⟩:=alU s' c x y HY hx hy
   have e5:jd s c ground x y N=some (r',0):=by
    unfold jd
    rw [e3,e4]
    exact hr'
   obtain ⟨e,v,hv,rfl,v1,v2⟩:∃ e v,mc s c ground x y N = .out e v∧(e = .exit 0∧v.bZ.n≤98304∧eX v.bZ=kX x y (iI s' c)):=by
    unfold mc
    rw [e3,e5,← te.parts]
    exact Tq _ te.n rfl rfl rfl
   have b3:(mc s c ground x y N).by (.exit 0)=true:=by rw [hv]; rfl
   have e7:dH s c ground x y N=some (J4 r ground x y,0):=by
    unfold dH
    rw [e3]
    exact abn ground hr hk
   have e8:dI s c ground x y N=some (J4 r' ground x y,0):=by
    unfold dI
    rw [e3,e4]
    exact abn ground hr' te
   have anN:J4 r' ground x y=J4 r ground x y:=hw.color c r r' ground x y hk te amk
   have yK:eX v.bZ=(eX z.bZ).map (mU N):=by rw [v2,z2]; exact hw.ahv c x y amk
   have hvn:v.bZ.n=z.bZ.n:=by rw [← kV v.bZ,yK,List.length_map,kV]
   have e9:qQ s c ground x y N=some true:=by
    unfold qQ
    rw [e3,hv]
    refine ahw _ _ (by show l'.n=v.bZ.n; omega) (by show l'.n≤_; omega) fun j hj=>?_
    have hj:j < l'.n:=hj
    show l'.get (0+j)=v.bZ.get (0+j)
    rw [Nat.zero_add,mq j (by omega)]
    have g1:=C0 v.bZ j (by omega)
    rw [yK,List.getElem?_map,C0 z.bZ j (by omega)] at g1
    exact Option.some.inj g1
   simp only [e4,e5,e7,e8,e9,b3,anN,aI.jR,aI.kA,fB,Nat.beq_refl,Option.isSome_some,Option.getD_some,cond_true,beq_self_eq_true,Bool.and_self]
end Go.Proofs.Ytahhdndhkgbcjaa.b
end
section
namespace Go.aE
open Go.RowKit Go.WideShapes Go.ChangeShapes
theorem agq {H:Type} {enc:TypeId×Value→H} {P:Program} {f:Func} {s:ChangeSpec} {apart fresh handsOn again:Bool} {W W' : World} {args:Array Value} {v:Value} {ds gs:List (DataW H)} {before pa pv:List MemPlace}
  (whole:DataW.Whole enc P f.params.toList s.vars apart W args.toList ds gs before) (below:Below W.heap.size W W') (Yb:before=pa++pv)
  (res:∀ (b:Nat) (sp:Nat→Bool) (hd:Bool),DataW.TrodAll enc P W' b sp hd f.resultTypes.toList (v.resultList f.resultTypes.size) (s.fn H (ds++gs)).results [])
  (arg:∀ sp:Nat→Bool,(∀ p∈before,sp p.block=true)→DataW.TrodAll enc P W' 0 sp true f.params.toList args.toList (s.fn H (ds++gs)).args pa)
  (var:∀ sp:Nat→Bool,(∀ p∈before,sp p.block=true)→DataW.TrodVars enc P W' sp s.vars (s.fn H (ds++gs)).vars pv)
  (wide:∀ (j:Nat) (t:TypeId) (r:Value),f.resultTypes[j]? = some t→(v.resultList f.resultTypes.size)[j]? = some r→Value.okWide P W' .any 0 t r) :
  s.post enc P f apart fresh handsOn again W args v W':=by
 have lt:∀ p∈before,p.block < W.heap.size:=fun p hp=>whole.lt p hp
 have hH:∀ p∈before,(fun b=>decide (b < W.heap.size)) p.block=true:=fun p hp=>by simpa using lt p hp
 refine ⟨ds,gs,before,[],pa,pv,whole,res _ _ _,arg _ hH,var _ hH,World.keptBut_mono (fun p hp=>⟨hp,?_⟩) (below.frame (·∈before)),fun _=>?_⟩
 ·rw [Yb,List.mem_append] at hp; exact Or.inr hp
 ·obtain ⟨_,_,_,_,_,fz,nd⟩:=whole
  refine ⟨wide,_,_,([]++pa)++pv,⟨[]++pa,pv,trodAll_append (arg _ (fun _ _=>rfl)) (res _ _ _),var _ (fun _ _=>rfl),rfl,fun b off hp=>?_,fun ha=>?_⟩,fun p hp _=>?_⟩
  ·have here:MemPlace.cell b off∈before:=by rw [Yb]; simpa using hp
   rw [below.frozen (lt _ here)]
   exact fz b off here
  ·have:=nd ha
   rw [Yb] at this
   simpa using this
  ·rw [Yb]; simpa using hp
end Go.aE
end
section
namespace Go.K
open Go Go.aE Go.RowKit Go.WideShapes Go.ChangeShapes
section
variable {H:Type} {enc:TypeId×Value→H} {P:Program} {W W' : World}
theorem Tr {base:Nat} {sp:Nat→Bool} {held:Bool} : ∀ {ts:List TypeId} {vs:List Value} {ds:List (DataW H)} {ps:List MemPlace},DataW.TrodAll enc P W base sp held ts vs ds ps→ds.length=ts.length
 | [],_,_,_,h=>by
  obtain ⟨rfl,rfl,rfl⟩:=trodAll_nil h
  rfl
 | t::ts,vs,ds,ps,h=>by
  obtain ⟨v,vs1,d,ds1,a,b,rfl,rfl,rfl,_,h2⟩:=trodAll_cons h
  simp [Tr h2]
theorem C3 {α:Type} {n:Nat} {l:List α} (h:l.length=n+1):∃ x xs,l=x::xs:=by
 cases l with
 | nil=>simp at h
 | cons x xs=>exact ⟨x,xs,rfl⟩
theorem Mp (hl:laidOutB P=true) (hb:Below W.heap.size W W') {sp:Nat→Bool} : ∀ {ts:List TypeId} {vs:List Value} {ds:List (DataW H)} {ps:List MemPlace},ts.all (fun t=>P.readableRec t&&Nat.blt t P.types.size)=true→
  DataW.TrodAll enc P W 0 (fun _=>true) true ts vs ds ps→(∀ x∈ps,x.block < W.heap.size)→(∀ x∈ps,sp x.block=true)→DataW.TrodAll enc P W' 0 sp true ts vs ds ps
 | [],_,_,_,_,h,_,_=>by
  obtain ⟨rfl,rfl,rfl⟩:=trodAll_nil h
  exact trodAll_mk0
 | t::ts,vs,ds,ps,ht,h,bV,vg=>by
  obtain ⟨v,vs1,d,ds1,a,b,rfl,rfl,rfl,h1,h2⟩:=trodAll_cons h
  simp only [List.all_cons,Bool.and_eq_true] at ht
  obtain ⟨⟨hr,jI⟩,ht⟩:=ht
  rw [Nat.blt_eq] at jI
  refine ⟨a,b,WideElems.Trod_stays hl hr jI h1 (fun x hx=>hb.same (bV x (by simp [hx]))) (fun x hx=>vg x (by simp [hx])),?_,rfl⟩
  exact Mp hl hb ht h2 (fun x hx=>bV x (by simp [hx])) (fun x hx=>vg x (by simp [hx]))
theorem ajo {s:ChangeSpec} {f:Func} {apart fresh handsOn again:Bool} {args:Array Value} {ds gs:List (DataW H)} {before:List MemPlace} (hl:laidOutB P=true) (hts:f.params.toList.all (fun t=>P.readableRec t&&Nat.blt t P.types.size)=true)
  (ald:s.vars = []) (amS:(s.fn H ds).args=ds) (afw:(s.fn H ds).results = [.lit (.bool true)]) (hv:(s.fn H ds).vars = []) {t:TypeId} (hrt:f.resultTypes = #[t]) (hb:P.underlying t=some .bool)
  (hW:DataW.Whole enc P f.params.toList s.vars apart W args.toList ds gs before) (hg:Below W.heap.size W W'):s.post enc P f apart fresh handsOn again W args (.bool true) W':=by
 have hW':=hW
 obtain ⟨p,q,hA,hV,aml,_,_⟩:=hW
 rw [ald] at hV
 obtain ⟨rfl,rfl⟩:=trodVars_none hV
 rw [List.append_nil] at aml
 subst aml
 have bV:∀ x∈before,x.block < W.heap.size:=fun x hx=>hW'.lt x (by simpa using hx)
 refine aE.agq (pa:=before) (pv:=[]) hW' hg (by simp) (fun b sp hd=>?_) (fun sp vg=>?_) (fun sp vg=>?_) (ok_one hrt rfl (okWide_bool_mk hb _))
 ·rw [List.append_nil,afw,hrt]
  exact trodAll_cons_mk (shut_bool hb _) trodAll_mk0
 ·rw [List.append_nil,amS]
  exact Mp hl hg hts hA bV (fun x hx=>vg x (by simpa using hx))
 ·rw [List.append_nil,hv,ald]
  rfl
end
end Go.K
end
