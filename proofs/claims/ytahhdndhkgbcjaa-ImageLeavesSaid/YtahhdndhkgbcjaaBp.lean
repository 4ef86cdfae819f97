/- Part of the proof of ImageLeaves: a machine that runs the program's code over open terms, shown to be the model's, and the plain models of its functions. No conditions. -/
import Derived.Test.YtahhdndhkgbcjaaAp
import Derived.Laws.Slices
import Derived.Laws.MakeOwn
import Derived.Laws.AppendOwn
import Derived.MapKept
import Derived.Laws.IdiomStrings
import Derived.OrdersIn
import Derived.LoopNIn
import Derived.RangeFuncRecord
import Derived.Scope
section
namespace Go.aE
open Go
section
variable {P:Program} {o:Oper}
theorem jD {ρ:aW} {y y' : Nat} {v v' : Value} {r:Nat} (hv:VR ρ v v') (h:WG y v=some r) (hy:y≤y') :
  r≤y∧∀ code w,(Instr.sliceBound v' y' code).run P w = .ok r w:=by
 unfold WG at h
 split at h
 ·rename_i k i
  obtain ⟨rfl,bV⟩:=yL h
  have:=hv.dt
  subst this
  have hle:r≤y:=by omega
  refine ⟨hle,fun code w=>?_⟩
  have:=run_sliceBound (P:=P) w k (r:Int) y' code (by omega) (by omega)
  simpa using this
 ·simp at h
theorem Eh {ρ:aW} {ev cX:Operand→Value} {lo hi mx:Option Operand} {len cap Yx l h m:Nat} (he:vY ρ ev cX (fV lo++fV hi++fV mx))
  (hb:sh len cap lo.isSome hi.isSome mx.isSome ((fV lo++fV hi++fV mx).map ev)=some (l,h,m)) (hc:cap≤Yx) (D6:len≤cap) :
  l≤h∧h≤m∧m≤cap∧m≤(cond mx.isSome m Yx)∧(cond mx.isSome m Yx)≤Yx∧(mx.isSome=false→m=cap)∧∀ b w,(Instr.sliceBounds b len Yx (lo.map cX) (hi.map cX) (mx.map cX)).run P w = .ok (l,h,cond mx.isSome m Yx) w:=by
 cases lo with
 | none=>
  cases hi with
  | none=>
   cases mx with
   | none=>
    simp [fV,sh] at hb
    obtain ⟨rfl,rfl,rfl⟩:=hb
    exact ⟨by omega,D6,Nat.le_refl _,hc,Nat.le_refl _,fun _=>rfl,fun b w=>by simp [Instr.sliceBounds]⟩
   | some x=>simp [fV,sh] at hb
  | some y=>
   cases mx with
   | none=>
    simp only [fV,Option.isSome,List.nil_append,List.append_nil,List.map,sh,Option.map_eq_some_iff] at hb
    obtain ⟨r,hr,hb⟩:=hb
    simp at hb
    obtain ⟨rfl,rfl,rfl⟩:=hb
    obtain ⟨h1,h2⟩:=jD (P:=P) (he y (by simp [fV])) hr hc
    exact ⟨by omega,h1,Nat.le_refl _,hc,Nat.le_refl _,fun _=>rfl,fun b w=>by simp [Instr.sliceBounds,h2]⟩
   | some z=>
    simp only [fV,Option.isSome,List.nil_append,List.map,List.cons_append,sh,Option.bind_eq_some_iff,Option.map_eq_some_iff] at hb
    obtain ⟨r,hr,q,hq,hb⟩:=hb
    simp at hb
    obtain ⟨rfl,rfl,rfl⟩:=hb
    obtain ⟨h1,h2⟩:=jD (P:=P) (he z (by simp [fV])) hr hc
    obtain ⟨h3,h4⟩:=jD (P:=P) (he y (by simp [fV])) hq (Nat.le_refl _)
    exact ⟨by omega,h3,h1,Nat.le_refl _,by simp; omega,fun h=>by simp at h,fun b w=>by simp [Instr.sliceBounds,h2,h4]⟩
 | some x=>
  cases hi with
  | none=>
   cases mx with
   | none=>
    simp only [fV,Option.isSome,List.append_nil,List.map,sh,Option.map_eq_some_iff] at hb
    obtain ⟨r,hr,hb⟩:=hb
    simp at hb
    obtain ⟨rfl,rfl,rfl⟩:=hb
    obtain ⟨h1,h2⟩:=jD (P:=P) (he x (by simp [fV])) hr (Nat.le_refl _)
    exact ⟨h1,D6,Nat.le_refl _,hc,Nat.le_refl _,fun _=>rfl,fun b w=>by simp [Instr.sliceBounds,h2]⟩
   | some x=>simp [fV,sh] at hb
  | some y=>
   cases mx with
   | none=>
    simp only [fV,Option.isSome,List.append_nil,List.map,List.cons_append,List.nil_append,sh,Option.bind_eq_some_iff,Option.map_eq_some_iff] at hb
    obtain ⟨r,hr,q,hq,hb⟩:=hb
    simp at hb
    obtain ⟨rfl,rfl,rfl⟩:=hb
    obtain ⟨h1,h2⟩:=jD (P:=P) (he y (by simp [fV])) hr hc
    obtain ⟨h3,h4⟩:=jD (P:=P) (he x (by simp [fV])) hq (Nat.le_refl _)
    exact ⟨h3,h1,Nat.le_refl _,hc,Nat.le_refl _,fun _=>rfl,fun b w=>by simp [Instr.sliceBounds,h2,h4]⟩
   | some z=>
    simp only [fV,Option.isSome,List.map,List.cons_append,List.nil_append,sh,Option.bind_eq_some_iff,Option.map_eq_some_iff] at hb
    obtain ⟨r,hr,q,hq,s,hs,hb⟩:=hb
    simp at hb
    obtain ⟨rfl,rfl,rfl⟩:=hb
    obtain ⟨h1,h2⟩:=jD (P:=P) (he z (by simp [fV])) hr hc
    obtain ⟨h3,h4⟩:=jD (P:=P) (he y (by simp [fV])) hq (Nat.le_refl _)
    obtain ⟨h5,h6⟩:=jD (P:=P) (he x (by simp [fV])) hs (Nat.le_refl _)
    exact ⟨h5,h3,h1,Nat.le_refl _,by simp; omega,fun h=>by simp at h,fun b w=>by simp [Instr.sliceBounds,h2,h4,h6]⟩
theorem Yy {A:St} {b n:Nat} (h:AI A b n=true):∃ cs own bP,A.get b=some (.row cs n own bP):=by
 unfold AI at h
 split at h
 ·rename_i cs bU own bP hg
  have:=Nat.eq_of_beq_eq_true h
  subst this
  exact ⟨cs,own,bP,hg⟩
 ·simp at h
theorem ok_slice {t:TypeId} {x:Operand} {lo hi mx:Option Operand} (ho:o.op = .slice t x lo hi mx):ia P o (F4 P t x lo hi mx):=by
 unfold F4
 split
 ·rename_i e hu
  split
  ·rename_i n hn
   cases Gd:Nat.ble 1 n with
   | false=>exact True.intro
   | true=>
    rw [cond_true]
    have Gd:1≤n:=Nat.le_of_ble_eq_true Gd
    intro ρ A base w ev cX v hs he hf
    have hx:=he x (by simp)
    have hsl:P.underlying t=some (.slice (P.elem t))→True:=fun _=>trivial
    simp only [List.map,ya] at hf
    split at hf
    ·rename_i len cap vs e1
     simp only [List.cons.injEq] at e1
     obtain ⟨e1,e2⟩:=e1
     rw [e1] at hx
     have hx:=hx.jr
     subst e2
     obtain ⟨⟨l,h,m⟩,hb,rfl⟩:=Option.map_eq_some_iff.1 hf
     by_cases D6:len≤cap
     ·obtain ⟨h1,h2,h3,h4,h5,h6,h7⟩:=Eh (P:=P) he.tail hb (Nat.le_refl _) D6
      have hm:cond mx.isSome m cap=m:=by cases hmx:mx.isSome <;> simp; exact (h6 hmx).symm
      refine ⟨.slice none (h - l) (m - l),by simp [VR],?_⟩
      simp [execOp,ho,Instr.sliceAt,Instr.slice,bu hu,hx,h7,hm,n4 hn]
     ·
      have key:∀ b w,(Instr.sliceBounds b len cap (lo.map cX) (hi.map cX) (mx.map cX)).run P w = .ok (l,h,m) w:=by
       intro b w
       have ajy:cap≤len:=by omega
       cases lo with
       | none=>
        cases hi with
        | none=>
         cases mx with
         | none=>simp [fV,sh] at hb; obtain ⟨rfl,rfl,rfl⟩:=hb; simp [Instr.sliceBounds]
         | some x=>simp [fV,sh] at hb
        | some y=>
         cases mx with
         | none=>
          simp only [fV,Option.isSome,List.nil_append,List.append_nil,List.map,sh,Option.map_eq_some_iff] at hb
          obtain ⟨r,hr,hb⟩:=hb
          simp at hb
          obtain ⟨rfl,rfl,rfl⟩:=hb
          have:=(jD (P:=P) (he y (by simp [fV])) hr (Nat.le_refl _)).2
          simp [Instr.sliceBounds,this]
         | some z=>
          simp only [fV,Option.isSome,List.nil_append,List.map,List.cons_append,sh,Option.bind_eq_some_iff,Option.map_eq_some_iff] at hb
          obtain ⟨r,hr,q,hq,hb⟩:=hb
          simp at hb
          obtain ⟨rfl,rfl,rfl⟩:=hb
          have h2:=(jD (P:=P) (he z (by simp [fV])) hr (Nat.le_refl _)).2
          have h4:=(jD (P:=P) (he y (by simp [fV])) hq (Nat.le_refl _)).2
          simp [Instr.sliceBounds,h2,h4]
       | some x'=>
        cases hi with
        | none=>
         cases mx with
         | none=>
          simp only [fV,Option.isSome,List.append_nil,List.map,sh,Option.map_eq_some_iff] at hb
          obtain ⟨r,hr,hb⟩:=hb
          simp at hb
          obtain ⟨rfl,rfl,rfl⟩:=hb
          have:=(jD (P:=P) (he x' (by simp [fV])) hr (Nat.le_refl _)).2
          simp [Instr.sliceBounds,this]
         | some x=>simp [fV,sh] at hb
        | some y=>
         cases mx with
         | none=>
          simp only [fV,Option.isSome,List.append_nil,List.map,List.cons_append,List.nil_append,sh,Option.bind_eq_some_iff,Option.map_eq_some_iff] at hb
          obtain ⟨r,hr,q,hq,hb⟩:=hb
          simp at hb
          obtain ⟨rfl,rfl,rfl⟩:=hb
          have h2:=(jD (P:=P) (he y (by simp [fV])) hr (Nat.le_refl _)).2
          have h4:=(jD (P:=P) (he x' (by simp [fV])) hq (Nat.le_refl _)).2
          simp [Instr.sliceBounds,h2,h4]
         | some z=>
          simp only [fV,Option.isSome,List.map,List.cons_append,List.nil_append,sh,Option.bind_eq_some_iff,Option.map_eq_some_iff] at hb
          obtain ⟨r,hr,q,hq,s,hs',hb⟩:=hb
          simp at hb
          obtain ⟨rfl,rfl,rfl⟩:=hb
          have h2:=(jD (P:=P) (he z (by simp [fV])) hr (Nat.le_refl _)).2
          have h4:=(jD (P:=P) (he y (by simp [fV])) hq (Nat.le_refl _)).2
          have h6:=(jD (P:=P) (he x' (by simp [fV])) hs' (Nat.le_refl _)).2
          simp [Instr.sliceBounds,h2,h4,h6]
      refine ⟨.slice none (h - l) (m - l),by simp [VR],?_⟩
      simp [execOp,ho,Instr.sliceAt,Instr.slice,bu hu,hx,key,n4 hn]
    ·rename_i a len cap vs e1
     simp only [List.cons.injEq] at e1
     obtain ⟨e1,e2⟩:=e1
     rw [e1] at hx
     subst e2
     obtain ⟨vg,D6,lc,a',c',hl,tf,HY,oM,h'⟩:=hx.oa
     cases hg:(dk a&&AI A a.block n) with
     | false=>rw [hg] at hf; simp at hf
     | true=>
      rw [hg,cond_true] at hf
      obtain ⟨_,QG⟩:=Bool.and_eq_true_iff.1 hg
      obtain ⟨cs,own,bP,jI⟩:=Yy QG
      obtain ⟨l2,mq,ok⟩:=hs.row _ _ _ _ _ jI
      rw [hl] at mq; simp at mq; subst mq
      have hez:lc.bU=n:=ok.bU
      obtain ⟨⟨l,h,m⟩,hb,rfl⟩:=Option.map_eq_some_iff.1 hf
      obtain ⟨h1,h2,h3,h4,h5,h6,h7⟩:=Eh (P:=P) he.tail hb tf D6
      generalize hm' : cond mx.isSome m c' = m' at h4 h5 h7
      refine ⟨.slice (some (if m' = l then a' else a'.add (l * n))) (h - l) (m' - l),?_,?_⟩
      ·simp only [VR]
       refine ⟨trivial,by omega,lc,_,m' - l,hl,by omega,fun dJ=>?_,?_,rfl⟩
       ·rw [if_neg (by omega),HY (by omega),lh]
        simp only [Nat.add_assoc]
       ·rw [hez]
        rw [hez] at oM
        have e5:l * n+(m' - l) * n=m' * n:=by rw [← Nat.add_mul]; congr 1; omega
        have e6:m' * n≤c' * n:=Nat.mul_le_mul_right _ h5
        omega
      ·simp only [execOp,ho,Instr.sliceAt,Instr.slice,Sem.run_bind,bu hu,Result.andThen_ok,h',h7,n4 hn]
       by_cases hml:m' = l <;> simp [hml]
    ·simp at hf
  ·trivial
 ·rename_i len e hu
  split
  ·rename_i n hn
   cases Gd:Nat.ble 1 n with
   | false=>exact True.intro
   | true=>
    rw [cond_true]
    intro ρ A base w ev cX v hs he hf
    have hx:=he x (by simp)
    simp only [List.map,HN] at hf
    split at hf
    ·rename_i a vs e1
     simp only [List.cons.injEq] at e1
     obtain ⟨e1,e2⟩:=e1
     rw [e1] at hx
     subst e2
     obtain ⟨vg,lc,hl,h'⟩:=hx.iW
     cases hg:(dk a&&AI A a.block n&&Nat.ble (a.off+len * n) (Qt A a.block)) with
     | false=>rw [hg] at hf; simp at hf
     | true=>
      rw [hg,cond_true] at hf
      simp only [Bool.and_eq_true] at hg
      obtain ⟨⟨_,QG⟩,hlen⟩:=hg
      obtain ⟨cs,own,bP,jI⟩:=Yy QG
      obtain ⟨l2,mq,ok⟩:=hs.row _ _ _ _ _ jI
      rw [hl] at mq; simp at mq; subst mq
      have hez:lc.bU=n:=ok.bU
      have hlen:=Nat.le_of_ble_eq_true hlen
      have M6:Qt A a.block=cs.length:=by unfold Qt; rw [jI]
      rw [M6] at hlen
      have hft:=ok.fits
      obtain ⟨⟨l,h,m⟩,hb,rfl⟩:=Option.map_eq_some_iff.1 hf
      obtain ⟨h1,h2,h3,h4,h5,h6,h7⟩:=Eh (P:=P) he.tail hb (Nat.le_refl _) (Nat.le_refl _)
      have hm:cond mx.isSome m len=m:=by cases hmx:mx.isSome <;> simp; exact (h6 hmx).symm
      rw [hm] at h7
      refine ⟨.slice (some (if m=l then ⟨lc.cb,lc.ej+a.off,none⟩ else (⟨lc.cb,lc.ej+a.off,none⟩:Addr).add (l * n))) (h - l) (m - l),?_,?_⟩
      ·simp only [VR]
       refine ⟨trivial,by omega,lc,_,m - l,hl,Nat.le_refl _,fun dJ=>?_,?_,rfl⟩
       ·rw [if_neg (by omega),lh]
        simp only [Nat.add_assoc]
       ·rw [hez]
        have e5:l * n+(m - l) * n=m * n:=by rw [← Nat.add_mul]; congr 1; omega
        have e6:m * n≤len * n:=Nat.mul_le_mul_right _ h3
        omega
      ·simp only [execOp,ho,Instr.sliceAt,Sem.run_bind,bu hu,Result.andThen_ok,h',Instr.sureAddr,Sem.run_pure,h7,n4 hn]
    ·simp at hf
  ·trivial
 ·rename_i hu
  cases hmx:mx with
  | some z=>exact True.intro
  | none=>
   show ia P o (.pure (C7 lo.isSome hi.isSome) (x::(fV lo++fV hi)))
   intro ρ ev cX v he hf
   have hx:=he x (by simp)
   simp only [List.map,C7] at hf
   split at hf
   ·rename_i s vs e1
    simp only [List.cons.injEq] at e1
    obtain ⟨e1,e2⟩:=e1
    rw [e1] at hx
    have hx:=hx.oO
    subst e2
    obtain ⟨⟨l,h,m⟩,hb,rfl⟩:=Option.map_eq_some_iff.1 hf
    have Dd:vY ρ ev cX (fV lo++fV hi++fV (none:Option Operand)):=by simpa [fV] using he.tail
    obtain ⟨h1,h2,h3,h4,h5,h6,h7⟩:=Eh (P:=P) (mx:=none) Dd (by simpa [fV] using hb) (Nat.le_refl _) (Nat.le_refl _)
    simp only [Option.isSome_none,cond_false,Option.map_none] at h7
    refine ⟨.string (s.extract l h),?_,fun w=>?_⟩
    ·have e:(⟨⟨(s.data.toList.drop l).take (h - l)⟩⟩:ByteArray)=s.extract l h:=by
      apply ByteArray.ext
      apply Array.ext'
      simp [ByteArray.data_extract,List.extract_eq_take_drop]
     rw [e]
     simp [VR]
    ·simp [execOp,ho,Instr.sliceAt,Instr.slice,bu hu,hx,hmx,h7]
   ·simp at hf
 ·trivial
theorem abu {t:TypeId} {l c:Operand} (ho:o.op = .makeSlice t l c):ia P o (wI P t l c):=by
 unfold wI
 split
 ·rename_i e hu
  split
  ·rename_i i hi
   split
   ·rename_i z hz
    cases hc:(Nat.ble 1 i.size&&Nat.ble 1 i.bytes&&Nat.beq z.cells.size i.size&&flat z&&z.cells.toList.all scalar) with
    | false=>exact True.intro
    | true=>
     rw [cond_true]
     simp only [Bool.and_eq_true] at hc
     obtain ⟨⟨⟨⟨h1,h2⟩,h3⟩,h4⟩,h5⟩:=hc
     have hn:1≤i.size:=Nat.le_of_ble_eq_true h1
     have hb:1≤i.bytes:=Nat.le_of_ble_eq_true h2
     have hzs:z.cells.size=i.size:=Nat.eq_of_beq_eq_true h3
     rw [List.all_eq_true] at h5
     intro ρ ev cX obj mk he hf
     simp only [List.map,Bi] at hf
     split at hf
     ·rename_i k1 l0 k2 c0 e1
      simp only [List.cons.injEq,and_true] at e1
      cases hk:(Nat.ble l0 c0&&Nat.ble (i.bytes * c0) 281474976710656) with
      | false=>rw [hk] at hf; simp at hf
      | true=>
       rw [hk,cond_true] at hf
       obtain ⟨Ge,hk2⟩:=Bool.and_eq_true_iff.1 hk
       have hle:l0≤c0:=Nat.le_of_ble_eq_true Ge
       have Yz:i.bytes * c0≤281474976710656:=Nat.le_of_ble_eq_true hk2
       simp only [Option.some.injEq,Prod.mk.injEq] at hf
       obtain ⟨rfl,rfl⟩:=hf
       have hl:=he l (by simp)
       have tf:=he c (by simp)
       rw [e1.1] at hl
       rw [e1.2] at tf
       have hl:=hl.dt
       have tf:=tf.dt
       have e2:madeCells z.cells (c0 * i.size)=⟨gq z.cells.toList c0⟩:=by
        unfold madeCells
        rw [← hzs]
        exact O0 z.cells c0 (by omega)
       have hc0:c0≤i.bytes * c0:=Nat.le_mul_of_pos_left _ hb
       have amW:∀ (z:List Value) (k:Nat),(gq z k).length=k * z.length:=by
        intro z k
        induction k with
        | zero=>simp [gq]
        | succ k ih=>simp [gq,ih,Nat.succ_mul,Nat.add_comm]
       have amX:∀ (z:List Value) (k:Nat) (v:Value),v∈gq z k→v∈z:=by
        intro z k v
        induction k with
        | zero=>simp [gq]
        | succ k ih=>simp only [gq,List.mem_append]; exact fun h=>h.elim id ih
       refine ⟨.cells ⟨gq z.cells.toList c0⟩ e,fun b=>.slice (some ⟨b,0,none⟩) l0 c0,⟨_,e,rfl,dT.repeat (Eg h4) c0,fun v hv=>h5 v (amX _ _ _ hv)⟩,fun w=>?_,fun aX n cb lC=>?_⟩
       ·have hr:=run_make (P:=P) w t e i z hu hi hz k1 k2 (l0:Int) (c0:Int) (by omega) (by omega) (by rw [← Int.natCast_mul]; exact Int.ofNat_le.2 Yz) (by omega)
        have sv:cX l = .int k1 (l0:Int):=hl
        have hc' : cX c = .int k2 (c0:Int):=tf
        simp only [Int.toNat_natCast,e2] at hr
        simp [execOp,ho,sv,hc',hr]
       ·simp only [VR]
        refine ⟨trivial,hle,_,⟨cb,0,none⟩,c0,lC,Nat.le_refl _,fun _=>rfl,?_,rfl⟩
        show 0+0+c0 * i.size≤(gq z.cells.toList c0).length
        rw [amW]
        simp [hzs]
     ·simp at hf
   ·trivial
  ·trivial
 ·trivial
theorem aix {t:TypeId} {x:Operand} (ho:o.op = .makeInterface t x):ia P o (Tt P t x):=by
 unfold Tt
 split
 ·trivial
 ·rename_i d hu hd
  intro ρ ev cX v he hf
  simp [ahy] at hf
  subst hf
  refine ⟨.iface t (cX x),by simp only [VR]; exact ⟨_,he x (by simp),rfl⟩,fun w=>?_⟩
  simp only [execOp,ho,Instr.makeInterface,Sem.run_bind,bu hd,Result.andThen_ok]
  cases d <;> first | rfl | exact absurd rfl (hu _)
 ·trivial
theorem QH {ρ:aW} {s:List Value→Sem Value} {vs cS:List Value} {v:Value} (hv:dT ρ vs cS) (h:HM P s vs=some v):VR ρ v v∧∀ w,(s cS).run P w = .ok v w:=by
 unfold HM at h
 cases hf:uy vs with
 | false=>rw [hf] at h; simp at h
 | true=>
  rw [hf,cond_true] at h
  obtain ⟨u,hu,h⟩:=Option.bind_eq_some_iff.1 h
  cases hfu:flat u with
  | false=>rw [hfu] at h; simp at h
  | true=>
   rw [hfu] at h
   simp at h
   subst h
   rw [dT.oo hf hv]
   exact ⟨VR.of_flat hfu,fun w=>ie hu w⟩
theorem alm {argTypes:Array TypeId} {args:Array Operand} (ho:o.op = .call ⟨.builtin .min,args,argTypes⟩):ia P o (.pure (HM P fun vs=>Builtin.min_ #[] 0 ⟨vs⟩) args.toList):=by
 intro ρ ev cX v he hf
 obtain ⟨h1,h2⟩:=QH he.map hf
 refine ⟨v,h1,fun w=>?_⟩
 have h3:=h2 w
 simp only [Builtin.min_] at h3
 simp only [execOp,ho,resolve,Sem.run_bind,Sem.run_pure,Result.andThen_ok,invoke,builtin,Builtin.min_,nP]
 simp only [h3,Result.andThen_ok]
theorem aln {argTypes:Array TypeId} {args:Array Operand} (ho:o.op = .call ⟨.builtin .max,args,argTypes⟩):ia P o (.pure (HM P fun vs=>Builtin.max_ #[] 0 ⟨vs⟩) args.toList):=by
 intro ρ ev cX v he hf
 obtain ⟨h1,h2⟩:=QH he.map hf
 refine ⟨v,h1,fun w=>?_⟩
 have h3:=h2 w
 simp only [Builtin.max_] at h3
 simp only [execOp,ho,resolve,Sem.run_bind,Sem.run_pure,Result.andThen_ok,invoke,builtin,Builtin.max_,nP]
 simp only [h3,Result.andThen_ok]
theorem VG {ρ:aW} {x x' : Value} {k:Nat} (hx:VR ρ x x') (h:VB x=some k):Builtin.lenOf x' = Sem.pure k:=by
 unfold VB at h
 split at h
 ·obtain ⟨a',c',rfl⟩:=Yw hx
  simp at h; subst h; rfl
 ·have:=hx.oO
  subst this
  simp at h; subst h; rfl
 ·simp at h
theorem AP {ρ:aW} {A:St} {base:Nat} {w:World} {n k:Nat} {x x' : Value} {new:List Value} (hs:Rel ρ A.get A.members base w) (hx:VR ρ x x') (h:vd A n k x=some new)
  (hk:∀ m,VB x=some m→k≤m) (hn:1≤n):∃ cL,dT ρ new cL∧(∀ v∈new,scalar v=true)∧new.length=k * n∧(Builtin.firstCells n k x').run P w = .ok cL.toArray w:=by
 unfold vd at h
 split at h
 ·rename_i a len cap
  obtain ⟨vg,D6,lc,a',c',hl,tf,HY,oM,rfl⟩:=hx.oa
  have hkl:=hk len rfl
  obtain ⟨b8,h1,h2,h3,h4⟩:=vf (P:=P) hs h hl
  refine ⟨b8,h1,h3,h2,?_⟩
  simp only [Builtin.firstCells]
  by_cases hc:c' = 0
  ·have D5:k=0:=by omega
   subst D5
   have ng:new = []:=by rw [Nat.zero_mul] at h2; exact List.eq_nil_of_length_eq_zero h2
   subst ng
   rw [h1.cl,Nat.zero_mul]
   exact run_loadCells_list w a' [] (by simp)
  ·rw [HY hc]; exact h4
 ·rename_i len cap
  have:=hx.jr
  subst this
  cases hb:Nat.beq k 0 with
  | false=>rw [hb] at h; simp at h
  | true=>
   rw [hb] at h
   simp at h
   subst h
   have D5:=Nat.eq_of_beq_eq_true hb
   subst D5
   exact ⟨[],.nil,by simp,by simp,run_firstCells_none w n 0 len cap⟩
 ·rename_i s
  have:=hx.oO
  subst this
  cases hb:Nat.beq n 1 with
  | false=>rw [hb] at h; simp at h
  | true=>
   rw [hb] at h
   simp at h
   have WJ:=Nat.eq_of_beq_eq_true hb
   subst WJ
   have rH:=hk s.size rfl
   have fv:s.data.size=s.size:=rfl
   have fl:∀ l:List UInt8,dT ρ (l.map fun b=>Value.int .u8 b.toNat) (l.map fun b=>Value.int .u8 b.toNat):=by
    intro l
    induction l with
    | nil=>exact .nil
    | cons x l ih=>exact .cons (by simp [VR]) ih
   subst h
   refine ⟨((s.data.toList.take k).map fun b=>.int .u8 b.toNat),by simpa using fl (s.data.toList.take k),?_,?_,?_⟩
   ·intro v hv
    obtain ⟨b,_,rfl⟩:=List.mem_map.1 (by first | exact hv | exact List.mem_of_mem_take hv)
    rfl
   ·simp; omega
   ·simp only [Builtin.firstCells]
    rw [Sem.run_pure]
    congr 1
    apply Array.ext'
    simp [ByteArray.data_extract,List.extract_eq_take_drop]
 ·simp at h
theorem Ad (t u ty e:TypeId) (i:TypeInfo) (ht:P.underlying t=some (.slice e)) (hi:P.info? e=some i) (hu:HO P u=true) (base:Option Addr) (eo pe:Nat) (x:Value) (n:Nat) (news:List Value)
  (hlen:Builtin.lenOf x=Sem.pure n) (w:World) (vh:(Builtin.firstCells i.size n x).run P w = .ok news.toArray w) (BM:eo+n≤pe) :
  (Builtin.append_ #[t,u] ty #[.slice base eo pe,x]).run P w=(((match base with | some a=>storeCells (a.add (eo * i.size)) news | none=>pure ():Sem Unit).run P w).andThen fun _ w=>.ok (.slice base (eo+n) pe) w):=by
 have hk:(∃ e',P.underlying u=some (.slice e'))∨P.underlying u=some .string:=by
  unfold HO at hu
  split at hu
  ·rename_i e' h; exact .inl ⟨_,h⟩
  ·rename_i h; exact .inr h
  ·simp at hu
 rcases hk with ⟨e',hk⟩ | hk <;> cases base <;> simp [Builtin.append_,bu ht,bu hk,sizeOf,typeInfo,hi,hlen,BM,vh]
theorem TA (t u ty e:TypeId) (i:TypeInfo) (z:Value) (ht:P.underlying t=some (.slice e)) (hi:P.info? e=some i) (hz:i.zero=some z) (hu:HO P u=true) (base:Option Addr) (eo pe:Nat)
  (x:Value) (n:Nat) (VH news:List Value) (hlen:Builtin.lenOf x=Sem.pure n) (w:World) (hold:(Builtin.firstCells i.size eo (.slice base eo pe)).run P w.drew = .ok VH.toArray w.drew)
  (vh:(Builtin.firstCells i.size n x).run P w.drew = .ok news.toArray w.drew) (hg:pe < eo+n) (h63:eo+n≤17592186044416) (oM:Builtin.nextslicecap (eo+n) pe * i.bytes≤281474976710656) :
  (Builtin.append_ #[t,u] ty #[.slice base eo pe,x]).run P w =
   .ok (.slice (some ⟨w.heap.size,0,none⟩) (eo+n) (grownCap w (eo+n) pe e))
    (w.drew.alloc (.cells ((VH++news).toArray++Builtin.zeroCells z.cells (grownCap w (eo+n) pe e - (eo+n))) e)):=by
 have hk:(∃ e',P.underlying u=some (.slice e'))∨P.underlying u=some .string:=by
  unfold HO at hu
  split at hu
  ·rename_i e' h; exact .inl ⟨_,h⟩
  ·rename_i h; exact .inr h
  ·simp at hu
 have hn : ¬ (eo+n≤pe):=by omega
 have amY : ¬ (9223372036854775807 < ((eo:Int)+(n:Int))):=by omega
 have amZ : ¬ (281474976710656 < Builtin.nextslicecap (eo+n) pe * i.bytes):=by omega
 rcases hk with ⟨e',hk⟩ | hk <;>
  (simp [Builtin.append_,bu ht,bu hk,sizeOf,typeInfo,zeroValue,hi,hz,hlen,hn,amY,amZ,Question.forced,vh,hold,newRow,grownCap]
   congr 2
   apply Array.ext'
   simp [List.append_assoc])
theorem YA {ρ:aW} {A:St} {base:Nat} {w:World} (hs:uB ρ A base w) (b lo hi:Nat) (L:List Nat):ml base ρ A w ρ (A.kill b lo hi L) w:=by
 obtain ⟨hl1,mq⟩:=Gb b lo hi L A
 have QD:∀ x o,(A.kill b lo hi L).get x=some o→o≠.dead→A.get x=some o:=by
  intro x o hx hd
  rw [Aa] at hx
  split at hx
  ·simp at hx; exact absurd hx.symm hd
  ·exact hx
 have hm:∀ o:dg,o.fw=true→o≠.dead:=by intro o h e; subst e; simp [dg.fw] at h
 refine ⟨⟨.HV (fun x o hx hd=>hs.rel.obj (QD x o hx hd) hd) (fun b1 b2 o1 o2 l1 l2 dJ g1 g2 m1 m2=>hs.rel.apart b1 b2 o1 o2 l1 l2 dJ (QD _ _ g1 (hm _ m1)) (QD _ _ g2 (hm _ m2)) m1 m2) (fun x o bc f hx hk=>?_),fun x l h=>?_,hs.size,hs.Jj⟩,
  fun _ _=>rfl,.refl _ _ _,by simp,hl1,fun x _ hx=>?_,fun k _ h=>?_⟩
 ·rw [Fb]; exact hs.rel.bD x o bc f (QD x o hx (by intro e; subst e; simp [dg.mz] at hk)) hk
 ·rw [HT]; exact hs.lQ x l h
 ·cases Classical.em ((A.kill b lo hi L).get x=A.get x) with
  | inl h=>exact h
  | inr h=>have:=mq x h; omega
 ·obtain ⟨x,o,l,hx,hm',hr,e⟩:=h
  exact ⟨x,o,l,QD x o hx (hm _ hm'),hm',hr,e⟩
theorem Gf (A:St) (bc f:Nat) (cs:List Value) (n x:Nat):(A.grow bc f cs n).get x=if x=A.next then some (.row cs n true (some (bc,f))) else A.get x:=by
 simp [St.grow]
theorem wO (A:St) (bc f:Nat) (cs:List Value) (n g:Nat):(A.grow bc f cs n).members g=if g=bc then A.next::A.members bc else A.members g:=by
 simp only [St.grow,St.AL,St.lB]
theorem YB {ρ:aW} {A:St} {base:Nat} {w:World} {cs b8:List Value} {c:Array Value} {n bc f:Nat} (T:TypeId) (hs:uB ρ A base w) (hc:dT ρ cs b8) (h1:∀ v∈cs,scalar v=true)
  (ajz:∀ (j:Nat) (v:Value),b8[j]? = some v→c[j]? = some v) (fv:cs.length≤c.size) :
  ml base ρ A w (ρ.set A.next ⟨w.heap.size,0,c.size,n⟩) (A.grow bc f cs n) (w.alloc (.cells c T)):=by
 refine Dc (o:=.row cs n true (some (bc,f))) hs (fun x=>Gf _ _ _ _ _ _) (fun g x h=>?_) (fun g f' h=>?_) (by simp [St.grow]) (by simp [St.grow]) (fun x hx _=>by rw [Gf,if_neg (by omega)]) rfl ?_
 ·rw [wO]; split
  ·rename_i e; subst e; simp [h]
  ·exact h
 ·simp [dg.mz] at h; rw [wO,h.1]; simp
 ·refine ⟨fun i v hi=>?_,fun h=>by simp at h,fun _=>hs.size,fun _ j hj=>?_,by simpa using fv,fun _ h=>by simp at h,rfl,by simp,fun _ _ j=>by simp only; rw [World.frozen?_alloc_new]⟩
  ·obtain ⟨v',h2,h3⟩:=hc.get hi
   refine ⟨v',?_,h3.mono (hs.HU _),h1 v (List.mem_of_getElem? hi)⟩
   rw [Nat.zero_add,World.cell?_alloc_new]
   exact ajz i v' h2
  ·simp only at hj ⊢
   rw [World.cell?_alloc_new,World.frozen?_alloc_new]
   refine ⟨?_,rfl⟩
   rw [Array.getElem?_eq_getElem (by omega)]
   rfl
theorem adj {ρ:aW} {A:St} {base:Nat} {w:World} {b iG s bU bc f:Nat} {cs hH qZ new cL:List Value} {l:Loc}
  (hs:uB ρ A base w) (hg:A.get b=some (.row cs bU true (some (bc,f)))) (lC:ρ b=some l)
  (hold:dT ρ hH qZ) (ho1:∀ v∈hH,scalar v=true) (hol:hH.length=s) (D7:∀ j v',qZ[j]? = some v'→w.cell? ⟨l.cb,l.ej+iG+j,none⟩=some v')
  (ng:dT ρ new cL) (WJ:∀ v∈new,scalar v=true) (oM:l.ej+iG+s+new.length≤l.yI) :
  ml base ρ A w (ρ.set A.next ⟨l.cb,l.ej+iG,l.yI,bU⟩) ((A.kill A.next (f+(iG+s)) (f+(iG+s)+new.length) (A.members bc)).grow bc (f+iG) (hH++new) bU) (w.setCells l.cb (l.ej+iG+s) cL):=by
 obtain ⟨l',sv,ok⟩:=hs.rel.row _ _ _ _ _ hg
 rw [lC] at sv; simp at sv; subst sv
 have J7:cL.length=new.length:=ng.length
 have hovl:qZ.length=s:=by rw [hold.length,hol]
 have QI:b < A.next:=hs.lQ b l lC
 have Mt:dg.fw (.row cs bU true (some (bc,f)))=true:=rfl
 have hB:∀ x,((A.kill A.next (f+(iG+s)) (f+(iG+s)+new.length) (A.members bc)).grow bc (f+iG) (hH++new) bU).get x =
   if x=A.next then some (.row (hH++new) bU true (some (bc,f+iG))) else (A.kill A.next (f+(iG+s)) (f+(iG+s)+new.length) (A.members bc)).get x:=by
  intro x; rw [Gf,HT]
 have hBm:∀ g,((A.kill A.next (f+(iG+s)) (f+(iG+s)+new.length) (A.members bc)).grow bc (f+iG) (hH++new) bU).members g=if g=bc then A.next::A.members bc else A.members g:=by
  intro g; rw [wO,HT,Fb]
 have hBn:((A.kill A.next (f+(iG+s)) (f+(iG+s)+new.length) (A.members bc)).grow bc (f+iG) (hH++new) bU).next=A.next+1:=by
  simp [St.grow]
 have hkl:=Gb A.next (f+(iG+s)) (f+(iG+s)+new.length) (A.members bc) A
 have hBl:((A.kill A.next (f+(iG+s)) (f+(iG+s)+new.length) (A.members bc)).grow bc (f+iG) (hH++new) bU).low=(A.kill A.next (f+(iG+s)) (f+(iG+s)+new.length) (A.members bc)).low:=rfl
 have hAK:∀ x,x≠A.next→(A.kill A.next (f+(iG+s)) (f+(iG+s)+new.length) (A.members bc)).get x=if x∈A.members bc∧qR (A.get x) (f+(iG+s)) (f+(iG+s)+new.length)=true then some .dead else A.get x:=by
  intro x hx; rw [Aa]; simp [hx]
 generalize ((A.kill A.next (f+(iG+s)) (f+(iG+s)+new.length) (A.members bc)).grow bc (f+iG) (hH++new) bU)=B at hB hBm hBn hBl
 generalize (A.kill A.next (f+(iG+s)) (f+(iG+s)+new.length) (A.members bc))=K at hB hBl hkl hAK
 have hle:=hs.HU (⟨l.cb,l.ej+iG,l.yI,bU⟩:Loc)
 have pK:∀ x o,x≠A.next→B.get x=some o→o≠.dead→A.get x=some o∧(x∈A.members bc→qR (some o) (f+(iG+s)) (f+(iG+s)+new.length)=false):=by
  intro x o hx ho hd
  rw [hB,if_neg hx,hAK x hx] at ho
  split at ho
  ·simp at ho; exact absurd ho.symm hd
  ·rename_i hc
   refine ⟨ho,fun hm=>?_⟩
   rw [← ho]
   cases iX:qR (A.get x) (f+(iG+s)) (f+(iG+s)+new.length) with
   | false=>rfl
   | true=>exact absurd ⟨hm,iX⟩ hc
 have oz:∀ x:Addr,(x.block=l.cb→x.spot=none→x.off < l.ej+iG+s∨l.ej+iG+s+cL.length≤x.off)→(w.setCells l.cb (l.ej+iG+s) cL).cell? x=w.cell? x:=
  fun x h=>World.cell?_setCells_out _ _ _ _ _ h
 have Yn:∀ x,((w.setCells l.cb (l.ej+iG+s) cL).cell? x).isSome=(w.cell? x).isSome:=fun x=>Ab _ _ _ _ _
 have yK:∀ x,(w.setCells l.cb (l.ej+iG+s) cL).frozen? x=w.frozen? x:=fun x=>World.frozen?_setCells _ _ _ _ _
 have fv:(w.setCells l.cb (l.ej+iG+s) cL).heap.size=w.heap.size:=Da _ _ _ _
 have hmd:∀ o:dg,o.fw=true→o≠.dead:=by intro o h e; subst e; simp [dg.fw] at h
 have yN:∀ x o l2,A.get x=some o→o.fw=true→ρ x=some l2→l2.cb=l.cb→∃ f2,o.mz=some (bc,f2)∧l2.ej+f=l.ej+f2:=by
  intro x o l2 hx hm hr OY
  by_cases QE:x=b
  ·subst QE
   rw [hg] at hx; simp at hx; subst hx
   rw [lC] at hr; simp at hr; subst hr
   exact ⟨f,rfl,rfl⟩
  ·obtain ⟨g,f1,f2,e1,e2,e3⟩:=hs.rel.apart x b _ _ l2 l QE hx hg hm Mt hr lC OY
   simp [dg.mz] at e2
   obtain ⟨rfl,rfl⟩:=e2
   exact ⟨f1,e1,e3⟩
 have Yo:∀ x lR e2 Ee rF l2,x≠A.next→B.get x=some (.row lR e2 Ee rF)→ρ x=some l2→HS ρ base w l2 lR e2 Ee rF→∀ i,i < lR.length→
   (w.setCells l.cb (l.ej+iG+s) cL).cell? ⟨l2.cb,l2.ej+i,none⟩=w.cell? ⟨l2.cb,l2.ej+i,none⟩:=by
  intro x lR e2 Ee rF l2 hx jG ajs jH i hi
  refine oz _ (fun hbl _=>?_)
  simp only at hbl ⊢
  obtain ⟨hA,iX⟩:=pK x _ hx jG (by simp)
  cases Ee with
  | false=>have h3:=jH.ta rfl; have h4:=ok.fw rfl; omega
  | true=>
   obtain ⟨f2,e1,e3⟩:=yN x _ l2 hA rfl ajs hbl
   simp only [dg.mz] at e1
   subst e1
   have hm:=hs.rel.bD x _ bc f2 hA rfl
   have:=QB rfl (iX hm)
   rw [J7]
   omega
 refine ⟨⟨.HV ?_ ?_ ?_,?_,?_,hs.Jj.mono (hs.HU _)⟩,?_,⟨(su _ _ _ _).1,(su _ _ _ _).2.1,(su _ _ _ _).2.2,Nat.le_of_eq fv.symm,?_⟩,?_,?_,?_,?_⟩
 ·intro x o jG hd
  by_cases hx:x=A.next
  ·subst hx
   rw [hB,if_pos rfl] at jG
   simp at jG
   subst jG
   refine ⟨_,aW.qa _ _ _,fun i v hi=>?_,fun h=>by simp at h,fun _=>ok.fw rfl,fun _ j hj=>?_,?_,fun _ h=>by simp at h,rfl,by rw [fv]; exact ok.oq,fun _ h2 j=>by rw [yK]; exact ok.mark rfl (by rw [ok.bU]; exact h2) j⟩
   ·have pg:dT ρ (hH++new) (qZ++cL):=hold.append ng
    obtain ⟨v',h2,h3⟩:=pg.get hi
    refine ⟨v',?_,h3.mono hle,?_⟩
    ·rw [List.getElem?_append] at h2
     split at h2
     ·rename_i bV
      rw [oz _ (fun _ _=>by simp only; omega)]
      exact D7 i v' h2
     ·rename_i hge
      have bV:i - qZ.length < cL.length:=(List.getElem?_eq_some_iff.1 h2).1
      have:=World.cell?_setCells_in l.cb cL (l.ej+iG+s) w (fun j hj=>(ok.there rfl (l.ej+iG+s+j) (by rw [J7] at hj; omega)).1) (i - qZ.length) bV
      have e:l.ej+iG+s+(i - qZ.length)=l.ej+iG+i:=by omega
      rw [e] at this
      rw [List.getElem?_eq_getElem bV] at h2
      exact this.trans h2
    ·rcases List.mem_append.1 (List.mem_of_getElem? hi) with h | h
     ·exact ho1 v h
     ·exact WJ v h
   ·rw [Yn,yK]; exact ok.there rfl j hj
   ·simp only [List.length_append,hol]; omega
  ·obtain ⟨hA,iX⟩:=pK x o hx jG hd
   obtain ⟨l2,uD,jH⟩:=hs.rel.obj hA hd
   refine ⟨l2,hle _ _ uD,?_⟩
   cases o with
   | row lR e2 Ee rF=>
    have jH:HS ρ base w l2 lR e2 Ee rF:=jH
    refine ⟨fun i v hi=>?_,jH.ta,jH.fw,fun h j hj=>?_,jH.fits,jH.ends,jH.bU,by rw [fv]; exact jH.oq,fun h1 h2 j=>by rw [yK]; exact jH.mark h1 h2 j⟩
    ·obtain ⟨v',h3,h4,h5⟩:=jH.cells i v hi
     exact ⟨v',by rw [Yo x _ _ _ _ l2 hx jG uD jH i (List.getElem?_eq_some_iff.1 hi).1]; exact h3,h4.mono hle,h5⟩
    ·rw [Yn,yK]; exact jH.there h j hj
   | map es=>
    have jH:Yl ρ base w l2 es:=jH
    obtain ⟨bp,clock,h3,h4⟩:=jH.oq
    refine ⟨jH.fw,bp,clock,?_,h4.mono hle⟩
    rw [mA]
    ·exact h3
    ·intro e
     obtain ⟨_,e1,_⟩:=yN x _ l2 hA rfl uD e
     simp [dg.mz] at e1
   | iter st pos=>
    have jH:Qy base w l2 st pos:=jH
    refine ⟨jH.fw,jH.oq.1,?_⟩
    rw [mA]
    ·exact jH.oq.2
    ·intro e
     obtain ⟨_,e1,_⟩:=yN x _ l2 hA rfl uD e
     simp [dg.mz] at e1
   | dead=>exact absurd rfl hd
   | loop st0 e0 t0 ps0 a0 c0=>
    have jH:Qz ρ base w l2 st0 e0 t0 ps0 a0 c0:=jH
    obtain ⟨fn,tmps,D,N,h3,h4⟩:=jH.oq
    refine ⟨jH.fw,fn,tmps,D,N,?_,h4.mono hle⟩
    rw [mA]
    ·exact h3
    ·intro e
     obtain ⟨_,e1,_⟩:=yN x _ l2 hA rfl uD e
     simp [dg.mz] at e1
 ·intro b1 b2 o1 o2 l1 l2 dJ g1 g2 m1 m2 r1 r2 OY
  by_cases e1:b1=A.next
  ·have e2:b2≠A.next:=fun e=>dJ (e1.trans e.symm)
   subst e1
   rw [hB,if_pos rfl] at g1
   simp at g1; subst g1
   rw [aW.qa] at r1; simp at r1; subst r1
   rw [aW.nm _ _ e2] at r2
   obtain ⟨hA,_⟩:=pK b2 o2 e2 g2 (hmd _ m2)
   obtain ⟨f2,k1,k2⟩:=yN b2 o2 l2 hA m2 r2 OY.symm
   exact ⟨bc,f+iG,f2,rfl,k1,by simp only; omega⟩
  ·rw [aW.nm _ _ e1] at r1
   obtain ⟨hA1,_⟩:=pK b1 o1 e1 g1 (hmd _ m1)
   by_cases e2:b2=A.next
   ·subst e2
    rw [hB,if_pos rfl] at g2
    simp at g2; subst g2
    rw [aW.qa] at r2; simp at r2; subst r2
    obtain ⟨f2,k1,k2⟩:=yN b1 o1 l1 hA1 m1 r1 OY
    exact ⟨bc,f2,f+iG,k1,rfl,by simp only; omega⟩
   ·rw [aW.nm _ _ e2] at r2
    obtain ⟨hA2,_⟩:=pK b2 o2 e2 g2 (hmd _ m2)
    exact hs.rel.apart b1 b2 o1 o2 l1 l2 dJ hA1 hA2 m1 m2 r1 r2 OY
 ·intro x o g fx hx hk
  rw [hBm]
  by_cases e:x=A.next
  ·subst e
   rw [hB,if_pos rfl] at hx
   simp at hx; subst hx
   simp [dg.mz] at hk
   rw [if_pos hk.1.symm]
   simp
  ·have:=hs.rel.bD x o g fx (pK x o e hx (by intro e; subst e; simp [dg.mz] at hk)).1 hk
   split
   ·rename_i e2; subst e2; simp [this]
   ·exact this
 ·intro x l2 h
  rw [hBn]
  by_cases e:x=A.next
  ·omega
  ·rw [aW.nm _ _ e] at h; have:=hs.lQ x l2 h; omega
 ·rw [fv]; exact hs.size
 ·intro x hx; exact aW.nm _ _ (by omega)
 ·intro k hk hn
  exact mA _ (fun e=>hn ⟨b,_,l,hg,rfl,lC,e.symm⟩) _ _ _
 ·omega
 ·rw [hBl]; exact hkl.1
 ·intro x hx hxl
  rw [hB,if_neg (by omega)]
  cases Classical.em (K.get x=A.get x) with
  | inl h=>exact h
  | inr h=>have:=hkl.2 x h; omega
 ·rintro k hk ⟨x,o,l2,hx,hm,hr,rfl⟩
  by_cases e:x=A.next
  ·subst e
   rw [aW.qa] at hr; simp at hr; subst hr
   exact ⟨b,_,l,hg,rfl,lC,rfl⟩
  ·rw [aW.nm _ _ e] at hr
   exact ⟨x,o,l2,(pK x o e hx (hmd _ hm)).1,hm,hr,rfl⟩
theorem aiy {a:Addr} (h:dk a=true):a.spot=none:=by
 unfold dk at h
 simpa using h
theorem WK (w:World) (a:Addr) (n:Nat) (cs:List Value) (h:∀ j,j < n→(w.cell? (a.add j)).isSome=true) (hr:(loadCells a n).run P w = .ok cs.toArray w) (j:Nat) (v:Value) (hj:cs[j]? = some v) :
  w.cell? (a.add j)=some v:=by
 have h1:=run_loadCells (P:=P) w a n (fun j=>(w.cell? (a.add j)).getD undef) (fun j hj=>by
  have:=h j hj
  cases hc:w.cell? (a.add j) with
  | none=>rw [hc] at this; simp at this
  | some u=>rfl)
 rw [hr] at h1
 simp only [Result.ok.injEq,and_true] at h1
 have h2:cs=(List.range n).map fun j=>(w.cell? (a.add j)).getD undef:=by
  have:=congrArg Array.toList h1
  simpa using this
 rw [h2,List.getElem?_map] at hj
 cases hq:(List.range n)[j]? with
 | none=>rw [hq] at hj; simp at hj
 | some m=>
  rw [hq] at hj
  have bV:j < n:=by have:=(List.getElem?_eq_some_iff.1 hq).1; simpa using this
  have hm:m=j:=by rw [List.getElem?_range bV] at hq; simpa using hq.symm
  subst hm
  simp at hj
  have:=h m bV
  cases hc:w.cell? (a.add m) with
  | none=>rw [hc] at this; simp at this
  | some u=>rw [hc] at hj; simpa using hj
theorem aeJ (z:Array Value) (n:Nat):(Builtin.zeroCells z n).size=n * z.size:=size_zeroCells z n
theorem YC {ρ:aW} {A B:St} {base:Nat} {w:World} {t u ty e:TypeId} {i:TypeInfo} {z s x s' x' v:Value} (ht:P.underlying t=some (.slice e)) (hi:P.info? e=some i) (hz:i.zero=some z) (hu:HO P u=true)
  (hn:1≤i.size) (hzs:z.cells.size=i.size) (ND:uB ρ A base w) (hsv:VR ρ s s') (YD:VR ρ x x') (hf:mw i.size i.bytes A [s,x] = some (v,B)) :
  ∃ aX v' w',(Builtin.append_ #[t,u] ty #[s',x']).run P w = .ok v' w'∧VR aX v v'∧ml base ρ A w aX B w':=by
 unfold mw at hf
 split at hf
 ·rename_i bs eo pe x0 e0
  simp at e0
  obtain ⟨rfl,rfl⟩:=e0
  obtain ⟨k,hk,hf⟩:=Option.bind_eq_some_iff.1 hf
  have hlen:=VG YD hk
  have hkk:∀ m,VB x=some m→k≤m:=fun m h=>by rw [hk] at h; simp at h; omega
  cases BM:Nat.ble (eo+k) pe with
  | true=>
   rw [BM,cond_true] at hf
   have BM:=Nat.le_of_ble_eq_true BM
   obtain ⟨new,ng,hf⟩:=Option.bind_eq_some_iff.1 hf
   obtain ⟨cL,h1,h2,h3,h4⟩:=AP (P:=P) ND.rel YD ng hkk hn
   cases bs with
   | none=>
    simp at hf
    obtain ⟨rfl,rfl⟩:=hf
    have:=hsv.jr
    subst this
    have hr:=Ad (P:=P) t u ty e i ht hi hu none eo pe x' k cL hlen w h4 BM
    exact ⟨ρ,_,w,by rw [hr]; rfl,by simp [VR],.refl ND⟩
   | some a=>
    simp only at hf
    cases hpa:dk a with
    | false=>rw [hpa] at hf; simp at hf
    | true=>
     rw [hpa,cond_true] at hf
     obtain ⟨B',iX,hf⟩:=Option.map_eq_some_iff.1 hf
     simp at hf
     obtain ⟨rfl,rfl⟩:=hf
     obtain ⟨vg,D6,lc,a',c',hl,tf,HY,oM,rfl⟩:=hsv.oa
     have hr:=Ad (P:=P) t u ty e i ht hi hu (some a') eo c' x' k cL hlen w h4 (by omega)
     obtain ⟨w',h5,h6⟩:=AO (P:=P) (a:=⟨a.block,a.off+eo * i.size,none⟩) ND iX hl h1
     have mZ:(storeCells (a'.add (eo * i.size)) cL).run P w = .ok () w':=by
      by_cases hc:c' = 0
      ·have:cL = []:=by
        apply List.eq_nil_of_length_eq_zero
        rw [h1.length,h3]
        have:k=0:=by omega
        subst this; omega
       subst this
       exact h5
      ·rw [HY hc,lh]
       simp only at h5
       rw [Nat.add_assoc]
       exact h5
     refine ⟨ρ,.slice (some a') (eo+k) c',w',?_,?_,h6⟩
     ·rw [hr]
      simp only [mZ,Result.andThen_ok]
     ·simp only [VR]
      exact ⟨vg,BM,lc,a',c',hl,tf,HY,oM,rfl⟩
  | false=>
   rw [BM,cond_false] at hf
   have BM:pe < eo+k:=by
    have : ¬ (eo+k≤pe):=fun h=>by rw [Nat.ble_eq_true_of_le h] at BM; simp at BM
    omega
   cases hc:(Nat.ble ((eo+k+512) * i.bytes) 17592186044416&&Nat.ble (eo+k) 17592186044416&&tz A i.size pe bs) with
   | false=>rw [hc] at hf; simp at hf
   | true=>
    rw [hc,cond_true] at hf
    simp only [Bool.and_eq_true] at hc
    obtain ⟨⟨Ac,rG⟩,hex⟩:=hc
    have Ac:=Nat.le_of_ble_eq_true Ac
    have rG:=Nat.le_of_ble_eq_true rG
    have adk:(eo+k) * i.bytes≤140737488355328:=by
     rw [Nat.add_mul] at Ac; omega
    obtain ⟨new,ng,hf⟩:=Option.bind_eq_some_iff.1 hf
    obtain ⟨cL,h1,h2,h3,h4⟩:=AP (P:=P) ND.rel YD ng hkk hn
    have hdr:=ml.drew (w:=w) ND
    obtain ⟨ajA,g1,g2,g3,g4⟩:=AP (P:=P) hdr.jy.rel YD ng hkk hn
    have ajB:∀ (bs' : Option Addr) (c' : Nat) (VH TB:List Value) (bc f:Nat) (K:St),K=A∨(∃ x lo hi L,K=A.kill x lo hi L)→dT ρ VH TB→(∀ v∈VH,scalar v=true)→VH.length=eo * i.size→
      (Builtin.firstCells i.size eo (.slice bs' eo c')).run P w.drew = .ok TB.toArray w.drew→c' < eo+k→
      ∃ aX v' w',(Builtin.append_ #[t,u] ty #[.slice bs' eo c',x']).run P w = .ok v' w'∧VR aX (.slice (some ⟨A.next,0,none⟩) (eo+k) (eo+k)) v'∧ml base ρ A w aX (K.grow bc f (VH++new) i.size) w':=by
     intro bs' c' VH TB bc f K hK ho ho1 hol mZ bV
     have hr:=TA (P:=P) t u ty e i z ht hi hz hu bs' eo c' x' k TB ajA hlen w mZ g4 bV rG (growslice_fits bV adk)
     have hge:=grownCap_ge w (eo+k) c' e
     have hkg:ml base ρ A w ρ K w.drew:=by
      rcases hK with rfl | ⟨x,lo,hi,L,rfl⟩
      ·exact hdr
      ·exact (YA ND x lo hi L).trans (ml.drew (YA ND x lo hi L).jy)
     have hKn:K.next=A.next:=by
      rcases hK with rfl | ⟨x,lo,hi,L,rfl⟩
      ·rfl
      ·simp
     have HZ:((TB++ajA).toArray++Builtin.zeroCells z.cells (grownCap w (eo+k) c' e - (eo+k))).size=grownCap w (eo+k) c' e * i.size:=by
      rw [Array.size_append,aeJ,hzs,List.size_toArray,List.length_append,ho.length,g1.length,hol,g3]
      rw [← Nat.add_mul,← Nat.add_mul]
      congr 1; omega
     have hgo:=YB (w:=w.drew) (n:=i.size) (bc:=bc) (f:=f) (c:=(TB++ajA).toArray++Builtin.zeroCells z.cells (grownCap w (eo+k) c' e - (eo+k))) e hkg.jy (ho.append g1)
      (fun v hv=>(List.mem_append.1 hv).elim (ho1 v) (g2 v)) (fun j v hj=>by
       rw [Array.getElem?_append_left (by have:=(List.getElem?_eq_some_iff.1 hj).1; simpa using this)]
       simpa using hj) (by
       rw [HZ,List.length_append,hol,g3,← Nat.add_mul]
       exact Nat.mul_le_mul_right _ hge)
     refine ⟨_,_,_,hr,?_,hkg.trans hgo⟩
     simp only [VR]
     refine ⟨trivial,Nat.le_refl _,_,⟨w.heap.size,0,none⟩,grownCap w (eo+k) c' e,by rw [hKn]; exact aW.qa _ _ _,hge,fun _=>rfl,?_,rfl⟩
     rw [HZ]
     show 0+0+grownCap w (eo+k) c' e * i.size≤grownCap w (eo+k) c' e * i.size
     omega
    unfold C8 at hf
    cases bs with
    | none=>
     simp only at hf
     cases hs0:Nat.beq eo 0 with
     | false=>rw [hs0] at hf; simp at hf
     | true=>
      rw [hs0,cond_true] at hf
      simp at hf
      obtain ⟨rfl,rfl⟩:=hf
      have hs0:=Nat.eq_of_beq_eq_true hs0
      have:=hsv.jr
      subst this
      have H0:Builtin.firstCells i.size eo (.slice none eo pe)=pure #[]:=rfl
      exact ajB none pe [] [] A.next 0 A (.inl rfl) .nil (by simp) (by rw [hs0]; simp) (by rw [H0]; rfl) BM
    | some a=>
     simp only at hf
     cases hpa:dk a with
     | false=>rw [hpa] at hf; simp at hf
     | true=>
      rw [hpa,cond_true] at hf
      have vg:=aiy hpa
      obtain ⟨_,D6,lc,a',c',hl,tf,HY,oM,rfl⟩:=hsv.oa
      obtain ⟨hH,hold,hf⟩:=Option.bind_eq_some_iff.1 hf
      obtain ⟨qZ,q1,q2,q3,q4⟩:=vf (P:=P) hdr.jy.rel hold hl
      have mZ:(Builtin.firstCells i.size eo (.slice (some a') eo c')).run P w.drew = .ok qZ.toArray w.drew:=by
       simp only [Builtin.firstCells]
       by_cases hc:c' = 0
       ·have hs0:eo=0:=by omega
        subst hs0
        have ajC:hH = []:=by rw [Nat.zero_mul] at q2; exact List.eq_nil_of_length_eq_zero q2
        subst ajC
        rw [q1.cl,Nat.zero_mul]
        exact run_loadCells_list w.drew a' [] (by simp)
       ·rw [HY hc]; exact q4
      split at hf
      ·rename_i cs bU own bP hg
       cases hez:Nat.beq bU i.size with
       | false=>rw [hez] at hf; simp at hf
       | true=>
        rw [hez,cond_true] at hf
        have hez:=Nat.eq_of_beq_eq_true hez
        subst hez
        obtain ⟨l2,mq,ok⟩:=ND.rel.row _ _ _ _ _ hg
        rw [hl] at mq; simp at mq; subst mq
        have hle:lc.bU=i.size:=ok.bU
        cases bP with
        | none=>
         simp only at hf
         cases own with
         | false=>simp at hf
         | true=>
          simp at hf
          obtain ⟨rfl,rfl⟩:=hf
          have hxe:a.off+pe * i.size=cs.length:=by
           unfold tz at hex
           simp only [hg] at hex
           exact Nat.eq_of_beq_eq_true hex
          have hends:=ok.ends rfl rfl
          have hc' : c' < eo+k:=by
           have h9:c' * i.size≤pe * i.size:=by rw [hle] at oM; omega
           have:=Nat.le_of_mul_le_mul_right h9 (by omega)
           omega
          exact ajB (some a') c' hH qZ A.next 0 A (.inl rfl) q1 q3 q2 mZ hc'
        | some p=>
         obtain ⟨bc,f⟩:=p
         simp only at hf
         cases own with
         | false=>simp at hf
         | true=>
          simp at hf
          obtain ⟨rfl,rfl⟩:=hf
          by_cases hc' : c' < eo+k
          ·exact ajB (some a') c' hH qZ bc (f+a.off) _ (.inr ⟨_,_,_,_,rfl⟩) q1 q3 q2 mZ hc'
          ·
           have dJ:c'≠0:=by omega
           have ha:=HY dJ
           subst ha
           have hr:=Ad (P:=P) t u ty e i ht hi hu (some ⟨lc.cb,lc.ej+a.off,none⟩) eo c' x' k cL hlen w h4 (by omega)
           have wN:lc.ej+a.off+eo * i.size+new.length≤lc.yI:=by
            rw [h3]
            rw [hle] at oM
            have h9:(eo+k) * i.size≤c' * i.size:=Nat.mul_le_mul_right _ (by omega)
            rw [Nat.add_mul] at h9
            omega
           have J7:cL.length=new.length:=h1.length
           obtain ⟨ahA,p1,p2,p3,p4⟩:=vf (P:=P) ND.rel hold hl
           have D7:∀ (j:Nat) (v' : Value),ahA[j]? = some v'→w.cell? ⟨lc.cb,lc.ej+a.off+j,none⟩=some v':=by
            intro j v' hj
            have bV:j < eo * i.size:=by have:=(List.getElem?_eq_some_iff.1 hj).1; rw [p1.length,p2] at this; exact this
            have oz:=(ok.there rfl (lc.ej+a.off+j) (by omega)).1
            have:=WK (P:=P) w ⟨lc.cb,lc.ej+a.off,none⟩ (eo * i.size) ahA (fun j hj=>by rw [lh]; exact (ok.there rfl (lc.ej+a.off+j) (by omega)).1) p4 j v' hj
            rwa [lh] at this
           have hgo:=adj (w:=w) (iG:=a.off) (s:=eo * i.size) ND hg hl p1 p3 p2 D7 h1 h2 wN
           have iX:(storeCells ((⟨lc.cb,lc.ej+a.off,none⟩:Addr).add (eo * i.size)) cL).run P w = .ok () (w.setCells lc.cb (lc.ej+a.off+eo * i.size) cL):=by
            rw [lh]
            exact run_storeCells_cells (P:=P) lc.cb (lc.ej+a.off+eo * i.size) cL 0 w (fun j hj=>(ok.there rfl _ (by rw [J7] at hj; omega)).1) (fun j hj=>(ok.there rfl _ (by rw [J7] at hj; omega)).2) (fun v QF=>by
             obtain ⟨j,hj⟩:=List.getElem?_of_mem QF
             have bV:j < new.length:=by rw [← J7]; exact (List.getElem?_eq_some_iff.1 hj).1
             obtain ⟨u,hu⟩:∃ u,new[j]? = some u:=⟨new[j],List.getElem?_eq_getElem bV⟩
             obtain ⟨v2,h7,h8⟩:=h1.get hu
             rw [hj] at h7; simp at h7; subst h7
             exact h8.scalar (h2 u (List.mem_of_getElem? hu)))
           refine ⟨_,.slice (some ⟨lc.cb,lc.ej+a.off,none⟩) (eo+k) c',_,by rw [hr]; simp only [iX,Result.andThen_ok],?_,hgo⟩
           simp only [VR]
           refine ⟨trivial,Nat.le_refl _,_,_,c',aW.qa _ _ _,by omega,fun _=>rfl,?_,rfl⟩
           show lc.ej+a.off+0+c' * i.size≤lc.yI
           rw [hle] at oM
           omega
      ·simp at hf
 ·simp at hf
theorem aiz {argTypes:Array TypeId} {t u:TypeId} (h:argTypes.toList = [t,u]):argTypes = #[t,u]:=by
 apply Array.ext'
 simpa using h
theorem agB {argTypes:Array TypeId} {args:Array Operand} (ho:o.op = .call ⟨.builtin .append,args,argTypes⟩):ia P o (HP P argTypes.toList args.toList):=by
 unfold HP
 split
 ·rename_i t u yM
  split
  ·rename_i e ht
   split
   ·rename_i i hi
    split
    ·rename_i z hz
     cases hc:(Nat.ble 1 i.size&&Nat.beq z.cells.size i.size&&HO P u) with
     | false=>exact True.intro
     | true=>
      rw [cond_true]
      simp only [Bool.and_eq_true] at hc
      obtain ⟨⟨h1,h2⟩,h3⟩:=hc
      intro ρ A B base w ev cX v hs he hf
      have hf0:=hf
      unfold mw at hf0
      split at hf0
      ·rename_i bs eo pe x e1
       have hm:=he.map
       rw [e1] at hm hf
       obtain ⟨s',r1,e2,hsv,hm⟩:=hm.cons_inv
       obtain ⟨x',r2,e3,YD,hm⟩:=hm.cons_inv
       have:=hm.cl
       subst this e3
       obtain ⟨aX,v',w',h4,h5,h6⟩:=YC (ty:=o.type) ht hi hz h3 (Nat.le_of_ble_eq_true h1) (Nat.eq_of_beq_eq_true h2) hs hsv YD hf
       refine ⟨aX,v',.value v',w',?_,rfl,h5,h6⟩
       have e4:args.map cX = #[s',x']:=by apply Array.ext'; simpa using e2
       have e5:=aiz yM
       subst e5
       simp only [execOp,ho,Sem.run_bind,resolve,Sem.run_pure,Result.andThen_ok,invoke,builtin,e4,h4]
      ·simp at hf0
    ·trivial
   ·trivial
  ·trivial
 ·trivial
theorem ajD {argTypes:Array TypeId} {args:Array Operand} (ho:o.op = .call ⟨.builtin .copy,args,argTypes⟩):ia P o (Qv P argTypes.toList args.toList):=by
 unfold Qv
 split
 ·rename_i t rest yM
  have Jk:argTypes[0]? = some t:=by rw [← Array.getElem?_toList,yM]; rfl
  split
  ·rename_i e ht
   split
   ·rename_i n hn
    cases Gd:Nat.ble 1 n with
    | false=>exact True.intro
    | true=>
     rw [cond_true]
     have Gd:1≤n:=Nat.le_of_ble_eq_true Gd
     intro ρ A B base w ev cX v hs he hf
     unfold Yh at hf
     split at hf
     ·rename_i bs Qu dCap x e1
      have hm:=he.map
      rw [e1] at hm
      obtain ⟨s',r1,e2,hsv,hm⟩:=hm.cons_inv
      obtain ⟨x',r2,e3,YD,hm⟩:=hm.cons_inv
      have:=hm.cl
      subst this e3
      have e4:args.map cX = #[s',x']:=by apply Array.ext'; simpa using e2
      obtain ⟨k,hk,hf⟩:=Option.bind_eq_some_iff.1 hf
      have hlen:=VG YD hk
      obtain ⟨new,ng,hf⟩:=Option.bind_eq_some_iff.1 hf
      obtain ⟨cL,h1,h2,h3,h4⟩:=AP (P:=P) hs.rel YD ng (fun m h=>by rw [hk] at h; simp at h; subst h; exact Nat.min_le_left _ _) Gd
      cases bs with
      | none=>
       simp at hf
       obtain ⟨rfl,rfl⟩:=hf
       have:=hsv.jr
       subst this
       refine ⟨ρ,goInt (Nat.min k Qu),.value (goInt (Nat.min k Qu)),w,?_,rfl,VR.of_flat rfl,.refl hs⟩
       simp [execOp,ho,resolve,invoke,builtin,e4,Builtin.copy_,Jk,bu ht,hlen,n4 hn,h4]
      | some a=>
       simp only at hf
       obtain ⟨B',iX,hf⟩:=Option.map_eq_some_iff.1 hf
       simp at hf
       obtain ⟨rfl,rfl⟩:=hf
       obtain ⟨vg,D6,lc,a',c',hl,tf,HY,oM,rfl⟩:=hsv.oa
       obtain ⟨w',h5,h6⟩:=AO (P:=P) hs iX hl h1
       have mZ:(storeCells a' cL).run P w = .ok () w':=by
        by_cases hc:c' = 0
        ·have:cL = []:=by
          apply List.eq_nil_of_length_eq_zero
          rw [h1.length,h3]
          have:Qu=0:=by omega
          subst this; simp
         subst this
         exact h5
        ·rw [HY hc]; exact h5
       refine ⟨ρ,goInt (Nat.min k Qu),.value (goInt (Nat.min k Qu)),w',?_,rfl,VR.of_flat rfl,h6⟩
       simp [execOp,ho,resolve,invoke,builtin,e4,Builtin.copy_,Jk,bu ht,hlen,n4 hn,h4,mZ]
     ·simp at hf
   ·trivial
  ·trivial
 ·trivial
end
end Go.aE
end
section
namespace Go.aE
open Go
section
variable {P:Program} {o:Oper}
theorem yO {ρ:aW} {A:St} {base:Nat} {w:World} {r:Nat} {es ph:List (Value×Value)} {Cg:Array MapEntry} {AQ:Nat} {l:Loc} (hs:uB ρ A base w) (hg:A.get r=some (.map es)) (lC:ρ r=some l)
  (hm:iV ρ ph Cg.toList):ml base ρ A w ρ (A.put r (.map ph)) { w with heap:=w.heap.setIfInBounds l.cb (.map Cg AQ) }:=by
 obtain ⟨l',sv,ok⟩:=hs.rel.map _ _ hg
 rw [lC] at sv; simp at sv; subst sv
 obtain ⟨bp,clock,oA,_⟩:=ok.oq
 have bV:l.cb < w.heap.size:=(Array.getElem?_eq_some_iff.1 oA).1
 have Fh:dg.fw (.map es)=true:=rfl
 have hold:∀ k,k≠l.cb→(w.heap.setIfInBounds l.cb (.map Cg AQ))[k]? = w.heap[k]?:=fun k hk=>by
  rw [Array.getElem?_setIfInBounds_ne (Ne.symm hk)]
 have fv:(w.heap.setIfInBounds l.cb (.map Cg AQ)).size=w.heap.size:=by simp
 have hB:∀ x,(A.put r (.map ph)).get x=if x=r then some (.map ph) else A.get x:=fun x=>St.cd _ _ _ _
 have hmd:∀ o:dg,o.fw=true→o≠.dead:=by intro o h e; subst e; simp [dg.fw] at h
 have Yo:∀ x o l2,x≠r→A.get x=some o→o≠.dead→ρ x=some l2→Fe ρ base w l2 o→l2.cb≠l.cb:=by
  intro x o l2 hx jG hd uD jH e
  cases YE:o.fw with
  | true=>
   obtain ⟨_,_,_,_,e1,_⟩:=hs.rel.apart x r o _ l2 l hx jG hg YE Fh uD lC e
   simp [dg.mz] at e1
  | false=>
   cases o with
   | row cs bU own bP=>
    have jH:HS ρ base w l2 cs bU own bP:=jH
    have h1:own=false:=YE
    have:=jH.ta h1
    have:=ok.fw
    omega
   | map _=>simp [dg.fw] at YE
   | iter _ _=>simp [dg.fw] at YE
   | dead=>exact hd rfl
   | loop _ _ _ _ _ _=>simp [dg.fw] at YE
 refine ⟨⟨.HV ?_ ?_ ?_,fun b l2 h=>hs.lQ b l2 h,by simpa using hs.size,hs.Jj⟩,fun _ _=>rfl,⟨rfl,rfl,rfl,Nat.le_of_eq fv.symm,fun k hk hn=>hold k (fun e=>hn ⟨r,_,l,hg,Fh,lC,e.symm⟩)⟩,Nat.le_refl _,Nat.min_le_left _ _,fun x hx hxl=>?_,?_⟩
 ·intro x o jG hd
  rw [hB] at jG
  split at jG
  ·rename_i e; subst e; simp at jG; subst jG
   refine ⟨l,lC,ok.fw,Cg,AQ,?_,hm⟩
   show (w.heap.setIfInBounds l.cb (.map Cg AQ))[l.cb]? = _
   rw [Array.getElem?_setIfInBounds_self_of_lt bV]
  ·rename_i e
   obtain ⟨l2,uD,jH⟩:=hs.rel.obj jG hd
   exact ⟨l2,uD,jH.mC (aW.le_refl _) (hold _ (Yo x o l2 e jG hd uD jH)) (Nat.le_of_eq fv.symm)⟩
 ·have QD:∀ x o,(A.put r (.map ph)).get x=some o→o.fw=true→∃ o',A.get x=some o'∧o'.fw=true∧o'.mz=o.mz:=by
   intro x o hx hm
   rw [hB] at hx
   split at hx
   ·rename_i e; subst e; simp at hx; subst hx; exact ⟨_,hg,rfl,rfl⟩
   ·exact ⟨o,hx,hm,rfl⟩
  intro b1 b2 o1 o2 l1 l2 dJ g1 g2 m1 m2 r1 r2 OY
  obtain ⟨p1,q1,n1,k1⟩:=QD _ _ g1 m1
  obtain ⟨p2,q2,n2,k2⟩:=QD _ _ g2 m2
  rw [← k1,← k2]
  exact hs.rel.apart b1 b2 p1 p2 l1 l2 dJ q1 q2 n1 n2 r1 r2 OY
 ·intro x o bc f jG hk
  rw [hB] at jG
  split at jG
  ·rename_i e; subst e; simp at jG; subst jG; simp [dg.mz] at hk
  ·exact hs.rel.bD x o bc f jG hk
 ·rw [St.Ym] at hxl
  have:Nat.min A.low r≤r:=Nat.min_le_right _ _
  rw [hB,if_neg (by omega)]
 ·rintro k hk ⟨x,o,l2,jG,hm,uD,rfl⟩
  rw [hB] at jG
  split at jG
  ·rename_i e; subst e
   rw [lC] at uD; simp at uD; subst uD
   exact ⟨x,_,l,hg,Fh,lC,rfl⟩
  ·exact ⟨x,o,l2,jG,hm,uD,rfl⟩
theorem iV.length {ρ:aW} : ∀ {es:List (Value×Value)} {l:List MapEntry},iV ρ es l→l.length=es.length
 | [],l,h=>by simp only [iV] at h; subst h; rfl
 | (k,v)::es,l,h=>by
  simp only [iV] at h
  obtain ⟨e,r,rfl,_,_,h⟩:=h
  simp [iV.length h]
theorem iV.get {ρ:aW} : ∀ {es:List (Value×Value)} {l:List MapEntry},iV ρ es l→∀ (i:Nat) (k v:Value),es[i]? = some (k,v)→∃ e,l[i]? = some e∧VR ρ k e.key∧VR ρ v e.val
 | [],l,h,i,k,v,hi=>by simp at hi
 | (k,v)::es,l,h,i,k',v',hi=>by
  simp only [iV] at h
  obtain ⟨e,r,rfl,h1,h2,h⟩:=h
  cases i with
  | zero=>simp at hi; obtain ⟨rfl,rfl⟩:=hi; exact ⟨e,rfl,h1,h2⟩
  | succ i=>simp at hi; simpa using iV.get h i k' v' hi
theorem iV.append {ρ:aW} : ∀ {es:List (Value×Value)} {l:List MapEntry} {k v:Value} {e:MapEntry},iV ρ es l→VR ρ k e.key→VR ρ v e.val→iV ρ (es++[(k,v)]) (l++[e])
 | [],l,k,v,e,h,h1,h2=>by
  simp only [iV] at h; subst h
  simp only [List.nil_append,iV]
  exact ⟨e,[],rfl,h1,h2,rfl⟩
 | (k0,v0)::es,l,k,v,e,h,h1,h2=>by
  simp only [iV] at h
  obtain ⟨e0,r,rfl,h3,h4,h⟩:=h
  simp only [List.cons_append,iV]
  exact ⟨e0,r++[e],rfl,h3,h4,iV.append h h1 h2⟩
theorem iV.modify {ρ:aW} : ∀ {es:List (Value×Value)} {l:List MapEntry} {k v:Value} (f:MapEntry→MapEntry) (i:Nat),iV ρ es l→(∀ e,VR ρ k (f e).key∧VR ρ v (f e).val)→iV ρ (es.set i (k,v)) (l.modify i f)
 | [],l,k,v,f,i,h,_=>by simp only [iV] at h; subst h; simp [iV]
 | (k0,v0)::es,l,k,v,f,i,h,hf=>by
  simp only [iV] at h
  obtain ⟨e0,r,rfl,h3,h4,h⟩:=h
  cases i with
  | zero=>simp only [List.set_cons_zero,List.modify_zero_cons,iV]; exact ⟨_,r,rfl,(hf e0).1,(hf e0).2,h⟩
  | succ i=>simp only [List.set_cons_succ,List.modify_succ_cons,iV]; exact ⟨e0,_,rfl,h3,h4,iV.modify f i h hf⟩
theorem iV.erase {ρ:aW} : ∀ {es:List (Value×Value)} {l:List MapEntry} (i:Nat),iV ρ es l→iV ρ (es.eraseIdx i) (l.eraseIdx i)
 | [],l,i,h=>by simp only [iV] at h; subst h; simp [iV]
 | (k0,v0)::es,l,i,h=>by
  simp only [iV] at h
  obtain ⟨e0,r,rfl,h3,h4,h⟩:=h
  cases i with
  | zero=>simpa using h
  | succ i=>simp only [List.eraseIdx_cons_succ,iV]; exact ⟨e0,_,rfl,h3,h4,iV.erase i h⟩
def FR (ρ:aW):Option (Nat×Value)→Option (Nat×Value)→Prop
 | none,r=>r=none
 | some (i,v),r=>∃ v',r=some (i,v')∧VR ρ v v'
theorem QJ {ρ:aW} (d:TypeDesc) (k:Value):∀ (es:List (Value×Value)) (l:List MapEntry) (i:Nat),iV ρ es l→tA es=true→
  (z9 d k es i=none→Instr.findNow d k l i=none)∧∀ r,z9 d k es i=some r→∃ r',Instr.findNow d k l i=some r'∧FR ρ r r'
 | [],l,i,h,_=>by
  simp only [iV] at h; subst h
  exact ⟨fun h=>by simp [z9] at h,fun r hr=>by simp [z9] at hr; subst hr; exact ⟨none,rfl,rfl⟩⟩
 | (k0,v0)::es,l,i,h,hf=>by
  simp only [iV] at h
  obtain ⟨e0,r0,rfl,h3,h4,h⟩:=h
  simp only [tA,Bool.and_eq_true] at hf
  have hk:e0.key=k0:=h3.oo hf.1
  have ih:=QJ d k es r0 (i+1) h hf.2
  simp only [z9,Instr.findNow,hk]
  cases hsn:Instr.sameNow d k k0 with
  | none=>exact ⟨fun _=>rfl,fun r hr=>by simp at hr⟩
  | some b=>
   cases b with
   | true=>exact ⟨fun h=>by simp at h,fun r hr=>by simp at hr; subst hr; exact ⟨_,rfl,_,rfl,h4⟩⟩
   | false=>exact ih
theorem QK {ρ:aW} (kt:TypeId) (k:Value):∀ (es:List (Value×Value)) (l:List MapEntry) (i:Nat),iV ρ es l→tA es=true→
  ∀ r,F5 P kt k es i=some r→∃ r',(∀ w,(Instr.findAsking kt k l i).run P w = .ok r' w)∧FR ρ r r'
 | [],l,i,h,_=>by
  simp only [iV] at h; subst h
  intro r hr
  simp [F5] at hr; subst hr; exact ⟨none,fun w=>rfl,rfl⟩
 | (k0,v0)::es,l,i,h,hf=>by
  simp only [iV] at h
  obtain ⟨e0,r0,rfl,h3,h4,h⟩:=h
  simp only [tA,Bool.and_eq_true] at hf
  have hk:e0.key=k0:=h3.oo hf.1
  intro r hr
  simp only [F5] at hr
  split at hr
  ·rename_i he
   simp at hr; subst hr
   refine ⟨some (i,e0.val),fun w=>?_,_,rfl,h4⟩
   simp [Instr.findAsking,hk,ie he w]
  ·rename_i he
   obtain ⟨r',h5,h6⟩:=QK kt k es r0 (i+1) h hf.2 r hr
   refine ⟨r',fun w=>?_,h6⟩
   simp only [Instr.findAsking,hk,Sem.run_bind,ie he w,Result.andThen_ok]
   exact h5 w
  ·simp at hr
theorem H2 {ρ:aW} {kt:TypeId} {d:TypeDesc} {k:Value} {es:List (Value×Value)} {l:List MapEntry} {r:Option (Nat×Value)} (hd:P.underlying kt=some d) (h:iV ρ es l) (hf:tA es=true) (hr:Yi P kt d k es=some r) :
  ∃ r',(∀ w,(Instr.findKey kt k l).run P w = .ok r' w)∧FR ρ r r':=by
 have hn:=QJ d k es l 0 h hf
 unfold Yi at hr
 split at hr
 ·rename_i q hq
  simp at hr; subst hr
  obtain ⟨r',h1,h2⟩:=hn.2 _ hq
  refine ⟨r',fun w=>?_,h2⟩
  simp only [Instr.findKey,Sem.run_bind,bu hd,Result.andThen_ok,h1]
  rfl
 ·rename_i hq
  have h1:=hn.1 hq
  obtain ⟨r',h2,h3⟩:=QK kt k es l 0 h hf r hr
  refine ⟨r',fun w=>?_,h3⟩
  simp only [Instr.findKey,Sem.run_bind,bu hd,Result.andThen_ok,h1]
  exact h2 w
theorem Cr {ρ:aW} {kt:TypeId} {b:Bool} {k k' : Value} {es:List (Value×Value)} (h:E9 P kt b k es=true) (hk:VR ρ k k'):k' = k∧flat k=true∧tA es=true∧∀ w,(Instr.checkKey b 10000 kt k).run P w = .ok () w:=by
 unfold E9 at h
 simp only [Bool.and_eq_true] at h
 obtain ⟨⟨h1,h2⟩,h3⟩:=h
 cases hp:dq P (Instr.checkKey b 10000 kt k) with
 | none=>rw [hp] at h3; simp at h3
 | some u=>exact ⟨hk.oo h1,h1,h2,fun w=>ie hp w⟩
theorem iV.isEmpty {ρ:aW} {es:List (Value×Value)} {l:Array MapEntry} (h:iV ρ es l.toList):l.isEmpty=es.isEmpty:=by
 have:=h.length
 cases es with
 | nil=>simp at this; simpa using this
 | cons e es=>simp at this; simp; intro h; rw [h] at this; simp at this
theorem VR.Kt {ρ:aW} {r:Nat} {v:Value} (h:VR ρ (.map (some r)) v):∃ l,ρ r=some l∧v = .map (some l.cb):=by simpa only [VR] using h
theorem VR.Cs {ρ:aW} {v:Value} (h:VR ρ (.map none) v):v = .map none:=by simpa only [VR] using h
theorem VR.ab8 {ρ:aW} {ok b:Bool} {v v' : Value} (h:VR ρ v v'):VR ρ (ab8 ok v b) (if ok then .tuple #[v',.bool b] else v'):=by
 cases ok with
 | true=>exact VR.mkTuple (.cons h (.cons (VR.of_flat rfl) .nil))
 | false=>exact h
theorem aeK {t:TypeId} {r:Option Operand} (ho:o.op = .makeMap t r):ia P o (Ko P t r):=by
 unfold Ko
 split
 ·rename_i kt et hu
  intro ρ ev cX obj mk he hf
  have j7:obj = .map []∧mk=fun n=>.map (some n):=by
   unfold Tu at hf
   split at hf
   ·simp at hf; exact ⟨hf.1.symm,hf.2.symm⟩
   ·simp at hf; exact ⟨hf.1.symm,hf.2.symm⟩
   ·simp at hf
  obtain ⟨rfl,rfl⟩:=j7
  refine ⟨.map #[] 0,fun n=>.map (some n),rfl,fun w=>?_,fun aX n cb h=>by simp only [VR]; exact ⟨_,h,rfl⟩⟩
  cases r with
  | none=>simp [execOp,ho,Instr.makeMap]
  | some x=>
   have hx:=he x (by simp [fV])
   unfold Tu at hf
   simp only [fV,List.map] at hf
   split at hf
   ·rename_i e; simp at e
   ·rename_i k n e
    simp at e
    rw [e] at hx
    simp [execOp,ho,Instr.makeMap,hx.dt,bu hu,asInt,asIntOf]
   ·simp at hf
 ·trivial
theorem Gg {ρ:aW} {kt et:TypeId} {d:TypeDesc} {z v k k' : Value} {ok:Bool} {es:List (Value×Value)} {l:Array MapEntry} (hd:P.underlying kt=some d) (hz:pb P et=some z) (hzf:flat z=true)
  (hm:iV ρ es l.toList) (hk:VR ρ k k') (h:HQ P kt d z ok k es=some v) :
  ∃ v',VR ρ v v'∧∀ w,(do
   Instr.checkKey l.isEmpty 10000 kt k'
   let (v,b) ← match ← Instr.findKey kt k' l.toList with
    | some (_,v)=>pure (v,true)
    | none=>pure (← zeroValue et,false)
   pure (if ok then Value.tuple #[v,.bool b] else v):Sem Value).run P w = .ok v' w:=by
 unfold HQ at h
 cases hc:E9 P kt es.isEmpty k es with
 | false=>rw [hc] at h; simp at h
 | true=>
  rw [hc,cond_true] at h
  obtain ⟨rfl,_,hkf,Ty⟩:=Cr hc hk
  obtain ⟨r,hr,rfl⟩:=Option.map_eq_some_iff.1 h
  obtain ⟨r',h1,h2⟩:=H2 hd hm hkf hr
  rw [hm.isEmpty]
  cases r with
  | none=>
   have h2:r' = none:=h2
   subst h2
   refine ⟨_,VR.ab8 (VR.of_flat hzf),fun w=>?_⟩
   simp [Ty,h1,Mu hz]
  | some p=>
   obtain ⟨i,u⟩:=p
   obtain ⟨u',rfl,h3⟩:=h2
   refine ⟨_,VR.ab8 h3,fun w=>?_⟩
   simp [Ty,h1]
theorem agC {t:TypeId} {x ix:Operand} {ok:Bool} (ho:o.op = .lookup t x ix ok):ia P o (OT P t x ix ok):=by
 unfold OT
 split
 ·rename_i kt et hu
  split
  ·rename_i d z hd hz
   cases hzf:flat z with
   | false=>exact True.intro
   | true=>
    rw [cond_true]
    intro ρ A base w ev cX v hs he hf
    have hx:=he x (by simp)
    have hk:=he ix (by simp)
    simp only [List.map] at hf
    unfold aeA at hf
    split at hf
    ·rename_i k e
     simp at e
     obtain ⟨e1,e2⟩:=e
     rw [e1] at hx
     have hx:=hx.Cs
     rw [← e2] at hf
     obtain ⟨v',h1,h2⟩:=Gg (ρ:=ρ) (l:=#[]) hd hz hzf (by simp [iV]) hk hf
     refine ⟨v',h1,?_⟩
     have h2:=h2 w
     simp only [execOp,ho,Instr.lookup,Sem.run_bind,bu hu,Result.andThen_ok,hx,Sem.run_pure] at h2 ⊢
     exact congrArg (fun r:Result Value=>r.andThen fun a w'=>Result.ok (Next.value a) w') h2
    ·rename_i r k e
     simp at e
     obtain ⟨e1,e2⟩:=e
     rw [e1] at hx
     rw [← e2] at hf
     obtain ⟨lc,hl,hx⟩:=hx.Kt
     split at hf
     ·rename_i es hg
      obtain ⟨l2,mq,jH⟩:=hs.map _ _ hg
      rw [hl] at mq; simp at mq; subst mq
      obtain ⟨bp,clock,oA,hm⟩:=jH.oq
      obtain ⟨v',h1,h2⟩:=Gg (l:=bp) hd hz hzf hm hk hf
      refine ⟨v',h1,?_⟩
      have h2:=h2 w
      simp only [execOp,ho,Instr.lookup,Sem.run_bind,bu hu,Result.andThen_ok,hx,MapKept.run_getObj_map oA,Sem.run_pure] at h2 ⊢
      exact congrArg (fun r:Result Value=>r.andThen fun a w'=>Result.ok (Next.value a) w') h2
     ·simp at hf
    ·simp at hf
  ·trivial
 ·trivial
theorem QL {ρ:aW} {A B:St} {base:Nat} {w:World} {t kt et:TypeId} {d:TypeDesc} {m k x m' k' x' v:Value} (hu:P.underlying t=some (.map kt et)) (hd:P.underlying kt=some d) (hs:uB ρ A base w)
  (hm:VR ρ m m') (hk:VR ρ k k') (hx:VR ρ x x') (h:Kn P kt d A [m,k,x] = some (v,B)):v=undef∧∃ w',(Instr.mapUpdate t m' k' x').run P w = .ok () w'∧ml base ρ A w ρ B w':=by
 unfold Kn at h
 split at h
 ·rename_i r k0 x0 e
  simp at e
  obtain ⟨rfl,rfl,rfl⟩:=e
  obtain ⟨lc,hl,rfl⟩:=hm.Kt
  split at h
  ·rename_i es hg
   obtain ⟨l2,mq,jH⟩:=hs.rel.map _ _ hg
   rw [hl] at mq; simp at mq; subst mq
   obtain ⟨bp,clock,oA,TC⟩:=jH.oq
   cases hc:E9 P kt false k es with
   | false=>rw [hc] at h; simp at h
   | true=>
    rw [hc,cond_true] at h
    obtain ⟨rfl,hkf0,hkf,Ty⟩:=Cr hc hk
    obtain ⟨q,hq,h⟩:=Option.bind_eq_some_iff.1 h
    obtain ⟨r',h1,h2⟩:=H2 hd TC hkf hq
    cases q with
    | none=>
     have h2:r' = none:=h2
     subst h2
     simp at h
     obtain ⟨rfl,rfl⟩:=h
     refine ⟨rfl,_,?_,yO (Cg:=bp.push { key:=k',val:=x',born:=clock }) (AQ:=clock+1) hs hg hl (by rw [Array.toList_push]; exact TC.append hk hx)⟩
     simp [Instr.mapUpdate,bu hu,MapKept.run_getObj_map oA,Ty,h1,MapKept.run_setObj_map _ oA]
    | some p=>
     obtain ⟨i,u⟩:=p
     obtain ⟨u',rfl,h3⟩:=h2
     simp only at h
     cases hsb:Instr.sameBits 10000 (ac9 es i k') k' with
     | false=>rw [hsb] at h; simp at h
     | true=>
      rw [hsb] at h
      simp at h
      obtain ⟨rfl,rfl⟩:=h
      have hold:((bp[i]?).map (·.key)).getD k' = ac9 es i k':=by
       unfold ac9
       cases hi:es[i]? with
       | none=>
        have:bp[i]? = none:=by
         rw [Array.getElem?_eq_none_iff]
         have:=List.getElem?_eq_none_iff.1 hi
         rw [← Array.length_toList,TC.length]; exact this
        rw [this]; rfl
       | some p=>
        obtain ⟨k1,v1⟩:=p
        obtain ⟨e,h5,h6,h7⟩:=TC.get i k1 v1 hi
        have h5' : bp[i]? = some e:=by simpa using h5
        have Ge:flat k1=true:=by
         have key:∀ (es:List (Value×Value)) (i:Nat),tA es=true→es[i]? = some (k1,v1)→flat k1=true:=by
          intro es
          induction es with
          | nil=>intro i _ h; simp at h
          | cons e es ih=>
           intro i hk h
           simp only [tA,Bool.and_eq_true] at hk
           cases i with
           | zero=>simp at h; subst h; exact hk.1
           | succ i=>exact ih i hk.2 (by simpa using h)
         exact key es i hkf hi
        rw [h5']
        simp only [Option.map_some,Option.getD_some]
        exact h6.oo Ge
      refine ⟨rfl,_,?_,yO (Cg:=bp.modify i fun e=>{ e with key:=k',val:=x' }) (AQ:=clock) hs hg hl (by rw [Array.toList_modify]; exact TC.modify _ i fun e=>⟨hk,hx⟩)⟩
      simp [Instr.mapUpdate,bu hu,MapKept.run_getObj_map oA,Ty,h1,hold,Instr.keyThatStays,hsb,MapKept.run_setObj_map _ oA]
  ·simp at h
 ·simp at h
theorem NF {t:TypeId} {m k x:Operand} (ho:o.op = .mapUpdate t m k x∨o.op = .insert t m k x):ia P o (AJ P t m k x):=by
 unfold AJ
 split
 ·rename_i kt et hu
  split
  ·rename_i d hd
   intro ρ A B base w ev cX v hs he hf
   simp only [List.map] at hf
   obtain ⟨rfl,w',h1,h2⟩:=QL hu hd hs (he m (by simp)) (he k (by simp)) (he x (by simp)) hf
   refine ⟨ρ,undef,.skip,w',?_,rfl,VR.of_flat (by simp [undef,flat,HH,uy]),h2⟩
   rcases ho with ho | ho <;> simp [execOp,ho,h1]
  ·trivial
 ·trivial
theorem uE:flat kN=true:=rfl
theorem agD {argTypes:Array TypeId} {args:Array Operand} (ho:o.op = .call ⟨.builtin .delete,args,argTypes⟩):ia P o (OU P argTypes.toList args.toList):=by
 unfold OU
 split
 ·rename_i t rest yM
  have Jk:argTypes[0]? = some t:=by rw [← Array.getElem?_toList,yM]; rfl
  split
  ·rename_i kt et hu
   split
   ·rename_i d hd
    intro ρ A B base w ev cX v hs he hf
    have hm:=he.map
    unfold aeB at hf
    split at hf
    ·rename_i k e1
     rw [e1] at hm
     obtain ⟨m',r1,e2,YF,hm⟩:=hm.cons_inv
     obtain ⟨k',r2,e3,hkv,hm⟩:=hm.cons_inv
     have:=hm.cl
     subst this e3
     have e4:args.map cX = #[m',k']:=by apply Array.ext'; simpa using e2
     have:=YF.Cs
     subst this
     cases hc:E9 P kt true k [] with
     | false=>rw [hc] at hf; simp at hf
     | true=>
      rw [hc] at hf
      simp at hf
      obtain ⟨rfl,rfl⟩:=hf
      obtain ⟨rfl,_,hkf,Ty⟩:=Cr hc hkv
      refine ⟨ρ,kN,.value kN,w,?_,rfl,VR.of_flat uE,.refl hs⟩
      simp [execOp,ho,resolve,invoke,builtin,e4,Builtin.delete_,Jk,bu hu,Ty,kN]
    ·rename_i r k e1
     rw [e1] at hm
     obtain ⟨m',r1,e2,YF,hm⟩:=hm.cons_inv
     obtain ⟨k',r2,e3,hkv,hm⟩:=hm.cons_inv
     have:=hm.cl
     subst this e3
     have e4:args.map cX = #[m',k']:=by apply Array.ext'; simpa using e2
     obtain ⟨lc,hl,rfl⟩:=YF.Kt
     split at hf
     ·rename_i es hg
      obtain ⟨l2,mq,jH⟩:=hs.rel.map _ _ hg
      rw [hl] at mq; simp at mq; subst mq
      obtain ⟨bp,clock,oA,TC⟩:=jH.oq
      cases hc:E9 P kt es.isEmpty k es with
      | false=>rw [hc] at hf; simp at hf
      | true=>
       rw [hc,cond_true] at hf
       obtain ⟨rfl,_,hkf,Ty⟩:=Cr hc hkv
       obtain ⟨q,hq,Gh⟩:=Option.map_eq_some_iff.1 hf
       obtain ⟨r',h1,h2⟩:=H2 hd TC hkf hq
       rw [← TC.isEmpty] at Ty
       cases q with
       | none=>
        have h2:r' = none:=h2
        subst h2
        simp at Gh
        obtain ⟨rfl,rfl⟩:=Gh
        refine ⟨ρ,kN,.value kN,_,?_,rfl,VR.of_flat uE,yO (Cg:=bp) (AQ:=clock) hs hg hl TC⟩
        simp [execOp,ho,resolve,invoke,builtin,e4,Builtin.delete_,Jk,bu hu,MapKept.run_getObj_map oA,Ty,h1,MapKept.run_setObj_map _ oA,kN]
       | some p=>
        obtain ⟨i,u⟩:=p
        obtain ⟨u',rfl,h3⟩:=h2
        simp at Gh
        obtain ⟨rfl,rfl⟩:=Gh
        refine ⟨ρ,kN,.value kN,_,?_,rfl,VR.of_flat uE,yO (Cg:=bp.eraseIdxIfInBounds i) (AQ:=clock) hs hg hl (by rw [Array.toList_eraseIdxIfInBounds]; exact TC.erase i)⟩
        simp [execOp,ho,resolve,invoke,builtin,e4,Builtin.delete_,Jk,bu hu,MapKept.run_getObj_map oA,Ty,h1,MapKept.run_setObj_map _ oA,kN]
     ·simp at hf
    ·simp at hf
   ·trivial
  ·trivial
 ·trivial
theorem aiA {argTypes:Array TypeId} {args:Array Operand} (ho:o.op = .call ⟨.builtin .clear,args,argTypes⟩):ia P o (Tv P argTypes.toList args.toList):=by
 unfold Tv
 split
 ·rename_i t yM
  have Jk:argTypes[0]? = some t:=by rw [← Array.getElem?_toList,yM]; rfl
  split
  ·rename_i kt et hu
   intro ρ A B base w ev cX v hs he hf
   have hm:=he.map
   unfold Yj at hf
   split at hf
   ·rename_i e1
    simp at hf
    obtain ⟨rfl,rfl⟩:=hf
    rw [e1] at hm
    obtain ⟨m',r1,e2,YF,hm⟩:=hm.cons_inv
    have:=hm.cl
    subst this
    have e4:args.map cX = #[m']:=by apply Array.ext'; simpa using e2
    have:=YF.Cs
    subst this
    refine ⟨ρ,kN,.value kN,w,?_,rfl,VR.of_flat uE,.refl hs⟩
    simp [execOp,ho,resolve,invoke,builtin,e4,Builtin.clear_,Jk,bu hu,kN]
   ·rename_i r e1
    rw [e1] at hm
    obtain ⟨m',r1,e2,YF,hm⟩:=hm.cons_inv
    have:=hm.cl
    subst this
    have e4:args.map cX = #[m']:=by apply Array.ext'; simpa using e2
    obtain ⟨lc,hl,rfl⟩:=YF.Kt
    split at hf
    ·rename_i es hg
     simp at hf
     obtain ⟨rfl,rfl⟩:=hf
     obtain ⟨l2,mq,jH⟩:=hs.rel.map _ _ hg
     rw [hl] at mq; simp at mq; subst mq
     obtain ⟨bp,clock,oA,TC⟩:=jH.oq
     refine ⟨ρ,kN,.value kN,_,?_,rfl,VR.of_flat uE,yO (Cg:=#[]) (AQ:=clock) hs hg hl rfl⟩
     simp [execOp,ho,resolve,invoke,builtin,e4,Builtin.clear_,Jk,bu hu,MapKept.run_getObj_map oA,MapKept.run_setObj_map _ oA,kN]
    ·simp at hf
   ·simp at hf
  ·rename_i e hu
   split
   ·rename_i z hz
    cases hzc:(flat z&&Nat.ble 1 z.cells.size) with
    | false=>exact True.intro
    | true=>
     rw [cond_true]
     obtain ⟨M5,BL⟩:=Bool.and_eq_true_iff.1 hzc
     have BL:=Nat.le_of_ble_eq_true BL
     intro ρ A B base w ev cX v hs he hf
     have hm:=he.map
     unfold ab9 at hf
     split at hf
     ·rename_i n c e1
      simp at hf
      obtain ⟨rfl,rfl⟩:=hf
      rw [e1] at hm
      obtain ⟨m',r1,e2,YF,hm⟩:=hm.cons_inv
      have:=hm.cl
      subst this
      have e4:args.map cX = #[m']:=by apply Array.ext'; simpa using e2
      have:=YF.jr
      subst this
      refine ⟨ρ,kN,.value kN,w,?_,rfl,VR.of_flat uE,.refl hs⟩
      simp [execOp,ho,resolve,invoke,builtin,e4,Builtin.clear_,Jk,bu hu,kN]
     ·rename_i a n c e1
      rw [e1] at hm
      obtain ⟨m',r1,e2,YF,hm⟩:=hm.cons_inv
      have:=hm.cl
      subst this
      have e4:args.map cX = #[m']:=by apply Array.ext'; simpa using e2
      obtain ⟨vg,D6,lc,a',c',hl,tf,HY,oM,rfl⟩:=YF.oa
      cases hn:Nat.beq n 0 with
      | true=>
       rw [hn] at hf
       simp at hf
       obtain ⟨rfl,rfl⟩:=hf
       have:=Nat.eq_of_beq_eq_true hn
       subst this
       refine ⟨ρ,kN,.value kN,w,?_,rfl,VR.of_flat uE,.refl hs⟩
       simp [execOp,ho,resolve,invoke,builtin,e4,Builtin.clear_,Jk,bu hu,kN]
      | false=>
       rw [hn,cond_false] at hf
       have hn0:=Nat.ne_of_beq_eq_false hn
       obtain ⟨B',iX,hf⟩:=Option.map_eq_some_iff.1 hf
       simp at hf
       obtain ⟨rfl,rfl⟩:=hf
       obtain ⟨w',h5,h6⟩:=AO (P:=P) hs iX hl ((Eg M5).repeat n)
       have:=HY (by omega)
       subst this
       have e5:Builtin.zeroCells z.cells n=⟨gq z.cells.toList n⟩:=O0 z.cells n BL
       refine ⟨ρ,kN,.value kN,w',?_,rfl,VR.of_flat uE,h6⟩
       obtain ⟨m,rfl⟩:=Nat.exists_eq_succ_of_ne_zero hn0
       simp [execOp,ho,resolve,invoke,builtin,e4,Builtin.clear_,Jk,bu hu,Mu hz,e5,h5,kN]
     ·simp at hf
   ·trivial
  ·trivial
 ·trivial
theorem alo {argTypes:Array TypeId} {args:Array Operand} (ho:o.op = .call ⟨.builtin .len,args,argTypes⟩):ia P o (XR P argTypes.toList args.toList):=by
 unfold XR
 split
 ·rename_i t et
  have yM:argTypes[0]? = some t:=by rw [← Array.getElem?_toList,et]; rfl
  split
  ·rename_i e hu; exact aiw ho yM hu
  ·rename_i hu; exact agA ho yM hu
  ·rename_i kt et' hu
   intro ρ A base w ev cX v hs he hf
   have hm:=he.map
   unfold aeC at hf
   split at hf
   ·rename_i e1
    rw [e1] at hm
    obtain ⟨y,ys,e2,h1,h2⟩:=hm.cons_inv
    have:=h2.cl
    subst this
    simp at hf; subst hf
    have:=h1.Cs
    subst this
    refine ⟨_,VR.of_flat rfl,?_⟩
    have e3:(args.map cX)[0]? = some (.map none):=by rw [nP,e2]; rfl
    simp [execOp,ho,resolve,invoke,builtin,Builtin.len_,yM,e3,bu hu,goInt]
   ·rename_i r e1
    rw [e1] at hm
    obtain ⟨y,ys,e2,h1,h2⟩:=hm.cons_inv
    have:=h2.cl
    subst this
    obtain ⟨lc,hl,rfl⟩:=h1.Kt
    split at hf
    ·rename_i es hg
     simp at hf; subst hf
     obtain ⟨l2,mq,jH⟩:=hs.map _ _ hg
     rw [hl] at mq; simp at mq; subst mq
     obtain ⟨bp,clock,oA,TC⟩:=jH.oq
     refine ⟨_,VR.of_flat rfl,?_⟩
     have e3:(args.map cX)[0]? = some (.map (some lc.cb)):=by rw [nP,e2]; rfl
     have fv:bp.size=es.length:=by rw [← Array.length_toList,TC.length]
     simp [execOp,ho,resolve,invoke,builtin,Builtin.len_,yM,e3,bu hu,goInt,MapKept.run_getObj_map oA,fv]
    ·simp at hf
   ·simp at hf
  ·trivial
 ·trivial
end
end Go.aE
end
section
namespace Go.aE
open Go
section
variable {P:Program} {o:Oper}
theorem adl {l:List UInt8} : ∀ {cs:List Value},Ec cs=some l→cs=kZ l:=by
 intro cs
 induction cs generalizing l with
 | nil=>intro h; simp [Ec] at h; subst h; rfl
 | cons c cs ih=>
  intro h
  cases c with
  | int k n=>
   cases k <;> cases n <;> simp only [Ec] at h <;> try (simp at h; done)
   rename_i m
   cases hb:Nat.blt m 256 with
   | false=>rw [hb] at h; simp at h
   | true=>
    rw [hb,cond_true] at h
    obtain ⟨r,hr,rfl⟩:=Option.map_eq_some_iff.1 h
    rw [Nat.blt_eq] at hb
    rw [ih hr]
    simp only [kZ,List.map_cons,List.cons.injEq,and_true]
    have:(UInt8.ofNat m).toNat=m:=by simp; omega
    rw [this]
    rfl
  | _=>simp [Ec] at h
theorem abv {ρ:aW} (l:List UInt8):dT ρ (kZ l) (kZ l):=by
 induction l with
 | nil=>exact .nil
 | cons x l ih=>exact .cons (by simp [VR]) ih
theorem Ku:∀ (l:List UInt8),uy (kZ l)=true
 | []=>rfl
 | x::l=>by show (true&&uy (kZ l))=true; rw [Ku l]; rfl
theorem YG {e:TypeId} (h:isByte P e=true):P.underlying e=some (.int .u8):=by
 unfold isByte at h
 split at h
 ·rename_i h'; exact h'
 ·simp at h
theorem WL {ρ:aW} {A:St} {base:Nat} {w:World} {cs b8:List Value} {c:Array Value} {n bc f:Nat} {fr:Nat×Nat} (T:TypeId) (WJ:n=1) (hs:uB ρ A base w) (hc:dT ρ cs b8) (h1:∀ v∈cs,scalar v=true)
  (ajz:∀ (j:Nat) (v:Value),b8[j]? = some v→c[j]? = some v) (fv:cs.length≤c.size) (yK:c.size≤fr.1) :
  ml base ρ A w (ρ.set A.next ⟨w.heap.size,0,c.size,n⟩) (A.grow bc f cs n) (w.alloc (.cells c T fr)):=by
 refine Dc (o:=.row cs n true (some (bc,f))) hs (fun x=>Gf _ _ _ _ _ _) (fun g x h=>?_) (fun g f' h=>?_) (by simp [St.grow]) (by simp [St.grow]) (fun x hx _=>by rw [Gf,if_neg (by omega)]) rfl ?_
 ·rw [wO]; split
  ·rename_i e; subst e; simp [h]
  ·exact h
 ·simp [dg.mz] at h; rw [wO,h.1]; simp
 ·refine ⟨fun i v hi=>?_,fun h=>by simp at h,fun _=>hs.size,fun _ j hj=>?_,by simpa using fv,fun _ h=>by simp at h,rfl,by simp,fun _ h=>absurd WJ h⟩
  ·obtain ⟨v',h2,h3⟩:=hc.get hi
   refine ⟨v',?_,h3.mono (hs.HU _),h1 v (List.mem_of_getElem? hi)⟩
   rw [Nat.zero_add,World.cell?_alloc_mark]
   exact ajz i v' h2
  ·simp only at hj ⊢
   rw [World.cell?_alloc_mark]
   refine ⟨?_,?_⟩
   ·rw [Array.getElem?_eq_getElem (by omega)]
    rfl
   ·have:(w.alloc (.cells c T fr)).heap[w.heap.size]? = some (.cells c T fr):=by
     show (w.heap.push (.cells c T fr))[w.heap.size]? = _
     simp
    simp only [World.frozen?,this]
    have mr : ¬ (fr.1≤j):=by omega
    simp [mr]
theorem TD {ρ:aW} {A:St} {base:Nat} {w:World} {src dst e:TypeId} {x x' v:Value} (hs:Rel ρ A.get A.members base w) (h1:P.underlying src=some (.slice e)) (h2:P.underlying dst=some .string) (he:P.underlying e=some (.int .u8))
  (hx:VR ρ x x') (h:C9 A [x] = some v):VR ρ v v∧(convert src dst x').run P w = .ok v w:=by
 unfold C9 at h
 split at h
 ·rename_i n c e1
  simp at e1; subst e1
  simp at h; subst h
  have:=hx.jr
  subst this
  refine ⟨VR.of_flat rfl,?_⟩
  rw [run_convert_bytes_string w src dst e none n c h1 he h2]
  rfl
 ·rename_i a n c e1
  simp at e1; subst e1
  obtain ⟨l,hl,rfl⟩:=Option.map_eq_some_iff.1 h
  obtain ⟨cs,HW,hb⟩:=Option.bind_eq_some_iff.1 hl
  have:=adl hb
  subst this
  obtain ⟨vg,D6,lc,a',c',lC,tf,HY,oM,rfl⟩:=hx.oa
  obtain ⟨b8,q1,q2,q3,q4⟩:=vf (P:=P) hs HW lC
  have ajE:b8=kZ l:=q1.oo (Ku l)
  subst ajE
  have hlen:l.length=n:=by simpa [kZ] using q2
  refine ⟨VR.of_flat rfl,?_⟩
  rw [run_convert_bytes_string w src dst e (some a') n c' h1 he h2]
  have BN:(loadCells a' n).run P w = .ok (kZ l).toArray w:=by
   by_cases hc:c' = 0
   ·have hn0:n=0:=by omega
    subst hn0
    have:l = []:=List.eq_nil_of_length_eq_zero hlen
    subst this
    exact run_loadCells_list w a' [] (by simp)
   ·rw [HY hc]; exact q4
  have rG:kZ l=(l.map (fun b=>(b.toNat:Int))).map (Value.int .u8):=by simp [kZ]
  rw [rG] at BN
  rw [run_bytesToString w a' n c' _ BN,foldl_push_byteCells]
  have YH:ByteArray.empty.data = #[]:=rfl
  rw [YH]
  simp
 ·simp at h
theorem TE {ρ:aW} {A B:St} {base:Nat} {w:World} {src dst e:TypeId} {x x' v:Value} (hs:uB ρ A base w) (h1:P.underlying src=some .string) (h2:P.underlying dst=some (.slice e)) (he:P.underlying e=some (.int .u8))
  (hx:VR ρ x x') (h:HR A [x] = some (v,B)):∃ aX v' w',(convert src dst x').run P w = .ok v' w'∧VR aX v v'∧ml base ρ A w aX B w':=by
 unfold HR at h
 split at h
 ·rename_i s e1
  simp at e1; subst e1
  simp at h
  obtain ⟨rfl,rfl⟩:=h
  have:=hx.oO
  subst this
  have hr:=run_bytes_of_string (P:=P) w src dst e s h1 h2 he
  have hge:=grownCap_ge w s.size 0 e
  have hds:s.data.size=s.size:=rfl
  have HZ:(bytesRow s (grownCap w s.size 0 e)).size=grownCap w s.size 0 e:=by
   unfold bytesRow
   simp [hds]
   omega
  have hdr:=ml.drew (w:=w) hs
  have hgo:=WL (w:=w.drew) (n:=1) (bc:=A.next) (f:=0) (c:=bytesRow s (grownCap w s.size 0 e)) (fr:=((bytesRow s (grownCap w s.size 0 e)).size,(bytesRow s (grownCap w s.size 0 e)).size+1)) e rfl hdr.jy
   (abv s.data.toList) (fun v hv=>by
    obtain ⟨b,_,rfl⟩:=List.mem_map.1 hv
    rfl) (fun j v hj=>by
    unfold bytesRow
    have bV:j < s.data.size:=by
     have:=(List.getElem?_eq_some_iff.1 hj).1
     simpa [kZ] using this
    rw [Array.getElem?_append_left (by simpa using bV)]
    simpa [kZ] using hj) (by rw [HZ]; simp [kZ,hds]; exact hge) (Nat.le_refl _)
  refine ⟨_,_,_,hr,?_,hdr.trans hgo⟩
  simp only [VR]
  refine ⟨trivial,Nat.le_refl _,_,⟨w.heap.size,0,none⟩,grownCap w s.size 0 e,aW.qa _ _ _,hge,fun _=>rfl,?_,rfl⟩
  rw [HZ]
  show 0+0+grownCap w s.size 0 e * 1≤grownCap w s.size 0 e
  omega
 ·simp at h
theorem ajF {src dst:TypeId} {x:Operand} (ho:o.op = .convert src dst x):ia P o (Bj P src dst x):=by
 unfold Bj
 split
 ·rename_i e h1 h2
  cases hb:isByte P e with
  | false=>exact True.intro
  | true=>
   rw [cond_true]
   intro ρ A base w ev cX v hs he hf
   obtain ⟨h3,h4⟩:=TD hs h1 h2 (YG hb) (he x (by simp)) hf
   exact ⟨v,h3,by simp [execOp,ho,h4]⟩
 ·rename_i e h1 h2
  cases hb:isByte P e with
  | false=>exact True.intro
  | true=>
   rw [cond_true]
   intro ρ A B base w ev cX v hs he hf
   obtain ⟨aX,v',w',h3,h4,h5⟩:=TE hs h1 h2 (YG hb) (he x (by simp)) hf
   exact ⟨aX,v',.value v',w',by simp [execOp,ho,h3],rfl,h4,h5⟩
 ·rename_i h1 h2
  intro ρ ev cX v he hf
  simp only [List.map] at hf
  unfold Yk at hf
  split at hf
  ·rename_i s e
   simp at e hf
   subst hf
   have hx:=he x (by simp)
   rw [e] at hx
   refine ⟨_,VR.of_flat rfl,fun w=>?_⟩
   simp [execOp,ho,convert,bu h1,bu h2,hx.oO]
  ·simp at hf
 ·exact aeG ho
theorem abw {ρ:aW} {A:St} {base:Nat} {w:World} {r:Nat} {s:List UInt8} {pos QM:Nat} {l:Loc} (hs:uB ρ A base w) (hg:A.get r=some (.iter s pos)) (lC:ρ r=some l) :
  ml base ρ A w ρ (A.put r (.iter s QM)) { w with heap:=w.heap.setIfInBounds l.cb (.stringIter ⟨⟨s⟩⟩ QM) }:=by
 obtain ⟨l',sv,ok⟩:=hs.rel.iter _ _ _ hg
 rw [lC] at sv; simp at sv; subst sv
 obtain ⟨Jl,oA⟩:=ok.oq
 have bV:l.cb < w.heap.size:=(Array.getElem?_eq_some_iff.1 oA).1
 have Fh:dg.fw (.iter s pos)=true:=rfl
 have hold:∀ k,k≠l.cb→(w.heap.setIfInBounds l.cb (.stringIter ⟨⟨s⟩⟩ QM))[k]? = w.heap[k]?:=fun k hk=>by
  rw [Array.getElem?_setIfInBounds_ne (Ne.symm hk)]
 have fv:(w.heap.setIfInBounds l.cb (.stringIter ⟨⟨s⟩⟩ QM)).size=w.heap.size:=by simp
 have hB:∀ x,(A.put r (.iter s QM)).get x=if x=r then some (.iter s QM) else A.get x:=fun x=>St.cd _ _ _ _
 have hmd:∀ o:dg,o.fw=true→o≠.dead:=by intro o h e; subst e; simp [dg.fw] at h
 have Yo:∀ x o l2,x≠r→A.get x=some o→o≠.dead→ρ x=some l2→Fe ρ base w l2 o→l2.cb≠l.cb:=by
  intro x o l2 hx jG hd uD jH e
  cases YE:o.fw with
  | true=>
   obtain ⟨_,_,_,_,e1,_⟩:=hs.rel.apart x r o _ l2 l hx jG hg YE Fh uD lC e
   simp [dg.mz] at e1
  | false=>
   cases o with
   | row cs bU own bP=>
    have jH:HS ρ base w l2 cs bU own bP:=jH
    have h1:own=false:=YE
    have:=jH.ta h1
    have:=ok.fw
    omega
   | map _=>simp [dg.fw] at YE
   | iter _ _=>simp [dg.fw] at YE
   | dead=>exact hd rfl
   | loop _ _ _ _ _ _=>simp [dg.fw] at YE
 refine ⟨⟨.HV ?_ ?_ ?_,fun b l2 h=>hs.lQ b l2 h,by simpa using hs.size,hs.Jj⟩,fun _ _=>rfl,⟨rfl,rfl,rfl,Nat.le_of_eq fv.symm,fun k hk hn=>hold k (fun e=>hn ⟨r,_,l,hg,Fh,lC,e.symm⟩)⟩,Nat.le_refl _,Nat.min_le_left _ _,fun x hx hxl=>?_,?_⟩
 ·intro x o jG hd
  rw [hB] at jG
  split at jG
  ·rename_i e; subst e; simp at jG; subst jG
   refine ⟨l,lC,ok.fw,Jl,?_⟩
   show (w.heap.setIfInBounds l.cb (.stringIter ⟨⟨s⟩⟩ QM))[l.cb]? = _
   rw [Array.getElem?_setIfInBounds_self_of_lt bV]
  ·rename_i e
   obtain ⟨l2,uD,jH⟩:=hs.rel.obj jG hd
   exact ⟨l2,uD,jH.mC (aW.le_refl _) (hold _ (Yo x o l2 e jG hd uD jH)) (Nat.le_of_eq fv.symm)⟩
 ·have QD:∀ x o,(A.put r (.iter s QM)).get x=some o→o.fw=true→∃ o',A.get x=some o'∧o'.fw=true∧o'.mz=o.mz:=by
   intro x o hx hm
   rw [hB] at hx
   split at hx
   ·rename_i e; subst e; simp at hx; subst hx; exact ⟨_,hg,rfl,rfl⟩
   ·exact ⟨o,hx,hm,rfl⟩
  intro b1 b2 o1 o2 l1 l2 dJ g1 g2 m1 m2 r1 r2 OY
  obtain ⟨p1,q1,n1,k1⟩:=QD _ _ g1 m1
  obtain ⟨p2,q2,n2,k2⟩:=QD _ _ g2 m2
  rw [← k1,← k2]
  exact hs.rel.apart b1 b2 p1 p2 l1 l2 dJ q1 q2 n1 n2 r1 r2 OY
 ·intro x o bc f jG hk
  rw [hB] at jG
  split at jG
  ·rename_i e; subst e; simp at jG; subst jG; simp [dg.mz] at hk
  ·exact hs.rel.bD x o bc f jG hk
 ·rw [St.Ym] at hxl
  have:Nat.min A.low r≤r:=Nat.min_le_right _ _
  rw [hB,if_neg (by omega)]
 ·rintro k hk ⟨x,o,l2,jG,hm,uD,rfl⟩
  rw [hB] at jG
  split at jG
  ·rename_i e; subst e
   rw [lC] at uD; simp at uD; subst uD
   exact ⟨x,_,l,hg,Fh,lC,rfl⟩
  ·exact ⟨x,o,l2,jG,hm,uD,rfl⟩
theorem aiB {t:TypeId} {x:Operand} (ho:o.op = .range t x):ia P o (Tw P t x):=by
 unfold Tw
 split
 ·rename_i hu
  intro ρ ev cX obj mk he hf
  simp only [List.map] at hf
  unfold ahz at hf
  split at hf
  ·rename_i s e
   simp at e
   have hx:=he x (by simp)
   rw [e] at hx
   have hx:=hx.oO
   simp at hf
   obtain ⟨rfl,rfl⟩:=hf
   refine ⟨.stringIter s 0,fun n=>.pointer (some ⟨n,0,none⟩),?_,fun w=>?_,fun aX n cb h=>VR.xy (a:=⟨n,0,none⟩) rfl h⟩
   ·show Obj.stringIter s 0 = .stringIter ⟨⟨s.data.toList⟩⟩ 0
    rfl
   ·simp [execOp,ho,Instr.range,bu hu,hx]
  ·simp at hf
 ·trivial
theorem Gi {w:World} {r:Nat} {s:ByteArray} {pos:Nat} (hb:w.heap[r]? = some (.stringIter s pos)):(getObj r).run P w = .ok (.stringIter s pos) w:=by
 simp [getObj,Sem.run,hb]
theorem TF {w:World} {r:Nat} {s:ByteArray} {pos:Nat} (o:Obj) (hb:w.heap[r]? = some (.stringIter s pos)):(setObj r o).run P w = .ok () { w with heap:=w.heap.setIfInBounds r o }:=by
 simp [setObj,Sem.run,hb]
theorem ajG {it:Operand} {b:Bool} (ho:o.op = .next it b):ia P o (cond b (.act agt [it]) .bad):=by
 cases b with
 | false=>trivial
 | true=>
  rw [cond_true]
  intro ρ A B base w ev cX v hs he hf
  simp only [List.map] at hf
  unfold agt at hf
  split at hf
  ·rename_i a e
   simp at e
   have hx:=he it (by simp)
   rw [e] at hx
   obtain ⟨vg,l,hl,hx⟩:=hx.iW
   cases ha0:Nat.beq a.off 0 with
   | false=>rw [ha0] at hf; simp at hf
   | true=>
    rw [ha0,cond_true] at hf
    have ha0:=Nat.eq_of_beq_eq_true ha0
    split at hf
    ·rename_i s pos hg
     obtain ⟨l2,mq,ok⟩:=hs.rel.iter _ _ _ hg
     rw [hl] at mq; simp at mq; subst mq
     obtain ⟨Jl,oA⟩:=ok.oq
     have fv:(⟨⟨s⟩⟩:ByteArray).size=s.length:=rfl
     rw [Jl,ha0] at hx
     cases bV:Nat.blt pos s.length with
     | true=>
      rw [bV,cond_true] at hf
      rw [Nat.blt_eq] at bV
      split at hf
      rename_i c width am0
      simp at hf
      obtain ⟨rfl,rfl⟩:=hf
      refine ⟨ρ,.tuple #[.bool true,.int .i64 (Int.ofNat pos),.int .i32 c],.value _,_,?_,rfl,VR.of_flat rfl,abw (QM:=pos+width) hs hg hl⟩
      simp [execOp,ho,Instr.next,hx,Gi oA,fv,bV,am0,TF _ oA,goInt]
     | false=>
      rw [bV,cond_false] at hf
      have hge : ¬ pos < s.length:=fun h=>by rw [← Nat.blt_eq] at h; rw [h] at bV; simp at bV
      simp at hf
      obtain ⟨rfl,rfl⟩:=hf
      refine ⟨ρ,.tuple #[.bool false],.value _,w,?_,rfl,VR.of_flat rfl,.refl hs⟩
      simp [execOp,ho,Instr.next,hx,Gi oA,fv,hge]
    ·simp at hf
  ·simp at hf
theorem qj (P:Program) (o:Oper):ia P o (compile P o.op):=by
 cases ho:o.op with
 | move x=>exact ajt ho
 | assign x=>exact agw ho
 | pick c a b=>exact aju ho
 | alloc t=>exact aiq ho
 | box t x=>exact alj ho
 | build t parts=>exact aiv ho
 | buildSlice t len parts=>exact Yv ho
 | load t a=>exact ajv ho
 | store t a x=>exact air ho
 | nilCheck x=>exact adf ho
 | binOp op t x y yt=>exact alk ho
 | unOp op t x=>exact amq ho
 | convert src dst x=>exact ajF ho
 | makeFunc fn first cap=>exact adg ho
 | fieldAddr s x f=>exact abq ho
 | field t x f=>exact ais ho
 | indexAddr t x ix=>exact abr ho
 | index t x ix=>exact ait ho
 | extract t i=>exact aeH ho
 | slice t x lo hi mx=>exact ok_slice ho
 | makeSlice t l c=>exact abu ho
 | makeInterface t x=>exact aix ho
 | range t x=>exact aiB ho
 | next it b=>exact ajG ho
 | makeMap t r=>exact aeK ho
 | lookup t x ix ok=>exact agC ho
 | mapUpdate t m k x=>exact NF (.inl ho)
 | insert t m k x=>exact NF (.inr ho)
 | call c=>
  show ia P o (yG P c)
  unfold yG
  split
  ·rename_i f hf; exact ajx ho hf
  ·rename_i b hb
   obtain ⟨callee,args,argTypes⟩:=c
   simp only at hb
   subst hb
   unfold Ed
   split
   ·exact alo ho
   ·exact alm ho
   ·exact aln ho
   ·exact agB ho
   ·exact ajD ho
   ·exact agD ho
   ·exact aiA ho
   ·trivial
  ·trivial
 | _=>trivial
end
end Go.aE
end
section
namespace Go.aE
noncomputable section
open Go
abbrev Fr (r:Option Nat):Fence:={ Fence.wide with round:=r }
def aW.res (ρ:aW) (n:Nat):aW:=fun b=>if b < n then ρ b else none
theorem aW.XU {ρ:aW} {n b:Nat} (h:b < n):ρ.res n b=ρ b:=by unfold aW.res; rw [if_pos h]
theorem OW.under {ρ:aW} {n:Nat} {fn yw:Fn} (hu:adb n fn=true) (h:OW ρ fn yw):OW (ρ.res n) fn yw:=by
 cases fn with
 | yield r=>
  obtain ⟨l,h1,h2⟩:=h
  simp only [adb] at hu
  rw [Nat.blt_eq] at hu
  exact ⟨l,by rw [aW.XU hu]; exact h1,h2⟩
 | _=>exact h
mutual
theorem VR.under {ρ:aW} {n:Nat} : ∀ {v v' : Value},aE.under n v=true→VR ρ v v'→VR (ρ.res n) v v'
 | .bool b,v,_,hv=>by simpa [VR] using hv
 | .int k n,v,_,hv=>by simpa [VR] using hv
 | .float k x,v,_,hv=>by simpa [VR] using hv
 | .complex k x y,v,_,hv=>by simpa [VR] using hv
 | .string s,v,_,hv=>by simpa [VR] using hv
 | .pointer none,v,_,hv=>by simpa [VR] using hv
 | .pointer (some a),v,hu,hv=>by
  simp only [aE.under] at hu
  rw [Nat.blt_eq] at hu
  simp only [VR] at hv ⊢
  rw [aW.XU hu]
  exact hv
 | .slice none n c,v,_,hv=>by simpa [VR] using hv
 | .slice (some a) n c,v,hu,hv=>by
  simp only [aE.under] at hu
  rw [Nat.blt_eq] at hu
  simp only [VR] at hv ⊢
  rw [aW.XU hu]
  exact hv
 | .map none,v,_,hv=>by simpa [VR] using hv
 | .map (some r),v,hu,hv=>by
  simp only [aE.under] at hu
  rw [Nat.blt_eq] at hu
  simp only [VR] at hv ⊢
  rw [aW.XU hu]
  exact hv
 | .chan _,_,_,_=>by simp [VR]
 | .func fn f c,v,hu,hv=>by
  simp only [aE.under,Bool.and_eq_true] at hu
  simp only [VR] at hv ⊢
  obtain ⟨f',c',h2,h3,yw,h4,h5⟩:=hv
  exact ⟨f',c',rC.under hu.1.2 h2,rC.under hu.2 h3,yw,OW.under hu.1.1 h4,h5⟩
 | .nilFunc,v,_,hv=>by simpa [VR] using hv
 | .iface t x,v,hu,hv=>by
  simp only [aE.under] at hu
  simp only [VR] at hv ⊢
  obtain ⟨x',h2,h3⟩:=hv
  exact ⟨x',VR.under hu h2,h3⟩
 | .nilIface,v,_,hv=>by simpa [VR] using hv
 | .agg cs,v,hu,hv=>by
  simp only [aE.under] at hu
  simp only [VR] at hv ⊢
  obtain ⟨x',h2,h3⟩:=hv
  exact ⟨x',rC.under hu h2,h3⟩
 | .tuple cs,v,hu,hv=>by
  simp only [aE.under] at hu
  simp only [VR] at hv ⊢
  obtain ⟨x',h2,h3⟩:=hv
  exact ⟨x',rC.under hu h2,h3⟩
theorem rC.under {ρ:aW} {n:Nat} : ∀ {v v' : Array Value},aE.Mr n v=true→rC ρ v v'→rC (ρ.res n) v v'
 | ⟨l⟩,a,hu,hv=>by simp only [aE.Mr] at hu; simp only [rC] at hv ⊢; exact dT.under hu hv
theorem dT.under {ρ:aW} {n:Nat} : ∀ {v v' : List Value},aE.XS n v=true→dT ρ v v'→dT (ρ.res n) v v'
 | [],l,_,hv=>by simpa [dT] using hv
 | x::xs,l,hu,hv=>by
  simp only [aE.XS,Bool.and_eq_true] at hu
  simp only [dT] at hv ⊢
  obtain ⟨y,ys,e,h1,h2⟩:=hv
  exact ⟨y,ys,e,VR.under hu.1 h1,dT.under hu.2 h2⟩
end
theorem H3 {acc:List Nat} {j:Nat} : ∀ {es:List Edge},Nat.testBit (sq acc es) j=true→∃ e∈es,binds e=true∧(j=e.on∨pf acc e.on j=true)
 | [],h=>by simp [sq] at h
 | e::es,h=>by
  simp only [sq] at h
  cases hb:binds e with
  | false=>
   rw [hb,cond_false] at h
   obtain ⟨e',h1,h2⟩:=H3 h
   exact ⟨e',by simp [h1],h2⟩
  | true=>
   rw [hb,cond_true] at h
   have e1:∀ a b:Nat,Nat.lor a b=a ||| b:=fun _ _=>rfl
   have e2:Nat.shiftLeft 1 e.on=1 <<< e.on:=rfl
   rw [e1,e1,e2,Nat.testBit_or,Nat.testBit_or,Bool.or_eq_true,Bool.or_eq_true] at h
   rcases h with (h | h) | h
   ·refine ⟨e,by simp,hb,.inl ?_⟩
    rw [Nat.one_shiftLeft,Nat.testBit_two_pow] at h
    exact (of_decide_eq_true h).symm
   ·exact ⟨e,by simp,hb,.inr h⟩
   ·obtain ⟨e',h1,h2⟩:=H3 h
    exact ⟨e',by simp [h1],h2⟩
theorem VI:∀ (os:List Oper) (acc:List Nat),∃ r,eK acc os=acc++r∧r.length=os.length
 | [],acc=>⟨[],by simp [eK]⟩
 | o::os,acc=>by
  obtain ⟨r,h1,h2⟩:=VI os (acc++[sq acc o.after.toList])
  exact ⟨sq acc o.after.toList::r,by simp [eK,h1],by simp [h2]⟩
theorem acd:∀ (os:List Oper) (acc:List Nat) (i j:Nat) (o:Oper),os[i]? = some o→(∀ e∈o.after.toList,binds e=true→e.on < acc.length+i)→
  pf (eK acc os) (acc.length+i) j=true→∃ e∈o.after.toList,binds e=true∧(j=e.on∨pf (eK acc os) e.on j=true)
 | [],acc,i,j,o,ho,_,_=>by simp at ho
 | o0::os,acc,0,j,o,ho,hf,h=>by
  simp at ho
  subst ho
  obtain ⟨r,h1,_⟩:=VI os (acc++[sq acc o0.after.toList])
  have e0:eK acc (o0::os)=acc++[sq acc o0.after.toList]++r:=by simp only [eK]; exact h1
  rw [e0] at h ⊢
  have e1:(acc++[sq acc o0.after.toList]++r).getD (acc.length+0) 0=sq acc o0.after.toList:=by simp [List.getD]
  unfold pf at h
  rw [e1] at h
  obtain ⟨e,h2,h3,h4⟩:=H3 h
  refine ⟨e,h2,h3,h4.imp id fun h5=>?_⟩
  have bV:=hf e h2 h3
  unfold pf at h5 ⊢
  have:(acc++[sq acc o0.after.toList]++r).getD e.on 0=acc.getD e.on 0:=by
   simp only [List.getD,List.append_assoc]
   rw [List.getElem?_append_left (by simpa using bV)]
  rw [this]
  exact h5
 | o0::os,acc,i+1,j,o,ho,hf,h=>by
  have hlen:(acc++[sq acc o0.after.toList]).length+i=acc.length+(i+1):=by simp; omega
  have:=acd os (acc++[sq acc o0.after.toList]) i j o (by simpa using ho) (by rw [hlen]; exact hf) (by rw [hlen]; exact h)
  simpa only [eK] using this
structure qk (P:Program) (all:List Oper):Prop where
 back:∀ i o,all[i]? = some o→∀ e∈o.after.toList,binds e=true→e.on < i
 apart:∀ i j x y,all[i]? = some y→all[j]? = some x→j < i→BJ P all x y=true→pf (eK [] all) i j=true
theorem NG {P:Program} {all:List Oper} {b:List Nat} {i:Nat} {y:Oper} : ∀ (xs:List Oper) (k:Nat),F8 P all b i y xs k=true→∀ (j:Nat) (x:Oper),xs[j]? = some x→k+j < i→BJ P all x y=true→pf b i (k+j)=true
 | [],k,_,j,x,hx,_,_=>by simp at hx
 | x0::xs,k,h,0,x,hx,bV,hc=>by
  simp at hx
  subst hx
  simp only [F8,Bool.and_eq_true,Bool.or_eq_true,Bool.not_eq_true'] at h
  rcases h.1 with (h1 | h1) | h1
  ·have:=Nat.le_of_ble_eq_true h1; omega
  ·rw [hc] at h1; simp at h1
  ·exact h1
 | x0::xs,k,h,j+1,x,hx,bV,hc=>by
  simp only [F8,Bool.and_eq_true] at h
  have:=NG xs (k+1) h.2 j x (by simpa using hx) (by omega) hc
  rwa [show k+1+j=k+(j+1) by omega] at this
theorem xA {P:Program} {all:List Oper} {b:List Nat} : ∀ (os:List Oper) (k:Nat),wL P all b os k=true→∀ (i:Nat) (o:Oper),os[i]? = some o→
  (∀ e∈o.after.toList,binds e=true→e.on < k+i)∧F8 P all b (k+i) o all 0=true
 | [],k,_,i,o,ho=>by simp at ho
 | o0::os,k,h,0,o,ho=>by
  simp at ho
  subst ho
  simp only [wL,Bool.and_eq_true,List.all_eq_true] at h
  refine ⟨fun e he hb=>?_,h.1.2⟩
  have:=h.1.1 e he
  rw [hb] at this
  simp at this
  exact this
 | o0::os,k,h,i+1,o,ho=>by
  simp only [wL,Bool.and_eq_true] at h
  have:=xA os (k+1) h.2 i o (by simpa using ho)
  rwa [show k+1+i=k+(i+1) by omega] at this
theorem BO {P:Program} {all:List Oper} (h:F9 P all=true):qk P all:=by
 unfold F9 at h
 refine ⟨fun i o ho=>?_,fun i j x y hy hx bV hc=>?_⟩
 ·have:=(xA all 0 h i o ho).1
  simpa using this
 ·have:=NG all 0 (xA all 0 h i y hy).2 j x hx (by simpa using bV) hc
  simpa using this
def pL (all:List Oper) (S:Nat→Bool):Prop:=∀ i j,S i=true→pf (eK [] all) i j=true→S j=true
def tB (all:List Oper) (S:Nat→Bool) (i:Nat):Prop:=∀ o,all[i]? = some o→∀ e∈o.after.toList,binds e=true→S e.on=true
theorem pL.ready {P:Program} {all:List Oper} (hf:qk P all) {S:Nat→Bool} (hc:pL all S) {i:Nat} {o:Oper} (ho:all[i]? = some o) (hr:tB all S i):∀ j,pf (eK [] all) i j=true→S j=true:=by
 intro j hj
 obtain ⟨e,h1,h2,h3⟩:=acd all [] i j o ho (by simpa using hf.back i o ho) (by simpa using hj)
 have hs:=hr o ho e h1 h2
 rcases h3 with rfl | h3
 ·exact hs
 ·exact hc _ _ hs h3
def cV (S:Nat→Bool) (i:Nat):Nat→Bool:=fun j=>S j||Nat.beq j i
theorem pL.insert {P:Program} {all:List Oper} (hf:qk P all) {S:Nat→Bool} (hc:pL all S) {i:Nat} {o:Oper} (ho:all[i]? = some o) (hr:tB all S i):pL all (cV S i):=by
 intro a b h1 h2
 simp only [cV,Bool.or_eq_true] at h1 ⊢
 rcases h1 with h1 | h1
 ·exact .inl (hc a b h1 h2)
 ·have:=Nat.eq_of_beq_eq_true h1
  subst this
  exact .inl (hc.ready hf ho hr b h2)
theorem ace (e:Edge):Region.binds .any e=binds e:=by
 unfold Region.binds binds
 cases e.ground <;> rfl
theorem Ei {all:List Oper} {bD:Array Bool} {i:Nat} (h:i∈Region.ready .any ⟨all⟩ bD):i < all.length∧bD.getD i true=false∧tB all (fun j=>bD.getD j false) i:=by
 unfold Region.ready at h
 rw [List.mem_filter,List.mem_range] at h
 obtain ⟨h1,h2⟩:=h
 simp only [Bool.and_eq_true,Bool.not_eq_true'] at h2
 refine ⟨by simpa using h1,h2.1,fun o ho e he hb=>?_⟩
 have e1:(⟨all⟩:Array Oper)[i]? = some o:=by simpa using ho
 rw [e1] at h2
 simp only [Option.map_some,Option.getD_some] at h2
 have:=Array.all_eq_true'.1 h2.2 e (by simpa using he)
 rw [ace,hb] at this
 simpa using this
theorem YI {P:Program} {all:List Oper} (hf:qk P all) {bD:Array Bool} (hl:bD.size=all.length) (h:Region.ready .any ⟨all⟩ bD = []):∀ i,i < all.length→bD.getD i false=true:=by
 intro i
 induction i using Nat.strongRecOn with
 | _ i ih=>
  intro hi
  cases hc:bD.getD i false with
  | true=>rfl
  | false=>
   exfalso
   obtain ⟨o,ho⟩:∃ o,all[i]? = some o:=⟨_,List.getElem?_eq_getElem hi⟩
   have hm:i∈Region.ready .any ⟨all⟩ bD:=by
    unfold Region.ready
    rw [List.mem_filter,List.mem_range]
    refine ⟨by simpa using hi,?_⟩
    have e1:(⟨all⟩:Array Oper)[i]? = some o:=by simpa using ho
    rw [e1]
    have e2:bD.getD i true=false:=by
     have:i < bD.size:=by omega
     simpa [Array.getD_eq_getD_getElem?,this] using hc
    simp only [e2,Bool.not_false,Bool.true_and,Option.map_some,Option.getD_some]
    rw [Array.all_eq_true']
    intro e he
    cases hb:binds e with
    | false=>rw [ace,hb]; rfl
    | true=>
     have bV:=hf.back i o ho e (by simpa using he) hb
     rw [ih e.on bV (by omega)]
     simp
   rw [h] at hm
   simp at hm
theorem count_set:∀ (l:List Bool) (i:Nat),l[i]? = some false→((l.set i true).filter (!·)).length+1=(l.filter (!·)).length
 | [],i,h=>by simp at h
 | x::l,0,h=>by
  simp at h
  subst h
  simp
 | x::l,i+1,h=>by
  have:=count_set l i (by simpa using h)
  cases x <;> simp at this ⊢ <;> omega
theorem aeL {P:Program} {all:List Oper} {r:Option Nat} (hf:qk P all) {Q:Exit→Act→World→Prop} (I:(Nat→Bool)→Act→World→Prop) (hI:∀ S S' a w,(∀ i,i < all.length→S i=S' i)→I S a w→I S' a w)
  (step:∀ S a w i o,I S a w→pL all S→all[i]? = some o→S i=false→tB all S i→(∀ j,S j=true→j < all.length)→wpOpIn (Fr r) 0 P ⟨all⟩ Q i (I (cV S i)) a w)
  (fin:∀ S a w,(∀ i,i < all.length→S i=true)→I S a w→Q .normal a w) :
  ∀ (fuel:Nat) (bD:Array Bool) (a:Act) (w:World),bD.size=all.length→(bD.toList.filter (!·)).length=fuel→pL all (fun j=>bD.getD j false)→I (fun j=>bD.getD j false) a w→wpAnyIn (Fr r) 0 P .any ⟨all⟩ Q fuel bD a w
 | 0,bD,a,w,hs,hn,hc,h=>by
  have pg:∀ i,i < all.length→bD.getD i false=true:=by
   intro i hi
   have:i < bD.size:=by omega
   cases hb:bD.getD i false with
   | true=>rfl
   | false=>
    exfalso
    have hg:bD[i] = false:=by simpa [Array.getD_eq_getD_getElem?,this] using hb
    have hm:bD[i]∈bD.toList.filter (!·):=by
     rw [List.mem_filter]
     exact ⟨by simp,by simp [hg]⟩
    rw [List.length_eq_zero_iff.1 hn] at hm
    simp at hm
  refine ⟨?_,fin _ a w pg h⟩
  cases hr:Region.ready .any ⟨all⟩ bD with
  | nil=>rfl
  | cons i r=>
   have:=Ei (all:=all) (bD:=bD) (i:=i) (by rw [hr]; simp)
   have h1:=pg i this.1
   have h2:bD.getD i true=true:=by
    have bV:i < bD.size:=by omega
    simpa [Array.getD_eq_getD_getElem?,bV] using h1
   rw [h2] at this
   simp at this
 | fuel+1,bD,a,w,hs,hn,hc,h=>by
  refine ⟨fun hr=>fin _ a w (YI hf hs hr) h,fun i hi=>?_⟩
  obtain ⟨bV,hl,sA⟩:=Ei hi
  obtain ⟨o,ho⟩:∃ o,all[i]? = some o:=⟨_,List.getElem?_eq_getElem bV⟩
  have Kv:i < bD.size:=by omega
  have oY:bD.getD i false=false:=by simpa [Array.getD_eq_getD_getElem?,Kv] using hl
  have YJ:∀ j,j < all.length→cV (fun j=>bD.getD j false) i j=(bD.setIfInBounds i true).getD j false:=by
   intro j hj
   by_cases e:j=i
   ·subst e
    simp [cV,Array.getD_eq_getD_getElem?,Kv]
   ·have:Nat.beq j i=false:=by
     cases hb:Nat.beq j i with
     | false=>rfl
     | true=>exact absurd (Nat.eq_of_beq_eq_true hb) e
    simp [cV,this,Array.getD_eq_getD_getElem?,Array.getElem?_setIfInBounds_ne (Ne.symm e)]
  refine wpOpIn_mono (fun a' w' h'=>?_) (step _ a w i o h hc ho oY sA (fun j hj=>by
   rcases Nat.lt_or_ge j all.length with h1 | h1
   ·exact h1
   ·have:bD.getD j false=false:=by
     rw [Array.getD_eq_getD_getElem?,Array.getElem?_eq_none (by omega)]
     rfl
    rw [this] at hj; simp at hj))
  refine aeL hf I hI step fin fuel _ a' w' (by simpa using hs) ?_ ?_ (hI _ _ a' w' YJ h')
  ·rw [Array.toList_setIfInBounds]
   have:=count_set bD.toList i (by simpa [Array.getD_eq_getD_getElem?,Kv] using oY)
   omega
  ·intro x y hx hy
   have hb:∀ z,(bD.setIfInBounds i true).getD z false=true↔cV (fun j=>bD.getD j false) i z=true:=by
    intro z
    rcases Nat.lt_or_ge z all.length with h1 | h1
    ·rw [YJ z h1]
    ·have e1:(bD.setIfInBounds i true).getD z false=false:=by
      rw [Array.getD_eq_getD_getElem?,Array.getElem?_eq_none (by simp; omega)]
      rfl
     have e2:bD.getD z false=false:=by
      rw [Array.getD_eq_getD_getElem?,Array.getElem?_eq_none (by omega)]
      rfl
     have e3:Nat.beq z i=false:=by
      cases hb:Nat.beq z i with
      | false=>rfl
      | true=>have:=Nat.eq_of_beq_eq_true hb; omega
     simp [cV,e1,e2,e3]
   rw [hb] at hx ⊢
   exact hc.insert hf ho sA x y hx hy
theorem Ct {P:Program} {all:List Oper} (hf:qk P all) {Q:Exit→Act→World→Prop} (I:(Nat→Bool)→Act→World→Prop) (hI:∀ S S' a w,(∀ i,i < all.length→S i=S' i)→I S a w→I S' a w)
  (step:∀ S a w i o,I S a w→pL all S→all[i]? = some o→S i=false→tB all S i→(∀ j,S j=true→j < all.length)→wpOp P ⟨all⟩ Q i (I (cV S i)) a w)
  (fin:∀ S a w,(∀ i,i < all.length→S i=true)→I S a w→Q .normal a w) :
  ∀ (fuel:Nat) (bD:Array Bool) (a:Act) (w:World),bD.size=all.length→(bD.toList.filter (!·)).length=fuel→pL all (fun j=>bD.getD j false)→I (fun j=>bD.getD j false) a w→wpAny P .any ⟨all⟩ Q fuel bD a w
 | 0,bD,a,w,hs,hn,hc,h=>by
  have pg:∀ i,i < all.length→bD.getD i false=true:=by
   intro i hi
   have:i < bD.size:=by omega
   cases hb:bD.getD i false with
   | true=>rfl
   | false=>
    exfalso
    have hg:bD[i] = false:=by simpa [Array.getD_eq_getD_getElem?,this] using hb
    have hm:bD[i]∈bD.toList.filter (!·):=by
     rw [List.mem_filter]
     exact ⟨by simp,by simp [hg]⟩
    rw [List.length_eq_zero_iff.1 hn] at hm
    simp at hm
  refine ⟨?_,fin _ a w pg h⟩
  cases hr:Region.ready .any ⟨all⟩ bD with
  | nil=>rfl
  | cons i r=>
   have:=Ei (all:=all) (bD:=bD) (i:=i) (by rw [hr]; simp)
   have h1:=pg i this.1
   have h2:bD.getD i true=true:=by
    have bV:i < bD.size:=by omega
    simpa [Array.getD_eq_getD_getElem?,bV] using h1
   rw [h2] at this
   simp at this
 | fuel+1,bD,a,w,hs,hn,hc,h=>by
  refine ⟨fun hr=>fin _ a w (YI hf hs hr) h,fun i hi=>?_⟩
  obtain ⟨bV,hl,sA⟩:=Ei hi
  obtain ⟨o,ho⟩:∃ o,all[i]? = some o:=⟨_,List.getElem?_eq_getElem bV⟩
  have Kv:i < bD.size:=by omega
  have oY:bD.getD i false=false:=by simpa [Array.getD_eq_getD_getElem?,Kv] using hl
  have YJ:∀ j,j < all.length→cV (fun j=>bD.getD j false) i j=(bD.setIfInBounds i true).getD j false:=by
   intro j hj
   by_cases e:j=i
   ·subst e
    simp [cV,Array.getD_eq_getD_getElem?,Kv]
   ·have:Nat.beq j i=false:=by
     cases hb:Nat.beq j i with
     | false=>rfl
     | true=>exact absurd (Nat.eq_of_beq_eq_true hb) e
    simp [cV,this,Array.getD_eq_getD_getElem?,Array.getElem?_setIfInBounds_ne (Ne.symm e)]
  refine wpOp_mono (fun a' w' h'=>?_) (step _ a w i o h hc ho oY sA (fun j hj=>by
   rcases Nat.lt_or_ge j all.length with h1 | h1
   ·exact h1
   ·have:bD.getD j false=false:=by
     rw [Array.getD_eq_getD_getElem?,Array.getElem?_eq_none (by omega)]
     rfl
    rw [this] at hj; simp at hj))
  refine Ct hf I hI step fin fuel _ a' w' (by simpa using hs) ?_ ?_ (hI _ _ a' w' YJ h')
  ·rw [Array.toList_setIfInBounds]
   have:=count_set bD.toList i (by simpa [Array.getD_eq_getD_getElem?,Kv] using oY)
   omega
  ·intro x y hx hy
   have hb:∀ z,(bD.setIfInBounds i true).getD z false=true↔cV (fun j=>bD.getD j false) i z=true:=by
    intro z
    rcases Nat.lt_or_ge z all.length with h1 | h1
    ·rw [YJ z h1]
    ·have e1:(bD.setIfInBounds i true).getD z false=false:=by
      rw [Array.getD_eq_getD_getElem?,Array.getElem?_eq_none (by simp; omega)]
      rfl
     have e2:bD.getD z false=false:=by
      rw [Array.getD_eq_getD_getElem?,Array.getElem?_eq_none (by omega)]
      rfl
     have e3:Nat.beq z i=false:=by
      cases hb:Nat.beq z i with
      | false=>rfl
      | true=>have:=Nat.eq_of_beq_eq_true hb; omega
     simp [cV,e1,e2,e3]
   rw [hb] at hx ⊢
   exact hc.insert hf ho sA x y hx hy
end
end Go.aE
end
section
namespace Go.aE
noncomputable section
open Go
def ams (all:List Oper) (i:Nat):Option Tmp:=(all[i]?).bind (·.dst)
end
end Go.aE
end
section
namespace Go.aE
noncomputable section
open Go
def Quiet (A0:St) (R:List Rec):Prop:=∀ r∈R,r.nx=A0.next∧(r.did = .val∨∃ f vs,r.did = .read f vs)
def lS (R:List Rec) (S:Nat→Bool):Option Nat:=ajr (R.filter fun r=>S r.i)
def QN (A0:St) (R:List Rec) (S:Nat→Bool):St:=amo A0 R (lS R S)
def writer (all:List Oper) (R:List Rec) (S:Nat→Bool) (x:Nat):Option Rec:=R.find? fun r=>S r.i&&(ams all r.i==some x)
def valOf (all:List Oper) (t0:Tm) (R:List Rec) (S:Nat→Bool) (x:Nat):Value:=
 match writer all R S x with
 | some r=>r.v
 | none=>(t0.get x).getD undef
def am1 (all:List Oper) (A0:St) (R:List Rec) (S:Nat→Bool) (x:Nat):Nat:=
 match writer all R S x with
 | some r=>r.nx
 | none=>A0.next
structure Inv (all:List Oper) (A0:St) (t0:Tm) (R:List Rec) (N:Nat) (d0:List Deferred) (base:Nat) (TG:aW) (w0:World) (S:Nat→Bool) (a:Act) (w:World) (ρ:aW):Prop where
 size:a.tmps.size=N
 defers:a.defers=d0
 tm:∀ x,VR (ρ.res (am1 all A0 R S x)) (valOf all t0 R S x) (a.tmps.getD x undef)
 core:ml base TG A0 w0 (ρ.res (QN A0 R S).next) (QN A0 R S) w
 news:∀ r∈R,S r.i=true→∀ id o,r.did = .make id o→ajq (eK [] all) (lS R S) r.i=false→
  ∃ c cb,ρ id=some (Yp o cb)∧Yq (ρ.res r.nx) o c∧w.heap[cb]? = some c∧w0.heap.size≤cb∧¬ Img (ρ.res (QN A0 R S).next) (QN A0 R S) cb
 newsApart:∀ r∈R,∀ s∈R,S r.i=true→S s.i=true→∀ id o id' o',r.did = .make id o→s.did = .make id' o'→ajq (eK [] all) (lS R S) r.i=false→ajq (eK [] all) (lS R S) s.i=false→
  r.i≠s.i→∀ l l',ρ id=some l→ρ id' = some l'→l.cb≠l'.cb
 unborn:∀ r∈R,S r.i=false→∀ id o,r.did = .make id o→ρ id=none
 lQ:∀ bl l,ρ bl=some l→bl < (QN A0 R S).next∨∃ r∈R,S r.i=true∧∃ o,r.did = .make bl o
section
variable {P:Program} {call:OV} {all:List Oper} {A0:St} {t0:Tm} {R:List Rec} {N:Nat} {d0:List Deferred} {base:Nat} {TG:aW} {w0:World}
theorem kT {x:Nat} : ∀ {xs:List Operand},Operand.tmp x∈xs→x∈qi xs
 | [],h=>by simp at h
 | .tmp t::xs,h=>by
  rcases List.mem_cons.1 h with h | h
  ·simp at h; subst h; simp [qi]
  ·simp [qi,kT h]
 | .const _::xs,h=>by
  rcases List.mem_cons.1 h with h | h
  ·simp at h
  ·simpa [qi] using kT h
 | .global _::xs,h=>by
  rcases List.mem_cons.1 h with h | h
  ·simp at h
  ·simpa [qi] using kT h
 | .func _::xs,h=>by
  rcases List.mem_cons.1 h with h | h
  ·simp at h
  ·simpa [qi] using kT h
end
end
end Go.aE
end
section
namespace Go.aE
noncomputable section
open Go
theorem uB.mC {ρ aX:aW} {A:St} {base:Nat} {w w' : World} (hs:uB ρ A base w) (hle:ρ.le aX) (am2:∀ b l,aX b=some l→b < A.next) (hw:∀ k,k < w.heap.size→w'.heap[k]? = w.heap[k]?) (fv:w.heap.size≤w'.heap.size):uB aX A base w':=by
 have TH:∀ b o l,A.get b=some o→o≠.dead→aX b=some l→ρ b=some l:=by
  intro b o l hg hd hr
  obtain ⟨l',h1,_⟩:=hs.rel.obj hg hd
  have:=hle _ _ h1
  rw [hr] at this; simp at this; subst this
  exact h1
 refine ⟨.HV (fun b o hg hd=>?_) ?_ hs.rel.bD,am2,Nat.le_trans hs.size fv,hs.Jj.mono hle⟩
 ·obtain ⟨l,h1,h2⟩:=hs.rel.obj hg hd
  exact ⟨l,hle _ _ h1,h2.mC hle (hw _ (h2.lt hd)) fv⟩
 ·intro b1 b2 o1 o2 l1 l2 dJ g1 g2 m1 m2 r1 r2 OY
  exact hs.rel.apart b1 b2 o1 o2 l1 l2 dJ g1 g2 m1 m2 (TH b1 o1 l1 g1 (by intro e; subst e; simp [dg.fw] at m1) r1) (TH b2 o2 l2 g2 (by intro e; subst e; simp [dg.fw] at m2) r2) OY
section
variable {P:Program} {call:OV} {all:List Oper} {A0:St} {t0:Tm} {R:List Rec} {N:Nat} {d0:List Deferred} {base:Nat} {TG:aW} {w0:World}
end
end
end Go.aE
end
section
namespace Go.aE
noncomputable section
open Go
theorem VR.undef {ρ:aW} : VR ρ undef undef:=VR.of_flat (by simp [Go.undef,flat,HH,uy])
section
variable {P:Program} {call:OV} {all:List Oper} {A0:St} {t0:Tm} {R:List Rec} {N:Nat} {d0:List Deferred} {base:Nat} {TG:aW} {w0:World}
end
end
end Go.aE
end
section
namespace Go.aE
noncomputable section
open Go
variable {P:Program} {call:OV} {all:List Oper} {A0:St}
end
end Go.aE
end
section
namespace Go.aE
noncomputable section
open Go
theorem put_defers (a:Act) (dst:Option Tmp) (v:Value):(a.put dst v).defers=a.defers:=by cases dst <;> rfl
def ak.out:ak→Exit
 | .normal=>.normal
 | .exit id=>.exit id
 | .goto l=>.goto l
 | .ret=>.ret
def mark (D:Nat):Deferred:={ target:=.collected D,args:=#[] }
section
variable {P:Program} {b:Frame} {a:Act} {k:List Item} {cs:List Frame} {w:World}
end
def XV (a:Act):ResultVar→Sem Value
 | .tmp t=>pure (a.tmps.getD t undef)
 | .cell ad ty=>do loadVar ty (← asAddr (a.tmps.getD ad undef))
theorem VJ (fn:Func) (a:Act):results fn a.tmps=(do let vs ← fn.results.mapM (XV a); pure (if h:vs.size=1 then vs[0] else .tuple vs)):=by
 unfold results
 congr 1
theorem mF {n m:Nat} (h:n≤m):∀ (c:Code),codeOk n c=true→codeOk m c=true
 | .region id ops d,hc=>by
  simp only [codeOk,List.all_eq_true] at hc ⊢
  intro o ho
  have:=hc o ho
  unfold Fa at this ⊢
  split at this
  ·rename_i d e
   rw [Nat.blt_eq] at this ⊢
   omega
  ·rfl
 | .seq a b,hc=>by simp only [codeOk,Bool.and_eq_true] at hc ⊢; exact ⟨mF h a hc.1,mF h b hc.2⟩
 | .cond _ a b,hc=>by simp only [codeOk,Bool.and_eq_true] at hc ⊢; exact ⟨mF h a hc.1,mF h b hc.2⟩
 | .block _ a,hc=>mF h a hc
 | .loop a,hc=>mF h a hc
 | .rangeFunc _ ps a b,hc=>by
  simp only [codeOk,Bool.and_eq_true,List.all_eq_true,Nat.blt_eq] at hc ⊢
  exact ⟨fun p hp=>Nat.lt_of_lt_of_le (hc.1 p hp) h,mF h a hc.2.1,mF h b hc.2.2⟩
 | .scope a,hc=>mF h a hc
 | .skip,_ | .exit _,_ | .label _,_ | .goto _,_ | .ret,_ | .refuse _,_=>rfl
def De (gl:List (Nat×List Value×Nat)) (b:Nat):Option Loc:=if b < gB then some (match gl.find? (fun x=>Nat.beq x.1 b) with | some x=>⟨b,0,x.2.1.length,x.2.2⟩ | none=>⟨b,0,0,0⟩) else none
theorem abx (gl:List (Nat×List Value×Nat)):aeE (De gl):=fun g hg=>by
 unfold De
 rw [if_pos hg]
 split <;> exact ⟨_,rfl,rfl,rfl⟩
theorem YK:∀ (gl:List (Nat×List Value×Nat)) (b:Nat),(Tx gl).get b=match gl.find? (fun x=>Nat.beq x.1 b) with | some x=>some (.row x.2.1 x.2.2 false none) | none=>none
 | [],b=>by simp [Tx]
 | (g,cs,e)::gl,b=>by
  simp only [Tx,Trie.om,List.find?_cons]
  cases hb:Nat.beq g b with
  | true=>simp [Nat.eq_of_beq_eq_true hb]
  | false=>rw [if_neg (fun e=>by subst e; simp at hb)]; exact YK gl b
def alp (w:World) (gl:List (Nat×List Value×Nat)):Prop:=∀ x∈gl,x.1 < gB∧x.1 < w.heap.size∧x.2.1.all (fun v=>flat v&&scalar v)=true∧∀ i v,x.2.1[i]? = some v→w.cell? ⟨x.1,i,none⟩=some v
theorem uB.aeM {w:World} {gl:List (Nat×List Value×Nat)} (h:alp w gl):uB (De gl) (St.Jj gl) w.heap.size w:=by
 have hg:∀ b o,(St.Jj gl).get b=some o→∃ x∈gl,x.1=b∧gl.find? (fun x=>Nat.beq x.1 b)=some x∧o = .row x.2.1 x.2.2 false none:=by
  intro b o e
  have e:(Tx gl).get b=some o:=e
  rw [YK] at e
  split at e
  ·rename_i x hx
   simp at e
   have:=List.find?_some hx
   exact ⟨x,List.mem_of_find?_eq_some hx,Nat.eq_of_beq_eq_true this,hx,e.symm⟩
  ·simp at e
 refine ⟨⟨fun b cs bU own bP e=>?_,fun b es e=>?_,fun b s pos e=>?_,fun b st ex t ps c d e=>?_,fun b1 b2 o1 o2 l1 l2 _ e1 _ m=>?_,fun b o bc f e k=>?_⟩,fun b l e=>?_,Nat.le_refl _,abx gl⟩
 ·obtain ⟨x,hx,rfl,hf,he⟩:=hg _ _ e
  simp at he
  obtain ⟨rfl,rfl,rfl,rfl⟩:=he
  obtain ⟨h1,h2,h3,h4⟩:=h x hx
  refine ⟨⟨x.1,0,x.2.1.length,x.2.2⟩,by unfold De; rw [if_pos h1,hf],⟨fun i v hi=>?_,fun _=>h2,fun h=>by simp at h,fun h=>by simp at h,by simp,fun h=>by simp at h,rfl,h2,fun h=>by simp at h⟩⟩
  have:=List.all_eq_true.1 h3 v (List.mem_of_getElem? hi)
  simp only [Bool.and_eq_true] at this
  exact ⟨v,by simpa using h4 i v hi,VR.of_flat this.1,this.2⟩
 ·obtain ⟨x,_,_,_,he⟩:=hg _ _ e; simp at he
 ·obtain ⟨x,_,_,_,he⟩:=hg _ _ e; simp at he
 ·obtain ⟨x,_,_,_,he⟩:=hg _ _ e; simp at he
 ·obtain ⟨x,_,_,_,he⟩:=hg _ _ e1; subst he; simp [dg.fw] at m
 ·obtain ⟨x,_,_,_,he⟩:=hg _ _ e; subst he; simp [dg.mz] at k
 ·unfold De at e
  split at e
  ·rename_i hb; exact hb
  ·simp at e
theorem uB.empty (w:World):uB (De []) St.empty w.heap.size w:=uB.aeM (gl:=[]) (fun _ h=>by simp at h)
end
end Go.aE
end
