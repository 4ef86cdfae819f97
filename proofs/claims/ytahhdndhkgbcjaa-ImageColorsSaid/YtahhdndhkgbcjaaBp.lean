/- Part of the proof of ImageColors: a machine that runs the program's code over open terms, shown to be the model's, and the plain models of its functions. No conditions. -/
import Derived.Test.YtahhdndhkgbcjaaAp
import Derived.Laws.Slices
import Derived.Laws.MakeOwn
import Derived.Laws.AppendOwn
import Derived.MapKept
import Derived.Laws.IdiomStrings
import Derived.OrdersIn
import Derived.LoopNIn
import Derived.RangeFuncRecord
import Derived.Scope
section
namespace Go.aE
open Go
section
variable {P:Program} {o:Oper}
theorem jv {ρ:aW} {y y' : Nat} {v v' : Value} {r:Nat} (hv:VR ρ v v') (h:VQ y v=some r) (hy:y≤y') :
  r≤y∧∀ code w,(Instr.sliceBound v' y' code).run P w = .ok r w:=by
 unfold VQ at h
 split at h
 ·rename_i k i
  obtain ⟨rfl,bU⟩:=yx h
  have:=hv.dv
  subst this
  have hle:r≤y:=by omega
  refine ⟨hle,fun code w=>?_⟩
  have:=run_sliceBound (P:=P) w k (r:Int) y' code (by omega) (by omega)
  simpa using this
 ·simp at h
theorem DY {ρ:aW} {ev cW:Operand→Value} {lo hi mx:Option Operand} {len cap XH l h m:Nat} (he:vO ρ ev cW (fS lo++fS hi++fS mx))
  (hb:rS len cap lo.isSome hi.isSome mx.isSome ((fS lo++fS hi++fS mx).map ev)=some (l,h,m)) (hc:cap≤XH) (DL:len≤cap) :
  l≤h∧h≤m∧m≤cap∧m≤(cond mx.isSome m XH)∧(cond mx.isSome m XH)≤XH∧(mx.isSome=false→m=cap)∧∀ b w,(Instr.sliceBounds b len XH (lo.map cW) (hi.map cW) (mx.map cW)).run P w = .ok (l,h,cond mx.isSome m XH) w:=by
 cases lo with
 | none=>
  cases hi with
  | none=>
   cases mx with
   | none=>
    simp [fS,rS] at hb
    obtain ⟨rfl,rfl,rfl⟩:=hb
    exact ⟨by omega,DL,Nat.le_refl _,hc,Nat.le_refl _,fun _=>rfl,fun b w=>by simp [Instr.sliceBounds]⟩
   | some x=>simp [fS,rS] at hb
  | some y=>
   cases mx with
   | none=>
    simp only [fS,Option.isSome,List.nil_append,List.append_nil,List.map,rS,Option.map_eq_some_iff] at hb
    obtain ⟨r,hr,hb⟩:=hb
    simp at hb
    obtain ⟨rfl,rfl,rfl⟩:=hb
    obtain ⟨h1,h2⟩:=jv (P:=P) (he y (by simp [fS])) hr hc
    exact ⟨by omega,h1,Nat.le_refl _,hc,Nat.le_refl _,fun _=>rfl,fun b w=>by simp [Instr.sliceBounds,h2]⟩
   | some z=>
    simp only [fS,Option.isSome,List.nil_append,List.map,List.cons_append,rS,Option.bind_eq_some_iff,Option.map_eq_some_iff] at hb
    obtain ⟨r,hr,q,hq,hb⟩:=hb
    simp at hb
    obtain ⟨rfl,rfl,rfl⟩:=hb
    obtain ⟨h1,h2⟩:=jv (P:=P) (he z (by simp [fS])) hr hc
    obtain ⟨h3,h4⟩:=jv (P:=P) (he y (by simp [fS])) hq (Nat.le_refl _)
    exact ⟨by omega,h3,h1,Nat.le_refl _,by simp; omega,fun h=>by simp at h,fun b w=>by simp [Instr.sliceBounds,h2,h4]⟩
 | some x=>
  cases hi with
  | none=>
   cases mx with
   | none=>
    simp only [fS,Option.isSome,List.append_nil,List.map,rS,Option.map_eq_some_iff] at hb
    obtain ⟨r,hr,hb⟩:=hb
    simp at hb
    obtain ⟨rfl,rfl,rfl⟩:=hb
    obtain ⟨h1,h2⟩:=jv (P:=P) (he x (by simp [fS])) hr (Nat.le_refl _)
    exact ⟨h1,DL,Nat.le_refl _,hc,Nat.le_refl _,fun _=>rfl,fun b w=>by simp [Instr.sliceBounds,h2]⟩
   | some x=>simp [fS,rS] at hb
  | some y=>
   cases mx with
   | none=>
    simp only [fS,Option.isSome,List.append_nil,List.map,List.cons_append,List.nil_append,rS,Option.bind_eq_some_iff,Option.map_eq_some_iff] at hb
    obtain ⟨r,hr,q,hq,hb⟩:=hb
    simp at hb
    obtain ⟨rfl,rfl,rfl⟩:=hb
    obtain ⟨h1,h2⟩:=jv (P:=P) (he y (by simp [fS])) hr hc
    obtain ⟨h3,h4⟩:=jv (P:=P) (he x (by simp [fS])) hq (Nat.le_refl _)
    exact ⟨h3,h1,Nat.le_refl _,hc,Nat.le_refl _,fun _=>rfl,fun b w=>by simp [Instr.sliceBounds,h2,h4]⟩
   | some z=>
    simp only [fS,Option.isSome,List.map,List.cons_append,List.nil_append,rS,Option.bind_eq_some_iff,Option.map_eq_some_iff] at hb
    obtain ⟨r,hr,q,hq,s,hs,hb⟩:=hb
    simp at hb
    obtain ⟨rfl,rfl,rfl⟩:=hb
    obtain ⟨h1,h2⟩:=jv (P:=P) (he z (by simp [fS])) hr hc
    obtain ⟨h3,h4⟩:=jv (P:=P) (he y (by simp [fS])) hq (Nat.le_refl _)
    obtain ⟨h5,h6⟩:=jv (P:=P) (he x (by simp [fS])) hs (Nat.le_refl _)
    exact ⟨h5,h3,h1,Nat.le_refl _,by simp; omega,fun h=>by simp at h,fun b w=>by simp [Instr.sliceBounds,h2,h4,h6]⟩
theorem XI {A:St} {b n:Nat} (h:Ar A b n=true):∃ cs own bQ,A.get b=some (.row cs n own bQ):=by
 unfold Ar at h
 split at h
 ·rename_i cs bW own bQ hg
  have:=Nat.eq_of_beq_eq_true h
  subst this
  exact ⟨cs,own,bQ,hg⟩
 ·simp at h
theorem ok_slice {t:TypeId} {x:Operand} {lo hi mx:Option Operand} (ho:o.op = .slice t x lo hi mx):hO P o (Fv P t x lo hi mx):=by
 unfold Fv
 split
 ·rename_i e hu
  split
  ·rename_i n hn
   cases FF:Nat.ble 1 n with
   | false=>exact True.intro
   | true=>
    rw [cond_true]
    have FF:1≤n:=Nat.le_of_ble_eq_true FF
    intro ρ A base w ev cW v hs he hf
    have hx:=he x (by simp)
    have hsl:P.underlying t=some (.slice (P.elem t))→True:=fun _=>trivial
    simp only [List.map,xY] at hf
    split at hf
    ·rename_i len cap vs e1
     simp only [List.cons.injEq] at e1
     obtain ⟨e1,e2⟩:=e1
     rw [e1] at hx
     have hx:=hx.jg
     subst e2
     obtain ⟨⟨l,h,m⟩,hb,rfl⟩:=Option.map_eq_some_iff.1 hf
     by_cases DL:len≤cap
     ·obtain ⟨h1,h2,h3,h4,h5,h6,h7⟩:=DY (P:=P) he.tail hb (Nat.le_refl _) DL
      have hm:cond mx.isSome m cap=m:=by cases hmx:mx.isSome <;> simp; exact (h6 hmx).symm
      refine ⟨.slice none (h - l) (m - l),by simp [VR],?_⟩
      simp [execOp,ho,Instr.sliceAt,Instr.slice,bx hu,hx,h7,hm,nN hn]
     ·
      have key:∀ b w,(Instr.sliceBounds b len cap (lo.map cW) (hi.map cW) (mx.map cW)).run P w = .ok (l,h,m) w:=by
       intro b w
       have aiD:cap≤len:=by omega
       cases lo with
       | none=>
        cases hi with
        | none=>
         cases mx with
         | none=>simp [fS,rS] at hb; obtain ⟨rfl,rfl,rfl⟩:=hb; simp [Instr.sliceBounds]
         | some x=>simp [fS,rS] at hb
        | some y=>
         cases mx with
         | none=>
          simp only [fS,Option.isSome,List.nil_append,List.append_nil,List.map,rS,Option.map_eq_some_iff] at hb
          obtain ⟨r,hr,hb⟩:=hb
          simp at hb
          obtain ⟨rfl,rfl,rfl⟩:=hb
          have:=(jv (P:=P) (he y (by simp [fS])) hr (Nat.le_refl _)).2
          simp [Instr.sliceBounds,this]
         | some z=>
          simp only [fS,Option.isSome,List.nil_append,List.map,List.cons_append,rS,Option.bind_eq_some_iff,Option.map_eq_some_iff] at hb
          obtain ⟨r,hr,q,hq,hb⟩:=hb
          simp at hb
          obtain ⟨rfl,rfl,rfl⟩:=hb
          have h2:=(jv (P:=P) (he z (by simp [fS])) hr (Nat.le_refl _)).2
          have h4:=(jv (P:=P) (he y (by simp [fS])) hq (Nat.le_refl _)).2
          simp [Instr.sliceBounds,h2,h4]
       | some x'=>
        cases hi with
        | none=>
         cases mx with
         | none=>
          simp only [fS,Option.isSome,List.append_nil,List.map,rS,Option.map_eq_some_iff] at hb
          obtain ⟨r,hr,hb⟩:=hb
          simp at hb
          obtain ⟨rfl,rfl,rfl⟩:=hb
          have:=(jv (P:=P) (he x' (by simp [fS])) hr (Nat.le_refl _)).2
          simp [Instr.sliceBounds,this]
         | some x=>simp [fS,rS] at hb
        | some y=>
         cases mx with
         | none=>
          simp only [fS,Option.isSome,List.append_nil,List.map,List.cons_append,List.nil_append,rS,Option.bind_eq_some_iff,Option.map_eq_some_iff] at hb
          obtain ⟨r,hr,q,hq,hb⟩:=hb
          simp at hb
          obtain ⟨rfl,rfl,rfl⟩:=hb
          have h2:=(jv (P:=P) (he y (by simp [fS])) hr (Nat.le_refl _)).2
          have h4:=(jv (P:=P) (he x' (by simp [fS])) hq (Nat.le_refl _)).2
          simp [Instr.sliceBounds,h2,h4]
         | some z=>
          simp only [fS,Option.isSome,List.map,List.cons_append,List.nil_append,rS,Option.bind_eq_some_iff,Option.map_eq_some_iff] at hb
          obtain ⟨r,hr,q,hq,s,hs',hb⟩:=hb
          simp at hb
          obtain ⟨rfl,rfl,rfl⟩:=hb
          have h2:=(jv (P:=P) (he z (by simp [fS])) hr (Nat.le_refl _)).2
          have h4:=(jv (P:=P) (he y (by simp [fS])) hq (Nat.le_refl _)).2
          have h6:=(jv (P:=P) (he x' (by simp [fS])) hs' (Nat.le_refl _)).2
          simp [Instr.sliceBounds,h2,h4,h6]
      refine ⟨.slice none (h - l) (m - l),by simp [VR],?_⟩
      simp [execOp,ho,Instr.sliceAt,Instr.slice,bx hu,hx,key,nN hn]
    ·rename_i a len cap vs e1
     simp only [List.cons.injEq] at e1
     obtain ⟨e1,e2⟩:=e1
     rw [e1] at hx
     subst e2
     obtain ⟨u4,DL,lc,a',c',hl,sQ,JM,oB,h'⟩:=hx.nV
     cases hg:(dm a&&Ar A a.block n) with
     | false=>rw [hg] at hf; simp at hf
     | true=>
      rw [hg,cond_true] at hf
      obtain ⟨_,PL⟩:=Bool.and_eq_true_iff.1 hg
      obtain ⟨cs,own,bQ,jz⟩:=XI PL
      obtain ⟨l2,mH,ok⟩:=hs.row _ _ _ _ _ jz
      rw [hl] at mH; simp at mH; subst mH
      have hez:lc.bW=n:=ok.bW
      obtain ⟨⟨l,h,m⟩,hb,rfl⟩:=Option.map_eq_some_iff.1 hf
      obtain ⟨h1,h2,h3,h4,h5,h6,h7⟩:=DY (P:=P) he.tail hb sQ DL
      generalize hm' : cond mx.isSome m c' = m' at h4 h5 h7
      refine ⟨.slice (some (if m' = l then a' else a'.add (l * n))) (h - l) (m' - l),?_,?_⟩
      ·simp only [VR]
       refine ⟨trivial,by omega,lc,_,m' - l,hl,by omega,fun en=>?_,?_,rfl⟩
       ·rw [if_neg (by omega),JM (by omega),kQ]
        simp only [Nat.add_assoc]
       ·rw [hez]
        rw [hez] at oB
        have e5:l * n+(m' - l) * n=m' * n:=by rw [← Nat.add_mul]; congr 1; omega
        have e6:m' * n≤c' * n:=Nat.mul_le_mul_right _ h5
        omega
      ·simp only [execOp,ho,Instr.sliceAt,Instr.slice,Sem.run_bind,bx hu,Result.andThen_ok,h',h7,nN hn]
       by_cases hml:m' = l <;> simp [hml]
    ·simp at hf
  ·trivial
 ·rename_i len e hu
  split
  ·rename_i n hn
   cases FF:Nat.ble 1 n with
   | false=>exact True.intro
   | true=>
    rw [cond_true]
    intro ρ A base w ev cW v hs he hf
    have hx:=he x (by simp)
    simp only [List.map,Hf] at hf
    split at hf
    ·rename_i a vs e1
     simp only [List.cons.injEq] at e1
     obtain ⟨e1,e2⟩:=e1
     rw [e1] at hx
     subst e2
     obtain ⟨u4,lc,hl,h'⟩:=hx.iL
     cases hg:(dm a&&Ar A a.block n&&Nat.ble (a.off+len * n) (Py A a.block)) with
     | false=>rw [hg] at hf; simp at hf
     | true=>
      rw [hg,cond_true] at hf
      simp only [Bool.and_eq_true] at hg
      obtain ⟨⟨_,PL⟩,hlen⟩:=hg
      obtain ⟨cs,own,bQ,jz⟩:=XI PL
      obtain ⟨l2,mH,ok⟩:=hs.row _ _ _ _ _ jz
      rw [hl] at mH; simp at mH; subst mH
      have hez:lc.bW=n:=ok.bW
      have hlen:=Nat.le_of_ble_eq_true hlen
      have Mo:Py A a.block=cs.length:=by unfold Py; rw [jz]
      rw [Mo] at hlen
      have hft:=ok.fits
      obtain ⟨⟨l,h,m⟩,hb,rfl⟩:=Option.map_eq_some_iff.1 hf
      obtain ⟨h1,h2,h3,h4,h5,h6,h7⟩:=DY (P:=P) he.tail hb (Nat.le_refl _) (Nat.le_refl _)
      have hm:cond mx.isSome m len=m:=by cases hmx:mx.isSome <;> simp; exact (h6 hmx).symm
      rw [hm] at h7
      refine ⟨.slice (some (if m=l then ⟨lc.cb,lc.ej+a.off,none⟩ else (⟨lc.cb,lc.ej+a.off,none⟩:Addr).add (l * n))) (h - l) (m - l),?_,?_⟩
      ·simp only [VR]
       refine ⟨trivial,by omega,lc,_,m - l,hl,Nat.le_refl _,fun en=>?_,?_,rfl⟩
       ·rw [if_neg (by omega),kQ]
        simp only [Nat.add_assoc]
       ·rw [hez]
        have e5:l * n+(m - l) * n=m * n:=by rw [← Nat.add_mul]; congr 1; omega
        have e6:m * n≤len * n:=Nat.mul_le_mul_right _ h3
        omega
      ·simp only [execOp,ho,Instr.sliceAt,Sem.run_bind,bx hu,Result.andThen_ok,h',Instr.sureAddr,Sem.run_pure,h7,nN hn]
    ·simp at hf
  ·trivial
 ·rename_i hu
  cases hmx:mx with
  | some z=>exact True.intro
  | none=>
   show hO P o (.pure (CR lo.isSome hi.isSome) (x::(fS lo++fS hi)))
   intro ρ ev cW v he hf
   have hx:=he x (by simp)
   simp only [List.map,CR] at hf
   split at hf
   ·rename_i s vs e1
    simp only [List.cons.injEq] at e1
    obtain ⟨e1,e2⟩:=e1
    rw [e1] at hx
    have hx:=hx.oC
    subst e2
    obtain ⟨⟨l,h,m⟩,hb,rfl⟩:=Option.map_eq_some_iff.1 hf
    have A6:vO ρ ev cW (fS lo++fS hi++fS (none:Option Operand)):=by simpa [fS] using he.tail
    obtain ⟨h1,h2,h3,h4,h5,h6,h7⟩:=DY (P:=P) (mx:=none) A6 (by simpa [fS] using hb) (Nat.le_refl _) (Nat.le_refl _)
    simp only [Option.isSome_none,cond_false,Option.map_none] at h7
    refine ⟨.string (s.extract l h),?_,fun w=>?_⟩
    ·have e:(⟨⟨(s.data.toList.drop l).take (h - l)⟩⟩:ByteArray)=s.extract l h:=by
      apply ByteArray.ext
      apply Array.ext'
      simp [ByteArray.data_extract,List.extract_eq_take_drop]
     rw [e]
     simp [VR]
    ·simp [execOp,ho,Instr.sliceAt,Instr.slice,bx hu,hx,hmx,h7]
   ·simp at hf
 ·trivial
theorem aaF {t:TypeId} {l c:Operand} (ho:o.op = .makeSlice t l c):hO P o (wy P t l c):=by
 unfold wy
 split
 ·rename_i e hu
  split
  ·rename_i i hi
   split
   ·rename_i z hz
    cases hc:(Nat.ble 1 i.size&&Nat.ble 1 i.bytes&&Nat.beq z.cells.size i.size&&flat z&&z.cells.toList.all scalar) with
    | false=>exact True.intro
    | true=>
     rw [cond_true]
     simp only [Bool.and_eq_true] at hc
     obtain ⟨⟨⟨⟨h1,h2⟩,h3⟩,h4⟩,h5⟩:=hc
     have hn:1≤i.size:=Nat.le_of_ble_eq_true h1
     have hb:1≤i.bytes:=Nat.le_of_ble_eq_true h2
     have hzs:z.cells.size=i.size:=Nat.eq_of_beq_eq_true h3
     rw [List.all_eq_true] at h5
     intro ρ ev cW obj mk he hf
     simp only [List.map,A4] at hf
     split at hf
     ·rename_i k1 l0 k2 c0 e1
      simp only [List.cons.injEq,and_true] at e1
      cases hk:(Nat.ble l0 c0&&Nat.ble (i.bytes * c0) 281474976710656) with
      | false=>rw [hk] at hf; simp at hf
      | true=>
       rw [hk,cond_true] at hf
       obtain ⟨FG,hk2⟩:=Bool.and_eq_true_iff.1 hk
       have hle:l0≤c0:=Nat.le_of_ble_eq_true FG
       have XJ:i.bytes * c0≤281474976710656:=Nat.le_of_ble_eq_true hk2
       simp only [Option.some.injEq,Prod.mk.injEq] at hf
       obtain ⟨rfl,rfl⟩:=hf
       have hl:=he l (by simp)
       have sQ:=he c (by simp)
       rw [e1.1] at hl
       rw [e1.2] at sQ
       have hl:=hl.dv
       have sQ:=sQ.dv
       have e2:madeCells z.cells (c0 * i.size)=⟨gk z.cells.toList c0⟩:=by
        unfold madeCells
        rw [← hzs]
        exact Oc z.cells c0 (by omega)
       have hc0:c0≤i.bytes * c0:=Nat.le_mul_of_pos_left _ hb
       have alT:∀ (z:List Value) (k:Nat),(gk z k).length=k * z.length:=by
        intro z k
        induction k with
        | zero=>simp [gk]
        | succ k ih=>simp [gk,ih,Nat.succ_mul,Nat.add_comm]
       have alU:∀ (z:List Value) (k:Nat) (v:Value),v∈gk z k→v∈z:=by
        intro z k v
        induction k with
        | zero=>simp [gk]
        | succ k ih=>simp only [gk,List.mem_append]; exact fun h=>h.elim id ih
       refine ⟨.cells ⟨gk z.cells.toList c0⟩ e,fun b=>.slice (some ⟨b,0,none⟩) l0 c0,⟨_,e,rfl,dV.repeat (DX h4) c0,fun v hv=>h5 v (alU _ _ _ hv)⟩,fun w=>?_,fun aX n cb lg=>?_⟩
       ·have hr:=run_make (P:=P) w t e i z hu hi hz k1 k2 (l0:Int) (c0:Int) (by omega) (by omega) (by rw [← Int.natCast_mul]; exact Int.ofNat_le.2 XJ) (by omega)
        have r5:cW l = .int k1 (l0:Int):=hl
        have hc' : cW c = .int k2 (c0:Int):=sQ
        simp only [Int.toNat_natCast,e2] at hr
        simp [execOp,ho,r5,hc',hr]
       ·simp only [VR]
        refine ⟨trivial,hle,_,⟨cb,0,none⟩,c0,lg,Nat.le_refl _,fun _=>rfl,?_,rfl⟩
        show 0+0+c0 * i.size≤(gk z.cells.toList c0).length
        rw [alT]
        simp [hzs]
     ·simp at hf
   ·trivial
  ·trivial
 ·trivial
theorem ahw {t:TypeId} {x:Operand} (ho:o.op = .makeInterface t x):hO P o (Sv P t x):=by
 unfold Sv
 split
 ·trivial
 ·rename_i d hu hd
  intro ρ ev cW v he hf
  simp [agy] at hf
  subst hf
  refine ⟨.iface t (cW x),by simp only [VR]; exact ⟨_,he x (by simp),rfl⟩,fun w=>?_⟩
  simp only [execOp,ho,Instr.makeInterface,Sem.run_bind,bx hd,Result.andThen_ok]
  cases d <;> first | rfl | exact absurd rfl (hu _)
 ·trivial
theorem PM {ρ:aW} {s:List Value→Sem Value} {vs cR:List Value} {v:Value} (hv:dV ρ vs cR) (h:Hd P s vs=some v):VR ρ v v∧∀ w,(s cR).run P w = .ok v w:=by
 unfold Hd at h
 cases hf:ug vs with
 | false=>rw [hf] at h; simp at h
 | true=>
  rw [hf,cond_true] at h
  obtain ⟨u,hu,h⟩:=Option.bind_eq_some_iff.1 h
  cases hfu:flat u with
  | false=>rw [hfu] at h; simp at h
  | true=>
   rw [hfu] at h
   simp at h
   subst h
   rw [dV.n9 hf hv]
   exact ⟨VR.of_flat hfu,fun w=>hY hu w⟩
theorem akm {argTypes:Array TypeId} {args:Array Operand} (ho:o.op = .call ⟨.builtin .min,args,argTypes⟩):hO P o (.pure (Hd P fun vs=>Builtin.min_ #[] 0 ⟨vs⟩) args.toList):=by
 intro ρ ev cW v he hf
 obtain ⟨h1,h2⟩:=PM he.map hf
 refine ⟨v,h1,fun w=>?_⟩
 have h3:=h2 w
 simp only [Builtin.min_] at h3
 simp only [execOp,ho,resolve,Sem.run_bind,Sem.run_pure,Result.andThen_ok,invoke,builtin,Builtin.min_,nB]
 simp only [h3,Result.andThen_ok]
theorem akn {argTypes:Array TypeId} {args:Array Operand} (ho:o.op = .call ⟨.builtin .max,args,argTypes⟩):hO P o (.pure (Hd P fun vs=>Builtin.max_ #[] 0 ⟨vs⟩) args.toList):=by
 intro ρ ev cW v he hf
 obtain ⟨h1,h2⟩:=PM he.map hf
 refine ⟨v,h1,fun w=>?_⟩
 have h3:=h2 w
 simp only [Builtin.max_] at h3
 simp only [execOp,ho,resolve,Sem.run_bind,Sem.run_pure,Result.andThen_ok,invoke,builtin,Builtin.max_,nB]
 simp only [h3,Result.andThen_ok]
theorem UQ {ρ:aW} {x x' : Value} {k:Nat} (hx:VR ρ x x') (h:UM x=some k):Builtin.lenOf x' = Sem.pure k:=by
 unfold UM at h
 split at h
 ·obtain ⟨a',c',rfl⟩:=XG hx
  simp at h; subst h; rfl
 ·have:=hx.oC
  subst this
  simp at h; subst h; rfl
 ·simp at h
theorem Ay {ρ:aW} {A:St} {base:Nat} {w:World} {n k:Nat} {x x' : Value} {new:List Value} (hs:Rel ρ A.get A.members base w) (hx:VR ρ x x') (h:uY A n k x=some new)
  (hk:∀ m,UM x=some m→k≤m) (hn:1≤n):∃ cJ,dV ρ new cJ∧(∀ v∈new,scalar v=true)∧new.length=k * n∧(Builtin.firstCells n k x').run P w = .ok cJ.toArray w:=by
 unfold uY at h
 split at h
 ·rename_i a len cap
  obtain ⟨u4,DL,lc,a',c',hl,sQ,JM,oB,rfl⟩:=hx.nV
  have hkl:=hk len rfl
  obtain ⟨b8,h1,h2,h3,h4⟩:=u3 (P:=P) hs h hl
  refine ⟨b8,h1,h3,h2,?_⟩
  simp only [Builtin.firstCells]
  by_cases hc:c' = 0
  ·have DJ:k=0:=by omega
   subst DJ
   have m4:new = []:=by rw [Nat.zero_mul] at h2; exact List.eq_nil_of_length_eq_zero h2
   subst m4
   rw [h1.ck,Nat.zero_mul]
   exact run_loadCells_list w a' [] (by simp)
  ·rw [JM hc]; exact h4
 ·rename_i len cap
  have:=hx.jg
  subst this
  cases hb:Nat.beq k 0 with
  | false=>rw [hb] at h; simp at h
  | true=>
   rw [hb] at h
   simp at h
   subst h
   have DJ:=Nat.eq_of_beq_eq_true hb
   subst DJ
   exact ⟨[],.nil,by simp,by simp,run_firstCells_none w n 0 len cap⟩
 ·rename_i s
  have:=hx.oC
  subst this
  cases hb:Nat.beq n 1 with
  | false=>rw [hb] at h; simp at h
  | true=>
   rw [hb] at h
   simp at h
   have hn1:=Nat.eq_of_beq_eq_true hb
   subst hn1
   have rf:=hk s.size rfl
   have fq:s.data.size=s.size:=rfl
   have fl:∀ l:List UInt8,dV ρ (l.map fun b=>Value.int .u8 b.toNat) (l.map fun b=>Value.int .u8 b.toNat):=by
    intro l
    induction l with
    | nil=>exact .nil
    | cons x l ih=>exact .cons (by simp [VR]) ih
   subst h
   refine ⟨((s.data.toList.take k).map fun b=>.int .u8 b.toNat),by simpa using fl (s.data.toList.take k),?_,?_,?_⟩
   ·intro v hv
    obtain ⟨b,_,rfl⟩:=List.mem_map.1 (by first | exact hv | exact List.mem_of_mem_take hv)
    rfl
   ·simp; omega
   ·simp only [Builtin.firstCells]
    rw [Sem.run_pure]
    congr 1
    apply Array.ext'
    simp [ByteArray.data_extract,List.extract_eq_take_drop]
 ·simp at h
theorem zS (t u ty e:TypeId) (i:TypeInfo) (ht:P.underlying t=some (.slice e)) (hi:P.info? e=some i) (hu:Hg P u=true) (base:Option Addr) (eo oY:Nat) (x:Value) (n:Nat) (news:List Value)
  (hlen:Builtin.lenOf x=Sem.pure n) (w:World) (u5:(Builtin.firstCells i.size n x).run P w = .ok news.toArray w) (Bz:eo+n≤oY) :
  (Builtin.append_ #[t,u] ty #[.slice base eo oY,x]).run P w=(((match base with | some a=>storeCells (a.add (eo * i.size)) news | none=>pure ():Sem Unit).run P w).andThen fun _ w=>.ok (.slice base (eo+n) oY) w):=by
 have hk:(∃ e',P.underlying u=some (.slice e'))∨P.underlying u=some .string:=by
  unfold Hg at hu
  split at hu
  ·rename_i e' h; exact .inl ⟨_,h⟩
  ·rename_i h; exact .inr h
  ·simp at hu
 rcases hk with ⟨e',hk⟩ | hk <;> cases base <;> simp [Builtin.append_,bx ht,bx hk,sizeOf,typeInfo,hi,hlen,Bz,u5]
theorem SD (t u ty e:TypeId) (i:TypeInfo) (z:Value) (ht:P.underlying t=some (.slice e)) (hi:P.info? e=some i) (hz:i.zero=some z) (hu:Hg P u=true) (base:Option Addr) (eo oY:Nat)
  (x:Value) (n:Nat) (UR news:List Value) (hlen:Builtin.lenOf x=Sem.pure n) (w:World) (hold:(Builtin.firstCells i.size eo (.slice base eo oY)).run P w.drew = .ok UR.toArray w.drew)
  (u5:(Builtin.firstCells i.size n x).run P w.drew = .ok news.toArray w.drew) (hg:oY < eo+n) (h63:eo+n≤17592186044416) (oB:Builtin.nextslicecap (eo+n) oY * i.bytes≤281474976710656) :
  (Builtin.append_ #[t,u] ty #[.slice base eo oY,x]).run P w =
   .ok (.slice (some ⟨w.heap.size,0,none⟩) (eo+n) (grownCap w (eo+n) oY e))
    (w.drew.alloc (.cells ((UR++news).toArray++Builtin.zeroCells z.cells (grownCap w (eo+n) oY e - (eo+n))) e)):=by
 have hk:(∃ e',P.underlying u=some (.slice e'))∨P.underlying u=some .string:=by
  unfold Hg at hu
  split at hu
  ·rename_i e' h; exact .inl ⟨_,h⟩
  ·rename_i h; exact .inr h
  ·simp at hu
 have hn : ¬ (eo+n≤oY):=by omega
 have alV : ¬ (9223372036854775807 < ((eo:Int)+(n:Int))):=by omega
 have alW : ¬ (281474976710656 < Builtin.nextslicecap (eo+n) oY * i.bytes):=by omega
 rcases hk with ⟨e',hk⟩ | hk <;>
  (simp [Builtin.append_,bx ht,bx hk,sizeOf,typeInfo,zeroValue,hi,hz,hlen,hn,alV,alW,Question.forced,u5,hold,newRow,grownCap]
   congr 2
   apply Array.ext'
   simp [List.append_assoc])
theorem XK {ρ:aW} {A:St} {base:Nat} {w:World} (hs:uj ρ A base w) (b lo hi:Nat) (L:List Nat):l7 base ρ A w ρ (A.kill b lo hi L) w:=by
 obtain ⟨hl1,mH⟩:=FD b lo hi L A
 have PI:∀ x o,(A.kill b lo hi L).get x=some o→o≠.dead→A.get x=some o:=by
  intro x o hx hd
  rw [zP] at hx
  split at hx
  ·simp at hx; exact absurd hx.symm hd
  ·exact hx
 have hm:∀ o:dg,o.fv=true→o≠.dead:=by intro o h e; subst e; simp [dg.fv] at h
 refine ⟨⟨.Hn (fun x o hx hd=>hs.rel.obj (PI x o hx hd) hd) (fun b1 b2 o1 o2 l1 l2 en g1 g2 m1 m2=>hs.rel.apart b1 b2 o1 o2 l1 l2 en (PI _ _ g1 (hm _ m1)) (PI _ _ g2 (hm _ m2)) m1 m2) (fun x o bf f hx hk=>?_),fun x l h=>?_,hs.size,hs.IC⟩,
  fun _ _=>rfl,.refl _ _ _,by simp,hl1,fun x _ hx=>?_,fun k _ h=>?_⟩
 ·rw [EJ]; exact hs.rel.bF x o bf f (PI x o hx (by intro e; subst e; simp [dg.mb] at hk)) hk
 ·rw [Hl]; exact hs.lE x l h
 ·cases Classical.em ((A.kill b lo hi L).get x=A.get x) with
  | inl h=>exact h
  | inr h=>have:=mH x h; omega
 ·obtain ⟨x,o,l,hx,hm',hr,e⟩:=h
  exact ⟨x,o,l,PI x o hx (hm _ hm'),hm',hr,e⟩
theorem FH (A:St) (bf f:Nat) (cs:List Value) (n x:Nat):(A.grow bf f cs n).get x=if x=A.next then some (.row cs n true (some (bf,f))) else A.get x:=by
 simp [St.grow]
theorem wD (A:St) (bf f:Nat) (cs:List Value) (n g:Nat):(A.grow bf f cs n).members g=if g=bf then A.next::A.members bf else A.members g:=by
 simp only [St.grow,St.Aw,St.la]
theorem XL {ρ:aW} {A:St} {base:Nat} {w:World} {cs b8:List Value} {c:Array Value} {n bf f:Nat} (T:TypeId) (hs:uj ρ A base w) (hc:dV ρ cs b8) (h1:∀ v∈cs,scalar v=true)
  (aiE:∀ (j:Nat) (v:Value),b8[j]? = some v→c[j]? = some v) (fq:cs.length≤c.size) :
  l7 base ρ A w (ρ.set A.next ⟨w.heap.size,0,c.size,n⟩) (A.grow bf f cs n) (w.alloc (.cells c T)):=by
 refine CW (o:=.row cs n true (some (bf,f))) hs (fun x=>FH _ _ _ _ _ _) (fun g x h=>?_) (fun g f' h=>?_) (by simp [St.grow]) (by simp [St.grow]) (fun x hx _=>by rw [FH,if_neg (by omega)]) rfl ?_
 ·rw [wD]; split
  ·rename_i e; subst e; simp [h]
  ·exact h
 ·simp [dg.mb] at h; rw [wD,h.1]; simp
 ·refine ⟨fun i v hi=>?_,fun h=>by simp at h,fun _=>hs.size,fun _ j hj=>?_,by simpa using fq,fun _ h=>by simp at h,rfl,by simp,fun _ _ j=>by simp only; rw [World.frozen?_alloc_new]⟩
  ·obtain ⟨v',h2,h3⟩:=hc.get hi
   refine ⟨v',?_,h3.mono (hs.Hm _),h1 v (List.mem_of_getElem? hi)⟩
   rw [Nat.zero_add,World.cell?_alloc_new]
   exact aiE i v' h2
  ·simp only at hj ⊢
   rw [World.cell?_alloc_new,World.frozen?_alloc_new]
   refine ⟨?_,rfl⟩
   rw [Array.getElem?_eq_getElem (by omega)]
   rfl
theorem acm {ρ:aW} {A:St} {base:Nat} {w:World} {b iy s bW bf f:Nat} {cs gV qJ new cJ:List Value} {l:Loc}
  (hs:uj ρ A base w) (hg:A.get b=some (.row cs bW true (some (bf,f)))) (lg:ρ b=some l)
  (hold:dV ρ gV qJ) (ho1:∀ v∈gV,scalar v=true) (hol:gV.length=s) (DM:∀ j v',qJ[j]? = some v'→w.cell? ⟨l.cb,l.ej+iy+j,none⟩=some v')
  (m4:dV ρ new cJ) (hn1:∀ v∈new,scalar v=true) (oB:l.ej+iy+s+new.length≤l.yv) :
  l7 base ρ A w (ρ.set A.next ⟨l.cb,l.ej+iy,l.yv,bW⟩) ((A.kill A.next (f+(iy+s)) (f+(iy+s)+new.length) (A.members bf)).grow bf (f+iy) (gV++new) bW) (w.setCells l.cb (l.ej+iy+s) cJ):=by
 obtain ⟨l',r5,ok⟩:=hs.rel.row _ _ _ _ _ hg
 rw [lg] at r5; simp at r5; subst r5
 have Ju:cJ.length=new.length:=m4.length
 have hovl:qJ.length=s:=by rw [hold.length,hol]
 have Mp:b < A.next:=hs.lE b l lg
 have LL:dg.fv (.row cs bW true (some (bf,f)))=true:=rfl
 have hB:∀ x,((A.kill A.next (f+(iy+s)) (f+(iy+s)+new.length) (A.members bf)).grow bf (f+iy) (gV++new) bW).get x =
   if x=A.next then some (.row (gV++new) bW true (some (bf,f+iy))) else (A.kill A.next (f+(iy+s)) (f+(iy+s)+new.length) (A.members bf)).get x:=by
  intro x; rw [FH,Hl]
 have hBm:∀ g,((A.kill A.next (f+(iy+s)) (f+(iy+s)+new.length) (A.members bf)).grow bf (f+iy) (gV++new) bW).members g=if g=bf then A.next::A.members bf else A.members g:=by
  intro g; rw [wD,Hl,EJ]
 have hBn:((A.kill A.next (f+(iy+s)) (f+(iy+s)+new.length) (A.members bf)).grow bf (f+iy) (gV++new) bW).next=A.next+1:=by
  simp [St.grow]
 have hkl:=FD A.next (f+(iy+s)) (f+(iy+s)+new.length) (A.members bf) A
 have hBl:((A.kill A.next (f+(iy+s)) (f+(iy+s)+new.length) (A.members bf)).grow bf (f+iy) (gV++new) bW).low=(A.kill A.next (f+(iy+s)) (f+(iy+s)+new.length) (A.members bf)).low:=rfl
 have hAK:∀ x,x≠A.next→(A.kill A.next (f+(iy+s)) (f+(iy+s)+new.length) (A.members bf)).get x=if x∈A.members bf∧qA (A.get x) (f+(iy+s)) (f+(iy+s)+new.length)=true then some .dead else A.get x:=by
  intro x hx; rw [zP]; simp [hx]
 generalize ((A.kill A.next (f+(iy+s)) (f+(iy+s)+new.length) (A.members bf)).grow bf (f+iy) (gV++new) bW)=B at hB hBm hBn hBl
 generalize (A.kill A.next (f+(iy+s)) (f+(iy+s)+new.length) (A.members bf))=K at hB hBl hkl hAK
 have hle:=hs.Hm (⟨l.cb,l.ej+iy,l.yv,bW⟩:Loc)
 have pw:∀ x o,x≠A.next→B.get x=some o→o≠.dead→A.get x=some o∧(x∈A.members bf→qA (some o) (f+(iy+s)) (f+(iy+s)+new.length)=false):=by
  intro x o hx ho hd
  rw [hB,if_neg hx,hAK x hx] at ho
  split at ho
  ·simp at ho; exact absurd ho.symm hd
  ·rename_i hc
   refine ⟨ho,fun hm=>?_⟩
   rw [← ho]
   cases iM:qA (A.get x) (f+(iy+s)) (f+(iy+s)+new.length) with
   | false=>rfl
   | true=>exact absurd ⟨hm,iM⟩ hc
 have oj:∀ x:Addr,(x.block=l.cb→x.spot=none→x.off < l.ej+iy+s∨l.ej+iy+s+cJ.length≤x.off)→(w.setCells l.cb (l.ej+iy+s) cJ).cell? x=w.cell? x:=
  fun x h=>World.cell?_setCells_out _ _ _ _ _ h
 have Xx:∀ x,((w.setCells l.cb (l.ej+iy+s) cJ).cell? x).isSome=(w.cell? x).isSome:=fun x=>zQ _ _ _ _ _
 have DK:∀ x,(w.setCells l.cb (l.ej+iy+s) cJ).frozen? x=w.frozen? x:=fun x=>World.frozen?_setCells _ _ _ _ _
 have fq:(w.setCells l.cb (l.ej+iy+s) cJ).heap.size=w.heap.size:=CU _ _ _ _
 have hmd:∀ o:dg,o.fv=true→o≠.dead:=by intro o h e; subst e; simp [dg.fv] at h
 have yz:∀ x o l2,A.get x=some o→o.fv=true→ρ x=some l2→l2.cb=l.cb→∃ f2,o.mb=some (bf,f2)∧l2.ej+f=l.ej+f2:=by
  intro x o l2 hx hm hr Oa
  by_cases PJ:x=b
  ·subst PJ
   rw [hg] at hx; simp at hx; subst hx
   rw [lg] at hr; simp at hr; subst hr
   exact ⟨f,rfl,rfl⟩
  ·obtain ⟨g,f1,f2,e1,e2,e3⟩:=hs.rel.apart x b _ _ l2 l PJ hx hg hm LL hr lg Oa
   simp [dg.mb] at e2
   obtain ⟨rfl,rfl⟩:=e2
   exact ⟨f1,e1,e3⟩
 have Xy:∀ x lF e2 DV ra l2,x≠A.next→B.get x=some (.row lF e2 DV ra)→ρ x=some l2→Hk ρ base w l2 lF e2 DV ra→∀ i,i < lF.length→
   (w.setCells l.cb (l.ej+iy+s) cJ).cell? ⟨l2.cb,l2.ej+i,none⟩=w.cell? ⟨l2.cb,l2.ej+i,none⟩:=by
  intro x lF e2 DV ra l2 hx jx aix jy i hi
  refine oj _ (fun N8 _=>?_)
  simp only at N8 ⊢
  obtain ⟨hA,iM⟩:=pw x _ hx jx (by simp)
  cases DV with
  | false=>have h3:=jy.sP rfl; have h4:=ok.fv rfl; omega
  | true=>
   obtain ⟨f2,e1,e3⟩:=yz x _ l2 hA rfl aix N8
   simp only [dg.mb] at e1
   subst e1
   have hm:=hs.rel.bF x _ bf f2 hA rfl
   have:=PG rfl (iM hm)
   rw [Ju]
   omega
 refine ⟨⟨.Hn ?_ ?_ ?_,?_,?_,hs.IC.mono (hs.Hm _)⟩,?_,⟨(rZ _ _ _ _).1,(rZ _ _ _ _).2.1,(rZ _ _ _ _).2.2,Nat.le_of_eq fq.symm,?_⟩,?_,?_,?_,?_⟩
 ·intro x o jx hd
  by_cases hx:x=A.next
  ·subst hx
   rw [hB,if_pos rfl] at jx
   simp at jx
   subst jx
   refine ⟨_,aW.pR _ _ _,fun i v hi=>?_,fun h=>by simp at h,fun _=>ok.fv rfl,fun _ j hj=>?_,?_,fun _ h=>by simp at h,rfl,by rw [fq]; exact ok.oa,fun _ h2 j=>by rw [DK]; exact ok.mark rfl (by rw [ok.bW]; exact h2) j⟩
   ·have o3:dV ρ (gV++new) (qJ++cJ):=hold.append m4
    obtain ⟨v',h2,h3⟩:=o3.get hi
    refine ⟨v',?_,h3.mono hle,?_⟩
    ·rw [List.getElem?_append] at h2
     split at h2
     ·rename_i bU
      rw [oj _ (fun _ _=>by simp only; omega)]
      exact DM i v' h2
     ·rename_i hge
      have bU:i - qJ.length < cJ.length:=(List.getElem?_eq_some_iff.1 h2).1
      have:=World.cell?_setCells_in l.cb cJ (l.ej+iy+s) w (fun j hj=>(ok.there rfl (l.ej+iy+s+j) (by rw [Ju] at hj; omega)).1) (i - qJ.length) bU
      have e:l.ej+iy+s+(i - qJ.length)=l.ej+iy+i:=by omega
      rw [e] at this
      rw [List.getElem?_eq_getElem bU] at h2
      exact this.trans h2
    ·rcases List.mem_append.1 (List.mem_of_getElem? hi) with h | h
     ·exact ho1 v h
     ·exact hn1 v h
   ·rw [Xx,DK]; exact ok.there rfl j hj
   ·simp only [List.length_append,hol]; omega
  ·obtain ⟨hA,iM⟩:=pw x o hx jx hd
   obtain ⟨l2,um,jy⟩:=hs.rel.obj hA hd
   refine ⟨l2,hle _ _ um,?_⟩
   cases o with
   | row lF e2 DV ra=>
    have jy:Hk ρ base w l2 lF e2 DV ra:=jy
    refine ⟨fun i v hi=>?_,jy.sP,jy.fv,fun h j hj=>?_,jy.fits,jy.ends,jy.bW,by rw [fq]; exact jy.oa,fun h1 h2 j=>by rw [DK]; exact jy.mark h1 h2 j⟩
    ·obtain ⟨v',h3,h4,h5⟩:=jy.cells i v hi
     exact ⟨v',by rw [Xy x _ _ _ _ l2 hx jx um jy i (List.getElem?_eq_some_iff.1 hi).1]; exact h3,h4.mono hle,h5⟩
    ·rw [Xx,DK]; exact jy.there h j hj
   | map es=>
    have jy:Xv ρ base w l2 es:=jy
    obtain ⟨bq,clock,h3,h4⟩:=jy.oa
    refine ⟨jy.fv,bq,clock,?_,h4.mono hle⟩
    rw [mc]
    ·exact h3
    ·intro e
     obtain ⟨_,e1,_⟩:=yz x _ l2 hA rfl um e
     simp [dg.mb] at e1
   | iter st pos=>
    have jy:PD base w l2 st pos:=jy
    refine ⟨jy.fv,jy.oa.1,?_⟩
    rw [mc]
    ·exact jy.oa.2
    ·intro e
     obtain ⟨_,e1,_⟩:=yz x _ l2 hA rfl um e
     simp [dg.mb] at e1
   | dead=>exact absurd rfl hd
   | loop st0 e0 t0 ps0 a0 c0=>
    have jy:PE ρ base w l2 st0 e0 t0 ps0 a0 c0:=jy
    obtain ⟨fn,tmps,D,N,h3,h4⟩:=jy.oa
    refine ⟨jy.fv,fn,tmps,D,N,?_,h4.mono hle⟩
    rw [mc]
    ·exact h3
    ·intro e
     obtain ⟨_,e1,_⟩:=yz x _ l2 hA rfl um e
     simp [dg.mb] at e1
 ·intro b1 b2 o1 o2 l1 l2 en g1 g2 m1 m2 r1 r2 Oa
  by_cases e1:b1=A.next
  ·have e2:b2≠A.next:=fun e=>en (e1.trans e.symm)
   subst e1
   rw [hB,if_pos rfl] at g1
   simp at g1; subst g1
   rw [aW.pR] at r1; simp at r1; subst r1
   rw [aW.m8 _ _ e2] at r2
   obtain ⟨hA,_⟩:=pw b2 o2 e2 g2 (hmd _ m2)
   obtain ⟨f2,k1,k2⟩:=yz b2 o2 l2 hA m2 r2 Oa.symm
   exact ⟨bf,f+iy,f2,rfl,k1,by simp only; omega⟩
  ·rw [aW.m8 _ _ e1] at r1
   obtain ⟨hA1,_⟩:=pw b1 o1 e1 g1 (hmd _ m1)
   by_cases e2:b2=A.next
   ·subst e2
    rw [hB,if_pos rfl] at g2
    simp at g2; subst g2
    rw [aW.pR] at r2; simp at r2; subst r2
    obtain ⟨f2,k1,k2⟩:=yz b1 o1 l1 hA1 m1 r1 Oa
    exact ⟨bf,f2,f+iy,k1,rfl,by simp only; omega⟩
   ·rw [aW.m8 _ _ e2] at r2
    obtain ⟨hA2,_⟩:=pw b2 o2 e2 g2 (hmd _ m2)
    exact hs.rel.apart b1 b2 o1 o2 l1 l2 en hA1 hA2 m1 m2 r1 r2 Oa
 ·intro x o g fx hx hk
  rw [hBm]
  by_cases e:x=A.next
  ·subst e
   rw [hB,if_pos rfl] at hx
   simp at hx; subst hx
   simp [dg.mb] at hk
   rw [if_pos hk.1.symm]
   simp
  ·have:=hs.rel.bF x o g fx (pw x o e hx (by intro e; subst e; simp [dg.mb] at hk)).1 hk
   split
   ·rename_i e2; subst e2; simp [this]
   ·exact this
 ·intro x l2 h
  rw [hBn]
  by_cases e:x=A.next
  ·omega
  ·rw [aW.m8 _ _ e] at h; have:=hs.lE x l2 h; omega
 ·rw [fq]; exact hs.size
 ·intro x hx; exact aW.m8 _ _ (by omega)
 ·intro k hk hn
  exact mc _ (fun e=>hn ⟨b,_,l,hg,rfl,lg,e.symm⟩) _ _ _
 ·omega
 ·rw [hBl]; exact hkl.1
 ·intro x hx hxl
  rw [hB,if_neg (by omega)]
  cases Classical.em (K.get x=A.get x) with
  | inl h=>exact h
  | inr h=>have:=hkl.2 x h; omega
 ·rintro k hk ⟨x,o,l2,hx,hm,hr,rfl⟩
  by_cases e:x=A.next
  ·subst e
   rw [aW.pR] at hr; simp at hr; subst hr
   exact ⟨b,_,l,hg,rfl,lg,rfl⟩
  ·rw [aW.m8 _ _ e] at hr
   exact ⟨x,o,l2,(pw x o e hx (hmd _ hm)).1,hm,hr,rfl⟩
theorem ahx {a:Addr} (h:dm a=true):a.spot=none:=by
 unfold dm at h
 simpa using h
theorem VU (w:World) (a:Addr) (n:Nat) (cs:List Value) (h:∀ j,j < n→(w.cell? (a.add j)).isSome=true) (hr:(loadCells a n).run P w = .ok cs.toArray w) (j:Nat) (v:Value) (hj:cs[j]? = some v) :
  w.cell? (a.add j)=some v:=by
 have h1:=run_loadCells (P:=P) w a n (fun j=>(w.cell? (a.add j)).getD undef) (fun j hj=>by
  have:=h j hj
  cases hc:w.cell? (a.add j) with
  | none=>rw [hc] at this; simp at this
  | some u=>rfl)
 rw [hr] at h1
 simp only [Result.ok.injEq,and_true] at h1
 have h2:cs=(List.range n).map fun j=>(w.cell? (a.add j)).getD undef:=by
  have:=congrArg Array.toList h1
  simpa using this
 rw [h2,List.getElem?_map] at hj
 cases hq:(List.range n)[j]? with
 | none=>rw [hq] at hj; simp at hj
 | some m=>
  rw [hq] at hj
  have bU:j < n:=by have:=(List.getElem?_eq_some_iff.1 hq).1; simpa using this
  have hm:m=j:=by rw [List.getElem?_range bU] at hq; simpa using hq.symm
  subst hm
  simp at hj
  have:=h m bU
  cases hc:w.cell? (a.add m) with
  | none=>rw [hc] at this; simp at this
  | some u=>rw [hc] at hj; simpa using hj
theorem adN (z:Array Value) (n:Nat):(Builtin.zeroCells z n).size=n * z.size:=size_zeroCells z n
theorem XM {ρ:aW} {A B:St} {base:Nat} {w:World} {t u ty e:TypeId} {i:TypeInfo} {z s x s' x' v:Value} (ht:P.underlying t=some (.slice e)) (hi:P.info? e=some i) (hz:i.zero=some z) (hu:Hg P u=true)
  (hn:1≤i.size) (hzs:z.cells.size=i.size) (MT:uj ρ A base w) (hsv:VR ρ s s') (XN:VR ρ x x') (hf:ma i.size i.bytes A [s,x] = some (v,B)) :
  ∃ aX v' w',(Builtin.append_ #[t,u] ty #[s',x']).run P w = .ok v' w'∧VR aX v v'∧l7 base ρ A w aX B w':=by
 unfold ma at hf
 split at hf
 ·rename_i bs eo oY x0 e0
  simp at e0
  obtain ⟨rfl,rfl⟩:=e0
  obtain ⟨k,hk,hf⟩:=Option.bind_eq_some_iff.1 hf
  have hlen:=UQ XN hk
  have hkk:∀ m,UM x=some m→k≤m:=fun m h=>by rw [hk] at h; simp at h; omega
  cases Bz:Nat.ble (eo+k) oY with
  | true=>
   rw [Bz,cond_true] at hf
   have Bz:=Nat.le_of_ble_eq_true Bz
   obtain ⟨new,m4,hf⟩:=Option.bind_eq_some_iff.1 hf
   obtain ⟨cJ,h1,h2,h3,h4⟩:=Ay (P:=P) MT.rel XN m4 hkk hn
   cases bs with
   | none=>
    simp at hf
    obtain ⟨rfl,rfl⟩:=hf
    have:=hsv.jg
    subst this
    have hr:=zS (P:=P) t u ty e i ht hi hu none eo oY x' k cJ hlen w h4 Bz
    exact ⟨ρ,_,w,by rw [hr]; rfl,by simp [VR],.refl MT⟩
   | some a=>
    simp only at hf
    cases hpa:dm a with
    | false=>rw [hpa] at hf; simp at hf
    | true=>
     rw [hpa,cond_true] at hf
     obtain ⟨B',iM,hf⟩:=Option.map_eq_some_iff.1 hf
     simp at hf
     obtain ⟨rfl,rfl⟩:=hf
     obtain ⟨u4,DL,lc,a',c',hl,sQ,JM,oB,rfl⟩:=hsv.nV
     have hr:=zS (P:=P) t u ty e i ht hi hu (some a') eo c' x' k cJ hlen w h4 (by omega)
     obtain ⟨w',h5,h6⟩:=Ax (P:=P) (a:=⟨a.block,a.off+eo * i.size,none⟩) MT iM hl h1
     have mJ:(storeCells (a'.add (eo * i.size)) cJ).run P w = .ok () w':=by
      by_cases hc:c' = 0
      ·have:cJ = []:=by
        apply List.eq_nil_of_length_eq_zero
        rw [h1.length,h3]
        have:k=0:=by omega
        subst this; omega
       subst this
       exact h5
      ·rw [JM hc,kQ]
       simp only at h5
       rw [Nat.add_assoc]
       exact h5
     refine ⟨ρ,.slice (some a') (eo+k) c',w',?_,?_,h6⟩
     ·rw [hr]
      simp only [mJ,Result.andThen_ok]
     ·simp only [VR]
      exact ⟨u4,Bz,lc,a',c',hl,sQ,JM,oB,rfl⟩
  | false=>
   rw [Bz,cond_false] at hf
   have Bz:oY < eo+k:=by
    have : ¬ (eo+k≤oY):=fun h=>by rw [Nat.ble_eq_true_of_le h] at Bz; simp at Bz
    omega
   cases hc:(Nat.ble ((eo+k+512) * i.bytes) 17592186044416&&Nat.ble (eo+k) 17592186044416&&s6 A i.size oY bs) with
   | false=>rw [hc] at hf; simp at hf
   | true=>
    rw [hc,cond_true] at hf
    simp only [Bool.and_eq_true] at hc
    obtain ⟨⟨zR,rb⟩,hex⟩:=hc
    have zR:=Nat.le_of_ble_eq_true zR
    have rb:=Nat.le_of_ble_eq_true rb
    have acn:(eo+k) * i.bytes≤140737488355328:=by
     rw [Nat.add_mul] at zR; omega
    obtain ⟨new,m4,hf⟩:=Option.bind_eq_some_iff.1 hf
    obtain ⟨cJ,h1,h2,h3,h4⟩:=Ay (P:=P) MT.rel XN m4 hkk hn
    have hdr:=l7.drew (w:=w) MT
    obtain ⟨aiF,g1,g2,g3,g4⟩:=Ay (P:=P) hdr.jr.rel XN m4 hkk hn
    have aiG:∀ (bs' : Option Addr) (c' : Nat) (UR SE:List Value) (bf f:Nat) (K:St),K=A∨(∃ x lo hi L,K=A.kill x lo hi L)→dV ρ UR SE→(∀ v∈UR,scalar v=true)→UR.length=eo * i.size→
      (Builtin.firstCells i.size eo (.slice bs' eo c')).run P w.drew = .ok SE.toArray w.drew→c' < eo+k→
      ∃ aX v' w',(Builtin.append_ #[t,u] ty #[.slice bs' eo c',x']).run P w = .ok v' w'∧VR aX (.slice (some ⟨A.next,0,none⟩) (eo+k) (eo+k)) v'∧l7 base ρ A w aX (K.grow bf f (UR++new) i.size) w':=by
     intro bs' c' UR SE bf f K hK ho ho1 hol mJ bU
     have hr:=SD (P:=P) t u ty e i z ht hi hz hu bs' eo c' x' k SE aiF hlen w mJ g4 bU rb (growslice_fits bU acn)
     have hge:=grownCap_ge w (eo+k) c' e
     have hkg:l7 base ρ A w ρ K w.drew:=by
      rcases hK with rfl | ⟨x,lo,hi,L,rfl⟩
      ·exact hdr
      ·exact (XK MT x lo hi L).trans (l7.drew (XK MT x lo hi L).jr)
     have hKn:K.next=A.next:=by
      rcases hK with rfl | ⟨x,lo,hi,L,rfl⟩
      ·rfl
      ·simp
     have Hq:((SE++aiF).toArray++Builtin.zeroCells z.cells (grownCap w (eo+k) c' e - (eo+k))).size=grownCap w (eo+k) c' e * i.size:=by
      rw [Array.size_append,adN,hzs,List.size_toArray,List.length_append,ho.length,g1.length,hol,g3]
      rw [← Nat.add_mul,← Nat.add_mul]
      congr 1; omega
     have hgo:=XL (w:=w.drew) (n:=i.size) (bf:=bf) (f:=f) (c:=(SE++aiF).toArray++Builtin.zeroCells z.cells (grownCap w (eo+k) c' e - (eo+k))) e hkg.jr (ho.append g1)
      (fun v hv=>(List.mem_append.1 hv).elim (ho1 v) (g2 v)) (fun j v hj=>by
       rw [Array.getElem?_append_left (by have:=(List.getElem?_eq_some_iff.1 hj).1; simpa using this)]
       simpa using hj) (by
       rw [Hq,List.length_append,hol,g3,← Nat.add_mul]
       exact Nat.mul_le_mul_right _ hge)
     refine ⟨_,_,_,hr,?_,hkg.trans hgo⟩
     simp only [VR]
     refine ⟨trivial,Nat.le_refl _,_,⟨w.heap.size,0,none⟩,grownCap w (eo+k) c' e,by rw [hKn]; exact aW.pR _ _ _,hge,fun _=>rfl,?_,rfl⟩
     rw [Hq]
     show 0+0+grownCap w (eo+k) c' e * i.size≤grownCap w (eo+k) c' e * i.size
     omega
    unfold CS at hf
    cases bs with
    | none=>
     simp only at hf
     cases hs0:Nat.beq eo 0 with
     | false=>rw [hs0] at hf; simp at hf
     | true=>
      rw [hs0,cond_true] at hf
      simp at hf
      obtain ⟨rfl,rfl⟩:=hf
      have hs0:=Nat.eq_of_beq_eq_true hs0
      have:=hsv.jg
      subst this
      have Hr:Builtin.firstCells i.size eo (.slice none eo oY)=pure #[]:=rfl
      exact aiG none oY [] [] A.next 0 A (.inl rfl) .nil (by simp) (by rw [hs0]; simp) (by rw [Hr]; rfl) Bz
    | some a=>
     simp only at hf
     cases hpa:dm a with
     | false=>rw [hpa] at hf; simp at hf
     | true=>
      rw [hpa,cond_true] at hf
      have u4:=ahx hpa
      obtain ⟨_,DL,lc,a',c',hl,sQ,JM,oB,rfl⟩:=hsv.nV
      obtain ⟨gV,hold,hf⟩:=Option.bind_eq_some_iff.1 hf
      obtain ⟨qJ,q1,q2,q3,q4⟩:=u3 (P:=P) hdr.jr.rel hold hl
      have mJ:(Builtin.firstCells i.size eo (.slice (some a') eo c')).run P w.drew = .ok qJ.toArray w.drew:=by
       simp only [Builtin.firstCells]
       by_cases hc:c' = 0
       ·have hs0:eo=0:=by omega
        subst hs0
        have aiH:gV = []:=by rw [Nat.zero_mul] at q2; exact List.eq_nil_of_length_eq_zero q2
        subst aiH
        rw [q1.ck,Nat.zero_mul]
        exact run_loadCells_list w.drew a' [] (by simp)
       ·rw [JM hc]; exact q4
      split at hf
      ·rename_i cs bW own bQ hg
       cases hez:Nat.beq bW i.size with
       | false=>rw [hez] at hf; simp at hf
       | true=>
        rw [hez,cond_true] at hf
        have hez:=Nat.eq_of_beq_eq_true hez
        subst hez
        obtain ⟨l2,mH,ok⟩:=MT.rel.row _ _ _ _ _ hg
        rw [hl] at mH; simp at mH; subst mH
        have hle:lc.bW=i.size:=ok.bW
        cases bQ with
        | none=>
         simp only at hf
         cases own with
         | false=>simp at hf
         | true=>
          simp at hf
          obtain ⟨rfl,rfl⟩:=hf
          have hxe:a.off+oY * i.size=cs.length:=by
           unfold s6 at hex
           simp only [hg] at hex
           exact Nat.eq_of_beq_eq_true hex
          have hends:=ok.ends rfl rfl
          have hc' : c' < eo+k:=by
           have h9:c' * i.size≤oY * i.size:=by rw [hle] at oB; omega
           have:=Nat.le_of_mul_le_mul_right h9 (by omega)
           omega
          exact aiG (some a') c' gV qJ A.next 0 A (.inl rfl) q1 q3 q2 mJ hc'
        | some p=>
         obtain ⟨bf,f⟩:=p
         simp only at hf
         cases own with
         | false=>simp at hf
         | true=>
          simp at hf
          obtain ⟨rfl,rfl⟩:=hf
          by_cases hc' : c' < eo+k
          ·exact aiG (some a') c' gV qJ bf (f+a.off) _ (.inr ⟨_,_,_,_,rfl⟩) q1 q3 q2 mJ hc'
          ·
           have en:c'≠0:=by omega
           have ha:=JM en
           subst ha
           have hr:=zS (P:=P) t u ty e i ht hi hu (some ⟨lc.cb,lc.ej+a.off,none⟩) eo c' x' k cJ hlen w h4 (by omega)
           have zu:lc.ej+a.off+eo * i.size+new.length≤lc.yv:=by
            rw [h3]
            rw [hle] at oB
            have h9:(eo+k) * i.size≤c' * i.size:=Nat.mul_le_mul_right _ (by omega)
            rw [Nat.add_mul] at h9
            omega
           have Ju:cJ.length=new.length:=h1.length
           obtain ⟨agA,p1,p2,p3,p4⟩:=u3 (P:=P) MT.rel hold hl
           have DM:∀ (j:Nat) (v' : Value),agA[j]? = some v'→w.cell? ⟨lc.cb,lc.ej+a.off+j,none⟩=some v':=by
            intro j v' hj
            have bU:j < eo * i.size:=by have:=(List.getElem?_eq_some_iff.1 hj).1; rw [p1.length,p2] at this; exact this
            have oj:=(ok.there rfl (lc.ej+a.off+j) (by omega)).1
            have:=VU (P:=P) w ⟨lc.cb,lc.ej+a.off,none⟩ (eo * i.size) agA (fun j hj=>by rw [kQ]; exact (ok.there rfl (lc.ej+a.off+j) (by omega)).1) p4 j v' hj
            rwa [kQ] at this
           have hgo:=acm (w:=w) (iy:=a.off) (s:=eo * i.size) MT hg hl p1 p3 p2 DM h1 h2 zu
           have iM:(storeCells ((⟨lc.cb,lc.ej+a.off,none⟩:Addr).add (eo * i.size)) cJ).run P w = .ok () (w.setCells lc.cb (lc.ej+a.off+eo * i.size) cJ):=by
            rw [kQ]
            exact run_storeCells_cells (P:=P) lc.cb (lc.ej+a.off+eo * i.size) cJ 0 w (fun j hj=>(ok.there rfl _ (by rw [Ju] at hj; omega)).1) (fun j hj=>(ok.there rfl _ (by rw [Ju] at hj; omega)).2) (fun v PK=>by
             obtain ⟨j,hj⟩:=List.getElem?_of_mem PK
             have bU:j < new.length:=by rw [← Ju]; exact (List.getElem?_eq_some_iff.1 hj).1
             obtain ⟨u,hu⟩:∃ u,new[j]? = some u:=⟨new[j],List.getElem?_eq_getElem bU⟩
             obtain ⟨v2,h7,h8⟩:=h1.get hu
             rw [hj] at h7; simp at h7; subst h7
             exact h8.scalar (h2 u (List.mem_of_getElem? hu)))
           refine ⟨_,.slice (some ⟨lc.cb,lc.ej+a.off,none⟩) (eo+k) c',_,by rw [hr]; simp only [iM,Result.andThen_ok],?_,hgo⟩
           simp only [VR]
           refine ⟨trivial,Nat.le_refl _,_,_,c',aW.pR _ _ _,by omega,fun _=>rfl,?_,rfl⟩
           show lc.ej+a.off+0+c' * i.size≤lc.yv
           rw [hle] at oB
           omega
      ·simp at hf
 ·simp at hf
theorem ahy {argTypes:Array TypeId} {t u:TypeId} (h:argTypes.toList = [t,u]):argTypes = #[t,u]:=by
 apply Array.ext'
 simpa using h
theorem afE {argTypes:Array TypeId} {args:Array Operand} (ho:o.op = .call ⟨.builtin .append,args,argTypes⟩):hO P o (Hh P argTypes.toList args.toList):=by
 unfold Hh
 split
 ·rename_i t u yy
  split
  ·rename_i e ht
   split
   ·rename_i i hi
    split
    ·rename_i z hz
     cases hc:(Nat.ble 1 i.size&&Nat.beq z.cells.size i.size&&Hg P u) with
     | false=>exact True.intro
     | true=>
      rw [cond_true]
      simp only [Bool.and_eq_true] at hc
      obtain ⟨⟨h1,h2⟩,h3⟩:=hc
      intro ρ A B base w ev cW v hs he hf
      have hf0:=hf
      unfold ma at hf0
      split at hf0
      ·rename_i bs eo oY x e1
       have hm:=he.map
       rw [e1] at hm hf
       obtain ⟨s',r1,e2,hsv,hm⟩:=hm.cons_inv
       obtain ⟨x',r2,e3,XN,hm⟩:=hm.cons_inv
       have:=hm.ck
       subst this e3
       obtain ⟨aX,v',w',h4,h5,h6⟩:=XM (ty:=o.type) ht hi hz h3 (Nat.le_of_ble_eq_true h1) (Nat.eq_of_beq_eq_true h2) hs hsv XN hf
       refine ⟨aX,v',.value v',w',?_,rfl,h5,h6⟩
       have e4:args.map cW = #[s',x']:=by apply Array.ext'; simpa using e2
       have e5:=ahy yy
       subst e5
       simp only [execOp,ho,Sem.run_bind,resolve,Sem.run_pure,Result.andThen_ok,invoke,builtin,e4,h4]
      ·simp at hf0
    ·trivial
   ·trivial
  ·trivial
 ·trivial
theorem aiI {argTypes:Array TypeId} {args:Array Operand} (ho:o.op = .call ⟨.builtin .copy,args,argTypes⟩):hO P o (PA P argTypes.toList args.toList):=by
 unfold PA
 split
 ·rename_i t rest yy
  have ID:argTypes[0]? = some t:=by rw [← Array.getElem?_toList,yy]; rfl
  split
  ·rename_i e ht
   split
   ·rename_i n hn
    cases FF:Nat.ble 1 n with
    | false=>exact True.intro
    | true=>
     rw [cond_true]
     have FF:1≤n:=Nat.le_of_ble_eq_true FF
     intro ρ A B base w ev cW v hs he hf
     unfold Xr at hf
     split at hf
     ·rename_i bs Pz dCap x e1
      have hm:=he.map
      rw [e1] at hm
      obtain ⟨s',r1,e2,hsv,hm⟩:=hm.cons_inv
      obtain ⟨x',r2,e3,XN,hm⟩:=hm.cons_inv
      have:=hm.ck
      subst this e3
      have e4:args.map cW = #[s',x']:=by apply Array.ext'; simpa using e2
      obtain ⟨k,hk,hf⟩:=Option.bind_eq_some_iff.1 hf
      have hlen:=UQ XN hk
      obtain ⟨new,m4,hf⟩:=Option.bind_eq_some_iff.1 hf
      obtain ⟨cJ,h1,h2,h3,h4⟩:=Ay (P:=P) hs.rel XN m4 (fun m h=>by rw [hk] at h; simp at h; subst h; exact Nat.min_le_left _ _) FF
      cases bs with
      | none=>
       simp at hf
       obtain ⟨rfl,rfl⟩:=hf
       have:=hsv.jg
       subst this
       refine ⟨ρ,goInt (Nat.min k Pz),.value (goInt (Nat.min k Pz)),w,?_,rfl,VR.of_flat rfl,.refl hs⟩
       simp [execOp,ho,resolve,invoke,builtin,e4,Builtin.copy_,ID,bx ht,hlen,nN hn,h4]
      | some a=>
       simp only at hf
       obtain ⟨B',iM,hf⟩:=Option.map_eq_some_iff.1 hf
       simp at hf
       obtain ⟨rfl,rfl⟩:=hf
       obtain ⟨u4,DL,lc,a',c',hl,sQ,JM,oB,rfl⟩:=hsv.nV
       obtain ⟨w',h5,h6⟩:=Ax (P:=P) hs iM hl h1
       have mJ:(storeCells a' cJ).run P w = .ok () w':=by
        by_cases hc:c' = 0
        ·have:cJ = []:=by
          apply List.eq_nil_of_length_eq_zero
          rw [h1.length,h3]
          have:Pz=0:=by omega
          subst this; simp
         subst this
         exact h5
        ·rw [JM hc]; exact h5
       refine ⟨ρ,goInt (Nat.min k Pz),.value (goInt (Nat.min k Pz)),w',?_,rfl,VR.of_flat rfl,h6⟩
       simp [execOp,ho,resolve,invoke,builtin,e4,Builtin.copy_,ID,bx ht,hlen,nN hn,h4,mJ]
     ·simp at hf
   ·trivial
  ·trivial
 ·trivial
end
end Go.aE
end
section
namespace Go.aE
open Go
section
variable {P:Program} {o:Oper}
theorem yA {ρ:aW} {A:St} {base:Nat} {w:World} {r:Nat} {es o4:List (Value×Value)} {BZ:Array MapEntry} {Az:Nat} {l:Loc} (hs:uj ρ A base w) (hg:A.get r=some (.map es)) (lg:ρ r=some l)
  (hm:iK ρ o4 BZ.toList):l7 base ρ A w ρ (A.put r (.map o4)) { w with heap:=w.heap.setIfInBounds l.cb (.map BZ Az) }:=by
 obtain ⟨l',r5,ok⟩:=hs.rel.map _ _ hg
 rw [lg] at r5; simp at r5; subst r5
 obtain ⟨bq,clock,om,_⟩:=ok.oa
 have bU:l.cb < w.heap.size:=(Array.getElem?_eq_some_iff.1 om).1
 have EM:dg.fv (.map es)=true:=rfl
 have hold:∀ k,k≠l.cb→(w.heap.setIfInBounds l.cb (.map BZ Az))[k]? = w.heap[k]?:=fun k hk=>by
  rw [Array.getElem?_setIfInBounds_ne (Ne.symm hk)]
 have fq:(w.heap.setIfInBounds l.cb (.map BZ Az)).size=w.heap.size:=by simp
 have hB:∀ x,(A.put r (.map o4)).get x=if x=r then some (.map o4) else A.get x:=fun x=>St.b9 _ _ _ _
 have hmd:∀ o:dg,o.fv=true→o≠.dead:=by intro o h e; subst e; simp [dg.fv] at h
 have Xy:∀ x o l2,x≠r→A.get x=some o→o≠.dead→ρ x=some l2→EK ρ base w l2 o→l2.cb≠l.cb:=by
  intro x o l2 hx jx hd um jy e
  cases XO:o.fv with
  | true=>
   obtain ⟨_,_,_,_,e1,_⟩:=hs.rel.apart x r o _ l2 l hx jx hg XO EM um lg e
   simp [dg.mb] at e1
  | false=>
   cases o with
   | row cs bW own bQ=>
    have jy:Hk ρ base w l2 cs bW own bQ:=jy
    have h1:own=false:=XO
    have:=jy.sP h1
    have:=ok.fv
    omega
   | map _=>simp [dg.fv] at XO
   | iter _ _=>simp [dg.fv] at XO
   | dead=>exact hd rfl
   | loop _ _ _ _ _ _=>simp [dg.fv] at XO
 refine ⟨⟨.Hn ?_ ?_ ?_,fun b l2 h=>hs.lE b l2 h,by simpa using hs.size,hs.IC⟩,fun _ _=>rfl,⟨rfl,rfl,rfl,Nat.le_of_eq fq.symm,fun k hk hn=>hold k (fun e=>hn ⟨r,_,l,hg,EM,lg,e.symm⟩)⟩,Nat.le_refl _,Nat.min_le_left _ _,fun x hx hxl=>?_,?_⟩
 ·intro x o jx hd
  rw [hB] at jx
  split at jx
  ·rename_i e; subst e; simp at jx; subst jx
   refine ⟨l,lg,ok.fv,BZ,Az,?_,hm⟩
   show (w.heap.setIfInBounds l.cb (.map BZ Az))[l.cb]? = _
   rw [Array.getElem?_setIfInBounds_self_of_lt bU]
  ·rename_i e
   obtain ⟨l2,um,jy⟩:=hs.rel.obj jx hd
   exact ⟨l2,um,jy.mg (aW.le_refl _) (hold _ (Xy x o l2 e jx hd um jy)) (Nat.le_of_eq fq.symm)⟩
 ·have PI:∀ x o,(A.put r (.map o4)).get x=some o→o.fv=true→∃ o',A.get x=some o'∧o'.fv=true∧o'.mb=o.mb:=by
   intro x o hx hm
   rw [hB] at hx
   split at hx
   ·rename_i e; subst e; simp at hx; subst hx; exact ⟨_,hg,rfl,rfl⟩
   ·exact ⟨o,hx,hm,rfl⟩
  intro b1 b2 o1 o2 l1 l2 en g1 g2 m1 m2 r1 r2 Oa
  obtain ⟨p1,q1,n1,k1⟩:=PI _ _ g1 m1
  obtain ⟨p2,q2,n2,k2⟩:=PI _ _ g2 m2
  rw [← k1,← k2]
  exact hs.rel.apart b1 b2 p1 p2 l1 l2 en q1 q2 n1 n2 r1 r2 Oa
 ·intro x o bf f jx hk
  rw [hB] at jx
  split at jx
  ·rename_i e; subst e; simp at jx; subst jx; simp [dg.mb] at hk
  ·exact hs.rel.bF x o bf f jx hk
 ·rw [St.Xw] at hxl
  have:Nat.min A.low r≤r:=Nat.min_le_right _ _
  rw [hB,if_neg (by omega)]
 ·rintro k hk ⟨x,o,l2,jx,hm,um,rfl⟩
  rw [hB] at jx
  split at jx
  ·rename_i e; subst e
   rw [lg] at um; simp at um; subst um
   exact ⟨x,_,l,hg,EM,lg,rfl⟩
  ·exact ⟨x,o,l2,jx,hm,um,rfl⟩
theorem iK.length {ρ:aW} : ∀ {es:List (Value×Value)} {l:List MapEntry},iK ρ es l→l.length=es.length
 | [],l,h=>by simp only [iK] at h; subst h; rfl
 | (k,v)::es,l,h=>by
  simp only [iK] at h
  obtain ⟨e,r,rfl,_,_,h⟩:=h
  simp [iK.length h]
theorem iK.get {ρ:aW} : ∀ {es:List (Value×Value)} {l:List MapEntry},iK ρ es l→∀ (i:Nat) (k v:Value),es[i]? = some (k,v)→∃ e,l[i]? = some e∧VR ρ k e.key∧VR ρ v e.val
 | [],l,h,i,k,v,hi=>by simp at hi
 | (k,v)::es,l,h,i,k',v',hi=>by
  simp only [iK] at h
  obtain ⟨e,r,rfl,h1,h2,h⟩:=h
  cases i with
  | zero=>simp at hi; obtain ⟨rfl,rfl⟩:=hi; exact ⟨e,rfl,h1,h2⟩
  | succ i=>simp at hi; simpa using iK.get h i k' v' hi
theorem iK.append {ρ:aW} : ∀ {es:List (Value×Value)} {l:List MapEntry} {k v:Value} {e:MapEntry},iK ρ es l→VR ρ k e.key→VR ρ v e.val→iK ρ (es++[(k,v)]) (l++[e])
 | [],l,k,v,e,h,h1,h2=>by
  simp only [iK] at h; subst h
  simp only [List.nil_append,iK]
  exact ⟨e,[],rfl,h1,h2,rfl⟩
 | (k0,v0)::es,l,k,v,e,h,h1,h2=>by
  simp only [iK] at h
  obtain ⟨e0,r,rfl,h3,h4,h⟩:=h
  simp only [List.cons_append,iK]
  exact ⟨e0,r++[e],rfl,h3,h4,iK.append h h1 h2⟩
theorem iK.modify {ρ:aW} : ∀ {es:List (Value×Value)} {l:List MapEntry} {k v:Value} (f:MapEntry→MapEntry) (i:Nat),iK ρ es l→(∀ e,VR ρ k (f e).key∧VR ρ v (f e).val)→iK ρ (es.set i (k,v)) (l.modify i f)
 | [],l,k,v,f,i,h,_=>by simp only [iK] at h; subst h; simp [iK]
 | (k0,v0)::es,l,k,v,f,i,h,hf=>by
  simp only [iK] at h
  obtain ⟨e0,r,rfl,h3,h4,h⟩:=h
  cases i with
  | zero=>simp only [List.set_cons_zero,List.modify_zero_cons,iK]; exact ⟨_,r,rfl,(hf e0).1,(hf e0).2,h⟩
  | succ i=>simp only [List.set_cons_succ,List.modify_succ_cons,iK]; exact ⟨e0,_,rfl,h3,h4,iK.modify f i h hf⟩
theorem iK.erase {ρ:aW} : ∀ {es:List (Value×Value)} {l:List MapEntry} (i:Nat),iK ρ es l→iK ρ (es.eraseIdx i) (l.eraseIdx i)
 | [],l,i,h=>by simp only [iK] at h; subst h; simp [iK]
 | (k0,v0)::es,l,i,h=>by
  simp only [iK] at h
  obtain ⟨e0,r,rfl,h3,h4,h⟩:=h
  cases i with
  | zero=>simpa using h
  | succ i=>simp only [List.eraseIdx_cons_succ,iK]; exact ⟨e0,_,rfl,h3,h4,iK.erase i h⟩
def FR (ρ:aW):Option (Nat×Value)→Option (Nat×Value)→Prop
 | none,r=>r=none
 | some (i,v),r=>∃ v',r=some (i,v')∧VR ρ v v'
theorem PN {ρ:aW} (d:TypeDesc) (k:Value):∀ (es:List (Value×Value)) (l:List MapEntry) (i:Nat),iK ρ es l→s7 es=true→
  (zO d k es i=none→Instr.findNow d k l i=none)∧∀ r,zO d k es i=some r→∃ r',Instr.findNow d k l i=some r'∧FR ρ r r'
 | [],l,i,h,_=>by
  simp only [iK] at h; subst h
  exact ⟨fun h=>by simp [zO] at h,fun r hr=>by simp [zO] at hr; subst hr; exact ⟨none,rfl,rfl⟩⟩
 | (k0,v0)::es,l,i,h,hf=>by
  simp only [iK] at h
  obtain ⟨e0,r0,rfl,h3,h4,h⟩:=h
  simp only [s7,Bool.and_eq_true] at hf
  have hk:e0.key=k0:=h3.n9 hf.1
  have ih:=PN d k es r0 (i+1) h hf.2
  simp only [zO,Instr.findNow,hk]
  cases hsn:Instr.sameNow d k k0 with
  | none=>exact ⟨fun _=>rfl,fun r hr=>by simp at hr⟩
  | some b=>
   cases b with
   | true=>exact ⟨fun h=>by simp at h,fun r hr=>by simp at hr; subst hr; exact ⟨_,rfl,_,rfl,h4⟩⟩
   | false=>exact ih
theorem PO {ρ:aW} (kt:TypeId) (k:Value):∀ (es:List (Value×Value)) (l:List MapEntry) (i:Nat),iK ρ es l→s7 es=true→
  ∀ r,Fw P kt k es i=some r→∃ r',(∀ w,(Instr.findAsking kt k l i).run P w = .ok r' w)∧FR ρ r r'
 | [],l,i,h,_=>by
  simp only [iK] at h; subst h
  intro r hr
  simp [Fw] at hr; subst hr; exact ⟨none,fun w=>rfl,rfl⟩
 | (k0,v0)::es,l,i,h,hf=>by
  simp only [iK] at h
  obtain ⟨e0,r0,rfl,h3,h4,h⟩:=h
  simp only [s7,Bool.and_eq_true] at hf
  have hk:e0.key=k0:=h3.n9 hf.1
  intro r hr
  simp only [Fw] at hr
  split at hr
  ·rename_i he
   simp at hr; subst hr
   refine ⟨some (i,e0.val),fun w=>?_,_,rfl,h4⟩
   simp [Instr.findAsking,hk,hY he w]
  ·rename_i he
   obtain ⟨r',h5,h6⟩:=PO kt k es r0 (i+1) h hf.2 r hr
   refine ⟨r',fun w=>?_,h6⟩
   simp only [Instr.findAsking,hk,Sem.run_bind,hY he w,Result.andThen_ok]
   exact h5 w
  ·simp at hr
theorem Hs {ρ:aW} {kt:TypeId} {d:TypeDesc} {k:Value} {es:List (Value×Value)} {l:List MapEntry} {r:Option (Nat×Value)} (hd:P.underlying kt=some d) (h:iK ρ es l) (hf:s7 es=true) (hr:Xs P kt d k es=some r) :
  ∃ r',(∀ w,(Instr.findKey kt k l).run P w = .ok r' w)∧FR ρ r r':=by
 have hn:=PN d k es l 0 h hf
 unfold Xs at hr
 split at hr
 ·rename_i q hq
  simp at hr; subst hr
  obtain ⟨r',h1,h2⟩:=hn.2 _ hq
  refine ⟨r',fun w=>?_,h2⟩
  simp only [Instr.findKey,Sem.run_bind,bx hd,Result.andThen_ok,h1]
  rfl
 ·rename_i hq
  have h1:=hn.1 hq
  obtain ⟨r',h2,h3⟩:=PO kt k es l 0 h hf r hr
  refine ⟨r',fun w=>?_,h3⟩
  simp only [Instr.findKey,Sem.run_bind,bx hd,Result.andThen_ok,h1]
  exact h2 w
theorem Cc {ρ:aW} {kt:TypeId} {b:Bool} {k k' : Value} {es:List (Value×Value)} (h:EH P kt b k es=true) (hk:VR ρ k k'):k' = k∧flat k=true∧s7 es=true∧∀ w,(Instr.checkKey b 10000 kt k).run P w = .ok () w:=by
 unfold EH at h
 simp only [Bool.and_eq_true] at h
 obtain ⟨⟨h1,h2⟩,h3⟩:=h
 cases hp:dt P (Instr.checkKey b 10000 kt k) with
 | none=>rw [hp] at h3; simp at h3
 | some u=>exact ⟨hk.n9 h1,h1,h2,fun w=>hY hp w⟩
theorem iK.isEmpty {ρ:aW} {es:List (Value×Value)} {l:Array MapEntry} (h:iK ρ es l.toList):l.isEmpty=es.isEmpty:=by
 have:=h.length
 cases es with
 | nil=>simp at this; simpa using this
 | cons e es=>simp at this; simp; intro h; rw [h] at this; simp at this
theorem VR.JQ {ρ:aW} {r:Nat} {v:Value} (h:VR ρ (.map (some r)) v):∃ l,ρ r=some l∧v = .map (some l.cb):=by simpa only [VR] using h
theorem VR.Cd {ρ:aW} {v:Value} (h:VR ρ (.map none) v):v = .map none:=by simpa only [VR] using h
theorem VR.abi {ρ:aW} {ok b:Bool} {v v' : Value} (h:VR ρ v v'):VR ρ (abi ok v b) (if ok then .tuple #[v',.bool b] else v'):=by
 cases ok with
 | true=>exact VR.mkTuple (.cons h (.cons (VR.of_flat rfl) .nil))
 | false=>exact h
theorem adO {t:TypeId} {r:Option Operand} (ho:o.op = .makeMap t r):hO P o (JK P t r):=by
 unfold JK
 split
 ·rename_i kt et hu
  intro ρ ev cW obj mk he hf
  have jV:obj = .map []∧mk=fun n=>.map (some n):=by
   unfold Sx at hf
   split at hf
   ·simp at hf; exact ⟨hf.1.symm,hf.2.symm⟩
   ·simp at hf; exact ⟨hf.1.symm,hf.2.symm⟩
   ·simp at hf
  obtain ⟨rfl,rfl⟩:=jV
  refine ⟨.map #[] 0,fun n=>.map (some n),rfl,fun w=>?_,fun aX n cb h=>by simp only [VR]; exact ⟨_,h,rfl⟩⟩
  cases r with
  | none=>simp [execOp,ho,Instr.makeMap]
  | some x=>
   have hx:=he x (by simp [fS])
   unfold Sx at hf
   simp only [fS,List.map] at hf
   split at hf
   ·rename_i e; simp at e
   ·rename_i k n e
    simp at e
    rw [e] at hx
    simp [execOp,ho,Instr.makeMap,hx.dv,bx hu,asInt,asIntOf]
   ·simp at hf
 ·trivial
theorem FJ {ρ:aW} {kt et:TypeId} {d:TypeDesc} {z v k k' : Value} {ok:Bool} {es:List (Value×Value)} {l:Array MapEntry} (hd:P.underlying kt=some d) (hz:pK P et=some z) (hzf:flat z=true)
  (hm:iK ρ es l.toList) (hk:VR ρ k k') (h:Hi P kt d z ok k es=some v) :
  ∃ v',VR ρ v v'∧∀ w,(do
   Instr.checkKey l.isEmpty 10000 kt k'
   let (v,b) ← match ← Instr.findKey kt k' l.toList with
    | some (_,v)=>pure (v,true)
    | none=>pure (← zeroValue et,false)
   pure (if ok then Value.tuple #[v,.bool b] else v):Sem Value).run P w = .ok v' w:=by
 unfold Hi at h
 cases hc:EH P kt es.isEmpty k es with
 | false=>rw [hc] at h; simp at h
 | true=>
  rw [hc,cond_true] at h
  obtain ⟨rfl,_,hkf,SB⟩:=Cc hc hk
  obtain ⟨r,hr,rfl⟩:=Option.map_eq_some_iff.1 h
  obtain ⟨r',h1,h2⟩:=Hs hd hm hkf hr
  rw [hm.isEmpty]
  cases r with
  | none=>
   have h2:r' = none:=h2
   subst h2
   refine ⟨_,VR.abi (VR.of_flat hzf),fun w=>?_⟩
   simp [SB,h1,LM hz]
  | some p=>
   obtain ⟨i,u⟩:=p
   obtain ⟨u',rfl,h3⟩:=h2
   refine ⟨_,VR.abi h3,fun w=>?_⟩
   simp [SB,h1]
theorem afF {t:TypeId} {x ix:Operand} {ok:Bool} (ho:o.op = .lookup t x ix ok):hO P o (N4 P t x ix ok):=by
 unfold N4
 split
 ·rename_i kt et hu
  split
  ·rename_i d z hd hz
   cases hzf:flat z with
   | false=>exact True.intro
   | true=>
    rw [cond_true]
    intro ρ A base w ev cW v hs he hf
    have hx:=he x (by simp)
    have hk:=he ix (by simp)
    simp only [List.map] at hf
    unfold adE at hf
    split at hf
    ·rename_i k e
     simp at e
     obtain ⟨e1,e2⟩:=e
     rw [e1] at hx
     have hx:=hx.Cd
     rw [← e2] at hf
     obtain ⟨v',h1,h2⟩:=FJ (ρ:=ρ) (l:=#[]) hd hz hzf (by simp [iK]) hk hf
     refine ⟨v',h1,?_⟩
     have h2:=h2 w
     simp only [execOp,ho,Instr.lookup,Sem.run_bind,bx hu,Result.andThen_ok,hx,Sem.run_pure] at h2 ⊢
     exact congrArg (fun r:Result Value=>r.andThen fun a w'=>Result.ok (Next.value a) w') h2
    ·rename_i r k e
     simp at e
     obtain ⟨e1,e2⟩:=e
     rw [e1] at hx
     rw [← e2] at hf
     obtain ⟨lc,hl,hx⟩:=hx.JQ
     split at hf
     ·rename_i es hg
      obtain ⟨l2,mH,jy⟩:=hs.map _ _ hg
      rw [hl] at mH; simp at mH; subst mH
      obtain ⟨bq,clock,om,hm⟩:=jy.oa
      obtain ⟨v',h1,h2⟩:=FJ (l:=bq) hd hz hzf hm hk hf
      refine ⟨v',h1,?_⟩
      have h2:=h2 w
      simp only [execOp,ho,Instr.lookup,Sem.run_bind,bx hu,Result.andThen_ok,hx,MapKept.run_getObj_map om,Sem.run_pure] at h2 ⊢
      exact congrArg (fun r:Result Value=>r.andThen fun a w'=>Result.ok (Next.value a) w') h2
     ·simp at hf
    ·simp at hf
  ·trivial
 ·trivial
theorem PQ {ρ:aW} {A B:St} {base:Nat} {w:World} {t kt et:TypeId} {d:TypeDesc} {m k x m' k' x' v:Value} (hu:P.underlying t=some (.map kt et)) (hd:P.underlying kt=some d) (hs:uj ρ A base w)
  (hm:VR ρ m m') (hk:VR ρ k k') (hx:VR ρ x x') (h:JJ P kt d A [m,k,x] = some (v,B)):v=undef∧∃ w',(Instr.mapUpdate t m' k' x').run P w = .ok () w'∧l7 base ρ A w ρ B w':=by
 unfold JJ at h
 split at h
 ·rename_i r k0 x0 e
  simp at e
  obtain ⟨rfl,rfl,rfl⟩:=e
  obtain ⟨lc,hl,rfl⟩:=hm.JQ
  split at h
  ·rename_i es hg
   obtain ⟨l2,mH,jy⟩:=hs.rel.map _ _ hg
   rw [hl] at mH; simp at mH; subst mH
   obtain ⟨bq,clock,om,SF⟩:=jy.oa
   cases hc:EH P kt false k es with
   | false=>rw [hc] at h; simp at h
   | true=>
    rw [hc,cond_true] at h
    obtain ⟨rfl,hkf0,hkf,SB⟩:=Cc hc hk
    obtain ⟨q,hq,h⟩:=Option.bind_eq_some_iff.1 h
    obtain ⟨r',h1,h2⟩:=Hs hd SF hkf hq
    cases q with
    | none=>
     have h2:r' = none:=h2
     subst h2
     simp at h
     obtain ⟨rfl,rfl⟩:=h
     refine ⟨rfl,_,?_,yA (BZ:=bq.push { key:=k',val:=x',born:=clock }) (Az:=clock+1) hs hg hl (by rw [Array.toList_push]; exact SF.append hk hx)⟩
     simp [Instr.mapUpdate,bx hu,MapKept.run_getObj_map om,SB,h1,MapKept.run_setObj_map _ om]
    | some p=>
     obtain ⟨i,u⟩:=p
     obtain ⟨u',rfl,h3⟩:=h2
     simp only at h
     cases hsb:Instr.sameBits 10000 (acd es i k') k' with
     | false=>rw [hsb] at h; simp at h
     | true=>
      rw [hsb] at h
      simp at h
      obtain ⟨rfl,rfl⟩:=h
      have hold:((bq[i]?).map (·.key)).getD k' = acd es i k':=by
       unfold acd
       cases hi:es[i]? with
       | none=>
        have:bq[i]? = none:=by
         rw [Array.getElem?_eq_none_iff]
         have:=List.getElem?_eq_none_iff.1 hi
         rw [← Array.length_toList,SF.length]; exact this
        rw [this]; rfl
       | some p=>
        obtain ⟨k1,v1⟩:=p
        obtain ⟨e,h5,h6,h7⟩:=SF.get i k1 v1 hi
        have h5' : bq[i]? = some e:=by simpa using h5
        have FG:flat k1=true:=by
         have key:∀ (es:List (Value×Value)) (i:Nat),s7 es=true→es[i]? = some (k1,v1)→flat k1=true:=by
          intro es
          induction es with
          | nil=>intro i _ h; simp at h
          | cons e es ih=>
           intro i hk h
           simp only [s7,Bool.and_eq_true] at hk
           cases i with
           | zero=>simp at h; subst h; exact hk.1
           | succ i=>exact ih i hk.2 (by simpa using h)
         exact key es i hkf hi
        rw [h5']
        simp only [Option.map_some,Option.getD_some]
        exact h6.n9 FG
      refine ⟨rfl,_,?_,yA (BZ:=bq.modify i fun e=>{ e with key:=k',val:=x' }) (Az:=clock) hs hg hl (by rw [Array.toList_modify]; exact SF.modify _ i fun e=>⟨hk,hx⟩)⟩
      simp [Instr.mapUpdate,bx hu,MapKept.run_getObj_map om,SB,h1,hold,Instr.keyThatStays,hsb,MapKept.run_setObj_map _ om]
  ·simp at h
 ·simp at h
theorem MU {t:TypeId} {m k x:Operand} (ho:o.op = .mapUpdate t m k x∨o.op = .insert t m k x):hO P o (Au P t m k x):=by
 unfold Au
 split
 ·rename_i kt et hu
  split
  ·rename_i d hd
   intro ρ A B base w ev cW v hs he hf
   simp only [List.map] at hf
   obtain ⟨rfl,w',h1,h2⟩:=PQ hu hd hs (he m (by simp)) (he k (by simp)) (he x (by simp)) hf
   refine ⟨ρ,undef,.skip,w',?_,rfl,VR.of_flat (by simp [undef,flat,G8,ug]),h2⟩
   rcases ho with ho | ho <;> simp [execOp,ho,h1]
  ·trivial
 ·trivial
theorem uo:flat kD=true:=rfl
theorem afG {argTypes:Array TypeId} {args:Array Operand} (ho:o.op = .call ⟨.builtin .delete,args,argTypes⟩):hO P o (N5 P argTypes.toList args.toList):=by
 unfold N5
 split
 ·rename_i t rest yy
  have ID:argTypes[0]? = some t:=by rw [← Array.getElem?_toList,yy]; rfl
  split
  ·rename_i kt et hu
   split
   ·rename_i d hd
    intro ρ A B base w ev cW v hs he hf
    have hm:=he.map
    unfold adF at hf
    split at hf
    ·rename_i k e1
     rw [e1] at hm
     obtain ⟨m',r1,e2,XP,hm⟩:=hm.cons_inv
     obtain ⟨k',r2,e3,hkv,hm⟩:=hm.cons_inv
     have:=hm.ck
     subst this e3
     have e4:args.map cW = #[m',k']:=by apply Array.ext'; simpa using e2
     have:=XP.Cd
     subst this
     cases hc:EH P kt true k [] with
     | false=>rw [hc] at hf; simp at hf
     | true=>
      rw [hc] at hf
      simp at hf
      obtain ⟨rfl,rfl⟩:=hf
      obtain ⟨rfl,_,hkf,SB⟩:=Cc hc hkv
      refine ⟨ρ,kD,.value kD,w,?_,rfl,VR.of_flat uo,.refl hs⟩
      simp [execOp,ho,resolve,invoke,builtin,e4,Builtin.delete_,ID,bx hu,SB,kD]
    ·rename_i r k e1
     rw [e1] at hm
     obtain ⟨m',r1,e2,XP,hm⟩:=hm.cons_inv
     obtain ⟨k',r2,e3,hkv,hm⟩:=hm.cons_inv
     have:=hm.ck
     subst this e3
     have e4:args.map cW = #[m',k']:=by apply Array.ext'; simpa using e2
     obtain ⟨lc,hl,rfl⟩:=XP.JQ
     split at hf
     ·rename_i es hg
      obtain ⟨l2,mH,jy⟩:=hs.rel.map _ _ hg
      rw [hl] at mH; simp at mH; subst mH
      obtain ⟨bq,clock,om,SF⟩:=jy.oa
      cases hc:EH P kt es.isEmpty k es with
      | false=>rw [hc] at hf; simp at hf
      | true=>
       rw [hc,cond_true] at hf
       obtain ⟨rfl,_,hkf,SB⟩:=Cc hc hkv
       obtain ⟨q,hq,FK⟩:=Option.map_eq_some_iff.1 hf
       obtain ⟨r',h1,h2⟩:=Hs hd SF hkf hq
       rw [← SF.isEmpty] at SB
       cases q with
       | none=>
        have h2:r' = none:=h2
        subst h2
        simp at FK
        obtain ⟨rfl,rfl⟩:=FK
        refine ⟨ρ,kD,.value kD,_,?_,rfl,VR.of_flat uo,yA (BZ:=bq) (Az:=clock) hs hg hl SF⟩
        simp [execOp,ho,resolve,invoke,builtin,e4,Builtin.delete_,ID,bx hu,MapKept.run_getObj_map om,SB,h1,MapKept.run_setObj_map _ om,kD]
       | some p=>
        obtain ⟨i,u⟩:=p
        obtain ⟨u',rfl,h3⟩:=h2
        simp at FK
        obtain ⟨rfl,rfl⟩:=FK
        refine ⟨ρ,kD,.value kD,_,?_,rfl,VR.of_flat uo,yA (BZ:=bq.eraseIdxIfInBounds i) (Az:=clock) hs hg hl (by rw [Array.toList_eraseIdxIfInBounds]; exact SF.erase i)⟩
        simp [execOp,ho,resolve,invoke,builtin,e4,Builtin.delete_,ID,bx hu,MapKept.run_getObj_map om,SB,h1,MapKept.run_setObj_map _ om,kD]
     ·simp at hf
    ·simp at hf
   ·trivial
  ·trivial
 ·trivial
theorem ahz {argTypes:Array TypeId} {args:Array Operand} (ho:o.op = .call ⟨.builtin .clear,args,argTypes⟩):hO P o (Sy P argTypes.toList args.toList):=by
 unfold Sy
 split
 ·rename_i t yy
  have ID:argTypes[0]? = some t:=by rw [← Array.getElem?_toList,yy]; rfl
  split
  ·rename_i kt et hu
   intro ρ A B base w ev cW v hs he hf
   have hm:=he.map
   unfold Xt at hf
   split at hf
   ·rename_i e1
    simp at hf
    obtain ⟨rfl,rfl⟩:=hf
    rw [e1] at hm
    obtain ⟨m',r1,e2,XP,hm⟩:=hm.cons_inv
    have:=hm.ck
    subst this
    have e4:args.map cW = #[m']:=by apply Array.ext'; simpa using e2
    have:=XP.Cd
    subst this
    refine ⟨ρ,kD,.value kD,w,?_,rfl,VR.of_flat uo,.refl hs⟩
    simp [execOp,ho,resolve,invoke,builtin,e4,Builtin.clear_,ID,bx hu,kD]
   ·rename_i r e1
    rw [e1] at hm
    obtain ⟨m',r1,e2,XP,hm⟩:=hm.cons_inv
    have:=hm.ck
    subst this
    have e4:args.map cW = #[m']:=by apply Array.ext'; simpa using e2
    obtain ⟨lc,hl,rfl⟩:=XP.JQ
    split at hf
    ·rename_i es hg
     simp at hf
     obtain ⟨rfl,rfl⟩:=hf
     obtain ⟨l2,mH,jy⟩:=hs.rel.map _ _ hg
     rw [hl] at mH; simp at mH; subst mH
     obtain ⟨bq,clock,om,SF⟩:=jy.oa
     refine ⟨ρ,kD,.value kD,_,?_,rfl,VR.of_flat uo,yA (BZ:=#[]) (Az:=clock) hs hg hl rfl⟩
     simp [execOp,ho,resolve,invoke,builtin,e4,Builtin.clear_,ID,bx hu,MapKept.run_getObj_map om,MapKept.run_setObj_map _ om,kD]
    ·simp at hf
   ·simp at hf
  ·rename_i e hu
   split
   ·rename_i z hz
    cases hzc:(flat z&&Nat.ble 1 z.cells.size) with
    | false=>exact True.intro
    | true=>
     rw [cond_true]
     obtain ⟨Mn,Bx⟩:=Bool.and_eq_true_iff.1 hzc
     have Bx:=Nat.le_of_ble_eq_true Bx
     intro ρ A B base w ev cW v hs he hf
     have hm:=he.map
     unfold abj at hf
     split at hf
     ·rename_i n c e1
      simp at hf
      obtain ⟨rfl,rfl⟩:=hf
      rw [e1] at hm
      obtain ⟨m',r1,e2,XP,hm⟩:=hm.cons_inv
      have:=hm.ck
      subst this
      have e4:args.map cW = #[m']:=by apply Array.ext'; simpa using e2
      have:=XP.jg
      subst this
      refine ⟨ρ,kD,.value kD,w,?_,rfl,VR.of_flat uo,.refl hs⟩
      simp [execOp,ho,resolve,invoke,builtin,e4,Builtin.clear_,ID,bx hu,kD]
     ·rename_i a n c e1
      rw [e1] at hm
      obtain ⟨m',r1,e2,XP,hm⟩:=hm.cons_inv
      have:=hm.ck
      subst this
      have e4:args.map cW = #[m']:=by apply Array.ext'; simpa using e2
      obtain ⟨u4,DL,lc,a',c',hl,sQ,JM,oB,rfl⟩:=XP.nV
      cases hn:Nat.beq n 0 with
      | true=>
       rw [hn] at hf
       simp at hf
       obtain ⟨rfl,rfl⟩:=hf
       have:=Nat.eq_of_beq_eq_true hn
       subst this
       refine ⟨ρ,kD,.value kD,w,?_,rfl,VR.of_flat uo,.refl hs⟩
       simp [execOp,ho,resolve,invoke,builtin,e4,Builtin.clear_,ID,bx hu,kD]
      | false=>
       rw [hn,cond_false] at hf
       have hn0:=Nat.ne_of_beq_eq_false hn
       obtain ⟨B',iM,hf⟩:=Option.map_eq_some_iff.1 hf
       simp at hf
       obtain ⟨rfl,rfl⟩:=hf
       obtain ⟨w',h5,h6⟩:=Ax (P:=P) hs iM hl ((DX Mn).repeat n)
       have:=JM (by omega)
       subst this
       have e5:Builtin.zeroCells z.cells n=⟨gk z.cells.toList n⟩:=Oc z.cells n Bx
       refine ⟨ρ,kD,.value kD,w',?_,rfl,VR.of_flat uo,h6⟩
       obtain ⟨m,rfl⟩:=Nat.exists_eq_succ_of_ne_zero hn0
       simp [execOp,ho,resolve,invoke,builtin,e4,Builtin.clear_,ID,bx hu,LM hz,e5,h5,kD]
     ·simp at hf
   ·trivial
  ·trivial
 ·trivial
theorem ako {argTypes:Array TypeId} {args:Array Operand} (ho:o.op = .call ⟨.builtin .len,args,argTypes⟩):hO P o (W3 P argTypes.toList args.toList):=by
 unfold W3
 split
 ·rename_i t et
  have yy:argTypes[0]? = some t:=by rw [← Array.getElem?_toList,et]; rfl
  split
  ·rename_i e hu; exact ahv ho yy hu
  ·rename_i hu; exact afD ho yy hu
  ·rename_i kt et' hu
   intro ρ A base w ev cW v hs he hf
   have hm:=he.map
   unfold adG at hf
   split at hf
   ·rename_i e1
    rw [e1] at hm
    obtain ⟨y,ys,e2,h1,h2⟩:=hm.cons_inv
    have:=h2.ck
    subst this
    simp at hf; subst hf
    have:=h1.Cd
    subst this
    refine ⟨_,VR.of_flat rfl,?_⟩
    have e3:(args.map cW)[0]? = some (.map none):=by rw [nB,e2]; rfl
    simp [execOp,ho,resolve,invoke,builtin,Builtin.len_,yy,e3,bx hu,goInt]
   ·rename_i r e1
    rw [e1] at hm
    obtain ⟨y,ys,e2,h1,h2⟩:=hm.cons_inv
    have:=h2.ck
    subst this
    obtain ⟨lc,hl,rfl⟩:=h1.JQ
    split at hf
    ·rename_i es hg
     simp at hf; subst hf
     obtain ⟨l2,mH,jy⟩:=hs.map _ _ hg
     rw [hl] at mH; simp at mH; subst mH
     obtain ⟨bq,clock,om,SF⟩:=jy.oa
     refine ⟨_,VR.of_flat rfl,?_⟩
     have e3:(args.map cW)[0]? = some (.map (some lc.cb)):=by rw [nB,e2]; rfl
     have fq:bq.size=es.length:=by rw [← Array.length_toList,SF.length]
     simp [execOp,ho,resolve,invoke,builtin,Builtin.len_,yy,e3,bx hu,goInt,MapKept.run_getObj_map om,fq]
    ·simp at hf
   ·simp at hf
  ·trivial
 ·trivial
end
end Go.aE
end
section
namespace Go.aE
open Go
section
variable {P:Program} {o:Oper}
theorem aco {l:List UInt8} : ∀ {cs:List Value},DT cs=some l→cs=kO l:=by
 intro cs
 induction cs generalizing l with
 | nil=>intro h; simp [DT] at h; subst h; rfl
 | cons c cs ih=>
  intro h
  cases c with
  | int k n=>
   cases k <;> cases n <;> simp only [DT] at h <;> try (simp at h; done)
   rename_i m
   cases hb:Nat.blt m 256 with
   | false=>rw [hb] at h; simp at h
   | true=>
    rw [hb,cond_true] at h
    obtain ⟨r,hr,rfl⟩:=Option.map_eq_some_iff.1 h
    rw [Nat.blt_eq] at hb
    rw [ih hr]
    simp only [kO,List.map_cons,List.cons.injEq,and_true]
    have:(UInt8.ofNat m).toNat=m:=by simp; omega
    rw [this]
    rfl
  | _=>simp [DT] at h
theorem aaG {ρ:aW} (l:List UInt8):dV ρ (kO l) (kO l):=by
 induction l with
 | nil=>exact .nil
 | cons x l ih=>exact .cons (by simp [VR]) ih
theorem JR:∀ (l:List UInt8),ug (kO l)=true
 | []=>rfl
 | x::l=>by show (true&&ug (kO l))=true; rw [JR l]; rfl
theorem XQ {e:TypeId} (h:isByte P e=true):P.underlying e=some (.int .u8):=by
 unfold isByte at h
 split at h
 ·rename_i h'; exact h'
 ·simp at h
theorem VV {ρ:aW} {A:St} {base:Nat} {w:World} {cs b8:List Value} {c:Array Value} {n bf f:Nat} {fr:Nat×Nat} (T:TypeId) (hn1:n=1) (hs:uj ρ A base w) (hc:dV ρ cs b8) (h1:∀ v∈cs,scalar v=true)
  (aiE:∀ (j:Nat) (v:Value),b8[j]? = some v→c[j]? = some v) (fq:cs.length≤c.size) (DK:c.size≤fr.1) :
  l7 base ρ A w (ρ.set A.next ⟨w.heap.size,0,c.size,n⟩) (A.grow bf f cs n) (w.alloc (.cells c T fr)):=by
 refine CW (o:=.row cs n true (some (bf,f))) hs (fun x=>FH _ _ _ _ _ _) (fun g x h=>?_) (fun g f' h=>?_) (by simp [St.grow]) (by simp [St.grow]) (fun x hx _=>by rw [FH,if_neg (by omega)]) rfl ?_
 ·rw [wD]; split
  ·rename_i e; subst e; simp [h]
  ·exact h
 ·simp [dg.mb] at h; rw [wD,h.1]; simp
 ·refine ⟨fun i v hi=>?_,fun h=>by simp at h,fun _=>hs.size,fun _ j hj=>?_,by simpa using fq,fun _ h=>by simp at h,rfl,by simp,fun _ h=>absurd hn1 h⟩
  ·obtain ⟨v',h2,h3⟩:=hc.get hi
   refine ⟨v',?_,h3.mono (hs.Hm _),h1 v (List.mem_of_getElem? hi)⟩
   rw [Nat.zero_add,World.cell?_alloc_mark]
   exact aiE i v' h2
  ·simp only at hj ⊢
   rw [World.cell?_alloc_mark]
   refine ⟨?_,?_⟩
   ·rw [Array.getElem?_eq_getElem (by omega)]
    rfl
   ·have:(w.alloc (.cells c T fr)).heap[w.heap.size]? = some (.cells c T fr):=by
     show (w.heap.push (.cells c T fr))[w.heap.size]? = _
     simp
    simp only [World.frozen?,this]
    have nW : ¬ (fr.1≤j):=by omega
    simp [nW]
theorem SG {ρ:aW} {A:St} {base:Nat} {w:World} {src dst e:TypeId} {x x' v:Value} (hs:Rel ρ A.get A.members base w) (h1:P.underlying src=some (.slice e)) (h2:P.underlying dst=some .string) (he:P.underlying e=some (.int .u8))
  (hx:VR ρ x x') (h:CT A [x] = some v):VR ρ v v∧(convert src dst x').run P w = .ok v w:=by
 unfold CT at h
 split at h
 ·rename_i n c e1
  simp at e1; subst e1
  simp at h; subst h
  have:=hx.jg
  subst this
  refine ⟨VR.of_flat rfl,?_⟩
  rw [run_convert_bytes_string w src dst e none n c h1 he h2]
  rfl
 ·rename_i a n c e1
  simp at e1; subst e1
  obtain ⟨l,hl,rfl⟩:=Option.map_eq_some_iff.1 h
  obtain ⟨cs,Ho,hb⟩:=Option.bind_eq_some_iff.1 hl
  have:=aco hb
  subst this
  obtain ⟨u4,DL,lc,a',c',lg,sQ,JM,oB,rfl⟩:=hx.nV
  obtain ⟨b8,q1,q2,q3,q4⟩:=u3 (P:=P) hs Ho lg
  have aiJ:b8=kO l:=q1.n9 (JR l)
  subst aiJ
  have hlen:l.length=n:=by simpa [kO] using q2
  refine ⟨VR.of_flat rfl,?_⟩
  rw [run_convert_bytes_string w src dst e (some a') n c' h1 he h2]
  have BA:(loadCells a' n).run P w = .ok (kO l).toArray w:=by
   by_cases hc:c' = 0
   ·have hn0:n=0:=by omega
    subst hn0
    have:l = []:=List.eq_nil_of_length_eq_zero hlen
    subst this
    exact run_loadCells_list w a' [] (by simp)
   ·rw [JM hc]; exact q4
  have rb:kO l=(l.map (fun b=>(b.toNat:Int))).map (Value.int .u8):=by simp [kO]
  rw [rb] at BA
  rw [run_bytesToString w a' n c' _ BA,foldl_push_byteCells]
  have XR:ByteArray.empty.data = #[]:=rfl
  rw [XR]
  simp
 ·simp at h
theorem SH {ρ:aW} {A B:St} {base:Nat} {w:World} {src dst e:TypeId} {x x' v:Value} (hs:uj ρ A base w) (h1:P.underlying src=some .string) (h2:P.underlying dst=some (.slice e)) (he:P.underlying e=some (.int .u8))
  (hx:VR ρ x x') (h:Hj A [x] = some (v,B)):∃ aX v' w',(convert src dst x').run P w = .ok v' w'∧VR aX v v'∧l7 base ρ A w aX B w':=by
 unfold Hj at h
 split at h
 ·rename_i s e1
  simp at e1; subst e1
  simp at h
  obtain ⟨rfl,rfl⟩:=h
  have:=hx.oC
  subst this
  have hr:=run_bytes_of_string (P:=P) w src dst e s h1 h2 he
  have hge:=grownCap_ge w s.size 0 e
  have hds:s.data.size=s.size:=rfl
  have Hq:(bytesRow s (grownCap w s.size 0 e)).size=grownCap w s.size 0 e:=by
   unfold bytesRow
   simp [hds]
   omega
  have hdr:=l7.drew (w:=w) hs
  have hgo:=VV (w:=w.drew) (n:=1) (bf:=A.next) (f:=0) (c:=bytesRow s (grownCap w s.size 0 e)) (fr:=((bytesRow s (grownCap w s.size 0 e)).size,(bytesRow s (grownCap w s.size 0 e)).size+1)) e rfl hdr.jr
   (aaG s.data.toList) (fun v hv=>by
    obtain ⟨b,_,rfl⟩:=List.mem_map.1 hv
    rfl) (fun j v hj=>by
    unfold bytesRow
    have bU:j < s.data.size:=by
     have:=(List.getElem?_eq_some_iff.1 hj).1
     simpa [kO] using this
    rw [Array.getElem?_append_left (by simpa using bU)]
    simpa [kO] using hj) (by rw [Hq]; simp [kO,hds]; exact hge) (Nat.le_refl _)
  refine ⟨_,_,_,hr,?_,hdr.trans hgo⟩
  simp only [VR]
  refine ⟨trivial,Nat.le_refl _,_,⟨w.heap.size,0,none⟩,grownCap w s.size 0 e,aW.pR _ _ _,hge,fun _=>rfl,?_,rfl⟩
  rw [Hq]
  show 0+0+grownCap w s.size 0 e * 1≤grownCap w s.size 0 e
  omega
 ·simp at h
theorem aiK {src dst:TypeId} {x:Operand} (ho:o.op = .convert src dst x):hO P o (A5 P src dst x):=by
 unfold A5
 split
 ·rename_i e h1 h2
  cases hb:isByte P e with
  | false=>exact True.intro
  | true=>
   rw [cond_true]
   intro ρ A base w ev cW v hs he hf
   obtain ⟨h3,h4⟩:=SG hs h1 h2 (XQ hb) (he x (by simp)) hf
   exact ⟨v,h3,by simp [execOp,ho,h4]⟩
 ·rename_i e h1 h2
  cases hb:isByte P e with
  | false=>exact True.intro
  | true=>
   rw [cond_true]
   intro ρ A B base w ev cW v hs he hf
   obtain ⟨aX,v',w',h3,h4,h5⟩:=SH hs h1 h2 (XQ hb) (he x (by simp)) hf
   exact ⟨aX,v',.value v',w',by simp [execOp,ho,h3],rfl,h4,h5⟩
 ·rename_i h1 h2
  intro ρ ev cW v he hf
  simp only [List.map] at hf
  unfold Xu at hf
  split at hf
  ·rename_i s e
   simp at e hf
   subst hf
   have hx:=he x (by simp)
   rw [e] at hx
   refine ⟨_,VR.of_flat rfl,fun w=>?_⟩
   simp [execOp,ho,convert,bx h1,bx h2,hx.oC]
  ·simp at hf
 ·exact adK ho
theorem aaH {ρ:aW} {A:St} {base:Nat} {w:World} {r:Nat} {s:List UInt8} {pos PR:Nat} {l:Loc} (hs:uj ρ A base w) (hg:A.get r=some (.iter s pos)) (lg:ρ r=some l) :
  l7 base ρ A w ρ (A.put r (.iter s PR)) { w with heap:=w.heap.setIfInBounds l.cb (.stringIter ⟨⟨s⟩⟩ PR) }:=by
 obtain ⟨l',r5,ok⟩:=hs.rel.iter _ _ _ hg
 rw [lg] at r5; simp at r5; subst r5
 obtain ⟨IE,om⟩:=ok.oa
 have bU:l.cb < w.heap.size:=(Array.getElem?_eq_some_iff.1 om).1
 have EM:dg.fv (.iter s pos)=true:=rfl
 have hold:∀ k,k≠l.cb→(w.heap.setIfInBounds l.cb (.stringIter ⟨⟨s⟩⟩ PR))[k]? = w.heap[k]?:=fun k hk=>by
  rw [Array.getElem?_setIfInBounds_ne (Ne.symm hk)]
 have fq:(w.heap.setIfInBounds l.cb (.stringIter ⟨⟨s⟩⟩ PR)).size=w.heap.size:=by simp
 have hB:∀ x,(A.put r (.iter s PR)).get x=if x=r then some (.iter s PR) else A.get x:=fun x=>St.b9 _ _ _ _
 have hmd:∀ o:dg,o.fv=true→o≠.dead:=by intro o h e; subst e; simp [dg.fv] at h
 have Xy:∀ x o l2,x≠r→A.get x=some o→o≠.dead→ρ x=some l2→EK ρ base w l2 o→l2.cb≠l.cb:=by
  intro x o l2 hx jx hd um jy e
  cases XO:o.fv with
  | true=>
   obtain ⟨_,_,_,_,e1,_⟩:=hs.rel.apart x r o _ l2 l hx jx hg XO EM um lg e
   simp [dg.mb] at e1
  | false=>
   cases o with
   | row cs bW own bQ=>
    have jy:Hk ρ base w l2 cs bW own bQ:=jy
    have h1:own=false:=XO
    have:=jy.sP h1
    have:=ok.fv
    omega
   | map _=>simp [dg.fv] at XO
   | iter _ _=>simp [dg.fv] at XO
   | dead=>exact hd rfl
   | loop _ _ _ _ _ _=>simp [dg.fv] at XO
 refine ⟨⟨.Hn ?_ ?_ ?_,fun b l2 h=>hs.lE b l2 h,by simpa using hs.size,hs.IC⟩,fun _ _=>rfl,⟨rfl,rfl,rfl,Nat.le_of_eq fq.symm,fun k hk hn=>hold k (fun e=>hn ⟨r,_,l,hg,EM,lg,e.symm⟩)⟩,Nat.le_refl _,Nat.min_le_left _ _,fun x hx hxl=>?_,?_⟩
 ·intro x o jx hd
  rw [hB] at jx
  split at jx
  ·rename_i e; subst e; simp at jx; subst jx
   refine ⟨l,lg,ok.fv,IE,?_⟩
   show (w.heap.setIfInBounds l.cb (.stringIter ⟨⟨s⟩⟩ PR))[l.cb]? = _
   rw [Array.getElem?_setIfInBounds_self_of_lt bU]
  ·rename_i e
   obtain ⟨l2,um,jy⟩:=hs.rel.obj jx hd
   exact ⟨l2,um,jy.mg (aW.le_refl _) (hold _ (Xy x o l2 e jx hd um jy)) (Nat.le_of_eq fq.symm)⟩
 ·have PI:∀ x o,(A.put r (.iter s PR)).get x=some o→o.fv=true→∃ o',A.get x=some o'∧o'.fv=true∧o'.mb=o.mb:=by
   intro x o hx hm
   rw [hB] at hx
   split at hx
   ·rename_i e; subst e; simp at hx; subst hx; exact ⟨_,hg,rfl,rfl⟩
   ·exact ⟨o,hx,hm,rfl⟩
  intro b1 b2 o1 o2 l1 l2 en g1 g2 m1 m2 r1 r2 Oa
  obtain ⟨p1,q1,n1,k1⟩:=PI _ _ g1 m1
  obtain ⟨p2,q2,n2,k2⟩:=PI _ _ g2 m2
  rw [← k1,← k2]
  exact hs.rel.apart b1 b2 p1 p2 l1 l2 en q1 q2 n1 n2 r1 r2 Oa
 ·intro x o bf f jx hk
  rw [hB] at jx
  split at jx
  ·rename_i e; subst e; simp at jx; subst jx; simp [dg.mb] at hk
  ·exact hs.rel.bF x o bf f jx hk
 ·rw [St.Xw] at hxl
  have:Nat.min A.low r≤r:=Nat.min_le_right _ _
  rw [hB,if_neg (by omega)]
 ·rintro k hk ⟨x,o,l2,jx,hm,um,rfl⟩
  rw [hB] at jx
  split at jx
  ·rename_i e; subst e
   rw [lg] at um; simp at um; subst um
   exact ⟨x,_,l,hg,EM,lg,rfl⟩
  ·exact ⟨x,o,l2,jx,hm,um,rfl⟩
theorem ahA {t:TypeId} {x:Operand} (ho:o.op = .range t x):hO P o (Sz P t x):=by
 unfold Sz
 split
 ·rename_i hu
  intro ρ ev cW obj mk he hf
  simp only [List.map] at hf
  unfold agz at hf
  split at hf
  ·rename_i s e
   simp at e
   have hx:=he x (by simp)
   rw [e] at hx
   have hx:=hx.oC
   simp at hf
   obtain ⟨rfl,rfl⟩:=hf
   refine ⟨.stringIter s 0,fun n=>.pointer (some ⟨n,0,none⟩),?_,fun w=>?_,fun aX n cb h=>VR.xp (a:=⟨n,0,none⟩) rfl h⟩
   ·show Obj.stringIter s 0 = .stringIter ⟨⟨s.data.toList⟩⟩ 0
    rfl
   ·simp [execOp,ho,Instr.range,bx hu,hx]
  ·simp at hf
 ·trivial
theorem FL {w:World} {r:Nat} {s:ByteArray} {pos:Nat} (hb:w.heap[r]? = some (.stringIter s pos)):(getObj r).run P w = .ok (.stringIter s pos) w:=by
 simp [getObj,Sem.run,hb]
theorem SI {w:World} {r:Nat} {s:ByteArray} {pos:Nat} (o:Obj) (hb:w.heap[r]? = some (.stringIter s pos)):(setObj r o).run P w = .ok () { w with heap:=w.heap.setIfInBounds r o }:=by
 simp [setObj,Sem.run,hb]
theorem aiL {it:Operand} {b:Bool} (ho:o.op = .next it b):hO P o (cond b (.act afw [it]) .bad):=by
 cases b with
 | false=>trivial
 | true=>
  rw [cond_true]
  intro ρ A B base w ev cW v hs he hf
  simp only [List.map] at hf
  unfold afw at hf
  split at hf
  ·rename_i a e
   simp at e
   have hx:=he it (by simp)
   rw [e] at hx
   obtain ⟨u4,l,hl,hx⟩:=hx.iL
   cases ha0:Nat.beq a.off 0 with
   | false=>rw [ha0] at hf; simp at hf
   | true=>
    rw [ha0,cond_true] at hf
    have ha0:=Nat.eq_of_beq_eq_true ha0
    split at hf
    ·rename_i s pos hg
     obtain ⟨l2,mH,ok⟩:=hs.rel.iter _ _ _ hg
     rw [hl] at mH; simp at mH; subst mH
     obtain ⟨IE,om⟩:=ok.oa
     have fq:(⟨⟨s⟩⟩:ByteArray).size=s.length:=rfl
     rw [IE,ha0] at hx
     cases bU:Nat.blt pos s.length with
     | true=>
      rw [bU,cond_true] at hf
      rw [Nat.blt_eq] at bU
      split at hf
      rename_i c width alX
      simp at hf
      obtain ⟨rfl,rfl⟩:=hf
      refine ⟨ρ,.tuple #[.bool true,.int .i64 (Int.ofNat pos),.int .i32 c],.value _,_,?_,rfl,VR.of_flat rfl,aaH (PR:=pos+width) hs hg hl⟩
      simp [execOp,ho,Instr.next,hx,FL om,fq,bU,alX,SI _ om,goInt]
     | false=>
      rw [bU,cond_false] at hf
      have hge : ¬ pos < s.length:=fun h=>by rw [← Nat.blt_eq] at h; rw [h] at bU; simp at bU
      simp at hf
      obtain ⟨rfl,rfl⟩:=hf
      refine ⟨ρ,.tuple #[.bool false],.value _,w,?_,rfl,VR.of_flat rfl,.refl hs⟩
      simp [execOp,ho,Instr.next,hx,FL om,fq,hge]
    ·simp at hf
  ·simp at hf
theorem p0 (P:Program) (o:Oper):hO P o (compile P o.op):=by
 cases ho:o.op with
 | move x=>exact aiy ho
 | assign x=>exact afz ho
 | pick c a b=>exact aiz ho
 | alloc t=>exact ahp ho
 | box t x=>exact akk ho
 | build t parts=>exact ahu ho
 | buildSlice t len parts=>exact XF ho
 | load t a=>exact aiA ho
 | store t a x=>exact ahq ho
 | nilCheck x=>exact ach ho
 | binOp op t x y yt=>exact akl ho
 | unOp op t x=>exact aln ho
 | convert src dst x=>exact aiK ho
 | makeFunc fn first cap=>exact aci ho
 | fieldAddr s x f=>exact aaC ho
 | field t x f=>exact ahr ho
 | indexAddr t x ix=>exact aaD ho
 | index t x ix=>exact ahs ho
 | extract t i=>exact adL ho
 | slice t x lo hi mx=>exact ok_slice ho
 | makeSlice t l c=>exact aaF ho
 | makeInterface t x=>exact ahw ho
 | range t x=>exact ahA ho
 | next it b=>exact aiL ho
 | makeMap t r=>exact adO ho
 | lookup t x ix ok=>exact afF ho
 | mapUpdate t m k x=>exact MU (.inl ho)
 | insert t m k x=>exact MU (.inr ho)
 | call c=>
  show hO P o (yr P c)
  unfold yr
  split
  ·rename_i f hf; exact aiC ho hf
  ·rename_i b hb
   obtain ⟨callee,args,argTypes⟩:=c
   simp only at hb
   subst hb
   unfold DU
   split
   ·exact ako ho
   ·exact akm ho
   ·exact akn ho
   ·exact afE ho
   ·exact aiI ho
   ·exact afG ho
   ·exact ahz ho
   ·trivial
  ·trivial
 | _=>trivial
end
end Go.aE
end
section
namespace Go.aE
noncomputable section
open Go
abbrev Fr (r:Option Nat):Fence:={ Fence.wide with round:=r }
def aW.res (ρ:aW) (n:Nat):aW:=fun b=>if b < n then ρ b else none
theorem aW.W6 {ρ:aW} {n b:Nat} (h:b < n):ρ.res n b=ρ b:=by unfold aW.res; rw [if_pos h]
theorem N7.under {ρ:aW} {n:Nat} {fn yi:Fn} (hu:acf n fn=true) (h:N7 ρ fn yi):N7 (ρ.res n) fn yi:=by
 cases fn with
 | yield r=>
  obtain ⟨l,h1,h2⟩:=h
  simp only [acf] at hu
  rw [Nat.blt_eq] at hu
  exact ⟨l,by rw [aW.W6 hu]; exact h1,h2⟩
 | _=>exact h
mutual
theorem VR.under {ρ:aW} {n:Nat} : ∀ {v v' : Value},aE.under n v=true→VR ρ v v'→VR (ρ.res n) v v'
 | .bool b,v,_,hv=>by simpa [VR] using hv
 | .int k n,v,_,hv=>by simpa [VR] using hv
 | .float k x,v,_,hv=>by simpa [VR] using hv
 | .complex k x y,v,_,hv=>by simpa [VR] using hv
 | .string s,v,_,hv=>by simpa [VR] using hv
 | .pointer none,v,_,hv=>by simpa [VR] using hv
 | .pointer (some a),v,hu,hv=>by
  simp only [aE.under] at hu
  rw [Nat.blt_eq] at hu
  simp only [VR] at hv ⊢
  rw [aW.W6 hu]
  exact hv
 | .slice none n c,v,_,hv=>by simpa [VR] using hv
 | .slice (some a) n c,v,hu,hv=>by
  simp only [aE.under] at hu
  rw [Nat.blt_eq] at hu
  simp only [VR] at hv ⊢
  rw [aW.W6 hu]
  exact hv
 | .map none,v,_,hv=>by simpa [VR] using hv
 | .map (some r),v,hu,hv=>by
  simp only [aE.under] at hu
  rw [Nat.blt_eq] at hu
  simp only [VR] at hv ⊢
  rw [aW.W6 hu]
  exact hv
 | .chan _,_,_,_=>by simp [VR]
 | .func fn f c,v,hu,hv=>by
  simp only [aE.under,Bool.and_eq_true] at hu
  simp only [VR] at hv ⊢
  obtain ⟨f',c',h2,h3,yi,h4,h5⟩:=hv
  exact ⟨f',c',qX.under hu.1.2 h2,qX.under hu.2 h3,yi,N7.under hu.1.1 h4,h5⟩
 | .nilFunc,v,_,hv=>by simpa [VR] using hv
 | .iface t x,v,hu,hv=>by
  simp only [aE.under] at hu
  simp only [VR] at hv ⊢
  obtain ⟨x',h2,h3⟩:=hv
  exact ⟨x',VR.under hu h2,h3⟩
 | .nilIface,v,_,hv=>by simpa [VR] using hv
 | .agg cs,v,hu,hv=>by
  simp only [aE.under] at hu
  simp only [VR] at hv ⊢
  obtain ⟨x',h2,h3⟩:=hv
  exact ⟨x',qX.under hu h2,h3⟩
 | .tuple cs,v,hu,hv=>by
  simp only [aE.under] at hu
  simp only [VR] at hv ⊢
  obtain ⟨x',h2,h3⟩:=hv
  exact ⟨x',qX.under hu h2,h3⟩
theorem qX.under {ρ:aW} {n:Nat} : ∀ {v v' : Array Value},aE.LJ n v=true→qX ρ v v'→qX (ρ.res n) v v'
 | ⟨l⟩,a,hu,hv=>by simp only [aE.LJ] at hu; simp only [qX] at hv ⊢; exact dV.under hu hv
theorem dV.under {ρ:aW} {n:Nat} : ∀ {v v' : List Value},aE.W4 n v=true→dV ρ v v'→dV (ρ.res n) v v'
 | [],l,_,hv=>by simpa [dV] using hv
 | x::xs,l,hu,hv=>by
  simp only [aE.W4,Bool.and_eq_true] at hu
  simp only [dV] at hv ⊢
  obtain ⟨y,ys,e,h1,h2⟩:=hv
  exact ⟨y,ys,e,VR.under hu.1 h1,dV.under hu.2 h2⟩
end
theorem Ht {acc:List Nat} {j:Nat} : ∀ {es:List Edge},Nat.testBit (rX acc es) j=true→∃ e∈es,binds e=true∧(j=e.on∨oZ acc e.on j=true)
 | [],h=>by simp [rX] at h
 | e::es,h=>by
  simp only [rX] at h
  cases hb:binds e with
  | false=>
   rw [hb,cond_false] at h
   obtain ⟨e',h1,h2⟩:=Ht h
   exact ⟨e',by simp [h1],h2⟩
  | true=>
   rw [hb,cond_true] at h
   have e1:∀ a b:Nat,Nat.lor a b=a ||| b:=fun _ _=>rfl
   have e2:Nat.shiftLeft 1 e.on=1 <<< e.on:=rfl
   rw [e1,e1,e2,Nat.testBit_or,Nat.testBit_or,Bool.or_eq_true,Bool.or_eq_true] at h
   rcases h with (h | h) | h
   ·refine ⟨e,by simp,hb,.inl ?_⟩
    rw [Nat.one_shiftLeft,Nat.testBit_two_pow] at h
    exact (of_decide_eq_true h).symm
   ·exact ⟨e,by simp,hb,.inr h⟩
   ·obtain ⟨e',h1,h2⟩:=Ht h
    exact ⟨e',by simp [h1],h2⟩
theorem UT:∀ (os:List Oper) (acc:List Nat),∃ r,eL acc os=acc++r∧r.length=os.length
 | [],acc=>⟨[],by simp [eL]⟩
 | o::os,acc=>by
  obtain ⟨r,h1,h2⟩:=UT os (acc++[rX acc o.after.toList])
  exact ⟨rX acc o.after.toList::r,by simp [eL,h1],by simp [h2]⟩
theorem abm:∀ (os:List Oper) (acc:List Nat) (i j:Nat) (o:Oper),os[i]? = some o→(∀ e∈o.after.toList,binds e=true→e.on < acc.length+i)→
  oZ (eL acc os) (acc.length+i) j=true→∃ e∈o.after.toList,binds e=true∧(j=e.on∨oZ (eL acc os) e.on j=true)
 | [],acc,i,j,o,ho,_,_=>by simp at ho
 | o0::os,acc,0,j,o,ho,hf,h=>by
  simp at ho
  subst ho
  obtain ⟨r,h1,_⟩:=UT os (acc++[rX acc o0.after.toList])
  have e0:eL acc (o0::os)=acc++[rX acc o0.after.toList]++r:=by simp only [eL]; exact h1
  rw [e0] at h ⊢
  have e1:(acc++[rX acc o0.after.toList]++r).getD (acc.length+0) 0=rX acc o0.after.toList:=by simp [List.getD]
  unfold oZ at h
  rw [e1] at h
  obtain ⟨e,h2,h3,h4⟩:=Ht h
  refine ⟨e,h2,h3,h4.imp id fun h5=>?_⟩
  have bU:=hf e h2 h3
  unfold oZ at h5 ⊢
  have:(acc++[rX acc o0.after.toList]++r).getD e.on 0=acc.getD e.on 0:=by
   simp only [List.getD,List.append_assoc]
   rw [List.getElem?_append_left (by simpa using bU)]
  rw [this]
  exact h5
 | o0::os,acc,i+1,j,o,ho,hf,h=>by
  have hlen:(acc++[rX acc o0.after.toList]).length+i=acc.length+(i+1):=by simp; omega
  have:=abm os (acc++[rX acc o0.after.toList]) i j o (by simpa using ho) (by rw [hlen]; exact hf) (by rw [hlen]; exact h)
  simpa only [eL] using this
structure p8 (P:Program) (all:List Oper):Prop where
 back:∀ i o,all[i]? = some o→∀ e∈o.after.toList,binds e=true→e.on < i
 apart:∀ i j x y,all[i]? = some y→all[j]? = some x→j < i→Bv P all x y=true→oZ (eL [] all) i j=true
theorem MV {P:Program} {all:List Oper} {b:List Nat} {i:Nat} {y:Oper} : ∀ (xs:List Oper) (k:Nat),Fz P all b i y xs k=true→∀ (j:Nat) (x:Oper),xs[j]? = some x→k+j < i→Bv P all x y=true→oZ b i (k+j)=true
 | [],k,_,j,x,hx,_,_=>by simp at hx
 | x0::xs,k,h,0,x,hx,bU,hc=>by
  simp at hx
  subst hx
  simp only [Fz,Bool.and_eq_true,Bool.or_eq_true,Bool.not_eq_true'] at h
  rcases h.1 with (h1 | h1) | h1
  ·have:=Nat.le_of_ble_eq_true h1; omega
  ·rw [hc] at h1; simp at h1
  ·exact h1
 | x0::xs,k,h,j+1,x,hx,bU,hc=>by
  simp only [Fz,Bool.and_eq_true] at h
  have:=MV xs (k+1) h.2 j x (by simpa using hx) (by omega) hc
  rwa [show k+1+j=k+(j+1) by omega] at this
theorem xr {P:Program} {all:List Oper} {b:List Nat} : ∀ (os:List Oper) (k:Nat),wB P all b os k=true→∀ (i:Nat) (o:Oper),os[i]? = some o→
  (∀ e∈o.after.toList,binds e=true→e.on < k+i)∧Fz P all b (k+i) o all 0=true
 | [],k,_,i,o,ho=>by simp at ho
 | o0::os,k,h,0,o,ho=>by
  simp at ho
  subst ho
  simp only [wB,Bool.and_eq_true,List.all_eq_true] at h
  refine ⟨fun e he hb=>?_,h.1.2⟩
  have:=h.1.1 e he
  rw [hb] at this
  simp at this
  exact this
 | o0::os,k,h,i+1,o,ho=>by
  simp only [wB,Bool.and_eq_true] at h
  have:=xr os (k+1) h.2 i o (by simpa using ho)
  rwa [show k+1+i=k+(i+1) by omega] at this
theorem BB {P:Program} {all:List Oper} (h:FB P all=true):p8 P all:=by
 unfold FB at h
 refine ⟨fun i o ho=>?_,fun i j x y hy hx bU hc=>?_⟩
 ·have:=(xr all 0 h i o ho).1
  simpa using this
 ·have:=MV all 0 (xr all 0 h i y hy).2 j x hx (by simpa using bU) hc
  simpa using this
def px (all:List Oper) (S:Nat→Bool):Prop:=∀ i j,S i=true→oZ (eL [] all) i j=true→S j=true
def s8 (all:List Oper) (S:Nat→Bool) (i:Nat):Prop:=∀ o,all[i]? = some o→∀ e∈o.after.toList,binds e=true→S e.on=true
theorem px.ready {P:Program} {all:List Oper} (hf:p8 P all) {S:Nat→Bool} (hc:px all S) {i:Nat} {o:Oper} (ho:all[i]? = some o) (hr:s8 all S i):∀ j,oZ (eL [] all) i j=true→S j=true:=by
 intro j hj
 obtain ⟨e,h1,h2,h3⟩:=abm all [] i j o ho (by simpa using hf.back i o ho) (by simpa using hj)
 have hs:=hr o ho e h1 h2
 rcases h3 with rfl | h3
 ·exact hs
 ·exact hc _ _ hs h3
def cT (S:Nat→Bool) (i:Nat):Nat→Bool:=fun j=>S j||Nat.beq j i
theorem px.insert {P:Program} {all:List Oper} (hf:p8 P all) {S:Nat→Bool} (hc:px all S) {i:Nat} {o:Oper} (ho:all[i]? = some o) (hr:s8 all S i):px all (cT S i):=by
 intro a b h1 h2
 simp only [cT,Bool.or_eq_true] at h1 ⊢
 rcases h1 with h1 | h1
 ·exact .inl (hc a b h1 h2)
 ·have:=Nat.eq_of_beq_eq_true h1
  subst this
  exact .inl (hc.ready hf ho hr b h2)
theorem abn (e:Edge):Region.binds .any e=binds e:=by
 unfold Region.binds binds
 cases e.ground <;> rfl
theorem DZ {all:List Oper} {bF:Array Bool} {i:Nat} (h:i∈Region.ready .any ⟨all⟩ bF):i < all.length∧bF.getD i true=false∧s8 all (fun j=>bF.getD j false) i:=by
 unfold Region.ready at h
 rw [List.mem_filter,List.mem_range] at h
 obtain ⟨h1,h2⟩:=h
 simp only [Bool.and_eq_true,Bool.not_eq_true'] at h2
 refine ⟨by simpa using h1,h2.1,fun o ho e he hb=>?_⟩
 have e1:(⟨all⟩:Array Oper)[i]? = some o:=by simpa using ho
 rw [e1] at h2
 simp only [Option.map_some,Option.getD_some] at h2
 have:=Array.all_eq_true'.1 h2.2 e (by simpa using he)
 rw [abn,hb] at this
 simpa using this
theorem XS {P:Program} {all:List Oper} (hf:p8 P all) {bF:Array Bool} (hl:bF.size=all.length) (h:Region.ready .any ⟨all⟩ bF = []):∀ i,i < all.length→bF.getD i false=true:=by
 intro i
 induction i using Nat.strongRecOn with
 | _ i ih=>
  intro hi
  cases hc:bF.getD i false with
  | true=>rfl
  | false=>
   exfalso
   obtain ⟨o,ho⟩:∃ o,all[i]? = some o:=⟨_,List.getElem?_eq_getElem hi⟩
   have hm:i∈Region.ready .any ⟨all⟩ bF:=by
    unfold Region.ready
    rw [List.mem_filter,List.mem_range]
    refine ⟨by simpa using hi,?_⟩
    have e1:(⟨all⟩:Array Oper)[i]? = some o:=by simpa using ho
    rw [e1]
    have e2:bF.getD i true=false:=by
     have:i < bF.size:=by omega
     simpa [Array.getD_eq_getD_getElem?,this] using hc
    simp only [e2,Bool.not_false,Bool.true_and,Option.map_some,Option.getD_some]
    rw [Array.all_eq_true']
    intro e he
    cases hb:binds e with
    | false=>rw [abn,hb]; rfl
    | true=>
     have bU:=hf.back i o ho e (by simpa using he) hb
     rw [ih e.on bU (by omega)]
     simp
   rw [h] at hm
   simp at hm
theorem count_set:∀ (l:List Bool) (i:Nat),l[i]? = some false→((l.set i true).filter (!·)).length+1=(l.filter (!·)).length
 | [],i,h=>by simp at h
 | x::l,0,h=>by
  simp at h
  subst h
  simp
 | x::l,i+1,h=>by
  have:=count_set l i (by simpa using h)
  cases x <;> simp at this ⊢ <;> omega
theorem adP {P:Program} {all:List Oper} {r:Option Nat} (hf:p8 P all) {Q:Exit→Act→World→Prop} (I:(Nat→Bool)→Act→World→Prop) (hI:∀ S S' a w,(∀ i,i < all.length→S i=S' i)→I S a w→I S' a w)
  (step:∀ S a w i o,I S a w→px all S→all[i]? = some o→S i=false→s8 all S i→(∀ j,S j=true→j < all.length)→wpOpIn (Fr r) 0 P ⟨all⟩ Q i (I (cT S i)) a w)
  (fin:∀ S a w,(∀ i,i < all.length→S i=true)→I S a w→Q .normal a w) :
  ∀ (fuel:Nat) (bF:Array Bool) (a:Act) (w:World),bF.size=all.length→(bF.toList.filter (!·)).length=fuel→px all (fun j=>bF.getD j false)→I (fun j=>bF.getD j false) a w→wpAnyIn (Fr r) 0 P .any ⟨all⟩ Q fuel bF a w
 | 0,bF,a,w,hs,hn,hc,h=>by
  have o3:∀ i,i < all.length→bF.getD i false=true:=by
   intro i hi
   have:i < bF.size:=by omega
   cases hb:bF.getD i false with
   | true=>rfl
   | false=>
    exfalso
    have hg:bF[i] = false:=by simpa [Array.getD_eq_getD_getElem?,this] using hb
    have hm:bF[i]∈bF.toList.filter (!·):=by
     rw [List.mem_filter]
     exact ⟨by simp,by simp [hg]⟩
    rw [List.length_eq_zero_iff.1 hn] at hm
    simp at hm
  refine ⟨?_,fin _ a w o3 h⟩
  cases hr:Region.ready .any ⟨all⟩ bF with
  | nil=>rfl
  | cons i r=>
   have:=DZ (all:=all) (bF:=bF) (i:=i) (by rw [hr]; simp)
   have h1:=o3 i this.1
   have h2:bF.getD i true=true:=by
    have bU:i < bF.size:=by omega
    simpa [Array.getD_eq_getD_getElem?,bU] using h1
   rw [h2] at this
   simp at this
 | fuel+1,bF,a,w,hs,hn,hc,h=>by
  refine ⟨fun hr=>fin _ a w (XS hf hs hr) h,fun i hi=>?_⟩
  obtain ⟨bU,hl,r6⟩:=DZ hi
  obtain ⟨o,ho⟩:∃ o,all[i]? = some o:=⟨_,List.getElem?_eq_getElem bU⟩
  have JS:i < bF.size:=by omega
  have oO:bF.getD i false=false:=by simpa [Array.getD_eq_getD_getElem?,JS] using hl
  have XT:∀ j,j < all.length→cT (fun j=>bF.getD j false) i j=(bF.setIfInBounds i true).getD j false:=by
   intro j hj
   by_cases e:j=i
   ·subst e
    simp [cT,Array.getD_eq_getD_getElem?,JS]
   ·have:Nat.beq j i=false:=by
     cases hb:Nat.beq j i with
     | false=>rfl
     | true=>exact absurd (Nat.eq_of_beq_eq_true hb) e
    simp [cT,this,Array.getD_eq_getD_getElem?,Array.getElem?_setIfInBounds_ne (Ne.symm e)]
  refine wpOpIn_mono (fun a' w' h'=>?_) (step _ a w i o h hc ho oO r6 (fun j hj=>by
   rcases Nat.lt_or_ge j all.length with h1 | h1
   ·exact h1
   ·have:bF.getD j false=false:=by
     rw [Array.getD_eq_getD_getElem?,Array.getElem?_eq_none (by omega)]
     rfl
    rw [this] at hj; simp at hj))
  refine adP hf I hI step fin fuel _ a' w' (by simpa using hs) ?_ ?_ (hI _ _ a' w' XT h')
  ·rw [Array.toList_setIfInBounds]
   have:=count_set bF.toList i (by simpa [Array.getD_eq_getD_getElem?,JS] using oO)
   omega
  ·intro x y hx hy
   have hb:∀ z,(bF.setIfInBounds i true).getD z false=true↔cT (fun j=>bF.getD j false) i z=true:=by
    intro z
    rcases Nat.lt_or_ge z all.length with h1 | h1
    ·rw [XT z h1]
    ·have e1:(bF.setIfInBounds i true).getD z false=false:=by
      rw [Array.getD_eq_getD_getElem?,Array.getElem?_eq_none (by simp; omega)]
      rfl
     have e2:bF.getD z false=false:=by
      rw [Array.getD_eq_getD_getElem?,Array.getElem?_eq_none (by omega)]
      rfl
     have e3:Nat.beq z i=false:=by
      cases hb:Nat.beq z i with
      | false=>rfl
      | true=>have:=Nat.eq_of_beq_eq_true hb; omega
     simp [cT,e1,e2,e3]
   rw [hb] at hx ⊢
   exact hc.insert hf ho r6 x y hx hy
theorem Ce {P:Program} {all:List Oper} (hf:p8 P all) {Q:Exit→Act→World→Prop} (I:(Nat→Bool)→Act→World→Prop) (hI:∀ S S' a w,(∀ i,i < all.length→S i=S' i)→I S a w→I S' a w)
  (step:∀ S a w i o,I S a w→px all S→all[i]? = some o→S i=false→s8 all S i→(∀ j,S j=true→j < all.length)→wpOp P ⟨all⟩ Q i (I (cT S i)) a w)
  (fin:∀ S a w,(∀ i,i < all.length→S i=true)→I S a w→Q .normal a w) :
  ∀ (fuel:Nat) (bF:Array Bool) (a:Act) (w:World),bF.size=all.length→(bF.toList.filter (!·)).length=fuel→px all (fun j=>bF.getD j false)→I (fun j=>bF.getD j false) a w→wpAny P .any ⟨all⟩ Q fuel bF a w
 | 0,bF,a,w,hs,hn,hc,h=>by
  have o3:∀ i,i < all.length→bF.getD i false=true:=by
   intro i hi
   have:i < bF.size:=by omega
   cases hb:bF.getD i false with
   | true=>rfl
   | false=>
    exfalso
    have hg:bF[i] = false:=by simpa [Array.getD_eq_getD_getElem?,this] using hb
    have hm:bF[i]∈bF.toList.filter (!·):=by
     rw [List.mem_filter]
     exact ⟨by simp,by simp [hg]⟩
    rw [List.length_eq_zero_iff.1 hn] at hm
    simp at hm
  refine ⟨?_,fin _ a w o3 h⟩
  cases hr:Region.ready .any ⟨all⟩ bF with
  | nil=>rfl
  | cons i r=>
   have:=DZ (all:=all) (bF:=bF) (i:=i) (by rw [hr]; simp)
   have h1:=o3 i this.1
   have h2:bF.getD i true=true:=by
    have bU:i < bF.size:=by omega
    simpa [Array.getD_eq_getD_getElem?,bU] using h1
   rw [h2] at this
   simp at this
 | fuel+1,bF,a,w,hs,hn,hc,h=>by
  refine ⟨fun hr=>fin _ a w (XS hf hs hr) h,fun i hi=>?_⟩
  obtain ⟨bU,hl,r6⟩:=DZ hi
  obtain ⟨o,ho⟩:∃ o,all[i]? = some o:=⟨_,List.getElem?_eq_getElem bU⟩
  have JS:i < bF.size:=by omega
  have oO:bF.getD i false=false:=by simpa [Array.getD_eq_getD_getElem?,JS] using hl
  have XT:∀ j,j < all.length→cT (fun j=>bF.getD j false) i j=(bF.setIfInBounds i true).getD j false:=by
   intro j hj
   by_cases e:j=i
   ·subst e
    simp [cT,Array.getD_eq_getD_getElem?,JS]
   ·have:Nat.beq j i=false:=by
     cases hb:Nat.beq j i with
     | false=>rfl
     | true=>exact absurd (Nat.eq_of_beq_eq_true hb) e
    simp [cT,this,Array.getD_eq_getD_getElem?,Array.getElem?_setIfInBounds_ne (Ne.symm e)]
  refine wpOp_mono (fun a' w' h'=>?_) (step _ a w i o h hc ho oO r6 (fun j hj=>by
   rcases Nat.lt_or_ge j all.length with h1 | h1
   ·exact h1
   ·have:bF.getD j false=false:=by
     rw [Array.getD_eq_getD_getElem?,Array.getElem?_eq_none (by omega)]
     rfl
    rw [this] at hj; simp at hj))
  refine Ce hf I hI step fin fuel _ a' w' (by simpa using hs) ?_ ?_ (hI _ _ a' w' XT h')
  ·rw [Array.toList_setIfInBounds]
   have:=count_set bF.toList i (by simpa [Array.getD_eq_getD_getElem?,JS] using oO)
   omega
  ·intro x y hx hy
   have hb:∀ z,(bF.setIfInBounds i true).getD z false=true↔cT (fun j=>bF.getD j false) i z=true:=by
    intro z
    rcases Nat.lt_or_ge z all.length with h1 | h1
    ·rw [XT z h1]
    ·have e1:(bF.setIfInBounds i true).getD z false=false:=by
      rw [Array.getD_eq_getD_getElem?,Array.getElem?_eq_none (by simp; omega)]
      rfl
     have e2:bF.getD z false=false:=by
      rw [Array.getD_eq_getD_getElem?,Array.getElem?_eq_none (by omega)]
      rfl
     have e3:Nat.beq z i=false:=by
      cases hb:Nat.beq z i with
      | false=>rfl
      | true=>have:=Nat.eq_of_beq_eq_true hb; omega
     simp [cT,e1,e2,e3]
   rw [hb] at hx ⊢
   exact hc.insert hf ho r6 x y hx hy
end
end Go.aE
end
section
namespace Go.aE
noncomputable section
open Go
def alp (all:List Oper) (i:Nat):Option Tmp:=(all[i]?).bind (·.dst)
end
end Go.aE
end
section
namespace Go.aE
noncomputable section
open Go
def Quiet (A0:St) (R:List Rec):Prop:=∀ r∈R,r.nx=A0.next∧(r.did = .val∨∃ f vs,r.did = .read f vs)
def lS (R:List Rec) (S:Nat→Bool):Option Nat:=aiw (R.filter fun r=>S r.i)
def PS (A0:St) (R:List Rec) (S:Nat→Bool):St:=alk A0 R (lS R S)
def writer (all:List Oper) (R:List Rec) (S:Nat→Bool) (x:Nat):Option Rec:=R.find? fun r=>S r.i&&(alp all r.i==some x)
def valOf (all:List Oper) (t0:Tm) (R:List Rec) (S:Nat→Bool) (x:Nat):Value:=
 match writer all R S x with
 | some r=>r.v
 | none=>(t0.get x).getD undef
def alY (all:List Oper) (A0:St) (R:List Rec) (S:Nat→Bool) (x:Nat):Nat:=
 match writer all R S x with
 | some r=>r.nx
 | none=>A0.next
structure Inv (all:List Oper) (A0:St) (t0:Tm) (R:List Rec) (N:Nat) (d0:List Deferred) (base:Nat) (SJ:aW) (w0:World) (S:Nat→Bool) (a:Act) (w:World) (ρ:aW):Prop where
 size:a.tmps.size=N
 defers:a.defers=d0
 tm:∀ x,VR (ρ.res (alY all A0 R S x)) (valOf all t0 R S x) (a.tmps.getD x undef)
 core:l7 base SJ A0 w0 (ρ.res (PS A0 R S).next) (PS A0 R S) w
 news:∀ r∈R,S r.i=true→∀ id o,r.did = .make id o→aiv (eL [] all) (lS R S) r.i=false→
  ∃ c cb,ρ id=some (Xz o cb)∧XA (ρ.res r.nx) o c∧w.heap[cb]? = some c∧w0.heap.size≤cb∧¬ Img (ρ.res (PS A0 R S).next) (PS A0 R S) cb
 newsApart:∀ r∈R,∀ s∈R,S r.i=true→S s.i=true→∀ id o id' o',r.did = .make id o→s.did = .make id' o'→aiv (eL [] all) (lS R S) r.i=false→aiv (eL [] all) (lS R S) s.i=false→
  r.i≠s.i→∀ l l',ρ id=some l→ρ id' = some l'→l.cb≠l'.cb
 unborn:∀ r∈R,S r.i=false→∀ id o,r.did = .make id o→ρ id=none
 lE:∀ bl l,ρ bl=some l→bl < (PS A0 R S).next∨∃ r∈R,S r.i=true∧∃ o,r.did = .make bl o
section
variable {P:Program} {call:N6} {all:List Oper} {A0:St} {t0:Tm} {R:List Rec} {N:Nat} {d0:List Deferred} {base:Nat} {SJ:aW} {w0:World}
theorem kK {x:Nat} : ∀ {xs:List Operand},Operand.tmp x∈xs→x∈pZ xs
 | [],h=>by simp at h
 | .tmp t::xs,h=>by
  rcases List.mem_cons.1 h with h | h
  ·simp at h; subst h; simp [pZ]
  ·simp [pZ,kK h]
 | .const _::xs,h=>by
  rcases List.mem_cons.1 h with h | h
  ·simp at h
  ·simpa [pZ] using kK h
 | .global _::xs,h=>by
  rcases List.mem_cons.1 h with h | h
  ·simp at h
  ·simpa [pZ] using kK h
 | .func _::xs,h=>by
  rcases List.mem_cons.1 h with h | h
  ·simp at h
  ·simpa [pZ] using kK h
end
end
end Go.aE
end
section
namespace Go.aE
noncomputable section
open Go
theorem uj.mg {ρ aX:aW} {A:St} {base:Nat} {w w' : World} (hs:uj ρ A base w) (hle:ρ.le aX) (alZ:∀ b l,aX b=some l→b < A.next) (hw:∀ k,k < w.heap.size→w'.heap[k]? = w.heap[k]?) (fq:w.heap.size≤w'.heap.size):uj aX A base w':=by
 have SK:∀ b o l,A.get b=some o→o≠.dead→aX b=some l→ρ b=some l:=by
  intro b o l hg hd hr
  obtain ⟨l',h1,_⟩:=hs.rel.obj hg hd
  have:=hle _ _ h1
  rw [hr] at this; simp at this; subst this
  exact h1
 refine ⟨.Hn (fun b o hg hd=>?_) ?_ hs.rel.bF,alZ,Nat.le_trans hs.size fq,hs.IC.mono hle⟩
 ·obtain ⟨l,h1,h2⟩:=hs.rel.obj hg hd
  exact ⟨l,hle _ _ h1,h2.mg hle (hw _ (h2.lt hd)) fq⟩
 ·intro b1 b2 o1 o2 l1 l2 en g1 g2 m1 m2 r1 r2 Oa
  exact hs.rel.apart b1 b2 o1 o2 l1 l2 en g1 g2 m1 m2 (SK b1 o1 l1 g1 (by intro e; subst e; simp [dg.fv] at m1) r1) (SK b2 o2 l2 g2 (by intro e; subst e; simp [dg.fv] at m2) r2) Oa
section
variable {P:Program} {call:N6} {all:List Oper} {A0:St} {t0:Tm} {R:List Rec} {N:Nat} {d0:List Deferred} {base:Nat} {SJ:aW} {w0:World}
end
end
end Go.aE
end
section
namespace Go.aE
noncomputable section
open Go
theorem VR.undef {ρ:aW} : VR ρ undef undef:=VR.of_flat (by simp [Go.undef,flat,G8,ug])
section
variable {P:Program} {call:N6} {all:List Oper} {A0:St} {t0:Tm} {R:List Rec} {N:Nat} {d0:List Deferred} {base:Nat} {SJ:aW} {w0:World}
end
end
end Go.aE
end
section
namespace Go.aE
noncomputable section
open Go
variable {P:Program} {call:N6} {all:List Oper} {A0:St}
end
end Go.aE
end
section
namespace Go.aE
noncomputable section
open Go
theorem put_defers (a:Act) (dst:Option Tmp) (v:Value):(a.put dst v).defers=a.defers:=by cases dst <;> rfl
def aq.out:aq→Exit
 | .normal=>.normal
 | .exit id=>.exit id
 | .goto l=>.goto l
 | .ret=>.ret
def mark (D:Nat):Deferred:={ target:=.collected D,args:=#[] }
section
variable {P:Program} {b:Frame} {a:Act} {k:List Item} {cs:List Frame} {w:World}
end
def W7 (a:Act):ResultVar→Sem Value
 | .tmp t=>pure (a.tmps.getD t undef)
 | .cell ad ty=>do loadVar ty (← asAddr (a.tmps.getD ad undef))
theorem UU (fn:Func) (a:Act):results fn a.tmps=(do let vs ← fn.results.mapM (W7 a); pure (if h:vs.size=1 then vs[0] else .tuple vs)):=by
 unfold results
 congr 1
theorem mi {n m:Nat} (h:n≤m):∀ (c:Code),codeOk n c=true→codeOk m c=true
 | .region id ops d,hc=>by
  simp only [codeOk,List.all_eq_true] at hc ⊢
  intro o ho
  have:=hc o ho
  unfold EI at this ⊢
  split at this
  ·rename_i d e
   rw [Nat.blt_eq] at this ⊢
   omega
  ·rfl
 | .seq a b,hc=>by simp only [codeOk,Bool.and_eq_true] at hc ⊢; exact ⟨mi h a hc.1,mi h b hc.2⟩
 | .cond _ a b,hc=>by simp only [codeOk,Bool.and_eq_true] at hc ⊢; exact ⟨mi h a hc.1,mi h b hc.2⟩
 | .block _ a,hc=>mi h a hc
 | .loop a,hc=>mi h a hc
 | .rangeFunc _ ps a b,hc=>by
  simp only [codeOk,Bool.and_eq_true,List.all_eq_true,Nat.blt_eq] at hc ⊢
  exact ⟨fun p hp=>Nat.lt_of_lt_of_le (hc.1 p hp) h,mi h a hc.2.1,mi h b hc.2.2⟩
 | .scope a,hc=>mi h a hc
 | .skip,_ | .exit _,_ | .label _,_ | .goto _,_ | .ret,_ | .refuse _,_=>rfl
def CX (gl:List (Nat×List Value×Nat)) (b:Nat):Option Loc:=if b < gB then some (match gl.find? (fun x=>Nat.beq x.1 b) with | some x=>⟨b,0,x.2.1.length,x.2.2⟩ | none=>⟨b,0,0,0⟩) else none
theorem aaI (gl:List (Nat×List Value×Nat)):adI (CX gl):=fun g hg=>by
 unfold CX
 rw [if_pos hg]
 split <;> exact ⟨_,rfl,rfl,rfl⟩
theorem XU:∀ (gl:List (Nat×List Value×Nat)) (b:Nat),(SA gl).get b=match gl.find? (fun x=>Nat.beq x.1 b) with | some x=>some (.row x.2.1 x.2.2 false none) | none=>none
 | [],b=>by simp [SA]
 | (g,cs,e)::gl,b=>by
  simp only [SA,Trie.n8,List.find?_cons]
  cases hb:Nat.beq g b with
  | true=>simp [Nat.eq_of_beq_eq_true hb]
  | false=>rw [if_neg (fun e=>by subst e; simp at hb)]; exact XU gl b
def akp (w:World) (gl:List (Nat×List Value×Nat)):Prop:=∀ x∈gl,x.1 < gB∧x.1 < w.heap.size∧x.2.1.all (fun v=>flat v&&scalar v)=true∧∀ i v,x.2.1[i]? = some v→w.cell? ⟨x.1,i,none⟩=some v
theorem uj.adQ {w:World} {gl:List (Nat×List Value×Nat)} (h:akp w gl):uj (CX gl) (St.IC gl) w.heap.size w:=by
 have hg:∀ b o,(St.IC gl).get b=some o→∃ x∈gl,x.1=b∧gl.find? (fun x=>Nat.beq x.1 b)=some x∧o = .row x.2.1 x.2.2 false none:=by
  intro b o e
  have e:(SA gl).get b=some o:=e
  rw [XU] at e
  split at e
  ·rename_i x hx
   simp at e
   have:=List.find?_some hx
   exact ⟨x,List.mem_of_find?_eq_some hx,Nat.eq_of_beq_eq_true this,hx,e.symm⟩
  ·simp at e
 refine ⟨⟨fun b cs bW own bQ e=>?_,fun b es e=>?_,fun b s pos e=>?_,fun b st ex t ps c d e=>?_,fun b1 b2 o1 o2 l1 l2 _ e1 _ m=>?_,fun b o bf f e k=>?_⟩,fun b l e=>?_,Nat.le_refl _,aaI gl⟩
 ·obtain ⟨x,hx,rfl,hf,he⟩:=hg _ _ e
  simp at he
  obtain ⟨rfl,rfl,rfl,rfl⟩:=he
  obtain ⟨h1,h2,h3,h4⟩:=h x hx
  refine ⟨⟨x.1,0,x.2.1.length,x.2.2⟩,by unfold CX; rw [if_pos h1,hf],⟨fun i v hi=>?_,fun _=>h2,fun h=>by simp at h,fun h=>by simp at h,by simp,fun h=>by simp at h,rfl,h2,fun h=>by simp at h⟩⟩
  have:=List.all_eq_true.1 h3 v (List.mem_of_getElem? hi)
  simp only [Bool.and_eq_true] at this
  exact ⟨v,by simpa using h4 i v hi,VR.of_flat this.1,this.2⟩
 ·obtain ⟨x,_,_,_,he⟩:=hg _ _ e; simp at he
 ·obtain ⟨x,_,_,_,he⟩:=hg _ _ e; simp at he
 ·obtain ⟨x,_,_,_,he⟩:=hg _ _ e; simp at he
 ·obtain ⟨x,_,_,_,he⟩:=hg _ _ e1; subst he; simp [dg.fv] at m
 ·obtain ⟨x,_,_,_,he⟩:=hg _ _ e; subst he; simp [dg.mb] at k
 ·unfold CX at e
  split at e
  ·rename_i hb; exact hb
  ·simp at e
theorem uj.empty (w:World):uj (CX []) St.empty w.heap.size w:=uj.adQ (gl:=[]) (fun _ h=>by simp at h)
end
end Go.aE
end
