/- Part of the proof of ImageWins: a machine that runs the program's code over open terms, shown to be the model's, and the plain models of its functions. No conditions. -/
import Derived.Test.YtahhdndhkgbcjaaAp
import Derived.Laws.Slices
import Derived.Laws.MakeOwn
import Derived.Laws.AppendOwn
import Derived.MapKept
import Derived.Laws.IdiomStrings
import Derived.OrdersIn
import Derived.LoopNIn
import Derived.RangeFuncRecord
import Derived.Scope
section
namespace Go.aG
open Go
section
variable {P:Program} {o:Oper}
theorem jz {ρ:aW} {y y' : Nat} {v v' : Value} {r:Nat} (hv:VR ρ v v') (h:V5 y v=some r) (hy:y≤y') :
  r≤y∧∀ code w,(Instr.sliceBound v' y' code).run P w = .ok r w:=by
 unfold V5 at h
 split at h
 ·rename_i k i
  obtain ⟨rfl,bX⟩:=yp h
  have:=hv.du
  subst this
  have hle:r≤y:=by omega
  refine ⟨hle,fun code w=>?_⟩
  have:=run_sliceBound (P:=P) w k (r:Int) y' code (by omega) (by omega)
  simpa using this
 ·simp at h
theorem DS {ρ:aW} {ev cZ:Operand→Value} {lo hi mx:Option Operand} {len cap X0 l h m:Nat} (he:vJ ρ ev cZ (fS lo++fS hi++fS mx))
  (hb:rW len cap lo.isSome hi.isSome mx.isSome ((fS lo++fS hi++fS mx).map ev)=some (l,h,m)) (hc:cap≤X0) (DG:len≤cap) :
  l≤h∧h≤m∧m≤cap∧m≤(cond mx.isSome m X0)∧(cond mx.isSome m X0)≤X0∧(mx.isSome=false→m=cap)∧∀ b w,(Instr.sliceBounds b len X0 (lo.map cZ) (hi.map cZ) (mx.map cZ)).run P w = .ok (l,h,cond mx.isSome m X0) w:=by
 cases lo with
 | none=>
  cases hi with
  | none=>
   cases mx with
   | none=>
    simp [fS,rW] at hb
    obtain ⟨rfl,rfl,rfl⟩:=hb
    exact ⟨by omega,DG,Nat.le_refl _,hc,Nat.le_refl _,fun _=>rfl,fun b w=>by simp [Instr.sliceBounds]⟩
   | some x=>simp [fS,rW] at hb
  | some y=>
   cases mx with
   | none=>
    simp only [fS,Option.isSome,List.nil_append,List.append_nil,List.map,rW,Option.map_eq_some_iff] at hb
    obtain ⟨r,hr,hb⟩:=hb
    simp at hb
    obtain ⟨rfl,rfl,rfl⟩:=hb
    obtain ⟨h1,h2⟩:=jz (P:=P) (he y (by simp [fS])) hr hc
    exact ⟨by omega,h1,Nat.le_refl _,hc,Nat.le_refl _,fun _=>rfl,fun b w=>by simp [Instr.sliceBounds,h2]⟩
   | some z=>
    simp only [fS,Option.isSome,List.nil_append,List.map,List.cons_append,rW,Option.bind_eq_some_iff,Option.map_eq_some_iff] at hb
    obtain ⟨r,hr,q,hq,hb⟩:=hb
    simp at hb
    obtain ⟨rfl,rfl,rfl⟩:=hb
    obtain ⟨h1,h2⟩:=jz (P:=P) (he z (by simp [fS])) hr hc
    obtain ⟨h3,h4⟩:=jz (P:=P) (he y (by simp [fS])) hq (Nat.le_refl _)
    exact ⟨by omega,h3,h1,Nat.le_refl _,by simp; omega,fun h=>by simp at h,fun b w=>by simp [Instr.sliceBounds,h2,h4]⟩
 | some x=>
  cases hi with
  | none=>
   cases mx with
   | none=>
    simp only [fS,Option.isSome,List.append_nil,List.map,rW,Option.map_eq_some_iff] at hb
    obtain ⟨r,hr,hb⟩:=hb
    simp at hb
    obtain ⟨rfl,rfl,rfl⟩:=hb
    obtain ⟨h1,h2⟩:=jz (P:=P) (he x (by simp [fS])) hr (Nat.le_refl _)
    exact ⟨h1,DG,Nat.le_refl _,hc,Nat.le_refl _,fun _=>rfl,fun b w=>by simp [Instr.sliceBounds,h2]⟩
   | some x=>simp [fS,rW] at hb
  | some y=>
   cases mx with
   | none=>
    simp only [fS,Option.isSome,List.append_nil,List.map,List.cons_append,List.nil_append,rW,Option.bind_eq_some_iff,Option.map_eq_some_iff] at hb
    obtain ⟨r,hr,q,hq,hb⟩:=hb
    simp at hb
    obtain ⟨rfl,rfl,rfl⟩:=hb
    obtain ⟨h1,h2⟩:=jz (P:=P) (he y (by simp [fS])) hr hc
    obtain ⟨h3,h4⟩:=jz (P:=P) (he x (by simp [fS])) hq (Nat.le_refl _)
    exact ⟨h3,h1,Nat.le_refl _,hc,Nat.le_refl _,fun _=>rfl,fun b w=>by simp [Instr.sliceBounds,h2,h4]⟩
   | some z=>
    simp only [fS,Option.isSome,List.map,List.cons_append,List.nil_append,rW,Option.bind_eq_some_iff,Option.map_eq_some_iff] at hb
    obtain ⟨r,hr,q,hq,s,hs,hb⟩:=hb
    simp at hb
    obtain ⟨rfl,rfl,rfl⟩:=hb
    obtain ⟨h1,h2⟩:=jz (P:=P) (he z (by simp [fS])) hr hc
    obtain ⟨h3,h4⟩:=jz (P:=P) (he y (by simp [fS])) hq (Nat.le_refl _)
    obtain ⟨h5,h6⟩:=jz (P:=P) (he x (by simp [fS])) hs (Nat.le_refl _)
    exact ⟨h5,h3,h1,Nat.le_refl _,by simp; omega,fun h=>by simp at h,fun b w=>by simp [Instr.sliceBounds,h2,h4,h6]⟩
theorem X1 {A:St} {b n:Nat} (h:Aw A b n=true):∃ cs own bQ,A.get b=some (.row cs n own bQ):=by
 unfold Aw at h
 split at h
 ·rename_i cs bU own bQ hg
  have:=Nat.eq_of_beq_eq_true h
  subst this
  exact ⟨cs,own,bQ,hg⟩
 ·simp at h
theorem ok_slice {t:TypeId} {x:Operand} {lo hi mx:Option Operand} (ho:o.op = .slice t x lo hi mx):hZ P o (Fx P t x lo hi mx):=by
 unfold Fx
 split
 ·rename_i e hu
  split
  ·rename_i n hn
   cases FH:Nat.ble 1 n with
   | false=>exact True.intro
   | true=>
    rw [cond_true]
    have FH:1≤n:=Nat.le_of_ble_eq_true FH
    intro ρ A base w ev cZ v hs he hf
    have hx:=he x (by simp)
    have hsl:P.underlying t=some (.slice (P.elem t))→True:=fun _=>trivial
    simp only [List.map,xT] at hf
    split at hf
    ·rename_i len cap vs e1
     simp only [List.cons.injEq] at e1
     obtain ⟨e1,e2⟩:=e1
     rw [e1] at hx
     have hx:=hx.jn
     subst e2
     obtain ⟨⟨l,h,m⟩,hb,rfl⟩:=Option.map_eq_some_iff.1 hf
     by_cases DG:len≤cap
     ·obtain ⟨h1,h2,h3,h4,h5,h6,h7⟩:=DS (P:=P) he.tail hb (Nat.le_refl _) DG
      have hm:cond mx.isSome m cap=m:=by cases hmx:mx.isSome <;> simp; exact (h6 hmx).symm
      refine ⟨.slice none (h - l) (m - l),by simp [VR],?_⟩
      simp [execOp,ho,Instr.sliceAt,Instr.slice,bw hu,hx,h7,hm,nI hn]
     ·
      have key:∀ b w,(Instr.sliceBounds b len cap (lo.map cZ) (hi.map cZ) (mx.map cZ)).run P w = .ok (l,h,m) w:=by
       intro b w
       have aiX:cap≤len:=by omega
       cases lo with
       | none=>
        cases hi with
        | none=>
         cases mx with
         | none=>simp [fS,rW] at hb; obtain ⟨rfl,rfl,rfl⟩:=hb; simp [Instr.sliceBounds]
         | some x=>simp [fS,rW] at hb
        | some y=>
         cases mx with
         | none=>
          simp only [fS,Option.isSome,List.nil_append,List.append_nil,List.map,rW,Option.map_eq_some_iff] at hb
          obtain ⟨r,hr,hb⟩:=hb
          simp at hb
          obtain ⟨rfl,rfl,rfl⟩:=hb
          have:=(jz (P:=P) (he y (by simp [fS])) hr (Nat.le_refl _)).2
          simp [Instr.sliceBounds,this]
         | some z=>
          simp only [fS,Option.isSome,List.nil_append,List.map,List.cons_append,rW,Option.bind_eq_some_iff,Option.map_eq_some_iff] at hb
          obtain ⟨r,hr,q,hq,hb⟩:=hb
          simp at hb
          obtain ⟨rfl,rfl,rfl⟩:=hb
          have h2:=(jz (P:=P) (he z (by simp [fS])) hr (Nat.le_refl _)).2
          have h4:=(jz (P:=P) (he y (by simp [fS])) hq (Nat.le_refl _)).2
          simp [Instr.sliceBounds,h2,h4]
       | some x'=>
        cases hi with
        | none=>
         cases mx with
         | none=>
          simp only [fS,Option.isSome,List.append_nil,List.map,rW,Option.map_eq_some_iff] at hb
          obtain ⟨r,hr,hb⟩:=hb
          simp at hb
          obtain ⟨rfl,rfl,rfl⟩:=hb
          have:=(jz (P:=P) (he x' (by simp [fS])) hr (Nat.le_refl _)).2
          simp [Instr.sliceBounds,this]
         | some x=>simp [fS,rW] at hb
        | some y=>
         cases mx with
         | none=>
          simp only [fS,Option.isSome,List.append_nil,List.map,List.cons_append,List.nil_append,rW,Option.bind_eq_some_iff,Option.map_eq_some_iff] at hb
          obtain ⟨r,hr,q,hq,hb⟩:=hb
          simp at hb
          obtain ⟨rfl,rfl,rfl⟩:=hb
          have h2:=(jz (P:=P) (he y (by simp [fS])) hr (Nat.le_refl _)).2
          have h4:=(jz (P:=P) (he x' (by simp [fS])) hq (Nat.le_refl _)).2
          simp [Instr.sliceBounds,h2,h4]
         | some z=>
          simp only [fS,Option.isSome,List.map,List.cons_append,List.nil_append,rW,Option.bind_eq_some_iff,Option.map_eq_some_iff] at hb
          obtain ⟨r,hr,q,hq,s,hs',hb⟩:=hb
          simp at hb
          obtain ⟨rfl,rfl,rfl⟩:=hb
          have h2:=(jz (P:=P) (he z (by simp [fS])) hr (Nat.le_refl _)).2
          have h4:=(jz (P:=P) (he y (by simp [fS])) hq (Nat.le_refl _)).2
          have h6:=(jz (P:=P) (he x' (by simp [fS])) hs' (Nat.le_refl _)).2
          simp [Instr.sliceBounds,h2,h4,h6]
      refine ⟨.slice none (h - l) (m - l),by simp [VR],?_⟩
      simp [execOp,ho,Instr.sliceAt,Instr.slice,bw hu,hx,key,nI hn]
    ·rename_i a len cap vs e1
     simp only [List.cons.injEq] at e1
     obtain ⟨e1,e2⟩:=e1
     rw [e1] at hx
     subst e2
     obtain ⟨uR,DG,lc,a',c',hl,sR,JZ,oA,h'⟩:=hx.nP
     cases hg:(dm a&&Aw A a.block n) with
     | false=>rw [hg] at hf; simp at hf
     | true=>
      rw [hg,cond_true] at hf
      obtain ⟨_,PW⟩:=Bool.and_eq_true_iff.1 hg
      obtain ⟨cs,own,bQ,jD⟩:=X1 PW
      obtain ⟨l2,mB,ok⟩:=hs.row _ _ _ _ _ jD
      rw [hl] at mB; simp at mB; subst mB
      have hez:lc.bU=n:=ok.bU
      obtain ⟨⟨l,h,m⟩,hb,rfl⟩:=Option.map_eq_some_iff.1 hf
      obtain ⟨h1,h2,h3,h4,h5,h6,h7⟩:=DS (P:=P) he.tail hb sR DG
      generalize hm' : cond mx.isSome m c' = m' at h4 h5 h7
      refine ⟨.slice (some (if m' = l then a' else a'.add (l * n))) (h - l) (m' - l),?_,?_⟩
      ·simp only [VR]
       refine ⟨trivial,by omega,lc,_,m' - l,hl,by omega,fun dT=>?_,?_,rfl⟩
       ·rw [if_neg (by omega),JZ (by omega),kP]
        simp only [Nat.add_assoc]
       ·rw [hez]
        rw [hez] at oA
        have e5:l * n+(m' - l) * n=m' * n:=by rw [← Nat.add_mul]; congr 1; omega
        have e6:m' * n≤c' * n:=Nat.mul_le_mul_right _ h5
        omega
      ·simp only [execOp,ho,Instr.sliceAt,Instr.slice,Sem.run_bind,bw hu,Result.andThen_ok,h',h7,nI hn]
       by_cases hml:m' = l <;> simp [hml]
    ·simp at hf
  ·trivial
 ·rename_i len e hu
  split
  ·rename_i n hn
   cases FH:Nat.ble 1 n with
   | false=>exact True.intro
   | true=>
    rw [cond_true]
    intro ρ A base w ev cZ v hs he hf
    have hx:=he x (by simp)
    simp only [List.map,Hj] at hf
    split at hf
    ·rename_i a vs e1
     simp only [List.cons.injEq] at e1
     obtain ⟨e1,e2⟩:=e1
     rw [e1] at hx
     subst e2
     obtain ⟨uR,lc,hl,h'⟩:=hx.iW
     cases hg:(dm a&&Aw A a.block n&&Nat.ble (a.off+len * n) (PI A a.block)) with
     | false=>rw [hg] at hf; simp at hf
     | true=>
      rw [hg,cond_true] at hf
      simp only [Bool.and_eq_true] at hg
      obtain ⟨⟨_,PW⟩,hlen⟩:=hg
      obtain ⟨cs,own,bQ,jD⟩:=X1 PW
      obtain ⟨l2,mB,ok⟩:=hs.row _ _ _ _ _ jD
      rw [hl] at mB; simp at mB; subst mB
      have hez:lc.bU=n:=ok.bU
      have hlen:=Nat.le_of_ble_eq_true hlen
      have Mr:PI A a.block=cs.length:=by unfold PI; rw [jD]
      rw [Mr] at hlen
      have hft:=ok.fits
      obtain ⟨⟨l,h,m⟩,hb,rfl⟩:=Option.map_eq_some_iff.1 hf
      obtain ⟨h1,h2,h3,h4,h5,h6,h7⟩:=DS (P:=P) he.tail hb (Nat.le_refl _) (Nat.le_refl _)
      have hm:cond mx.isSome m len=m:=by cases hmx:mx.isSome <;> simp; exact (h6 hmx).symm
      rw [hm] at h7
      refine ⟨.slice (some (if m=l then ⟨lc.cb,lc.eh+a.off,none⟩ else (⟨lc.cb,lc.eh+a.off,none⟩:Addr).add (l * n))) (h - l) (m - l),?_,?_⟩
      ·simp only [VR]
       refine ⟨trivial,by omega,lc,_,m - l,hl,Nat.le_refl _,fun dT=>?_,?_,rfl⟩
       ·rw [if_neg (by omega),kP]
        simp only [Nat.add_assoc]
       ·rw [hez]
        have e5:l * n+(m - l) * n=m * n:=by rw [← Nat.add_mul]; congr 1; omega
        have e6:m * n≤len * n:=Nat.mul_le_mul_right _ h3
        omega
      ·simp only [execOp,ho,Instr.sliceAt,Sem.run_bind,bw hu,Result.andThen_ok,h',Instr.sureAddr,Sem.run_pure,h7,nI hn]
    ·simp at hf
  ·trivial
 ·rename_i hu
  cases hmx:mx with
  | some z=>exact True.intro
  | none=>
   show hZ P o (.pure (CM lo.isSome hi.isSome) (x::(fS lo++fS hi)))
   intro ρ ev cZ v he hf
   have hx:=he x (by simp)
   simp only [List.map,CM] at hf
   split at hf
   ·rename_i s vs e1
    simp only [List.cons.injEq] at e1
    obtain ⟨e1,e2⟩:=e1
    rw [e1] at hx
    have hx:=hx.oB
    subst e2
    obtain ⟨⟨l,h,m⟩,hb,rfl⟩:=Option.map_eq_some_iff.1 hf
    have CS:vJ ρ ev cZ (fS lo++fS hi++fS (none:Option Operand)):=by simpa [fS] using he.tail
    obtain ⟨h1,h2,h3,h4,h5,h6,h7⟩:=DS (P:=P) (mx:=none) CS (by simpa [fS] using hb) (Nat.le_refl _) (Nat.le_refl _)
    simp only [Option.isSome_none,cond_false,Option.map_none] at h7
    refine ⟨.string (s.extract l h),?_,fun w=>?_⟩
    ·have e:(⟨⟨(s.data.toList.drop l).take (h - l)⟩⟩:ByteArray)=s.extract l h:=by
      apply ByteArray.ext
      apply Array.ext'
      simp [ByteArray.data_extract,List.extract_eq_take_drop]
     rw [e]
     simp [VR]
    ·simp [execOp,ho,Instr.sliceAt,Instr.slice,bw hu,hx,hmx,h7]
   ·simp at hf
 ·trivial
theorem aaW {t:TypeId} {l c:Operand} (ho:o.op = .makeSlice t l c):hZ P o (wk P t l c):=by
 unfold wk
 split
 ·rename_i e hu
  split
  ·rename_i i hi
   split
   ·rename_i z hz
    cases hc:(Nat.ble 1 i.size&&Nat.ble 1 i.bytes&&Nat.beq z.cells.size i.size&&flat z&&z.cells.toList.all scalar) with
    | false=>exact True.intro
    | true=>
     rw [cond_true]
     simp only [Bool.and_eq_true] at hc
     obtain ⟨⟨⟨⟨h1,h2⟩,h3⟩,h4⟩,h5⟩:=hc
     have hn:1≤i.size:=Nat.le_of_ble_eq_true h1
     have hb:1≤i.bytes:=Nat.le_of_ble_eq_true h2
     have hzs:z.cells.size=i.size:=Nat.eq_of_beq_eq_true h3
     rw [List.all_eq_true] at h5
     intro ρ ev cZ obj mk he hf
     simp only [List.map,A7] at hf
     split at hf
     ·rename_i k1 l0 k2 c0 e1
      simp only [List.cons.injEq,and_true] at e1
      cases hk:(Nat.ble l0 c0&&Nat.ble (i.bytes * c0) 281474976710656) with
      | false=>rw [hk] at hf; simp at hf
      | true=>
       rw [hk,cond_true] at hf
       obtain ⟨FJ,hk2⟩:=Bool.and_eq_true_iff.1 hk
       have hle:l0≤c0:=Nat.le_of_ble_eq_true FJ
       have X2:i.bytes * c0≤281474976710656:=Nat.le_of_ble_eq_true hk2
       simp only [Option.some.injEq,Prod.mk.injEq] at hf
       obtain ⟨rfl,rfl⟩:=hf
       have hl:=he l (by simp)
       have sR:=he c (by simp)
       rw [e1.1] at hl
       rw [e1.2] at sR
       have hl:=hl.du
       have sR:=sR.du
       have e2:madeCells z.cells (c0 * i.size)=⟨gn z.cells.toList c0⟩:=by
        unfold madeCells
        rw [← hzs]
        exact Ol z.cells c0 (by omega)
       have hc0:c0≤i.bytes * c0:=Nat.le_mul_of_pos_left _ hb
       have amd:∀ (z:List Value) (k:Nat),(gn z k).length=k * z.length:=by
        intro z k
        induction k with
        | zero=>simp [gn]
        | succ k ih=>simp [gn,ih,Nat.succ_mul,Nat.add_comm]
       have ame:∀ (z:List Value) (k:Nat) (v:Value),v∈gn z k→v∈z:=by
        intro z k v
        induction k with
        | zero=>simp [gn]
        | succ k ih=>simp only [gn,List.mem_append]; exact fun h=>h.elim id ih
       refine ⟨.cells ⟨gn z.cells.toList c0⟩ e,fun b=>.slice (some ⟨b,0,none⟩) l0 c0,⟨_,e,rfl,dS.repeat (DR h4) c0,fun v hv=>h5 v (ame _ _ _ hv)⟩,fun w=>?_,fun aY n cb lg=>?_⟩
       ·have hr:=run_make (P:=P) w t e i z hu hi hz k1 k2 (l0:Int) (c0:Int) (by omega) (by omega) (by rw [← Int.natCast_mul]; exact Int.ofNat_le.2 X2) (by omega)
        have r9:cZ l = .int k1 (l0:Int):=hl
        have hc' : cZ c = .int k2 (c0:Int):=sR
        simp only [Int.toNat_natCast,e2] at hr
        simp [execOp,ho,r9,hc',hr]
       ·simp only [VR]
        refine ⟨trivial,hle,_,⟨cb,0,none⟩,c0,lg,Nat.le_refl _,fun _=>rfl,?_,rfl⟩
        show 0+0+c0 * i.size≤(gn z.cells.toList c0).length
        rw [amd]
        simp [hzs]
     ·simp at hf
   ·trivial
  ·trivial
 ·trivial
theorem ahU {t:TypeId} {x:Operand} (ho:o.op = .makeInterface t x):hZ P o (SK P t x):=by
 unfold SK
 split
 ·trivial
 ·rename_i d hu hd
  intro ρ ev cZ v he hf
  simp [agX] at hf
  subst hf
  refine ⟨.iface t (cZ x),by simp only [VR]; exact ⟨_,he x (by simp),rfl⟩,fun w=>?_⟩
  simp only [execOp,ho,Instr.makeInterface,Sem.run_bind,bw hd,Result.andThen_ok]
  cases d <;> first | rfl | exact absurd rfl (hu _)
 ·trivial
theorem PX {ρ:aW} {s:List Value→Sem Value} {vs cT:List Value} {v:Value} (hv:dS ρ vs cT) (h:Hi P s vs=some v):VR ρ v v∧∀ w,(s cT).run P w = .ok v w:=by
 unfold Hi at h
 cases hf:ua vs with
 | false=>rw [hf] at h; simp at h
 | true=>
  rw [hf,cond_true] at h
  obtain ⟨u,hu,h⟩:=Option.bind_eq_some_iff.1 h
  cases hfu:flat u with
  | false=>rw [hfu] at h; simp at h
  | true=>
   rw [hfu] at h
   simp at h
   subst h
   rw [dS.nY hf hv]
   exact ⟨VR.of_flat hfu,fun w=>ig hu w⟩
theorem akG {argTypes:Array TypeId} {args:Array Operand} (ho:o.op = .call ⟨.builtin .min,args,argTypes⟩):hZ P o (.pure (Hi P fun vs=>Builtin.min_ #[] 0 ⟨vs⟩) args.toList):=by
 intro ρ ev cZ v he hf
 obtain ⟨h1,h2⟩:=PX he.map hf
 refine ⟨v,h1,fun w=>?_⟩
 have h3:=h2 w
 simp only [Builtin.min_] at h3
 simp only [execOp,ho,resolve,Sem.run_bind,Sem.run_pure,Result.andThen_ok,invoke,builtin,Builtin.min_,ns]
 simp only [h3,Result.andThen_ok]
theorem akH {argTypes:Array TypeId} {args:Array Operand} (ho:o.op = .call ⟨.builtin .max,args,argTypes⟩):hZ P o (.pure (Hi P fun vs=>Builtin.max_ #[] 0 ⟨vs⟩) args.toList):=by
 intro ρ ev cZ v he hf
 obtain ⟨h1,h2⟩:=PX he.map hf
 refine ⟨v,h1,fun w=>?_⟩
 have h3:=h2 w
 simp only [Builtin.max_] at h3
 simp only [execOp,ho,resolve,Sem.run_bind,Sem.run_pure,Result.andThen_ok,invoke,builtin,Builtin.max_,ns]
 simp only [h3,Result.andThen_ok]
theorem Vb {ρ:aW} {x x' : Value} {k:Nat} (hx:VR ρ x x') (h:U8 x=some k):Builtin.lenOf x' = Sem.pure k:=by
 unfold U8 at h
 split at h
 ·obtain ⟨a',c',rfl⟩:=XZ hx
  simp at h; subst h; rfl
 ·have:=hx.oB
  subst this
  simp at h; subst h; rfl
 ·simp at h
theorem AB {ρ:aW} {A:St} {base:Nat} {w:World} {n k:Nat} {x x' : Value} {new:List Value} (hs:Rel ρ A.get A.members base w) (hx:VR ρ x x') (h:uN A n k x=some new)
  (hk:∀ m,U8 x=some m→k≤m) (hn:1≤n):∃ cN,dS ρ new cN∧(∀ v∈new,scalar v=true)∧new.length=k * n∧(Builtin.firstCells n k x').run P w = .ok cN.toArray w:=by
 unfold uN at h
 split at h
 ·rename_i a len cap
  obtain ⟨uR,DG,lc,a',c',hl,sR,JZ,oA,rfl⟩:=hx.nP
  have hkl:=hk len rfl
  obtain ⟨b8,h1,h2,h3,h4⟩:=uQ (P:=P) hs h hl
  refine ⟨b8,h1,h3,h2,?_⟩
  simp only [Builtin.firstCells]
  by_cases hc:c' = 0
  ·have DE:k=0:=by omega
   subst DE
   have mR:new = []:=by rw [Nat.zero_mul] at h2; exact List.eq_nil_of_length_eq_zero h2
   subst mR
   rw [h1.ck,Nat.zero_mul]
   exact run_loadCells_list w a' [] (by simp)
  ·rw [JZ hc]; exact h4
 ·rename_i len cap
  have:=hx.jn
  subst this
  cases hb:Nat.beq k 0 with
  | false=>rw [hb] at h; simp at h
  | true=>
   rw [hb] at h
   simp at h
   subst h
   have DE:=Nat.eq_of_beq_eq_true hb
   subst DE
   exact ⟨[],.nil,by simp,by simp,run_firstCells_none w n 0 len cap⟩
 ·rename_i s
  have:=hx.oB
  subst this
  cases hb:Nat.beq n 1 with
  | false=>rw [hb] at h; simp at h
  | true=>
   rw [hb] at h
   simp at h
   have hn1:=Nat.eq_of_beq_eq_true hb
   subst hn1
   have rm:=hk s.size rfl
   have fo:s.data.size=s.size:=rfl
   have fl:∀ l:List UInt8,dS ρ (l.map fun b=>Value.int .u8 b.toNat) (l.map fun b=>Value.int .u8 b.toNat):=by
    intro l
    induction l with
    | nil=>exact .nil
    | cons x l ih=>exact .cons (by simp [VR]) ih
   subst h
   refine ⟨((s.data.toList.take k).map fun b=>.int .u8 b.toNat),by simpa using fl (s.data.toList.take k),?_,?_,?_⟩
   ·intro v hv
    obtain ⟨b,_,rfl⟩:=List.mem_map.1 (by first | exact hv | exact List.mem_of_mem_take hv)
    rfl
   ·simp; omega
   ·simp only [Builtin.firstCells]
    rw [Sem.run_pure]
    congr 1
    apply Array.ext'
    simp [ByteArray.data_extract,List.extract_eq_take_drop]
 ·simp at h
theorem zV (t u ty e:TypeId) (i:TypeInfo) (ht:P.underlying t=some (.slice e)) (hi:P.info? e=some i) (hu:Hk P u=true) (base:Option Addr) (ej oZ:Nat) (x:Value) (n:Nat) (news:List Value)
  (hlen:Builtin.lenOf x=Sem.pure n) (w:World) (uT:(Builtin.firstCells i.size n x).run P w = .ok news.toArray w) (BC:ej+n≤oZ) :
  (Builtin.append_ #[t,u] ty #[.slice base ej oZ,x]).run P w=(((match base with | some a=>storeCells (a.add (ej * i.size)) news | none=>pure ():Sem Unit).run P w).andThen fun _ w=>.ok (.slice base (ej+n) oZ) w):=by
 have hk:(∃ e',P.underlying u=some (.slice e'))∨P.underlying u=some .string:=by
  unfold Hk at hu
  split at hu
  ·rename_i e' h; exact .inl ⟨_,h⟩
  ·rename_i h; exact .inr h
  ·simp at hu
 rcases hk with ⟨e',hk⟩ | hk <;> cases base <;> simp [Builtin.append_,bw ht,bw hk,sizeOf,typeInfo,hi,hlen,BC,uT]
theorem SU (t u ty e:TypeId) (i:TypeInfo) (z:Value) (ht:P.underlying t=some (.slice e)) (hi:P.info? e=some i) (hz:i.zero=some z) (hu:Hk P u=true) (base:Option Addr) (ej oZ:Nat)
  (x:Value) (n:Nat) (Vc news:List Value) (hlen:Builtin.lenOf x=Sem.pure n) (w:World) (hold:(Builtin.firstCells i.size ej (.slice base ej oZ)).run P w.drew = .ok Vc.toArray w.drew)
  (uT:(Builtin.firstCells i.size n x).run P w.drew = .ok news.toArray w.drew) (hg:oZ < ej+n) (h63:ej+n≤17592186044416) (oA:Builtin.nextslicecap (ej+n) oZ * i.bytes≤281474976710656) :
  (Builtin.append_ #[t,u] ty #[.slice base ej oZ,x]).run P w =
   .ok (.slice (some ⟨w.heap.size,0,none⟩) (ej+n) (grownCap w (ej+n) oZ e))
    (w.drew.alloc (.cells ((Vc++news).toArray++Builtin.zeroCells z.cells (grownCap w (ej+n) oZ e - (ej+n))) e)):=by
 have hk:(∃ e',P.underlying u=some (.slice e'))∨P.underlying u=some .string:=by
  unfold Hk at hu
  split at hu
  ·rename_i e' h; exact .inl ⟨_,h⟩
  ·rename_i h; exact .inr h
  ·simp at hu
 have hn : ¬ (ej+n≤oZ):=by omega
 have amf : ¬ (9223372036854775807 < ((ej:Int)+(n:Int))):=by omega
 have amg : ¬ (281474976710656 < Builtin.nextslicecap (ej+n) oZ * i.bytes):=by omega
 rcases hk with ⟨e',hk⟩ | hk <;>
  (simp [Builtin.append_,bw ht,bw hk,sizeOf,typeInfo,zeroValue,hi,hz,hlen,hn,amf,amg,Question.forced,uT,hold,newRow,grownCap]
   congr 2
   apply Array.ext'
   simp [List.append_assoc])
theorem X3 {ρ:aW} {A:St} {base:Nat} {w:World} (hs:ud ρ A base w) (b lo hi:Nat) (L:List Nat):lW base ρ A w ρ (A.kill b lo hi L) w:=by
 obtain ⟨hl1,mB⟩:=FF b lo hi L A
 have PT:∀ x o,(A.kill b lo hi L).get x=some o→o≠.dead→A.get x=some o:=by
  intro x o hx hd
  rw [zS] at hx
  split at hx
  ·simp at hx; exact absurd hx.symm hd
  ·exact hx
 have hm:∀ o:dh,o.fp=true→o≠.dead:=by intro o h e; subst e; simp [dh.fp] at h
 refine ⟨⟨.Hr (fun x o hx hd=>hs.rel.obj (PT x o hx hd) hd) (fun b1 b2 o1 o2 l1 l2 dT g1 g2 m1 m2=>hs.rel.apart b1 b2 o1 o2 l1 l2 dT (PT _ _ g1 (hm _ m1)) (PT _ _ g2 (hm _ m2)) m1 m2) (fun x o bb f hx hk=>?_),fun x l h=>?_,hs.size,hs.IP⟩,
  fun _ _=>rfl,.refl _ _ _,by simp,hl1,fun x _ hx=>?_,fun k _ h=>?_⟩
 ·rw [EG]; exact hs.rel.bF x o bb f (PT x o hx (by intro e; subst e; simp [dh.l8] at hk)) hk
 ·rw [Hp]; exact hs.lD x l h
 ·cases Classical.em ((A.kill b lo hi L).get x=A.get x) with
  | inl h=>exact h
  | inr h=>have:=mB x h; omega
 ·obtain ⟨x,o,l,hx,hm',hr,e⟩:=h
  exact ⟨x,o,l,PT x o hx (hm _ hm'),hm',hr,e⟩
theorem FK (A:St) (bb f:Nat) (cs:List Value) (n x:Nat):(A.grow bb f cs n).get x=if x=A.next then some (.row cs n true (some (bb,f))) else A.get x:=by
 simp [St.grow]
theorem wy (A:St) (bb f:Nat) (cs:List Value) (n g:Nat):(A.grow bb f cs n).members g=if g=bb then A.next::A.members bb else A.members g:=by
 simp only [St.grow,St.Az,St.la]
theorem X4 {ρ:aW} {A:St} {base:Nat} {w:World} {cs b8:List Value} {c:Array Value} {n bb f:Nat} (T:TypeId) (hs:ud ρ A base w) (hc:dS ρ cs b8) (h1:∀ v∈cs,scalar v=true)
  (aiY:∀ (j:Nat) (v:Value),b8[j]? = some v→c[j]? = some v) (fo:cs.length≤c.size) :
  lW base ρ A w (ρ.set A.next ⟨w.heap.size,0,c.size,n⟩) (A.grow bb f cs n) (w.alloc (.cells c T)):=by
 refine CR (o:=.row cs n true (some (bb,f))) hs (fun x=>FK _ _ _ _ _ _) (fun g x h=>?_) (fun g f' h=>?_) (by simp [St.grow]) (by simp [St.grow]) (fun x hx _=>by rw [FK,if_neg (by omega)]) rfl ?_
 ·rw [wy]; split
  ·rename_i e; subst e; simp [h]
  ·exact h
 ·simp [dh.l8] at h; rw [wy,h.1]; simp
 ·refine ⟨fun i v hi=>?_,fun h=>by simp at h,fun _=>hs.size,fun _ j hj=>?_,by simpa using fo,fun _ h=>by simp at h,rfl,by simp,fun _ _ j=>by simp only; rw [World.frozen?_alloc_new]⟩
  ·obtain ⟨v',h2,h3⟩:=hc.get hi
   refine ⟨v',?_,h3.mono (hs.Hq _),h1 v (List.mem_of_getElem? hi)⟩
   rw [Nat.zero_add,World.cell?_alloc_new]
   exact aiY i v' h2
  ·simp only at hj ⊢
   rw [World.cell?_alloc_new,World.frozen?_alloc_new]
   refine ⟨?_,rfl⟩
   rw [Array.getElem?_eq_getElem (by omega)]
   rfl
theorem acI {ρ:aW} {A:St} {base:Nat} {w:World} {b iG s bU bb f:Nat} {cs gY qM new cN:List Value} {l:Loc}
  (hs:ud ρ A base w) (hg:A.get b=some (.row cs bU true (some (bb,f)))) (lg:ρ b=some l)
  (hold:dS ρ gY qM) (ho1:∀ v∈gY,scalar v=true) (hol:gY.length=s) (DH:∀ j v',qM[j]? = some v'→w.cell? ⟨l.cb,l.eh+iG+j,none⟩=some v')
  (mR:dS ρ new cN) (hn1:∀ v∈new,scalar v=true) (oA:l.eh+iG+s+new.length≤l.yo) :
  lW base ρ A w (ρ.set A.next ⟨l.cb,l.eh+iG,l.yo,bU⟩) ((A.kill A.next (f+(iG+s)) (f+(iG+s)+new.length) (A.members bb)).grow bb (f+iG) (gY++new) bU) (w.setCells l.cb (l.eh+iG+s) cN):=by
 obtain ⟨l',r9,ok⟩:=hs.rel.row _ _ _ _ _ hg
 rw [lg] at r9; simp at r9; subst r9
 have JI:cN.length=new.length:=mR.length
 have hovl:qM.length=s:=by rw [hold.length,hol]
 have PY:b < A.next:=hs.lD b l lg
 have LN:dh.fp (.row cs bU true (some (bb,f)))=true:=rfl
 have hB:∀ x,((A.kill A.next (f+(iG+s)) (f+(iG+s)+new.length) (A.members bb)).grow bb (f+iG) (gY++new) bU).get x =
   if x=A.next then some (.row (gY++new) bU true (some (bb,f+iG))) else (A.kill A.next (f+(iG+s)) (f+(iG+s)+new.length) (A.members bb)).get x:=by
  intro x; rw [FK,Hp]
 have hBm:∀ g,((A.kill A.next (f+(iG+s)) (f+(iG+s)+new.length) (A.members bb)).grow bb (f+iG) (gY++new) bU).members g=if g=bb then A.next::A.members bb else A.members g:=by
  intro g; rw [wy,Hp,EG]
 have hBn:((A.kill A.next (f+(iG+s)) (f+(iG+s)+new.length) (A.members bb)).grow bb (f+iG) (gY++new) bU).next=A.next+1:=by
  simp [St.grow]
 have hkl:=FF A.next (f+(iG+s)) (f+(iG+s)+new.length) (A.members bb) A
 have hBl:((A.kill A.next (f+(iG+s)) (f+(iG+s)+new.length) (A.members bb)).grow bb (f+iG) (gY++new) bU).low=(A.kill A.next (f+(iG+s)) (f+(iG+s)+new.length) (A.members bb)).low:=rfl
 have hAK:∀ x,x≠A.next→(A.kill A.next (f+(iG+s)) (f+(iG+s)+new.length) (A.members bb)).get x=if x∈A.members bb∧qE (A.get x) (f+(iG+s)) (f+(iG+s)+new.length)=true then some .dead else A.get x:=by
  intro x hx; rw [zS]; simp [hx]
 generalize ((A.kill A.next (f+(iG+s)) (f+(iG+s)+new.length) (A.members bb)).grow bb (f+iG) (gY++new) bU)=B at hB hBm hBn hBl
 generalize (A.kill A.next (f+(iG+s)) (f+(iG+s)+new.length) (A.members bb))=K at hB hBl hkl hAK
 have hle:=hs.Hq (⟨l.cb,l.eh+iG,l.yo,bU⟩:Loc)
 have pz:∀ x o,x≠A.next→B.get x=some o→o≠.dead→A.get x=some o∧(x∈A.members bb→qE (some o) (f+(iG+s)) (f+(iG+s)+new.length)=false):=by
  intro x o hx ho hd
  rw [hB,if_neg hx,hAK x hx] at ho
  split at ho
  ·simp at ho; exact absurd ho.symm hd
  ·rename_i hc
   refine ⟨ho,fun hm=>?_⟩
   rw [← ho]
   cases iX:qE (A.get x) (f+(iG+s)) (f+(iG+s)+new.length) with
   | false=>rfl
   | true=>exact absurd ⟨hm,iX⟩ hc
 have od:∀ x:Addr,(x.block=l.cb→x.spot=none→x.off < l.eh+iG+s∨l.eh+iG+s+cN.length≤x.off)→(w.setCells l.cb (l.eh+iG+s) cN).cell? x=w.cell? x:=
  fun x h=>World.cell?_setCells_out _ _ _ _ _ h
 have XQ:∀ x,((w.setCells l.cb (l.eh+iG+s) cN).cell? x).isSome=(w.cell? x).isSome:=fun x=>zT _ _ _ _ _
 have DF:∀ x,(w.setCells l.cb (l.eh+iG+s) cN).frozen? x=w.frozen? x:=fun x=>World.frozen?_setCells _ _ _ _ _
 have fo:(w.setCells l.cb (l.eh+iG+s) cN).heap.size=w.heap.size:=CP _ _ _ _
 have hmd:∀ o:dh,o.fp=true→o≠.dead:=by intro o h e; subst e; simp [dh.fp] at h
 have yr:∀ x o l2,A.get x=some o→o.fp=true→ρ x=some l2→l2.cb=l.cb→∃ f2,o.l8=some (bb,f2)∧l2.eh+f=l.eh+f2:=by
  intro x o l2 hx hm hr Oi
  by_cases PU:x=b
  ·subst PU
   rw [hg] at hx; simp at hx; subst hx
   rw [lg] at hr; simp at hr; subst hr
   exact ⟨f,rfl,rfl⟩
  ·obtain ⟨g,f1,f2,e1,e2,e3⟩:=hs.rel.apart x b _ _ l2 l PU hx hg hm LN hr lg Oi
   simp [dh.l8] at e2
   obtain ⟨rfl,rfl⟩:=e2
   exact ⟨f1,e1,e3⟩
 have XR:∀ x lE e2 DP rj l2,x≠A.next→B.get x=some (.row lE e2 DP rj)→ρ x=some l2→Ho ρ base w l2 lE e2 DP rj→∀ i,i < lE.length→
   (w.setCells l.cb (l.eh+iG+s) cN).cell? ⟨l2.cb,l2.eh+i,none⟩=w.cell? ⟨l2.cb,l2.eh+i,none⟩:=by
  intro x lE e2 DP rj l2 hx jB aiR jC i hi
  refine od _ (fun SQ _=>?_)
  simp only at SQ ⊢
  obtain ⟨hA,iX⟩:=pz x _ hx jB (by simp)
  cases DP with
  | false=>have h3:=jC.sQ rfl; have h4:=ok.fp rfl; omega
  | true=>
   obtain ⟨f2,e1,e3⟩:=yr x _ l2 hA rfl aiR SQ
   simp only [dh.l8] at e1
   subst e1
   have hm:=hs.rel.bF x _ bb f2 hA rfl
   have:=PR rfl (iX hm)
   rw [JI]
   omega
 refine ⟨⟨.Hr ?_ ?_ ?_,?_,?_,hs.IP.mono (hs.Hq _)⟩,?_,⟨(r8 _ _ _ _).1,(r8 _ _ _ _).2.1,(r8 _ _ _ _).2.2,Nat.le_of_eq fo.symm,?_⟩,?_,?_,?_,?_⟩
 ·intro x o jB hd
  by_cases hx:x=A.next
  ·subst hx
   rw [hB,if_pos rfl] at jB
   simp at jB
   subst jB
   refine ⟨_,aW.pW _ _ _,fun i v hi=>?_,fun h=>by simp at h,fun _=>ok.fp rfl,fun _ j hj=>?_,?_,fun _ h=>by simp at h,rfl,by rw [fo]; exact ok.nZ,fun _ h2 j=>by rw [DF]; exact ok.mark rfl (by rw [ok.bU]; exact h2) j⟩
   ·have o4:dS ρ (gY++new) (qM++cN):=hold.append mR
    obtain ⟨v',h2,h3⟩:=o4.get hi
    refine ⟨v',?_,h3.mono hle,?_⟩
    ·rw [List.getElem?_append] at h2
     split at h2
     ·rename_i bX
      rw [od _ (fun _ _=>by simp only; omega)]
      exact DH i v' h2
     ·rename_i hge
      have bX:i - qM.length < cN.length:=(List.getElem?_eq_some_iff.1 h2).1
      have:=World.cell?_setCells_in l.cb cN (l.eh+iG+s) w (fun j hj=>(ok.there rfl (l.eh+iG+s+j) (by rw [JI] at hj; omega)).1) (i - qM.length) bX
      have e:l.eh+iG+s+(i - qM.length)=l.eh+iG+i:=by omega
      rw [e] at this
      rw [List.getElem?_eq_getElem bX] at h2
      exact this.trans h2
    ·rcases List.mem_append.1 (List.mem_of_getElem? hi) with h | h
     ·exact ho1 v h
     ·exact hn1 v h
   ·rw [XQ,DF]; exact ok.there rfl j hj
   ·simp only [List.length_append,hol]; omega
  ·obtain ⟨hA,iX⟩:=pz x o hx jB hd
   obtain ⟨l2,uf,jC⟩:=hs.rel.obj hA hd
   refine ⟨l2,hle _ _ uf,?_⟩
   cases o with
   | row lE e2 DP rj=>
    have jC:Ho ρ base w l2 lE e2 DP rj:=jC
    refine ⟨fun i v hi=>?_,jC.sQ,jC.fp,fun h j hj=>?_,jC.fits,jC.ends,jC.bU,by rw [fo]; exact jC.nZ,fun h1 h2 j=>by rw [DF]; exact jC.mark h1 h2 j⟩
    ·obtain ⟨v',h3,h4,h5⟩:=jC.cells i v hi
     exact ⟨v',by rw [XR x _ _ _ _ l2 hx jB uf jC i (List.getElem?_eq_some_iff.1 hi).1]; exact h3,h4.mono hle,h5⟩
    ·rw [XQ,DF]; exact jC.there h j hj
   | map es=>
    have jC:XO ρ base w l2 es:=jC
    obtain ⟨bq,clock,h3,h4⟩:=jC.nZ
    refine ⟨jC.fp,bq,clock,?_,h4.mono hle⟩
    rw [l9]
    ·exact h3
    ·intro e
     obtain ⟨_,e1,_⟩:=yr x _ l2 hA rfl uf e
     simp [dh.l8] at e1
   | iter st pos=>
    have jC:PN base w l2 st pos:=jC
    refine ⟨jC.fp,jC.nZ.1,?_⟩
    rw [l9]
    ·exact jC.nZ.2
    ·intro e
     obtain ⟨_,e1,_⟩:=yr x _ l2 hA rfl uf e
     simp [dh.l8] at e1
   | dead=>exact absurd rfl hd
   | loop st0 e0 t0 ps0 a0 c0=>
    have jC:PO ρ base w l2 st0 e0 t0 ps0 a0 c0:=jC
    obtain ⟨fn,tmps,D,N,h3,h4⟩:=jC.nZ
    refine ⟨jC.fp,fn,tmps,D,N,?_,h4.mono hle⟩
    rw [l9]
    ·exact h3
    ·intro e
     obtain ⟨_,e1,_⟩:=yr x _ l2 hA rfl uf e
     simp [dh.l8] at e1
 ·intro b1 b2 o1 o2 l1 l2 dT g1 g2 m1 m2 r1 r2 Oi
  by_cases e1:b1=A.next
  ·have e2:b2≠A.next:=fun e=>dT (e1.trans e.symm)
   subst e1
   rw [hB,if_pos rfl] at g1
   simp at g1; subst g1
   rw [aW.pW] at r1; simp at r1; subst r1
   rw [aW.mU _ _ e2] at r2
   obtain ⟨hA,_⟩:=pz b2 o2 e2 g2 (hmd _ m2)
   obtain ⟨f2,k1,k2⟩:=yr b2 o2 l2 hA m2 r2 Oi.symm
   exact ⟨bb,f+iG,f2,rfl,k1,by simp only; omega⟩
  ·rw [aW.mU _ _ e1] at r1
   obtain ⟨hA1,_⟩:=pz b1 o1 e1 g1 (hmd _ m1)
   by_cases e2:b2=A.next
   ·subst e2
    rw [hB,if_pos rfl] at g2
    simp at g2; subst g2
    rw [aW.pW] at r2; simp at r2; subst r2
    obtain ⟨f2,k1,k2⟩:=yr b1 o1 l1 hA1 m1 r1 Oi
    exact ⟨bb,f2,f+iG,k1,rfl,by simp only; omega⟩
   ·rw [aW.mU _ _ e2] at r2
    obtain ⟨hA2,_⟩:=pz b2 o2 e2 g2 (hmd _ m2)
    exact hs.rel.apart b1 b2 o1 o2 l1 l2 dT hA1 hA2 m1 m2 r1 r2 Oi
 ·intro x o g fx hx hk
  rw [hBm]
  by_cases e:x=A.next
  ·subst e
   rw [hB,if_pos rfl] at hx
   simp at hx; subst hx
   simp [dh.l8] at hk
   rw [if_pos hk.1.symm]
   simp
  ·have:=hs.rel.bF x o g fx (pz x o e hx (by intro e; subst e; simp [dh.l8] at hk)).1 hk
   split
   ·rename_i e2; subst e2; simp [this]
   ·exact this
 ·intro x l2 h
  rw [hBn]
  by_cases e:x=A.next
  ·omega
  ·rw [aW.mU _ _ e] at h; have:=hs.lD x l2 h; omega
 ·rw [fo]; exact hs.size
 ·intro x hx; exact aW.mU _ _ (by omega)
 ·intro k hk hn
  exact l9 _ (fun e=>hn ⟨b,_,l,hg,rfl,lg,e.symm⟩) _ _ _
 ·omega
 ·rw [hBl]; exact hkl.1
 ·intro x hx hxl
  rw [hB,if_neg (by omega)]
  cases Classical.em (K.get x=A.get x) with
  | inl h=>exact h
  | inr h=>have:=hkl.2 x h; omega
 ·rintro k hk ⟨x,o,l2,hx,hm,hr,rfl⟩
  by_cases e:x=A.next
  ·subst e
   rw [aW.pW] at hr; simp at hr; subst hr
   exact ⟨b,_,l,hg,rfl,lg,rfl⟩
  ·rw [aW.mU _ _ e] at hr
   exact ⟨x,o,l2,(pz x o e hx (hmd _ hm)).1,hm,hr,rfl⟩
theorem ahV {a:Addr} (h:dm a=true):a.spot=none:=by
 unfold dm at h
 simpa using h
theorem V8 (w:World) (a:Addr) (n:Nat) (cs:List Value) (h:∀ j,j < n→(w.cell? (a.add j)).isSome=true) (hr:(loadCells a n).run P w = .ok cs.toArray w) (j:Nat) (v:Value) (hj:cs[j]? = some v) :
  w.cell? (a.add j)=some v:=by
 have h1:=run_loadCells (P:=P) w a n (fun j=>(w.cell? (a.add j)).getD undef) (fun j hj=>by
  have:=h j hj
  cases hc:w.cell? (a.add j) with
  | none=>rw [hc] at this; simp at this
  | some u=>rfl)
 rw [hr] at h1
 simp only [Result.ok.injEq,and_true] at h1
 have h2:cs=(List.range n).map fun j=>(w.cell? (a.add j)).getD undef:=by
  have:=congrArg Array.toList h1
  simpa using this
 rw [h2,List.getElem?_map] at hj
 cases hq:(List.range n)[j]? with
 | none=>rw [hq] at hj; simp at hj
 | some m=>
  rw [hq] at hj
  have bX:j < n:=by have:=(List.getElem?_eq_some_iff.1 hq).1; simpa using this
  have hm:m=j:=by rw [List.getElem?_range bX] at hq; simpa using hq.symm
  subst hm
  simp at hj
  have:=h m bX
  cases hc:w.cell? (a.add m) with
  | none=>rw [hc] at this; simp at this
  | some u=>rw [hc] at hj; simpa using hj
theorem aea (z:Array Value) (n:Nat):(Builtin.zeroCells z n).size=n * z.size:=size_zeroCells z n
theorem X5 {ρ:aW} {A B:St} {base:Nat} {w:World} {t u ty e:TypeId} {i:TypeInfo} {z s x s' x' v:Value} (ht:P.underlying t=some (.slice e)) (hi:P.info? e=some i) (hz:i.zero=some z) (hu:Hk P u=true)
  (hn:1≤i.size) (hzs:z.cells.size=i.size) (M1:ud ρ A base w) (hsv:VR ρ s s') (X6:VR ρ x x') (hf:l7 i.size i.bytes A [s,x] = some (v,B)) :
  ∃ aY v' w',(Builtin.append_ #[t,u] ty #[s',x']).run P w = .ok v' w'∧VR aY v v'∧lW base ρ A w aY B w':=by
 unfold l7 at hf
 split at hf
 ·rename_i bs ej oZ x0 e0
  simp at e0
  obtain ⟨rfl,rfl⟩:=e0
  obtain ⟨k,hk,hf⟩:=Option.bind_eq_some_iff.1 hf
  have hlen:=Vb X6 hk
  have hkk:∀ m,U8 x=some m→k≤m:=fun m h=>by rw [hk] at h; simp at h; omega
  cases BC:Nat.ble (ej+k) oZ with
  | true=>
   rw [BC,cond_true] at hf
   have BC:=Nat.le_of_ble_eq_true BC
   obtain ⟨new,mR,hf⟩:=Option.bind_eq_some_iff.1 hf
   obtain ⟨cN,h1,h2,h3,h4⟩:=AB (P:=P) M1.rel X6 mR hkk hn
   cases bs with
   | none=>
    simp at hf
    obtain ⟨rfl,rfl⟩:=hf
    have:=hsv.jn
    subst this
    have hr:=zV (P:=P) t u ty e i ht hi hu none ej oZ x' k cN hlen w h4 BC
    exact ⟨ρ,_,w,by rw [hr]; rfl,by simp [VR],.refl M1⟩
   | some a=>
    simp only at hf
    cases hpa:dm a with
    | false=>rw [hpa] at hf; simp at hf
    | true=>
     rw [hpa,cond_true] at hf
     obtain ⟨B',iX,hf⟩:=Option.map_eq_some_iff.1 hf
     simp at hf
     obtain ⟨rfl,rfl⟩:=hf
     obtain ⟨uR,DG,lc,a',c',hl,sR,JZ,oA,rfl⟩:=hsv.nP
     have hr:=zV (P:=P) t u ty e i ht hi hu (some a') ej c' x' k cN hlen w h4 (by omega)
     obtain ⟨w',h5,h6⟩:=AA (P:=P) (a:=⟨a.block,a.off+ej * i.size,none⟩) M1 iX hl h1
     have mD:(storeCells (a'.add (ej * i.size)) cN).run P w = .ok () w':=by
      by_cases hc:c' = 0
      ·have:cN = []:=by
        apply List.eq_nil_of_length_eq_zero
        rw [h1.length,h3]
        have:k=0:=by omega
        subst this; omega
       subst this
       exact h5
      ·rw [JZ hc,kP]
       simp only at h5
       rw [Nat.add_assoc]
       exact h5
     refine ⟨ρ,.slice (some a') (ej+k) c',w',?_,?_,h6⟩
     ·rw [hr]
      simp only [mD,Result.andThen_ok]
     ·simp only [VR]
      exact ⟨uR,BC,lc,a',c',hl,sR,JZ,oA,rfl⟩
  | false=>
   rw [BC,cond_false] at hf
   have BC:oZ < ej+k:=by
    have : ¬ (ej+k≤oZ):=fun h=>by rw [Nat.ble_eq_true_of_le h] at BC; simp at BC
    omega
   cases hc:(Nat.ble ((ej+k+512) * i.bytes) 17592186044416&&Nat.ble (ej+k) 17592186044416&&s6 A i.size oZ bs) with
   | false=>rw [hc] at hf; simp at hf
   | true=>
    rw [hc,cond_true] at hf
    simp only [Bool.and_eq_true] at hc
    obtain ⟨⟨zU,rl⟩,hex⟩:=hc
    have zU:=Nat.le_of_ble_eq_true zU
    have rl:=Nat.le_of_ble_eq_true rl
    have acJ:(ej+k) * i.bytes≤140737488355328:=by
     rw [Nat.add_mul] at zU; omega
    obtain ⟨new,mR,hf⟩:=Option.bind_eq_some_iff.1 hf
    obtain ⟨cN,h1,h2,h3,h4⟩:=AB (P:=P) M1.rel X6 mR hkk hn
    have hdr:=lW.drew (w:=w) M1
    obtain ⟨aiZ,g1,g2,g3,g4⟩:=AB (P:=P) hdr.jv.rel X6 mR hkk hn
    have ai0:∀ (bs' : Option Addr) (c' : Nat) (Vc SV:List Value) (bb f:Nat) (K:St),K=A∨(∃ x lo hi L,K=A.kill x lo hi L)→dS ρ Vc SV→(∀ v∈Vc,scalar v=true)→Vc.length=ej * i.size→
      (Builtin.firstCells i.size ej (.slice bs' ej c')).run P w.drew = .ok SV.toArray w.drew→c' < ej+k→
      ∃ aY v' w',(Builtin.append_ #[t,u] ty #[.slice bs' ej c',x']).run P w = .ok v' w'∧VR aY (.slice (some ⟨A.next,0,none⟩) (ej+k) (ej+k)) v'∧lW base ρ A w aY (K.grow bb f (Vc++new) i.size) w':=by
     intro bs' c' Vc SV bb f K hK ho ho1 hol mD bX
     have hr:=SU (P:=P) t u ty e i z ht hi hz hu bs' ej c' x' k SV aiZ hlen w mD g4 bX rl (growslice_fits bX acJ)
     have hge:=grownCap_ge w (ej+k) c' e
     have hkg:lW base ρ A w ρ K w.drew:=by
      rcases hK with rfl | ⟨x,lo,hi,L,rfl⟩
      ·exact hdr
      ·exact (X3 M1 x lo hi L).trans (lW.drew (X3 M1 x lo hi L).jv)
     have hKn:K.next=A.next:=by
      rcases hK with rfl | ⟨x,lo,hi,L,rfl⟩
      ·rfl
      ·simp
     have Hu:((SV++aiZ).toArray++Builtin.zeroCells z.cells (grownCap w (ej+k) c' e - (ej+k))).size=grownCap w (ej+k) c' e * i.size:=by
      rw [Array.size_append,aea,hzs,List.size_toArray,List.length_append,ho.length,g1.length,hol,g3]
      rw [← Nat.add_mul,← Nat.add_mul]
      congr 1; omega
     have hgo:=X4 (w:=w.drew) (n:=i.size) (bb:=bb) (f:=f) (c:=(SV++aiZ).toArray++Builtin.zeroCells z.cells (grownCap w (ej+k) c' e - (ej+k))) e hkg.jv (ho.append g1)
      (fun v hv=>(List.mem_append.1 hv).elim (ho1 v) (g2 v)) (fun j v hj=>by
       rw [Array.getElem?_append_left (by have:=(List.getElem?_eq_some_iff.1 hj).1; simpa using this)]
       simpa using hj) (by
       rw [Hu,List.length_append,hol,g3,← Nat.add_mul]
       exact Nat.mul_le_mul_right _ hge)
     refine ⟨_,_,_,hr,?_,hkg.trans hgo⟩
     simp only [VR]
     refine ⟨trivial,Nat.le_refl _,_,⟨w.heap.size,0,none⟩,grownCap w (ej+k) c' e,by rw [hKn]; exact aW.pW _ _ _,hge,fun _=>rfl,?_,rfl⟩
     rw [Hu]
     show 0+0+grownCap w (ej+k) c' e * i.size≤grownCap w (ej+k) c' e * i.size
     omega
    unfold CN at hf
    cases bs with
    | none=>
     simp only at hf
     cases hs0:Nat.beq ej 0 with
     | false=>rw [hs0] at hf; simp at hf
     | true=>
      rw [hs0,cond_true] at hf
      simp at hf
      obtain ⟨rfl,rfl⟩:=hf
      have hs0:=Nat.eq_of_beq_eq_true hs0
      have:=hsv.jn
      subst this
      have Hv:Builtin.firstCells i.size ej (.slice none ej oZ)=pure #[]:=rfl
      exact ai0 none oZ [] [] A.next 0 A (.inl rfl) .nil (by simp) (by rw [hs0]; simp) (by rw [Hv]; rfl) BC
    | some a=>
     simp only at hf
     cases hpa:dm a with
     | false=>rw [hpa] at hf; simp at hf
     | true=>
      rw [hpa,cond_true] at hf
      have uR:=ahV hpa
      obtain ⟨_,DG,lc,a',c',hl,sR,JZ,oA,rfl⟩:=hsv.nP
      obtain ⟨gY,hold,hf⟩:=Option.bind_eq_some_iff.1 hf
      obtain ⟨qM,q1,q2,q3,q4⟩:=uQ (P:=P) hdr.jv.rel hold hl
      have mD:(Builtin.firstCells i.size ej (.slice (some a') ej c')).run P w.drew = .ok qM.toArray w.drew:=by
       simp only [Builtin.firstCells]
       by_cases hc:c' = 0
       ·have hs0:ej=0:=by omega
        subst hs0
        have ai1:gY = []:=by rw [Nat.zero_mul] at q2; exact List.eq_nil_of_length_eq_zero q2
        subst ai1
        rw [q1.ck,Nat.zero_mul]
        exact run_loadCells_list w.drew a' [] (by simp)
       ·rw [JZ hc]; exact q4
      split at hf
      ·rename_i cs bU own bQ hg
       cases hez:Nat.beq bU i.size with
       | false=>rw [hez] at hf; simp at hf
       | true=>
        rw [hez,cond_true] at hf
        have hez:=Nat.eq_of_beq_eq_true hez
        subst hez
        obtain ⟨l2,mB,ok⟩:=M1.rel.row _ _ _ _ _ hg
        rw [hl] at mB; simp at mB; subst mB
        have hle:lc.bU=i.size:=ok.bU
        cases bQ with
        | none=>
         simp only at hf
         cases own with
         | false=>simp at hf
         | true=>
          simp at hf
          obtain ⟨rfl,rfl⟩:=hf
          have hxe:a.off+oZ * i.size=cs.length:=by
           unfold s6 at hex
           simp only [hg] at hex
           exact Nat.eq_of_beq_eq_true hex
          have hends:=ok.ends rfl rfl
          have hc' : c' < ej+k:=by
           have h9:c' * i.size≤oZ * i.size:=by rw [hle] at oA; omega
           have:=Nat.le_of_mul_le_mul_right h9 (by omega)
           omega
          exact ai0 (some a') c' gY qM A.next 0 A (.inl rfl) q1 q3 q2 mD hc'
        | some p=>
         obtain ⟨bb,f⟩:=p
         simp only at hf
         cases own with
         | false=>simp at hf
         | true=>
          simp at hf
          obtain ⟨rfl,rfl⟩:=hf
          by_cases hc' : c' < ej+k
          ·exact ai0 (some a') c' gY qM bb (f+a.off) _ (.inr ⟨_,_,_,_,rfl⟩) q1 q3 q2 mD hc'
          ·
           have dT:c'≠0:=by omega
           have ha:=JZ dT
           subst ha
           have hr:=zV (P:=P) t u ty e i ht hi hu (some ⟨lc.cb,lc.eh+a.off,none⟩) ej c' x' k cN hlen w h4 (by omega)
           have zu:lc.eh+a.off+ej * i.size+new.length≤lc.yo:=by
            rw [h3]
            rw [hle] at oA
            have h9:(ej+k) * i.size≤c' * i.size:=Nat.mul_le_mul_right _ (by omega)
            rw [Nat.add_mul] at h9
            omega
           have JI:cN.length=new.length:=h1.length
           obtain ⟨agZ,p1,p2,p3,p4⟩:=uQ (P:=P) M1.rel hold hl
           have DH:∀ (j:Nat) (v' : Value),agZ[j]? = some v'→w.cell? ⟨lc.cb,lc.eh+a.off+j,none⟩=some v':=by
            intro j v' hj
            have bX:j < ej * i.size:=by have:=(List.getElem?_eq_some_iff.1 hj).1; rw [p1.length,p2] at this; exact this
            have od:=(ok.there rfl (lc.eh+a.off+j) (by omega)).1
            have:=V8 (P:=P) w ⟨lc.cb,lc.eh+a.off,none⟩ (ej * i.size) agZ (fun j hj=>by rw [kP]; exact (ok.there rfl (lc.eh+a.off+j) (by omega)).1) p4 j v' hj
            rwa [kP] at this
           have hgo:=acI (w:=w) (iG:=a.off) (s:=ej * i.size) M1 hg hl p1 p3 p2 DH h1 h2 zu
           have iX:(storeCells ((⟨lc.cb,lc.eh+a.off,none⟩:Addr).add (ej * i.size)) cN).run P w = .ok () (w.setCells lc.cb (lc.eh+a.off+ej * i.size) cN):=by
            rw [kP]
            exact run_storeCells_cells (P:=P) lc.cb (lc.eh+a.off+ej * i.size) cN 0 w (fun j hj=>(ok.there rfl _ (by rw [JI] at hj; omega)).1) (fun j hj=>(ok.there rfl _ (by rw [JI] at hj; omega)).2) (fun v PV=>by
             obtain ⟨j,hj⟩:=List.getElem?_of_mem PV
             have bX:j < new.length:=by rw [← JI]; exact (List.getElem?_eq_some_iff.1 hj).1
             obtain ⟨u,hu⟩:∃ u,new[j]? = some u:=⟨new[j],List.getElem?_eq_getElem bX⟩
             obtain ⟨v2,h7,h8⟩:=h1.get hu
             rw [hj] at h7; simp at h7; subst h7
             exact h8.scalar (h2 u (List.mem_of_getElem? hu)))
           refine ⟨_,.slice (some ⟨lc.cb,lc.eh+a.off,none⟩) (ej+k) c',_,by rw [hr]; simp only [iX,Result.andThen_ok],?_,hgo⟩
           simp only [VR]
           refine ⟨trivial,Nat.le_refl _,_,_,c',aW.pW _ _ _,by omega,fun _=>rfl,?_,rfl⟩
           show lc.eh+a.off+0+c' * i.size≤lc.yo
           rw [hle] at oA
           omega
      ·simp at hf
 ·simp at hf
theorem ahW {argTypes:Array TypeId} {t u:TypeId} (h:argTypes.toList = [t,u]):argTypes = #[t,u]:=by
 apply Array.ext'
 simpa using h
theorem af4 {argTypes:Array TypeId} {args:Array Operand} (ho:o.op = .call ⟨.builtin .append,args,argTypes⟩):hZ P o (Hl P argTypes.toList args.toList):=by
 unfold Hl
 split
 ·rename_i t u yq
  split
  ·rename_i e ht
   split
   ·rename_i i hi
    split
    ·rename_i z hz
     cases hc:(Nat.ble 1 i.size&&Nat.beq z.cells.size i.size&&Hk P u) with
     | false=>exact True.intro
     | true=>
      rw [cond_true]
      simp only [Bool.and_eq_true] at hc
      obtain ⟨⟨h1,h2⟩,h3⟩:=hc
      intro ρ A B base w ev cZ v hs he hf
      have hf0:=hf
      unfold l7 at hf0
      split at hf0
      ·rename_i bs ej oZ x e1
       have hm:=he.map
       rw [e1] at hm hf
       obtain ⟨s',r1,e2,hsv,hm⟩:=hm.cons_inv
       obtain ⟨x',r2,e3,X6,hm⟩:=hm.cons_inv
       have:=hm.ck
       subst this e3
       obtain ⟨aY,v',w',h4,h5,h6⟩:=X5 (ty:=o.type) ht hi hz h3 (Nat.le_of_ble_eq_true h1) (Nat.eq_of_beq_eq_true h2) hs hsv X6 hf
       refine ⟨aY,v',.value v',w',?_,rfl,h5,h6⟩
       have e4:args.map cZ = #[s',x']:=by apply Array.ext'; simpa using e2
       have e5:=ahW yq
       subst e5
       simp only [execOp,ho,Sem.run_bind,resolve,Sem.run_pure,Result.andThen_ok,invoke,builtin,e4,h4]
      ·simp at hf0
    ·trivial
   ·trivial
  ·trivial
 ·trivial
theorem ai2 {argTypes:Array TypeId} {args:Array Operand} (ho:o.op = .call ⟨.builtin .copy,args,argTypes⟩):hZ P o (PK P argTypes.toList args.toList):=by
 unfold PK
 split
 ·rename_i t rest yq
  have IQ:argTypes[0]? = some t:=by rw [← Array.getElem?_toList,yq]; rfl
  split
  ·rename_i e ht
   split
   ·rename_i n hn
    cases FH:Nat.ble 1 n with
    | false=>exact True.intro
    | true=>
     rw [cond_true]
     have FH:1≤n:=Nat.le_of_ble_eq_true FH
     intro ρ A B base w ev cZ v hs he hf
     unfold XK at hf
     split at hf
     ·rename_i bs PJ dCap x e1
      have hm:=he.map
      rw [e1] at hm
      obtain ⟨s',r1,e2,hsv,hm⟩:=hm.cons_inv
      obtain ⟨x',r2,e3,X6,hm⟩:=hm.cons_inv
      have:=hm.ck
      subst this e3
      have e4:args.map cZ = #[s',x']:=by apply Array.ext'; simpa using e2
      obtain ⟨k,hk,hf⟩:=Option.bind_eq_some_iff.1 hf
      have hlen:=Vb X6 hk
      obtain ⟨new,mR,hf⟩:=Option.bind_eq_some_iff.1 hf
      obtain ⟨cN,h1,h2,h3,h4⟩:=AB (P:=P) hs.rel X6 mR (fun m h=>by rw [hk] at h; simp at h; subst h; exact Nat.min_le_left _ _) FH
      cases bs with
      | none=>
       simp at hf
       obtain ⟨rfl,rfl⟩:=hf
       have:=hsv.jn
       subst this
       refine ⟨ρ,goInt (Nat.min k PJ),.value (goInt (Nat.min k PJ)),w,?_,rfl,VR.of_flat rfl,.refl hs⟩
       simp [execOp,ho,resolve,invoke,builtin,e4,Builtin.copy_,IQ,bw ht,hlen,nI hn,h4]
      | some a=>
       simp only at hf
       obtain ⟨B',iX,hf⟩:=Option.map_eq_some_iff.1 hf
       simp at hf
       obtain ⟨rfl,rfl⟩:=hf
       obtain ⟨uR,DG,lc,a',c',hl,sR,JZ,oA,rfl⟩:=hsv.nP
       obtain ⟨w',h5,h6⟩:=AA (P:=P) hs iX hl h1
       have mD:(storeCells a' cN).run P w = .ok () w':=by
        by_cases hc:c' = 0
        ·have:cN = []:=by
          apply List.eq_nil_of_length_eq_zero
          rw [h1.length,h3]
          have:PJ=0:=by omega
          subst this; simp
         subst this
         exact h5
        ·rw [JZ hc]; exact h5
       refine ⟨ρ,goInt (Nat.min k PJ),.value (goInt (Nat.min k PJ)),w',?_,rfl,VR.of_flat rfl,h6⟩
       simp [execOp,ho,resolve,invoke,builtin,e4,Builtin.copy_,IQ,bw ht,hlen,nI hn,h4,mD]
     ·simp at hf
   ·trivial
  ·trivial
 ·trivial
end
end Go.aG
end
section
namespace Go.aG
open Go
section
variable {P:Program} {o:Oper}
theorem yu {ρ:aW} {A:St} {base:Nat} {w:World} {r:Nat} {es o5:List (Value×Value)} {BX:Array MapEntry} {AD:Nat} {l:Loc} (hs:ud ρ A base w) (hg:A.get r=some (.map es)) (lg:ρ r=some l)
  (hm:iV ρ o5 BX.toList):lW base ρ A w ρ (A.put r (.map o5)) { w with heap:=w.heap.setIfInBounds l.cb (.map BX AD) }:=by
 obtain ⟨l',r9,ok⟩:=hs.rel.map _ _ hg
 rw [lg] at r9; simp at r9; subst r9
 obtain ⟨bq,clock,oe,_⟩:=ok.nZ
 have bX:l.cb < w.heap.size:=(Array.getElem?_eq_some_iff.1 oe).1
 have EK:dh.fp (.map es)=true:=rfl
 have hold:∀ k,k≠l.cb→(w.heap.setIfInBounds l.cb (.map BX AD))[k]? = w.heap[k]?:=fun k hk=>by
  rw [Array.getElem?_setIfInBounds_ne (Ne.symm hk)]
 have fo:(w.heap.setIfInBounds l.cb (.map BX AD)).size=w.heap.size:=by simp
 have hB:∀ x,(A.put r (.map o5)).get x=if x=r then some (.map o5) else A.get x:=fun x=>St.ca _ _ _ _
 have hmd:∀ o:dh,o.fp=true→o≠.dead:=by intro o h e; subst e; simp [dh.fp] at h
 have XR:∀ x o l2,x≠r→A.get x=some o→o≠.dead→ρ x=some l2→EH ρ base w l2 o→l2.cb≠l.cb:=by
  intro x o l2 hx jB hd uf jC e
  cases X7:o.fp with
  | true=>
   obtain ⟨_,_,_,_,e1,_⟩:=hs.rel.apart x r o _ l2 l hx jB hg X7 EK uf lg e
   simp [dh.l8] at e1
  | false=>
   cases o with
   | row cs bU own bQ=>
    have jC:Ho ρ base w l2 cs bU own bQ:=jC
    have h1:own=false:=X7
    have:=jC.sQ h1
    have:=ok.fp
    omega
   | map _=>simp [dh.fp] at X7
   | iter _ _=>simp [dh.fp] at X7
   | dead=>exact hd rfl
   | loop _ _ _ _ _ _=>simp [dh.fp] at X7
 refine ⟨⟨.Hr ?_ ?_ ?_,fun b l2 h=>hs.lD b l2 h,by simpa using hs.size,hs.IP⟩,fun _ _=>rfl,⟨rfl,rfl,rfl,Nat.le_of_eq fo.symm,fun k hk hn=>hold k (fun e=>hn ⟨r,_,l,hg,EK,lg,e.symm⟩)⟩,Nat.le_refl _,Nat.min_le_left _ _,fun x hx hxl=>?_,?_⟩
 ·intro x o jB hd
  rw [hB] at jB
  split at jB
  ·rename_i e; subst e; simp at jB; subst jB
   refine ⟨l,lg,ok.fp,BX,AD,?_,hm⟩
   show (w.heap.setIfInBounds l.cb (.map BX AD))[l.cb]? = _
   rw [Array.getElem?_setIfInBounds_self_of_lt bX]
  ·rename_i e
   obtain ⟨l2,uf,jC⟩:=hs.rel.obj jB hd
   exact ⟨l2,uf,jC.mb (aW.le_refl _) (hold _ (XR x o l2 e jB hd uf jC)) (Nat.le_of_eq fo.symm)⟩
 ·have PT:∀ x o,(A.put r (.map o5)).get x=some o→o.fp=true→∃ o',A.get x=some o'∧o'.fp=true∧o'.l8=o.l8:=by
   intro x o hx hm
   rw [hB] at hx
   split at hx
   ·rename_i e; subst e; simp at hx; subst hx; exact ⟨_,hg,rfl,rfl⟩
   ·exact ⟨o,hx,hm,rfl⟩
  intro b1 b2 o1 o2 l1 l2 dT g1 g2 m1 m2 r1 r2 Oi
  obtain ⟨p1,q1,n1,k1⟩:=PT _ _ g1 m1
  obtain ⟨p2,q2,n2,k2⟩:=PT _ _ g2 m2
  rw [← k1,← k2]
  exact hs.rel.apart b1 b2 p1 p2 l1 l2 dT q1 q2 n1 n2 r1 r2 Oi
 ·intro x o bb f jB hk
  rw [hB] at jB
  split at jB
  ·rename_i e; subst e; simp at jB; subst jB; simp [dh.l8] at hk
  ·exact hs.rel.bF x o bb f jB hk
 ·rw [St.XP] at hxl
  have:Nat.min A.low r≤r:=Nat.min_le_right _ _
  rw [hB,if_neg (by omega)]
 ·rintro k hk ⟨x,o,l2,jB,hm,uf,rfl⟩
  rw [hB] at jB
  split at jB
  ·rename_i e; subst e
   rw [lg] at uf; simp at uf; subst uf
   exact ⟨x,_,l,hg,EK,lg,rfl⟩
  ·exact ⟨x,o,l2,jB,hm,uf,rfl⟩
theorem iV.length {ρ:aW} : ∀ {es:List (Value×Value)} {l:List MapEntry},iV ρ es l→l.length=es.length
 | [],l,h=>by simp only [iV] at h; subst h; rfl
 | (k,v)::es,l,h=>by
  simp only [iV] at h
  obtain ⟨e,r,rfl,_,_,h⟩:=h
  simp [iV.length h]
theorem iV.get {ρ:aW} : ∀ {es:List (Value×Value)} {l:List MapEntry},iV ρ es l→∀ (i:Nat) (k v:Value),es[i]? = some (k,v)→∃ e,l[i]? = some e∧VR ρ k e.key∧VR ρ v e.val
 | [],l,h,i,k,v,hi=>by simp at hi
 | (k,v)::es,l,h,i,k',v',hi=>by
  simp only [iV] at h
  obtain ⟨e,r,rfl,h1,h2,h⟩:=h
  cases i with
  | zero=>simp at hi; obtain ⟨rfl,rfl⟩:=hi; exact ⟨e,rfl,h1,h2⟩
  | succ i=>simp at hi; simpa using iV.get h i k' v' hi
theorem iV.append {ρ:aW} : ∀ {es:List (Value×Value)} {l:List MapEntry} {k v:Value} {e:MapEntry},iV ρ es l→VR ρ k e.key→VR ρ v e.val→iV ρ (es++[(k,v)]) (l++[e])
 | [],l,k,v,e,h,h1,h2=>by
  simp only [iV] at h; subst h
  simp only [List.nil_append,iV]
  exact ⟨e,[],rfl,h1,h2,rfl⟩
 | (k0,v0)::es,l,k,v,e,h,h1,h2=>by
  simp only [iV] at h
  obtain ⟨e0,r,rfl,h3,h4,h⟩:=h
  simp only [List.cons_append,iV]
  exact ⟨e0,r++[e],rfl,h3,h4,iV.append h h1 h2⟩
theorem iV.modify {ρ:aW} : ∀ {es:List (Value×Value)} {l:List MapEntry} {k v:Value} (f:MapEntry→MapEntry) (i:Nat),iV ρ es l→(∀ e,VR ρ k (f e).key∧VR ρ v (f e).val)→iV ρ (es.set i (k,v)) (l.modify i f)
 | [],l,k,v,f,i,h,_=>by simp only [iV] at h; subst h; simp [iV]
 | (k0,v0)::es,l,k,v,f,i,h,hf=>by
  simp only [iV] at h
  obtain ⟨e0,r,rfl,h3,h4,h⟩:=h
  cases i with
  | zero=>simp only [List.set_cons_zero,List.modify_zero_cons,iV]; exact ⟨_,r,rfl,(hf e0).1,(hf e0).2,h⟩
  | succ i=>simp only [List.set_cons_succ,List.modify_succ_cons,iV]; exact ⟨e0,_,rfl,h3,h4,iV.modify f i h hf⟩
theorem iV.erase {ρ:aW} : ∀ {es:List (Value×Value)} {l:List MapEntry} (i:Nat),iV ρ es l→iV ρ (es.eraseIdx i) (l.eraseIdx i)
 | [],l,i,h=>by simp only [iV] at h; subst h; simp [iV]
 | (k0,v0)::es,l,i,h=>by
  simp only [iV] at h
  obtain ⟨e0,r,rfl,h3,h4,h⟩:=h
  cases i with
  | zero=>simpa using h
  | succ i=>simp only [List.eraseIdx_cons_succ,iV]; exact ⟨e0,_,rfl,h3,h4,iV.erase i h⟩
def FR (ρ:aW):Option (Nat×Value)→Option (Nat×Value)→Prop
 | none,r=>r=none
 | some (i,v),r=>∃ v',r=some (i,v')∧VR ρ v v'
theorem PZ {ρ:aW} (d:TypeDesc) (k:Value):∀ (es:List (Value×Value)) (l:List MapEntry) (i:Nat),iV ρ es l→s7 es=true→
  (zR d k es i=none→Instr.findNow d k l i=none)∧∀ r,zR d k es i=some r→∃ r',Instr.findNow d k l i=some r'∧FR ρ r r'
 | [],l,i,h,_=>by
  simp only [iV] at h; subst h
  exact ⟨fun h=>by simp [zR] at h,fun r hr=>by simp [zR] at hr; subst hr; exact ⟨none,rfl,rfl⟩⟩
 | (k0,v0)::es,l,i,h,hf=>by
  simp only [iV] at h
  obtain ⟨e0,r0,rfl,h3,h4,h⟩:=h
  simp only [s7,Bool.and_eq_true] at hf
  have hk:e0.key=k0:=h3.nY hf.1
  have ih:=PZ d k es r0 (i+1) h hf.2
  simp only [zR,Instr.findNow,hk]
  cases hsn:Instr.sameNow d k k0 with
  | none=>exact ⟨fun _=>rfl,fun r hr=>by simp at hr⟩
  | some b=>
   cases b with
   | true=>exact ⟨fun h=>by simp at h,fun r hr=>by simp at hr; subst hr; exact ⟨_,rfl,_,rfl,h4⟩⟩
   | false=>exact ih
theorem P0 {ρ:aW} (kt:TypeId) (k:Value):∀ (es:List (Value×Value)) (l:List MapEntry) (i:Nat),iV ρ es l→s7 es=true→
  ∀ r,Fy P kt k es i=some r→∃ r',(∀ w,(Instr.findAsking kt k l i).run P w = .ok r' w)∧FR ρ r r'
 | [],l,i,h,_=>by
  simp only [iV] at h; subst h
  intro r hr
  simp [Fy] at hr; subst hr; exact ⟨none,fun w=>rfl,rfl⟩
 | (k0,v0)::es,l,i,h,hf=>by
  simp only [iV] at h
  obtain ⟨e0,r0,rfl,h3,h4,h⟩:=h
  simp only [s7,Bool.and_eq_true] at hf
  have hk:e0.key=k0:=h3.nY hf.1
  intro r hr
  simp only [Fy] at hr
  split at hr
  ·rename_i he
   simp at hr; subst hr
   refine ⟨some (i,e0.val),fun w=>?_,_,rfl,h4⟩
   simp [Instr.findAsking,hk,ig he w]
  ·rename_i he
   obtain ⟨r',h5,h6⟩:=P0 kt k es r0 (i+1) h hf.2 r hr
   refine ⟨r',fun w=>?_,h6⟩
   simp only [Instr.findAsking,hk,Sem.run_bind,ig he w,Result.andThen_ok]
   exact h5 w
  ·simp at hr
theorem Hw {ρ:aW} {kt:TypeId} {d:TypeDesc} {k:Value} {es:List (Value×Value)} {l:List MapEntry} {r:Option (Nat×Value)} (hd:P.underlying kt=some d) (h:iV ρ es l) (hf:s7 es=true) (hr:XL P kt d k es=some r) :
  ∃ r',(∀ w,(Instr.findKey kt k l).run P w = .ok r' w)∧FR ρ r r':=by
 have hn:=PZ d k es l 0 h hf
 unfold XL at hr
 split at hr
 ·rename_i q hq
  simp at hr; subst hr
  obtain ⟨r',h1,h2⟩:=hn.2 _ hq
  refine ⟨r',fun w=>?_,h2⟩
  simp only [Instr.findKey,Sem.run_bind,bw hd,Result.andThen_ok,h1]
  rfl
 ·rename_i hq
  have h1:=hn.1 hq
  obtain ⟨r',h2,h3⟩:=P0 kt k es l 0 h hf r hr
  refine ⟨r',fun w=>?_,h3⟩
  simp only [Instr.findKey,Sem.run_bind,bw hd,Result.andThen_ok,h1]
  exact h2 w
theorem Cc {ρ:aW} {kt:TypeId} {b:Bool} {k k' : Value} {es:List (Value×Value)} (h:EE P kt b k es=true) (hk:VR ρ k k'):k' = k∧flat k=true∧s7 es=true∧∀ w,(Instr.checkKey b 10000 kt k).run P w = .ok () w:=by
 unfold EE at h
 simp only [Bool.and_eq_true] at h
 obtain ⟨⟨h1,h2⟩,h3⟩:=h
 cases hp:dr P (Instr.checkKey b 10000 kt k) with
 | none=>rw [hp] at h3; simp at h3
 | some u=>exact ⟨hk.nY h1,h1,h2,fun w=>ig hp w⟩
theorem iV.isEmpty {ρ:aW} {es:List (Value×Value)} {l:Array MapEntry} (h:iV ρ es l.toList):l.isEmpty=es.isEmpty:=by
 have:=h.length
 cases es with
 | nil=>simp at this; simpa using this
 | cons e es=>simp at this; simp; intro h; rw [h] at this; simp at this
theorem VR.J3 {ρ:aW} {r:Nat} {v:Value} (h:VR ρ (.map (some r)) v):∃ l,ρ r=some l∧v = .map (some l.cb):=by simpa only [VR] using h
theorem VR.Cd {ρ:aW} {v:Value} (h:VR ρ (.map none) v):v = .map none:=by simpa only [VR] using h
theorem VR.abz {ρ:aW} {ok b:Bool} {v v' : Value} (h:VR ρ v v'):VR ρ (abz ok v b) (if ok then .tuple #[v',.bool b] else v'):=by
 cases ok with
 | true=>exact VR.mkTuple (.cons h (.cons (VR.of_flat rfl) .nil))
 | false=>exact h
theorem aeb {t:TypeId} {r:Option Operand} (ho:o.op = .makeMap t r):hZ P o (JX P t r):=by
 unfold JX
 split
 ·rename_i kt et hu
  intro ρ ev cZ obj mk he hf
  have jX:obj = .map []∧mk=fun n=>.map (some n):=by
   unfold SL at hf
   split at hf
   ·simp at hf; exact ⟨hf.1.symm,hf.2.symm⟩
   ·simp at hf; exact ⟨hf.1.symm,hf.2.symm⟩
   ·simp at hf
  obtain ⟨rfl,rfl⟩:=jX
  refine ⟨.map #[] 0,fun n=>.map (some n),rfl,fun w=>?_,fun aY n cb h=>by simp only [VR]; exact ⟨_,h,rfl⟩⟩
  cases r with
  | none=>simp [execOp,ho,Instr.makeMap]
  | some x=>
   have hx:=he x (by simp [fS])
   unfold SL at hf
   simp only [fS,List.map] at hf
   split at hf
   ·rename_i e; simp at e
   ·rename_i k n e
    simp at e
    rw [e] at hx
    simp [execOp,ho,Instr.makeMap,hx.du,bw hu,asInt,asIntOf]
   ·simp at hf
 ·trivial
theorem FL {ρ:aW} {kt et:TypeId} {d:TypeDesc} {z v k k' : Value} {ok:Bool} {es:List (Value×Value)} {l:Array MapEntry} (hd:P.underlying kt=some d) (hz:pQ P et=some z) (hzf:flat z=true)
  (hm:iV ρ es l.toList) (hk:VR ρ k k') (h:Hm P kt d z ok k es=some v) :
  ∃ v',VR ρ v v'∧∀ w,(do
   Instr.checkKey l.isEmpty 10000 kt k'
   let (v,b) ← match ← Instr.findKey kt k' l.toList with
    | some (_,v)=>pure (v,true)
    | none=>pure (← zeroValue et,false)
   pure (if ok then Value.tuple #[v,.bool b] else v):Sem Value).run P w = .ok v' w:=by
 unfold Hm at h
 cases hc:EE P kt es.isEmpty k es with
 | false=>rw [hc] at h; simp at h
 | true=>
  rw [hc,cond_true] at h
  obtain ⟨rfl,_,hkf,SR⟩:=Cc hc hk
  obtain ⟨r,hr,rfl⟩:=Option.map_eq_some_iff.1 h
  obtain ⟨r',h1,h2⟩:=Hw hd hm hkf hr
  rw [hm.isEmpty]
  cases r with
  | none=>
   have h2:r' = none:=h2
   subst h2
   refine ⟨_,VR.abz (VR.of_flat hzf),fun w=>?_⟩
   simp [SR,h1,LO hz]
  | some p=>
   obtain ⟨i,u⟩:=p
   obtain ⟨u',rfl,h3⟩:=h2
   refine ⟨_,VR.abz h3,fun w=>?_⟩
   simp [SR,h1]
theorem af5 {t:TypeId} {x ix:Operand} {ok:Bool} (ho:o.op = .lookup t x ix ok):hZ P o (Oc P t x ix ok):=by
 unfold Oc
 split
 ·rename_i kt et hu
  split
  ·rename_i d z hd hz
   cases hzf:flat z with
   | false=>exact True.intro
   | true=>
    rw [cond_true]
    intro ρ A base w ev cZ v hs he hf
    have hx:=he x (by simp)
    have hk:=he ix (by simp)
    simp only [List.map] at hf
    unfold ad1 at hf
    split at hf
    ·rename_i k e
     simp at e
     obtain ⟨e1,e2⟩:=e
     rw [e1] at hx
     have hx:=hx.Cd
     rw [← e2] at hf
     obtain ⟨v',h1,h2⟩:=FL (ρ:=ρ) (l:=#[]) hd hz hzf (by simp [iV]) hk hf
     refine ⟨v',h1,?_⟩
     have h2:=h2 w
     simp only [execOp,ho,Instr.lookup,Sem.run_bind,bw hu,Result.andThen_ok,hx,Sem.run_pure] at h2 ⊢
     exact congrArg (fun r:Result Value=>r.andThen fun a w'=>Result.ok (Next.value a) w') h2
    ·rename_i r k e
     simp at e
     obtain ⟨e1,e2⟩:=e
     rw [e1] at hx
     rw [← e2] at hf
     obtain ⟨lc,hl,hx⟩:=hx.J3
     split at hf
     ·rename_i es hg
      obtain ⟨l2,mB,jC⟩:=hs.map _ _ hg
      rw [hl] at mB; simp at mB; subst mB
      obtain ⟨bq,clock,oe,hm⟩:=jC.nZ
      obtain ⟨v',h1,h2⟩:=FL (l:=bq) hd hz hzf hm hk hf
      refine ⟨v',h1,?_⟩
      have h2:=h2 w
      simp only [execOp,ho,Instr.lookup,Sem.run_bind,bw hu,Result.andThen_ok,hx,MapKept.run_getObj_map oe,Sem.run_pure] at h2 ⊢
      exact congrArg (fun r:Result Value=>r.andThen fun a w'=>Result.ok (Next.value a) w') h2
     ·simp at hf
    ·simp at hf
  ·trivial
 ·trivial
theorem Qa {ρ:aW} {A B:St} {base:Nat} {w:World} {t kt et:TypeId} {d:TypeDesc} {m k x m' k' x' v:Value} (hu:P.underlying t=some (.map kt et)) (hd:P.underlying kt=some d) (hs:ud ρ A base w)
  (hm:VR ρ m m') (hk:VR ρ k k') (hx:VR ρ x x') (h:JW P kt d A [m,k,x] = some (v,B)):v=undef∧∃ w',(Instr.mapUpdate t m' k' x').run P w = .ok () w'∧lW base ρ A w ρ B w':=by
 unfold JW at h
 split at h
 ·rename_i r k0 x0 e
  simp at e
  obtain ⟨rfl,rfl,rfl⟩:=e
  obtain ⟨lc,hl,rfl⟩:=hm.J3
  split at h
  ·rename_i es hg
   obtain ⟨l2,mB,jC⟩:=hs.rel.map _ _ hg
   rw [hl] at mB; simp at mB; subst mB
   obtain ⟨bq,clock,oe,SW⟩:=jC.nZ
   cases hc:EE P kt false k es with
   | false=>rw [hc] at h; simp at h
   | true=>
    rw [hc,cond_true] at h
    obtain ⟨rfl,hkf0,hkf,SR⟩:=Cc hc hk
    obtain ⟨q,hq,h⟩:=Option.bind_eq_some_iff.1 h
    obtain ⟨r',h1,h2⟩:=Hw hd SW hkf hq
    cases q with
    | none=>
     have h2:r' = none:=h2
     subst h2
     simp at h
     obtain ⟨rfl,rfl⟩:=h
     refine ⟨rfl,_,?_,yu (BX:=bq.push { key:=k',val:=x',born:=clock }) (AD:=clock+1) hs hg hl (by rw [Array.toList_push]; exact SW.append hk hx)⟩
     simp [Instr.mapUpdate,bw hu,MapKept.run_getObj_map oe,SR,h1,MapKept.run_setObj_map _ oe]
    | some p=>
     obtain ⟨i,u⟩:=p
     obtain ⟨u',rfl,h3⟩:=h2
     simp only at h
     cases hsb:Instr.sameBits 10000 (acA es i k') k' with
     | false=>rw [hsb] at h; simp at h
     | true=>
      rw [hsb] at h
      simp at h
      obtain ⟨rfl,rfl⟩:=h
      have hold:((bq[i]?).map (·.key)).getD k' = acA es i k':=by
       unfold acA
       cases hi:es[i]? with
       | none=>
        have:bq[i]? = none:=by
         rw [Array.getElem?_eq_none_iff]
         have:=List.getElem?_eq_none_iff.1 hi
         rw [← Array.length_toList,SW.length]; exact this
        rw [this]; rfl
       | some p=>
        obtain ⟨k1,v1⟩:=p
        obtain ⟨e,h5,h6,h7⟩:=SW.get i k1 v1 hi
        have h5' : bq[i]? = some e:=by simpa using h5
        have FJ:flat k1=true:=by
         have key:∀ (es:List (Value×Value)) (i:Nat),s7 es=true→es[i]? = some (k1,v1)→flat k1=true:=by
          intro es
          induction es with
          | nil=>intro i _ h; simp at h
          | cons e es ih=>
           intro i hk h
           simp only [s7,Bool.and_eq_true] at hk
           cases i with
           | zero=>simp at h; subst h; exact hk.1
           | succ i=>exact ih i hk.2 (by simpa using h)
         exact key es i hkf hi
        rw [h5']
        simp only [Option.map_some,Option.getD_some]
        exact h6.nY FJ
      refine ⟨rfl,_,?_,yu (BX:=bq.modify i fun e=>{ e with key:=k',val:=x' }) (AD:=clock) hs hg hl (by rw [Array.toList_modify]; exact SW.modify _ i fun e=>⟨hk,hx⟩)⟩
      simp [Instr.mapUpdate,bw hu,MapKept.run_getObj_map oe,SR,h1,hold,Instr.keyThatStays,hsb,MapKept.run_setObj_map _ oe]
  ·simp at h
 ·simp at h
theorem M3 {t:TypeId} {m k x:Operand} (ho:o.op = .mapUpdate t m k x∨o.op = .insert t m k x):hZ P o (Ax P t m k x):=by
 unfold Ax
 split
 ·rename_i kt et hu
  split
  ·rename_i d hd
   intro ρ A B base w ev cZ v hs he hf
   simp only [List.map] at hf
   obtain ⟨rfl,w',h1,h2⟩:=Qa hu hd hs (he m (by simp)) (he k (by simp)) (he x (by simp)) hf
   refine ⟨ρ,undef,.skip,w',?_,rfl,VR.of_flat (by simp [undef,flat,Hc,ua]),h2⟩
   rcases ho with ho | ho <;> simp [execOp,ho,h1]
  ·trivial
 ·trivial
theorem ug:flat kA=true:=rfl
theorem af6 {argTypes:Array TypeId} {args:Array Operand} (ho:o.op = .call ⟨.builtin .delete,args,argTypes⟩):hZ P o (Od P argTypes.toList args.toList):=by
 unfold Od
 split
 ·rename_i t rest yq
  have IQ:argTypes[0]? = some t:=by rw [← Array.getElem?_toList,yq]; rfl
  split
  ·rename_i kt et hu
   split
   ·rename_i d hd
    intro ρ A B base w ev cZ v hs he hf
    have hm:=he.map
    unfold ad2 at hf
    split at hf
    ·rename_i k e1
     rw [e1] at hm
     obtain ⟨m',r1,e2,X8,hm⟩:=hm.cons_inv
     obtain ⟨k',r2,e3,hkv,hm⟩:=hm.cons_inv
     have:=hm.ck
     subst this e3
     have e4:args.map cZ = #[m',k']:=by apply Array.ext'; simpa using e2
     have:=X8.Cd
     subst this
     cases hc:EE P kt true k [] with
     | false=>rw [hc] at hf; simp at hf
     | true=>
      rw [hc] at hf
      simp at hf
      obtain ⟨rfl,rfl⟩:=hf
      obtain ⟨rfl,_,hkf,SR⟩:=Cc hc hkv
      refine ⟨ρ,kA,.value kA,w,?_,rfl,VR.of_flat ug,.refl hs⟩
      simp [execOp,ho,resolve,invoke,builtin,e4,Builtin.delete_,IQ,bw hu,SR,kA]
    ·rename_i r k e1
     rw [e1] at hm
     obtain ⟨m',r1,e2,X8,hm⟩:=hm.cons_inv
     obtain ⟨k',r2,e3,hkv,hm⟩:=hm.cons_inv
     have:=hm.ck
     subst this e3
     have e4:args.map cZ = #[m',k']:=by apply Array.ext'; simpa using e2
     obtain ⟨lc,hl,rfl⟩:=X8.J3
     split at hf
     ·rename_i es hg
      obtain ⟨l2,mB,jC⟩:=hs.rel.map _ _ hg
      rw [hl] at mB; simp at mB; subst mB
      obtain ⟨bq,clock,oe,SW⟩:=jC.nZ
      cases hc:EE P kt es.isEmpty k es with
      | false=>rw [hc] at hf; simp at hf
      | true=>
       rw [hc,cond_true] at hf
       obtain ⟨rfl,_,hkf,SR⟩:=Cc hc hkv
       obtain ⟨q,hq,FM⟩:=Option.map_eq_some_iff.1 hf
       obtain ⟨r',h1,h2⟩:=Hw hd SW hkf hq
       rw [← SW.isEmpty] at SR
       cases q with
       | none=>
        have h2:r' = none:=h2
        subst h2
        simp at FM
        obtain ⟨rfl,rfl⟩:=FM
        refine ⟨ρ,kA,.value kA,_,?_,rfl,VR.of_flat ug,yu (BX:=bq) (AD:=clock) hs hg hl SW⟩
        simp [execOp,ho,resolve,invoke,builtin,e4,Builtin.delete_,IQ,bw hu,MapKept.run_getObj_map oe,SR,h1,MapKept.run_setObj_map _ oe,kA]
       | some p=>
        obtain ⟨i,u⟩:=p
        obtain ⟨u',rfl,h3⟩:=h2
        simp at FM
        obtain ⟨rfl,rfl⟩:=FM
        refine ⟨ρ,kA,.value kA,_,?_,rfl,VR.of_flat ug,yu (BX:=bq.eraseIdxIfInBounds i) (AD:=clock) hs hg hl (by rw [Array.toList_eraseIdxIfInBounds]; exact SW.erase i)⟩
        simp [execOp,ho,resolve,invoke,builtin,e4,Builtin.delete_,IQ,bw hu,MapKept.run_getObj_map oe,SR,h1,MapKept.run_setObj_map _ oe,kA]
     ·simp at hf
    ·simp at hf
   ·trivial
  ·trivial
 ·trivial
theorem ahX {argTypes:Array TypeId} {args:Array Operand} (ho:o.op = .call ⟨.builtin .clear,args,argTypes⟩):hZ P o (SM P argTypes.toList args.toList):=by
 unfold SM
 split
 ·rename_i t yq
  have IQ:argTypes[0]? = some t:=by rw [← Array.getElem?_toList,yq]; rfl
  split
  ·rename_i kt et hu
   intro ρ A B base w ev cZ v hs he hf
   have hm:=he.map
   unfold XM at hf
   split at hf
   ·rename_i e1
    simp at hf
    obtain ⟨rfl,rfl⟩:=hf
    rw [e1] at hm
    obtain ⟨m',r1,e2,X8,hm⟩:=hm.cons_inv
    have:=hm.ck
    subst this
    have e4:args.map cZ = #[m']:=by apply Array.ext'; simpa using e2
    have:=X8.Cd
    subst this
    refine ⟨ρ,kA,.value kA,w,?_,rfl,VR.of_flat ug,.refl hs⟩
    simp [execOp,ho,resolve,invoke,builtin,e4,Builtin.clear_,IQ,bw hu,kA]
   ·rename_i r e1
    rw [e1] at hm
    obtain ⟨m',r1,e2,X8,hm⟩:=hm.cons_inv
    have:=hm.ck
    subst this
    have e4:args.map cZ = #[m']:=by apply Array.ext'; simpa using e2
    obtain ⟨lc,hl,rfl⟩:=X8.J3
    split at hf
    ·rename_i es hg
     simp at hf
     obtain ⟨rfl,rfl⟩:=hf
     obtain ⟨l2,mB,jC⟩:=hs.rel.map _ _ hg
     rw [hl] at mB; simp at mB; subst mB
     obtain ⟨bq,clock,oe,SW⟩:=jC.nZ
     refine ⟨ρ,kA,.value kA,_,?_,rfl,VR.of_flat ug,yu (BX:=#[]) (AD:=clock) hs hg hl rfl⟩
     simp [execOp,ho,resolve,invoke,builtin,e4,Builtin.clear_,IQ,bw hu,MapKept.run_getObj_map oe,MapKept.run_setObj_map _ oe,kA]
    ·simp at hf
   ·simp at hf
  ·rename_i e hu
   split
   ·rename_i z hz
    cases hzc:(flat z&&Nat.ble 1 z.cells.size) with
    | false=>exact True.intro
    | true=>
     rw [cond_true]
     obtain ⟨Mq,BB⟩:=Bool.and_eq_true_iff.1 hzc
     have BB:=Nat.le_of_ble_eq_true BB
     intro ρ A B base w ev cZ v hs he hf
     have hm:=he.map
     unfold abA at hf
     split at hf
     ·rename_i n c e1
      simp at hf
      obtain ⟨rfl,rfl⟩:=hf
      rw [e1] at hm
      obtain ⟨m',r1,e2,X8,hm⟩:=hm.cons_inv
      have:=hm.ck
      subst this
      have e4:args.map cZ = #[m']:=by apply Array.ext'; simpa using e2
      have:=X8.jn
      subst this
      refine ⟨ρ,kA,.value kA,w,?_,rfl,VR.of_flat ug,.refl hs⟩
      simp [execOp,ho,resolve,invoke,builtin,e4,Builtin.clear_,IQ,bw hu,kA]
     ·rename_i a n c e1
      rw [e1] at hm
      obtain ⟨m',r1,e2,X8,hm⟩:=hm.cons_inv
      have:=hm.ck
      subst this
      have e4:args.map cZ = #[m']:=by apply Array.ext'; simpa using e2
      obtain ⟨uR,DG,lc,a',c',hl,sR,JZ,oA,rfl⟩:=X8.nP
      cases hn:Nat.beq n 0 with
      | true=>
       rw [hn] at hf
       simp at hf
       obtain ⟨rfl,rfl⟩:=hf
       have:=Nat.eq_of_beq_eq_true hn
       subst this
       refine ⟨ρ,kA,.value kA,w,?_,rfl,VR.of_flat ug,.refl hs⟩
       simp [execOp,ho,resolve,invoke,builtin,e4,Builtin.clear_,IQ,bw hu,kA]
      | false=>
       rw [hn,cond_false] at hf
       have hn0:=Nat.ne_of_beq_eq_false hn
       obtain ⟨B',iX,hf⟩:=Option.map_eq_some_iff.1 hf
       simp at hf
       obtain ⟨rfl,rfl⟩:=hf
       obtain ⟨w',h5,h6⟩:=AA (P:=P) hs iX hl ((DR Mq).repeat n)
       have:=JZ (by omega)
       subst this
       have e5:Builtin.zeroCells z.cells n=⟨gn z.cells.toList n⟩:=Ol z.cells n BB
       refine ⟨ρ,kA,.value kA,w',?_,rfl,VR.of_flat ug,h6⟩
       obtain ⟨m,rfl⟩:=Nat.exists_eq_succ_of_ne_zero hn0
       simp [execOp,ho,resolve,invoke,builtin,e4,Builtin.clear_,IQ,bw hu,LO hz,e5,h5,kA]
     ·simp at hf
   ·trivial
  ·trivial
 ·trivial
theorem akI {argTypes:Array TypeId} {args:Array Operand} (ho:o.op = .call ⟨.builtin .len,args,argTypes⟩):hZ P o (Xk P argTypes.toList args.toList):=by
 unfold Xk
 split
 ·rename_i t et
  have yq:argTypes[0]? = some t:=by rw [← Array.getElem?_toList,et]; rfl
  split
  ·rename_i e hu; exact ahT ho yq hu
  ·rename_i hu; exact af3 ho yq hu
  ·rename_i kt et' hu
   intro ρ A base w ev cZ v hs he hf
   have hm:=he.map
   unfold ad3 at hf
   split at hf
   ·rename_i e1
    rw [e1] at hm
    obtain ⟨y,ys,e2,h1,h2⟩:=hm.cons_inv
    have:=h2.ck
    subst this
    simp at hf; subst hf
    have:=h1.Cd
    subst this
    refine ⟨_,VR.of_flat rfl,?_⟩
    have e3:(args.map cZ)[0]? = some (.map none):=by rw [ns,e2]; rfl
    simp [execOp,ho,resolve,invoke,builtin,Builtin.len_,yq,e3,bw hu,goInt]
   ·rename_i r e1
    rw [e1] at hm
    obtain ⟨y,ys,e2,h1,h2⟩:=hm.cons_inv
    have:=h2.ck
    subst this
    obtain ⟨lc,hl,rfl⟩:=h1.J3
    split at hf
    ·rename_i es hg
     simp at hf; subst hf
     obtain ⟨l2,mB,jC⟩:=hs.map _ _ hg
     rw [hl] at mB; simp at mB; subst mB
     obtain ⟨bq,clock,oe,SW⟩:=jC.nZ
     refine ⟨_,VR.of_flat rfl,?_⟩
     have e3:(args.map cZ)[0]? = some (.map (some lc.cb)):=by rw [ns,e2]; rfl
     have fo:bq.size=es.length:=by rw [← Array.length_toList,SW.length]
     simp [execOp,ho,resolve,invoke,builtin,Builtin.len_,yq,e3,bw hu,goInt,MapKept.run_getObj_map oe,fo]
    ·simp at hf
   ·simp at hf
  ·trivial
 ·trivial
end
end Go.aG
end
section
namespace Go.aG
open Go
section
variable {P:Program} {o:Oper}
theorem acK {l:List UInt8} : ∀ {cs:List Value},DM cs=some l→cs=kN l:=by
 intro cs
 induction cs generalizing l with
 | nil=>intro h; simp [DM] at h; subst h; rfl
 | cons c cs ih=>
  intro h
  cases c with
  | int k n=>
   cases k <;> cases n <;> simp only [DM] at h <;> try (simp at h; done)
   rename_i m
   cases hb:Nat.blt m 256 with
   | false=>rw [hb] at h; simp at h
   | true=>
    rw [hb,cond_true] at h
    obtain ⟨r,hr,rfl⟩:=Option.map_eq_some_iff.1 h
    rw [Nat.blt_eq] at hb
    rw [ih hr]
    simp only [kN,List.map_cons,List.cons.injEq,and_true]
    have:(UInt8.ofNat m).toNat=m:=by simp; omega
    rw [this]
    rfl
  | _=>simp [DM] at h
theorem aaX {ρ:aW} (l:List UInt8):dS ρ (kN l) (kN l):=by
 induction l with
 | nil=>exact .nil
 | cons x l ih=>exact .cons (by simp [VR]) ih
theorem J4:∀ (l:List UInt8),ua (kN l)=true
 | []=>rfl
 | x::l=>by show (true&&ua (kN l))=true; rw [J4 l]; rfl
theorem X9 {e:TypeId} (h:isByte P e=true):P.underlying e=some (.int .u8):=by
 unfold isByte at h
 split at h
 ·rename_i h'; exact h'
 ·simp at h
theorem V9 {ρ:aW} {A:St} {base:Nat} {w:World} {cs b8:List Value} {c:Array Value} {n bb f:Nat} {fr:Nat×Nat} (T:TypeId) (hn1:n=1) (hs:ud ρ A base w) (hc:dS ρ cs b8) (h1:∀ v∈cs,scalar v=true)
  (aiY:∀ (j:Nat) (v:Value),b8[j]? = some v→c[j]? = some v) (fo:cs.length≤c.size) (DF:c.size≤fr.1) :
  lW base ρ A w (ρ.set A.next ⟨w.heap.size,0,c.size,n⟩) (A.grow bb f cs n) (w.alloc (.cells c T fr)):=by
 refine CR (o:=.row cs n true (some (bb,f))) hs (fun x=>FK _ _ _ _ _ _) (fun g x h=>?_) (fun g f' h=>?_) (by simp [St.grow]) (by simp [St.grow]) (fun x hx _=>by rw [FK,if_neg (by omega)]) rfl ?_
 ·rw [wy]; split
  ·rename_i e; subst e; simp [h]
  ·exact h
 ·simp [dh.l8] at h; rw [wy,h.1]; simp
 ·refine ⟨fun i v hi=>?_,fun h=>by simp at h,fun _=>hs.size,fun _ j hj=>?_,by simpa using fo,fun _ h=>by simp at h,rfl,by simp,fun _ h=>absurd hn1 h⟩
  ·obtain ⟨v',h2,h3⟩:=hc.get hi
   refine ⟨v',?_,h3.mono (hs.Hq _),h1 v (List.mem_of_getElem? hi)⟩
   rw [Nat.zero_add,World.cell?_alloc_mark]
   exact aiY i v' h2
  ·simp only at hj ⊢
   rw [World.cell?_alloc_mark]
   refine ⟨?_,?_⟩
   ·rw [Array.getElem?_eq_getElem (by omega)]
    rfl
   ·have:(w.alloc (.cells c T fr)).heap[w.heap.size]? = some (.cells c T fr):=by
     show (w.heap.push (.cells c T fr))[w.heap.size]? = _
     simp
    simp only [World.frozen?,this]
    have lX : ¬ (fr.1≤j):=by omega
    simp [lX]
theorem SX {ρ:aW} {A:St} {base:Nat} {w:World} {src dst e:TypeId} {x x' v:Value} (hs:Rel ρ A.get A.members base w) (h1:P.underlying src=some (.slice e)) (h2:P.underlying dst=some .string) (he:P.underlying e=some (.int .u8))
  (hx:VR ρ x x') (h:CO A [x] = some v):VR ρ v v∧(convert src dst x').run P w = .ok v w:=by
 unfold CO at h
 split at h
 ·rename_i n c e1
  simp at e1; subst e1
  simp at h; subst h
  have:=hx.jn
  subst this
  refine ⟨VR.of_flat rfl,?_⟩
  rw [run_convert_bytes_string w src dst e none n c h1 he h2]
  rfl
 ·rename_i a n c e1
  simp at e1; subst e1
  obtain ⟨l,hl,rfl⟩:=Option.map_eq_some_iff.1 h
  obtain ⟨cs,Hs,hb⟩:=Option.bind_eq_some_iff.1 hl
  have:=acK hb
  subst this
  obtain ⟨uR,DG,lc,a',c',lg,sR,JZ,oA,rfl⟩:=hx.nP
  obtain ⟨b8,q1,q2,q3,q4⟩:=uQ (P:=P) hs Hs lg
  have ai3:b8=kN l:=q1.nY (J4 l)
  subst ai3
  have hlen:l.length=n:=by simpa [kN] using q2
  refine ⟨VR.of_flat rfl,?_⟩
  rw [run_convert_bytes_string w src dst e (some a') n c' h1 he h2]
  have BD:(loadCells a' n).run P w = .ok (kN l).toArray w:=by
   by_cases hc:c' = 0
   ·have hn0:n=0:=by omega
    subst hn0
    have:l = []:=List.eq_nil_of_length_eq_zero hlen
    subst this
    exact run_loadCells_list w a' [] (by simp)
   ·rw [JZ hc]; exact q4
  have rl:kN l=(l.map (fun b=>(b.toNat:Int))).map (Value.int .u8):=by simp [kN]
  rw [rl] at BD
  rw [run_bytesToString w a' n c' _ BD,foldl_push_byteCells]
  have Ya:ByteArray.empty.data = #[]:=rfl
  rw [Ya]
  simp
 ·simp at h
theorem SY {ρ:aW} {A B:St} {base:Nat} {w:World} {src dst e:TypeId} {x x' v:Value} (hs:ud ρ A base w) (h1:P.underlying src=some .string) (h2:P.underlying dst=some (.slice e)) (he:P.underlying e=some (.int .u8))
  (hx:VR ρ x x') (h:Hn A [x] = some (v,B)):∃ aY v' w',(convert src dst x').run P w = .ok v' w'∧VR aY v v'∧lW base ρ A w aY B w':=by
 unfold Hn at h
 split at h
 ·rename_i s e1
  simp at e1; subst e1
  simp at h
  obtain ⟨rfl,rfl⟩:=h
  have:=hx.oB
  subst this
  have hr:=run_bytes_of_string (P:=P) w src dst e s h1 h2 he
  have hge:=grownCap_ge w s.size 0 e
  have hds:s.data.size=s.size:=rfl
  have Hu:(bytesRow s (grownCap w s.size 0 e)).size=grownCap w s.size 0 e:=by
   unfold bytesRow
   simp [hds]
   omega
  have hdr:=lW.drew (w:=w) hs
  have hgo:=V9 (w:=w.drew) (n:=1) (bb:=A.next) (f:=0) (c:=bytesRow s (grownCap w s.size 0 e)) (fr:=((bytesRow s (grownCap w s.size 0 e)).size,(bytesRow s (grownCap w s.size 0 e)).size+1)) e rfl hdr.jv
   (aaX s.data.toList) (fun v hv=>by
    obtain ⟨b,_,rfl⟩:=List.mem_map.1 hv
    rfl) (fun j v hj=>by
    unfold bytesRow
    have bX:j < s.data.size:=by
     have:=(List.getElem?_eq_some_iff.1 hj).1
     simpa [kN] using this
    rw [Array.getElem?_append_left (by simpa using bX)]
    simpa [kN] using hj) (by rw [Hu]; simp [kN,hds]; exact hge) (Nat.le_refl _)
  refine ⟨_,_,_,hr,?_,hdr.trans hgo⟩
  simp only [VR]
  refine ⟨trivial,Nat.le_refl _,_,⟨w.heap.size,0,none⟩,grownCap w s.size 0 e,aW.pW _ _ _,hge,fun _=>rfl,?_,rfl⟩
  rw [Hu]
  show 0+0+grownCap w s.size 0 e * 1≤grownCap w s.size 0 e
  omega
 ·simp at h
theorem ai4 {src dst:TypeId} {x:Operand} (ho:o.op = .convert src dst x):hZ P o (A8 P src dst x):=by
 unfold A8
 split
 ·rename_i e h1 h2
  cases hb:isByte P e with
  | false=>exact True.intro
  | true=>
   rw [cond_true]
   intro ρ A base w ev cZ v hs he hf
   obtain ⟨h3,h4⟩:=SX hs h1 h2 (X9 hb) (he x (by simp)) hf
   exact ⟨v,h3,by simp [execOp,ho,h4]⟩
 ·rename_i e h1 h2
  cases hb:isByte P e with
  | false=>exact True.intro
  | true=>
   rw [cond_true]
   intro ρ A B base w ev cZ v hs he hf
   obtain ⟨aY,v',w',h3,h4,h5⟩:=SY hs h1 h2 (X9 hb) (he x (by simp)) hf
   exact ⟨aY,v',.value v',w',by simp [execOp,ho,h3],rfl,h4,h5⟩
 ·rename_i h1 h2
  intro ρ ev cZ v he hf
  simp only [List.map] at hf
  unfold XN at hf
  split at hf
  ·rename_i s e
   simp at e hf
   subst hf
   have hx:=he x (by simp)
   rw [e] at hx
   refine ⟨_,VR.of_flat rfl,fun w=>?_⟩
   simp [execOp,ho,convert,bw h1,bw h2,hx.oB]
  ·simp at hf
 ·exact ad7 ho
theorem aaY {ρ:aW} {A:St} {base:Nat} {w:World} {r:Nat} {s:List UInt8} {pos Qb:Nat} {l:Loc} (hs:ud ρ A base w) (hg:A.get r=some (.iter s pos)) (lg:ρ r=some l) :
  lW base ρ A w ρ (A.put r (.iter s Qb)) { w with heap:=w.heap.setIfInBounds l.cb (.stringIter ⟨⟨s⟩⟩ Qb) }:=by
 obtain ⟨l',r9,ok⟩:=hs.rel.iter _ _ _ hg
 rw [lg] at r9; simp at r9; subst r9
 obtain ⟨IU,oe⟩:=ok.nZ
 have bX:l.cb < w.heap.size:=(Array.getElem?_eq_some_iff.1 oe).1
 have EK:dh.fp (.iter s pos)=true:=rfl
 have hold:∀ k,k≠l.cb→(w.heap.setIfInBounds l.cb (.stringIter ⟨⟨s⟩⟩ Qb))[k]? = w.heap[k]?:=fun k hk=>by
  rw [Array.getElem?_setIfInBounds_ne (Ne.symm hk)]
 have fo:(w.heap.setIfInBounds l.cb (.stringIter ⟨⟨s⟩⟩ Qb)).size=w.heap.size:=by simp
 have hB:∀ x,(A.put r (.iter s Qb)).get x=if x=r then some (.iter s Qb) else A.get x:=fun x=>St.ca _ _ _ _
 have hmd:∀ o:dh,o.fp=true→o≠.dead:=by intro o h e; subst e; simp [dh.fp] at h
 have XR:∀ x o l2,x≠r→A.get x=some o→o≠.dead→ρ x=some l2→EH ρ base w l2 o→l2.cb≠l.cb:=by
  intro x o l2 hx jB hd uf jC e
  cases X7:o.fp with
  | true=>
   obtain ⟨_,_,_,_,e1,_⟩:=hs.rel.apart x r o _ l2 l hx jB hg X7 EK uf lg e
   simp [dh.l8] at e1
  | false=>
   cases o with
   | row cs bU own bQ=>
    have jC:Ho ρ base w l2 cs bU own bQ:=jC
    have h1:own=false:=X7
    have:=jC.sQ h1
    have:=ok.fp
    omega
   | map _=>simp [dh.fp] at X7
   | iter _ _=>simp [dh.fp] at X7
   | dead=>exact hd rfl
   | loop _ _ _ _ _ _=>simp [dh.fp] at X7
 refine ⟨⟨.Hr ?_ ?_ ?_,fun b l2 h=>hs.lD b l2 h,by simpa using hs.size,hs.IP⟩,fun _ _=>rfl,⟨rfl,rfl,rfl,Nat.le_of_eq fo.symm,fun k hk hn=>hold k (fun e=>hn ⟨r,_,l,hg,EK,lg,e.symm⟩)⟩,Nat.le_refl _,Nat.min_le_left _ _,fun x hx hxl=>?_,?_⟩
 ·intro x o jB hd
  rw [hB] at jB
  split at jB
  ·rename_i e; subst e; simp at jB; subst jB
   refine ⟨l,lg,ok.fp,IU,?_⟩
   show (w.heap.setIfInBounds l.cb (.stringIter ⟨⟨s⟩⟩ Qb))[l.cb]? = _
   rw [Array.getElem?_setIfInBounds_self_of_lt bX]
  ·rename_i e
   obtain ⟨l2,uf,jC⟩:=hs.rel.obj jB hd
   exact ⟨l2,uf,jC.mb (aW.le_refl _) (hold _ (XR x o l2 e jB hd uf jC)) (Nat.le_of_eq fo.symm)⟩
 ·have PT:∀ x o,(A.put r (.iter s Qb)).get x=some o→o.fp=true→∃ o',A.get x=some o'∧o'.fp=true∧o'.l8=o.l8:=by
   intro x o hx hm
   rw [hB] at hx
   split at hx
   ·rename_i e; subst e; simp at hx; subst hx; exact ⟨_,hg,rfl,rfl⟩
   ·exact ⟨o,hx,hm,rfl⟩
  intro b1 b2 o1 o2 l1 l2 dT g1 g2 m1 m2 r1 r2 Oi
  obtain ⟨p1,q1,n1,k1⟩:=PT _ _ g1 m1
  obtain ⟨p2,q2,n2,k2⟩:=PT _ _ g2 m2
  rw [← k1,← k2]
  exact hs.rel.apart b1 b2 p1 p2 l1 l2 dT q1 q2 n1 n2 r1 r2 Oi
 ·intro x o bb f jB hk
  rw [hB] at jB
  split at jB
  ·rename_i e; subst e; simp at jB; subst jB; simp [dh.l8] at hk
  ·exact hs.rel.bF x o bb f jB hk
 ·rw [St.XP] at hxl
  have:Nat.min A.low r≤r:=Nat.min_le_right _ _
  rw [hB,if_neg (by omega)]
 ·rintro k hk ⟨x,o,l2,jB,hm,uf,rfl⟩
  rw [hB] at jB
  split at jB
  ·rename_i e; subst e
   rw [lg] at uf; simp at uf; subst uf
   exact ⟨x,_,l,hg,EK,lg,rfl⟩
  ·exact ⟨x,o,l2,jB,hm,uf,rfl⟩
theorem ahY {t:TypeId} {x:Operand} (ho:o.op = .range t x):hZ P o (SN P t x):=by
 unfold SN
 split
 ·rename_i hu
  intro ρ ev cZ obj mk he hf
  simp only [List.map] at hf
  unfold agY at hf
  split at hf
  ·rename_i s e
   simp at e
   have hx:=he x (by simp)
   rw [e] at hx
   have hx:=hx.oB
   simp at hf
   obtain ⟨rfl,rfl⟩:=hf
   refine ⟨.stringIter s 0,fun n=>.pointer (some ⟨n,0,none⟩),?_,fun w=>?_,fun aY n cb h=>VR.xi (a:=⟨n,0,none⟩) rfl h⟩
   ·show Obj.stringIter s 0 = .stringIter ⟨⟨s.data.toList⟩⟩ 0
    rfl
   ·simp [execOp,ho,Instr.range,bw hu,hx]
  ·simp at hf
 ·trivial
theorem FN {w:World} {r:Nat} {s:ByteArray} {pos:Nat} (hb:w.heap[r]? = some (.stringIter s pos)):(getObj r).run P w = .ok (.stringIter s pos) w:=by
 simp [getObj,Sem.run,hb]
theorem SZ {w:World} {r:Nat} {s:ByteArray} {pos:Nat} (o:Obj) (hb:w.heap[r]? = some (.stringIter s pos)):(setObj r o).run P w = .ok () { w with heap:=w.heap.setIfInBounds r o }:=by
 simp [setObj,Sem.run,hb]
theorem ai5 {it:Operand} {b:Bool} (ho:o.op = .next it b):hZ P o (cond b (.act afW [it]) .bad):=by
 cases b with
 | false=>trivial
 | true=>
  rw [cond_true]
  intro ρ A B base w ev cZ v hs he hf
  simp only [List.map] at hf
  unfold afW at hf
  split at hf
  ·rename_i a e
   simp at e
   have hx:=he it (by simp)
   rw [e] at hx
   obtain ⟨uR,l,hl,hx⟩:=hx.iW
   cases ha0:Nat.beq a.off 0 with
   | false=>rw [ha0] at hf; simp at hf
   | true=>
    rw [ha0,cond_true] at hf
    have ha0:=Nat.eq_of_beq_eq_true ha0
    split at hf
    ·rename_i s pos hg
     obtain ⟨l2,mB,ok⟩:=hs.rel.iter _ _ _ hg
     rw [hl] at mB; simp at mB; subst mB
     obtain ⟨IU,oe⟩:=ok.nZ
     have fo:(⟨⟨s⟩⟩:ByteArray).size=s.length:=rfl
     rw [IU,ha0] at hx
     cases bX:Nat.blt pos s.length with
     | true=>
      rw [bX,cond_true] at hf
      rw [Nat.blt_eq] at bX
      split at hf
      rename_i c width amh
      simp at hf
      obtain ⟨rfl,rfl⟩:=hf
      refine ⟨ρ,.tuple #[.bool true,.int .i64 (Int.ofNat pos),.int .i32 c],.value _,_,?_,rfl,VR.of_flat rfl,aaY (Qb:=pos+width) hs hg hl⟩
      simp [execOp,ho,Instr.next,hx,FN oe,fo,bX,amh,SZ _ oe,goInt]
     | false=>
      rw [bX,cond_false] at hf
      have hge : ¬ pos < s.length:=fun h=>by rw [← Nat.blt_eq] at h; rw [h] at bX; simp at bX
      simp at hf
      obtain ⟨rfl,rfl⟩:=hf
      refine ⟨ρ,.tuple #[.bool false],.value _,w,?_,rfl,VR.of_flat rfl,.refl hs⟩
      simp [execOp,ho,Instr.next,hx,FN oe,fo,hge]
    ·simp at hf
  ·simp at hf
theorem qc (P:Program) (o:Oper):hZ P o (compile P o.op):=by
 cases ho:o.op with
 | move x=>exact aiS ho
 | assign x=>exact afZ ho
 | pick c a b=>exact aiT ho
 | alloc t=>exact ahN ho
 | box t x=>exact akE ho
 | build t parts=>exact ahS ho
 | buildSlice t len parts=>exact XY ho
 | load t a=>exact aiU ho
 | store t a x=>exact ahO ho
 | nilCheck x=>exact acE ho
 | binOp op t x y yt=>exact akF ho
 | unOp op t x=>exact alI ho
 | convert src dst x=>exact ai4 ho
 | makeFunc fn first cap=>exact acF ho
 | fieldAddr s x f=>exact aaT ho
 | field t x f=>exact ahP ho
 | indexAddr t x ix=>exact aaU ho
 | index t x ix=>exact ahQ ho
 | extract t i=>exact ad8 ho
 | slice t x lo hi mx=>exact ok_slice ho
 | makeSlice t l c=>exact aaW ho
 | makeInterface t x=>exact ahU ho
 | range t x=>exact ahY ho
 | next it b=>exact ai5 ho
 | makeMap t r=>exact aeb ho
 | lookup t x ix ok=>exact af5 ho
 | mapUpdate t m k x=>exact M3 (.inl ho)
 | insert t m k x=>exact M3 (.inr ho)
 | call c=>
  show hZ P o (ym P c)
  unfold ym
  split
  ·rename_i f hf; exact aiW ho hf
  ·rename_i b hb
   obtain ⟨callee,args,argTypes⟩:=c
   simp only at hb
   subst hb
   unfold DN
   split
   ·exact akI ho
   ·exact akG ho
   ·exact akH ho
   ·exact af4 ho
   ·exact ai2 ho
   ·exact af6 ho
   ·exact ahX ho
   ·trivial
  ·trivial
 | _=>trivial
end
end Go.aG
end
section
namespace Go.aG
noncomputable section
open Go
abbrev Fr (r:Option Nat):Fence:={ Fence.wide with round:=r }
def aW.res (ρ:aW) (n:Nat):aW:=fun b=>if b < n then ρ b else none
theorem aW.Xn {ρ:aW} {n b:Nat} (h:b < n):ρ.res n b=ρ b:=by unfold aW.res; rw [if_pos h]
theorem Og.under {ρ:aW} {n:Nat} {fn yd:Fn} (hu:acC n fn=true) (h:Og ρ fn yd):Og (ρ.res n) fn yd:=by
 cases fn with
 | yield r=>
  obtain ⟨l,h1,h2⟩:=h
  simp only [acC] at hu
  rw [Nat.blt_eq] at hu
  exact ⟨l,by rw [aW.Xn hu]; exact h1,h2⟩
 | _=>exact h
mutual
theorem VR.under {ρ:aW} {n:Nat} : ∀ {v v' : Value},aG.under n v=true→VR ρ v v'→VR (ρ.res n) v v'
 | .bool b,v,_,hv=>by simpa [VR] using hv
 | .int k n,v,_,hv=>by simpa [VR] using hv
 | .float k x,v,_,hv=>by simpa [VR] using hv
 | .complex k x y,v,_,hv=>by simpa [VR] using hv
 | .string s,v,_,hv=>by simpa [VR] using hv
 | .pointer none,v,_,hv=>by simpa [VR] using hv
 | .pointer (some a),v,hu,hv=>by
  simp only [aG.under] at hu
  rw [Nat.blt_eq] at hu
  simp only [VR] at hv ⊢
  rw [aW.Xn hu]
  exact hv
 | .slice none n c,v,_,hv=>by simpa [VR] using hv
 | .slice (some a) n c,v,hu,hv=>by
  simp only [aG.under] at hu
  rw [Nat.blt_eq] at hu
  simp only [VR] at hv ⊢
  rw [aW.Xn hu]
  exact hv
 | .map none,v,_,hv=>by simpa [VR] using hv
 | .map (some r),v,hu,hv=>by
  simp only [aG.under] at hu
  rw [Nat.blt_eq] at hu
  simp only [VR] at hv ⊢
  rw [aW.Xn hu]
  exact hv
 | .chan _,_,_,_=>by simp [VR]
 | .func fn f c,v,hu,hv=>by
  simp only [aG.under,Bool.and_eq_true] at hu
  simp only [VR] at hv ⊢
  obtain ⟨f',c',h2,h3,yd,h4,h5⟩:=hv
  exact ⟨f',c',rf.under hu.1.2 h2,rf.under hu.2 h3,yd,Og.under hu.1.1 h4,h5⟩
 | .nilFunc,v,_,hv=>by simpa [VR] using hv
 | .iface t x,v,hu,hv=>by
  simp only [aG.under] at hu
  simp only [VR] at hv ⊢
  obtain ⟨x',h2,h3⟩:=hv
  exact ⟨x',VR.under hu h2,h3⟩
 | .nilIface,v,_,hv=>by simpa [VR] using hv
 | .agg cs,v,hu,hv=>by
  simp only [aG.under] at hu
  simp only [VR] at hv ⊢
  obtain ⟨x',h2,h3⟩:=hv
  exact ⟨x',rf.under hu h2,h3⟩
 | .tuple cs,v,hu,hv=>by
  simp only [aG.under] at hu
  simp only [VR] at hv ⊢
  obtain ⟨x',h2,h3⟩:=hv
  exact ⟨x',rf.under hu h2,h3⟩
theorem rf.under {ρ:aW} {n:Nat} : ∀ {v v' : Array Value},aG.LL n v=true→rf ρ v v'→rf (ρ.res n) v v'
 | ⟨l⟩,a,hu,hv=>by simp only [aG.LL] at hu; simp only [rf] at hv ⊢; exact dS.under hu hv
theorem dS.under {ρ:aW} {n:Nat} : ∀ {v v' : List Value},aG.Xl n v=true→dS ρ v v'→dS (ρ.res n) v v'
 | [],l,_,hv=>by simpa [dS] using hv
 | x::xs,l,hu,hv=>by
  simp only [aG.Xl,Bool.and_eq_true] at hu
  simp only [dS] at hv ⊢
  obtain ⟨y,ys,e,h1,h2⟩:=hv
  exact ⟨y,ys,e,VR.under hu.1 h1,dS.under hu.2 h2⟩
end
theorem Hx {acc:List Nat} {j:Nat} : ∀ {es:List Edge},Nat.testBit (r6 acc es) j=true→∃ e∈es,binds e=true∧(j=e.on∨o3 acc e.on j=true)
 | [],h=>by simp [r6] at h
 | e::es,h=>by
  simp only [r6] at h
  cases hb:binds e with
  | false=>
   rw [hb,cond_false] at h
   obtain ⟨e',h1,h2⟩:=Hx h
   exact ⟨e',by simp [h1],h2⟩
  | true=>
   rw [hb,cond_true] at h
   have e1:∀ a b:Nat,Nat.lor a b=a ||| b:=fun _ _=>rfl
   have e2:Nat.shiftLeft 1 e.on=1 <<< e.on:=rfl
   rw [e1,e1,e2,Nat.testBit_or,Nat.testBit_or,Bool.or_eq_true,Bool.or_eq_true] at h
   rcases h with (h | h) | h
   ·refine ⟨e,by simp,hb,.inl ?_⟩
    rw [Nat.one_shiftLeft,Nat.testBit_two_pow] at h
    exact (of_decide_eq_true h).symm
   ·exact ⟨e,by simp,hb,.inr h⟩
   ·obtain ⟨e',h1,h2⟩:=Hx h
    exact ⟨e',by simp [h1],h2⟩
theorem Vd:∀ (os:List Oper) (acc:List Nat),∃ r,eI acc os=acc++r∧r.length=os.length
 | [],acc=>⟨[],by simp [eI]⟩
 | o::os,acc=>by
  obtain ⟨r,h1,h2⟩:=Vd os (acc++[r6 acc o.after.toList])
  exact ⟨r6 acc o.after.toList::r,by simp [eI,h1],by simp [h2]⟩
theorem abD:∀ (os:List Oper) (acc:List Nat) (i j:Nat) (o:Oper),os[i]? = some o→(∀ e∈o.after.toList,binds e=true→e.on < acc.length+i)→
  o3 (eI acc os) (acc.length+i) j=true→∃ e∈o.after.toList,binds e=true∧(j=e.on∨o3 (eI acc os) e.on j=true)
 | [],acc,i,j,o,ho,_,_=>by simp at ho
 | o0::os,acc,0,j,o,ho,hf,h=>by
  simp at ho
  subst ho
  obtain ⟨r,h1,_⟩:=Vd os (acc++[r6 acc o0.after.toList])
  have e0:eI acc (o0::os)=acc++[r6 acc o0.after.toList]++r:=by simp only [eI]; exact h1
  rw [e0] at h ⊢
  have e1:(acc++[r6 acc o0.after.toList]++r).getD (acc.length+0) 0=r6 acc o0.after.toList:=by simp [List.getD]
  unfold o3 at h
  rw [e1] at h
  obtain ⟨e,h2,h3,h4⟩:=Hx h
  refine ⟨e,h2,h3,h4.imp id fun h5=>?_⟩
  have bX:=hf e h2 h3
  unfold o3 at h5 ⊢
  have:(acc++[r6 acc o0.after.toList]++r).getD e.on 0=acc.getD e.on 0:=by
   simp only [List.getD,List.append_assoc]
   rw [List.getElem?_append_left (by simpa using bX)]
  rw [this]
  exact h5
 | o0::os,acc,i+1,j,o,ho,hf,h=>by
  have hlen:(acc++[r6 acc o0.after.toList]).length+i=acc.length+(i+1):=by simp; omega
  have:=abD os (acc++[r6 acc o0.after.toList]) i j o (by simpa using ho) (by rw [hlen]; exact hf) (by rw [hlen]; exact h)
  simpa only [eI] using this
structure qd (P:Program) (all:List Oper):Prop where
 back:∀ i o,all[i]? = some o→∀ e∈o.after.toList,binds e=true→e.on < i
 apart:∀ i j x y,all[i]? = some y→all[j]? = some x→j < i→BA P all x y=true→o3 (eI [] all) i j=true
theorem M4 {P:Program} {all:List Oper} {b:List Nat} {i:Nat} {y:Oper} : ∀ (xs:List Oper) (k:Nat),FC P all b i y xs k=true→∀ (j:Nat) (x:Oper),xs[j]? = some x→k+j < i→BA P all x y=true→o3 b i (k+j)=true
 | [],k,_,j,x,hx,_,_=>by simp at hx
 | x0::xs,k,h,0,x,hx,bX,hc=>by
  simp at hx
  subst hx
  simp only [FC,Bool.and_eq_true,Bool.or_eq_true,Bool.not_eq_true'] at h
  rcases h.1 with (h1 | h1) | h1
  ·have:=Nat.le_of_ble_eq_true h1; omega
  ·rw [hc] at h1; simp at h1
  ·exact h1
 | x0::xs,k,h,j+1,x,hx,bX,hc=>by
  simp only [FC,Bool.and_eq_true] at h
  have:=M4 xs (k+1) h.2 j x (by simpa using hx) (by omega) hc
  rwa [show k+1+j=k+(j+1) by omega] at this
theorem xk {P:Program} {all:List Oper} {b:List Nat} : ∀ (os:List Oper) (k:Nat),wq P all b os k=true→∀ (i:Nat) (o:Oper),os[i]? = some o→
  (∀ e∈o.after.toList,binds e=true→e.on < k+i)∧FC P all b (k+i) o all 0=true
 | [],k,_,i,o,ho=>by simp at ho
 | o0::os,k,h,0,o,ho=>by
  simp at ho
  subst ho
  simp only [wq,Bool.and_eq_true,List.all_eq_true] at h
  refine ⟨fun e he hb=>?_,h.1.2⟩
  have:=h.1.1 e he
  rw [hb] at this
  simp at this
  exact this
 | o0::os,k,h,i+1,o,ho=>by
  simp only [wq,Bool.and_eq_true] at h
  have:=xk os (k+1) h.2 i o (by simpa using ho)
  rwa [show k+1+i=k+(i+1) by omega] at this
theorem BF {P:Program} {all:List Oper} (h:FD P all=true):qd P all:=by
 unfold FD at h
 refine ⟨fun i o ho=>?_,fun i j x y hy hx bX hc=>?_⟩
 ·have:=(xk all 0 h i o ho).1
  simpa using this
 ·have:=M4 all 0 (xk all 0 h i y hy).2 j x hx (by simpa using bX) hc
  simpa using this
def pA (all:List Oper) (S:Nat→Bool):Prop:=∀ i j,S i=true→o3 (eI [] all) i j=true→S j=true
def s8 (all:List Oper) (S:Nat→Bool) (i:Nat):Prop:=∀ o,all[i]? = some o→∀ e∈o.after.toList,binds e=true→S e.on=true
theorem pA.ready {P:Program} {all:List Oper} (hf:qd P all) {S:Nat→Bool} (hc:pA all S) {i:Nat} {o:Oper} (ho:all[i]? = some o) (hr:s8 all S i):∀ j,o3 (eI [] all) i j=true→S j=true:=by
 intro j hj
 obtain ⟨e,h1,h2,h3⟩:=abD all [] i j o ho (by simpa using hf.back i o ho) (by simpa using hj)
 have hs:=hr o ho e h1 h2
 rcases h3 with rfl | h3
 ·exact hs
 ·exact hc _ _ hs h3
def cW (S:Nat→Bool) (i:Nat):Nat→Bool:=fun j=>S j||Nat.beq j i
theorem pA.insert {P:Program} {all:List Oper} (hf:qd P all) {S:Nat→Bool} (hc:pA all S) {i:Nat} {o:Oper} (ho:all[i]? = some o) (hr:s8 all S i):pA all (cW S i):=by
 intro a b h1 h2
 simp only [cW,Bool.or_eq_true] at h1 ⊢
 rcases h1 with h1 | h1
 ·exact .inl (hc a b h1 h2)
 ·have:=Nat.eq_of_beq_eq_true h1
  subst this
  exact .inl (hc.ready hf ho hr b h2)
theorem abE (e:Edge):Region.binds .any e=binds e:=by
 unfold Region.binds binds
 cases e.ground <;> rfl
theorem DT {all:List Oper} {bF:Array Bool} {i:Nat} (h:i∈Region.ready .any ⟨all⟩ bF):i < all.length∧bF.getD i true=false∧s8 all (fun j=>bF.getD j false) i:=by
 unfold Region.ready at h
 rw [List.mem_filter,List.mem_range] at h
 obtain ⟨h1,h2⟩:=h
 simp only [Bool.and_eq_true,Bool.not_eq_true'] at h2
 refine ⟨by simpa using h1,h2.1,fun o ho e he hb=>?_⟩
 have e1:(⟨all⟩:Array Oper)[i]? = some o:=by simpa using ho
 rw [e1] at h2
 simp only [Option.map_some,Option.getD_some] at h2
 have:=Array.all_eq_true'.1 h2.2 e (by simpa using he)
 rw [abE,hb] at this
 simpa using this
theorem Yb {P:Program} {all:List Oper} (hf:qd P all) {bF:Array Bool} (hl:bF.size=all.length) (h:Region.ready .any ⟨all⟩ bF = []):∀ i,i < all.length→bF.getD i false=true:=by
 intro i
 induction i using Nat.strongRecOn with
 | _ i ih=>
  intro hi
  cases hc:bF.getD i false with
  | true=>rfl
  | false=>
   exfalso
   obtain ⟨o,ho⟩:∃ o,all[i]? = some o:=⟨_,List.getElem?_eq_getElem hi⟩
   have hm:i∈Region.ready .any ⟨all⟩ bF:=by
    unfold Region.ready
    rw [List.mem_filter,List.mem_range]
    refine ⟨by simpa using hi,?_⟩
    have e1:(⟨all⟩:Array Oper)[i]? = some o:=by simpa using ho
    rw [e1]
    have e2:bF.getD i true=false:=by
     have:i < bF.size:=by omega
     simpa [Array.getD_eq_getD_getElem?,this] using hc
    simp only [e2,Bool.not_false,Bool.true_and,Option.map_some,Option.getD_some]
    rw [Array.all_eq_true']
    intro e he
    cases hb:binds e with
    | false=>rw [abE,hb]; rfl
    | true=>
     have bX:=hf.back i o ho e (by simpa using he) hb
     rw [ih e.on bX (by omega)]
     simp
   rw [h] at hm
   simp at hm
theorem count_set:∀ (l:List Bool) (i:Nat),l[i]? = some false→((l.set i true).filter (!·)).length+1=(l.filter (!·)).length
 | [],i,h=>by simp at h
 | x::l,0,h=>by
  simp at h
  subst h
  simp
 | x::l,i+1,h=>by
  have:=count_set l i (by simpa using h)
  cases x <;> simp at this ⊢ <;> omega
theorem aec {P:Program} {all:List Oper} {r:Option Nat} (hf:qd P all) {Q:Exit→Act→World→Prop} (I:(Nat→Bool)→Act→World→Prop) (hI:∀ S S' a w,(∀ i,i < all.length→S i=S' i)→I S a w→I S' a w)
  (step:∀ S a w i o,I S a w→pA all S→all[i]? = some o→S i=false→s8 all S i→(∀ j,S j=true→j < all.length)→wpOpIn (Fr r) 0 P ⟨all⟩ Q i (I (cW S i)) a w)
  (fin:∀ S a w,(∀ i,i < all.length→S i=true)→I S a w→Q .normal a w) :
  ∀ (fuel:Nat) (bF:Array Bool) (a:Act) (w:World),bF.size=all.length→(bF.toList.filter (!·)).length=fuel→pA all (fun j=>bF.getD j false)→I (fun j=>bF.getD j false) a w→wpAnyIn (Fr r) 0 P .any ⟨all⟩ Q fuel bF a w
 | 0,bF,a,w,hs,hn,hc,h=>by
  have o4:∀ i,i < all.length→bF.getD i false=true:=by
   intro i hi
   have:i < bF.size:=by omega
   cases hb:bF.getD i false with
   | true=>rfl
   | false=>
    exfalso
    have hg:bF[i] = false:=by simpa [Array.getD_eq_getD_getElem?,this] using hb
    have hm:bF[i]∈bF.toList.filter (!·):=by
     rw [List.mem_filter]
     exact ⟨by simp,by simp [hg]⟩
    rw [List.length_eq_zero_iff.1 hn] at hm
    simp at hm
  refine ⟨?_,fin _ a w o4 h⟩
  cases hr:Region.ready .any ⟨all⟩ bF with
  | nil=>rfl
  | cons i r=>
   have:=DT (all:=all) (bF:=bF) (i:=i) (by rw [hr]; simp)
   have h1:=o4 i this.1
   have h2:bF.getD i true=true:=by
    have bX:i < bF.size:=by omega
    simpa [Array.getD_eq_getD_getElem?,bX] using h1
   rw [h2] at this
   simp at this
 | fuel+1,bF,a,w,hs,hn,hc,h=>by
  refine ⟨fun hr=>fin _ a w (Yb hf hs hr) h,fun i hi=>?_⟩
  obtain ⟨bX,hl,sa⟩:=DT hi
  obtain ⟨o,ho⟩:∃ o,all[i]? = some o:=⟨_,List.getElem?_eq_getElem bX⟩
  have J5:i < bF.size:=by omega
  have oP:bF.getD i false=false:=by simpa [Array.getD_eq_getD_getElem?,J5] using hl
  have Yc:∀ j,j < all.length→cW (fun j=>bF.getD j false) i j=(bF.setIfInBounds i true).getD j false:=by
   intro j hj
   by_cases e:j=i
   ·subst e
    simp [cW,Array.getD_eq_getD_getElem?,J5]
   ·have:Nat.beq j i=false:=by
     cases hb:Nat.beq j i with
     | false=>rfl
     | true=>exact absurd (Nat.eq_of_beq_eq_true hb) e
    simp [cW,this,Array.getD_eq_getD_getElem?,Array.getElem?_setIfInBounds_ne (Ne.symm e)]
  refine wpOpIn_mono (fun a' w' h'=>?_) (step _ a w i o h hc ho oP sa (fun j hj=>by
   rcases Nat.lt_or_ge j all.length with h1 | h1
   ·exact h1
   ·have:bF.getD j false=false:=by
     rw [Array.getD_eq_getD_getElem?,Array.getElem?_eq_none (by omega)]
     rfl
    rw [this] at hj; simp at hj))
  refine aec hf I hI step fin fuel _ a' w' (by simpa using hs) ?_ ?_ (hI _ _ a' w' Yc h')
  ·rw [Array.toList_setIfInBounds]
   have:=count_set bF.toList i (by simpa [Array.getD_eq_getD_getElem?,J5] using oP)
   omega
  ·intro x y hx hy
   have hb:∀ z,(bF.setIfInBounds i true).getD z false=true↔cW (fun j=>bF.getD j false) i z=true:=by
    intro z
    rcases Nat.lt_or_ge z all.length with h1 | h1
    ·rw [Yc z h1]
    ·have e1:(bF.setIfInBounds i true).getD z false=false:=by
      rw [Array.getD_eq_getD_getElem?,Array.getElem?_eq_none (by simp; omega)]
      rfl
     have e2:bF.getD z false=false:=by
      rw [Array.getD_eq_getD_getElem?,Array.getElem?_eq_none (by omega)]
      rfl
     have e3:Nat.beq z i=false:=by
      cases hb:Nat.beq z i with
      | false=>rfl
      | true=>have:=Nat.eq_of_beq_eq_true hb; omega
     simp [cW,e1,e2,e3]
   rw [hb] at hx ⊢
   exact hc.insert hf ho sa x y hx hy
theorem Ce {P:Program} {all:List Oper} (hf:qd P all) {Q:Exit→Act→World→Prop} (I:(Nat→Bool)→Act→World→Prop) (hI:∀ S S' a w,(∀ i,i < all.length→S i=S' i)→I S a w→I S' a w)
  (step:∀ S a w i o,I S a w→pA all S→all[i]? = some o→S i=false→s8 all S i→(∀ j,S j=true→j < all.length)→wpOp P ⟨all⟩ Q i (I (cW S i)) a w)
  (fin:∀ S a w,(∀ i,i < all.length→S i=true)→I S a w→Q .normal a w) :
  ∀ (fuel:Nat) (bF:Array Bool) (a:Act) (w:World),bF.size=all.length→(bF.toList.filter (!·)).length=fuel→pA all (fun j=>bF.getD j false)→I (fun j=>bF.getD j false) a w→wpAny P .any ⟨all⟩ Q fuel bF a w
 | 0,bF,a,w,hs,hn,hc,h=>by
  have o4:∀ i,i < all.length→bF.getD i false=true:=by
   intro i hi
   have:i < bF.size:=by omega
   cases hb:bF.getD i false with
   | true=>rfl
   | false=>
    exfalso
    have hg:bF[i] = false:=by simpa [Array.getD_eq_getD_getElem?,this] using hb
    have hm:bF[i]∈bF.toList.filter (!·):=by
     rw [List.mem_filter]
     exact ⟨by simp,by simp [hg]⟩
    rw [List.length_eq_zero_iff.1 hn] at hm
    simp at hm
  refine ⟨?_,fin _ a w o4 h⟩
  cases hr:Region.ready .any ⟨all⟩ bF with
  | nil=>rfl
  | cons i r=>
   have:=DT (all:=all) (bF:=bF) (i:=i) (by rw [hr]; simp)
   have h1:=o4 i this.1
   have h2:bF.getD i true=true:=by
    have bX:i < bF.size:=by omega
    simpa [Array.getD_eq_getD_getElem?,bX] using h1
   rw [h2] at this
   simp at this
 | fuel+1,bF,a,w,hs,hn,hc,h=>by
  refine ⟨fun hr=>fin _ a w (Yb hf hs hr) h,fun i hi=>?_⟩
  obtain ⟨bX,hl,sa⟩:=DT hi
  obtain ⟨o,ho⟩:∃ o,all[i]? = some o:=⟨_,List.getElem?_eq_getElem bX⟩
  have J5:i < bF.size:=by omega
  have oP:bF.getD i false=false:=by simpa [Array.getD_eq_getD_getElem?,J5] using hl
  have Yc:∀ j,j < all.length→cW (fun j=>bF.getD j false) i j=(bF.setIfInBounds i true).getD j false:=by
   intro j hj
   by_cases e:j=i
   ·subst e
    simp [cW,Array.getD_eq_getD_getElem?,J5]
   ·have:Nat.beq j i=false:=by
     cases hb:Nat.beq j i with
     | false=>rfl
     | true=>exact absurd (Nat.eq_of_beq_eq_true hb) e
    simp [cW,this,Array.getD_eq_getD_getElem?,Array.getElem?_setIfInBounds_ne (Ne.symm e)]
  refine wpOp_mono (fun a' w' h'=>?_) (step _ a w i o h hc ho oP sa (fun j hj=>by
   rcases Nat.lt_or_ge j all.length with h1 | h1
   ·exact h1
   ·have:bF.getD j false=false:=by
     rw [Array.getD_eq_getD_getElem?,Array.getElem?_eq_none (by omega)]
     rfl
    rw [this] at hj; simp at hj))
  refine Ce hf I hI step fin fuel _ a' w' (by simpa using hs) ?_ ?_ (hI _ _ a' w' Yc h')
  ·rw [Array.toList_setIfInBounds]
   have:=count_set bF.toList i (by simpa [Array.getD_eq_getD_getElem?,J5] using oP)
   omega
  ·intro x y hx hy
   have hb:∀ z,(bF.setIfInBounds i true).getD z false=true↔cW (fun j=>bF.getD j false) i z=true:=by
    intro z
    rcases Nat.lt_or_ge z all.length with h1 | h1
    ·rw [Yc z h1]
    ·have e1:(bF.setIfInBounds i true).getD z false=false:=by
      rw [Array.getD_eq_getD_getElem?,Array.getElem?_eq_none (by simp; omega)]
      rfl
     have e2:bF.getD z false=false:=by
      rw [Array.getD_eq_getD_getElem?,Array.getElem?_eq_none (by omega)]
      rfl
     have e3:Nat.beq z i=false:=by
      cases hb:Nat.beq z i with
      | false=>rfl
      | true=>have:=Nat.eq_of_beq_eq_true hb; omega
     simp [cW,e1,e2,e3]
   rw [hb] at hx ⊢
   exact hc.insert hf ho sa x y hx hy
end
end Go.aG
end
section
namespace Go.aG
noncomputable section
open Go
def alK (all:List Oper) (i:Nat):Option Tmp:=(all[i]?).bind (·.dst)
end
end Go.aG
end
section
namespace Go.aG
noncomputable section
open Go
def Quiet (A0:St) (R:List Rec):Prop:=∀ r∈R,r.nx=A0.next∧(r.did = .val∨∃ f vs,r.did = .read f vs)
def lS (R:List Rec) (S:Nat→Bool):Option Nat:=aiQ (R.filter fun r=>S r.i)
def Qc (A0:St) (R:List Rec) (S:Nat→Bool):St:=alG A0 R (lS R S)
def writer (all:List Oper) (R:List Rec) (S:Nat→Bool) (x:Nat):Option Rec:=R.find? fun r=>S r.i&&(alK all r.i==some x)
def valOf (all:List Oper) (t0:Tm) (R:List Rec) (S:Nat→Bool) (x:Nat):Value:=
 match writer all R S x with
 | some r=>r.v
 | none=>(t0.get x).getD undef
def ami (all:List Oper) (A0:St) (R:List Rec) (S:Nat→Bool) (x:Nat):Nat:=
 match writer all R S x with
 | some r=>r.nx
 | none=>A0.next
structure Inv (all:List Oper) (A0:St) (t0:Tm) (R:List Rec) (N:Nat) (d0:List Deferred) (base:Nat) (S0:aW) (w0:World) (S:Nat→Bool) (a:Act) (w:World) (ρ:aW):Prop where
 size:a.tmps.size=N
 defers:a.defers=d0
 tm:∀ x,VR (ρ.res (ami all A0 R S x)) (valOf all t0 R S x) (a.tmps.getD x undef)
 core:lW base S0 A0 w0 (ρ.res (Qc A0 R S).next) (Qc A0 R S) w
 news:∀ r∈R,S r.i=true→∀ id o,r.did = .make id o→aiP (eI [] all) (lS R S) r.i=false→
  ∃ c cb,ρ id=some (XS o cb)∧XT (ρ.res r.nx) o c∧w.heap[cb]? = some c∧w0.heap.size≤cb∧¬ Img (ρ.res (Qc A0 R S).next) (Qc A0 R S) cb
 newsApart:∀ r∈R,∀ s∈R,S r.i=true→S s.i=true→∀ id o id' o',r.did = .make id o→s.did = .make id' o'→aiP (eI [] all) (lS R S) r.i=false→aiP (eI [] all) (lS R S) s.i=false→
  r.i≠s.i→∀ l l',ρ id=some l→ρ id' = some l'→l.cb≠l'.cb
 unborn:∀ r∈R,S r.i=false→∀ id o,r.did = .make id o→ρ id=none
 lD:∀ bl l,ρ bl=some l→bl < (Qc A0 R S).next∨∃ r∈R,S r.i=true∧∃ o,r.did = .make bl o
section
variable {P:Program} {call:Oe} {all:List Oper} {A0:St} {t0:Tm} {R:List Rec} {N:Nat} {d0:List Deferred} {base:Nat} {S0:aW} {w0:World}
theorem kH {x:Nat} : ∀ {xs:List Operand},Operand.tmp x∈xs→x∈qb xs
 | [],h=>by simp at h
 | .tmp t::xs,h=>by
  rcases List.mem_cons.1 h with h | h
  ·simp at h; subst h; simp [qb]
  ·simp [qb,kH h]
 | .const _::xs,h=>by
  rcases List.mem_cons.1 h with h | h
  ·simp at h
  ·simpa [qb] using kH h
 | .global _::xs,h=>by
  rcases List.mem_cons.1 h with h | h
  ·simp at h
  ·simpa [qb] using kH h
 | .func _::xs,h=>by
  rcases List.mem_cons.1 h with h | h
  ·simp at h
  ·simpa [qb] using kH h
end
end
end Go.aG
end
section
namespace Go.aG
noncomputable section
open Go
theorem ud.mb {ρ aY:aW} {A:St} {base:Nat} {w w' : World} (hs:ud ρ A base w) (hle:ρ.le aY) (amj:∀ b l,aY b=some l→b < A.next) (hw:∀ k,k < w.heap.size→w'.heap[k]? = w.heap[k]?) (fo:w.heap.size≤w'.heap.size):ud aY A base w':=by
 have S9:∀ b o l,A.get b=some o→o≠.dead→aY b=some l→ρ b=some l:=by
  intro b o l hg hd hr
  obtain ⟨l',h1,_⟩:=hs.rel.obj hg hd
  have:=hle _ _ h1
  rw [hr] at this; simp at this; subst this
  exact h1
 refine ⟨.Hr (fun b o hg hd=>?_) ?_ hs.rel.bF,amj,Nat.le_trans hs.size fo,hs.IP.mono hle⟩
 ·obtain ⟨l,h1,h2⟩:=hs.rel.obj hg hd
  exact ⟨l,hle _ _ h1,h2.mb hle (hw _ (h2.lt hd)) fo⟩
 ·intro b1 b2 o1 o2 l1 l2 dT g1 g2 m1 m2 r1 r2 Oi
  exact hs.rel.apart b1 b2 o1 o2 l1 l2 dT g1 g2 m1 m2 (S9 b1 o1 l1 g1 (by intro e; subst e; simp [dh.fp] at m1) r1) (S9 b2 o2 l2 g2 (by intro e; subst e; simp [dh.fp] at m2) r2) Oi
section
variable {P:Program} {call:Oe} {all:List Oper} {A0:St} {t0:Tm} {R:List Rec} {N:Nat} {d0:List Deferred} {base:Nat} {S0:aW} {w0:World}
end
end
end Go.aG
end
section
namespace Go.aG
noncomputable section
open Go
theorem VR.undef {ρ:aW} : VR ρ undef undef:=VR.of_flat (by simp [Go.undef,flat,Hc,ua])
section
variable {P:Program} {call:Oe} {all:List Oper} {A0:St} {t0:Tm} {R:List Rec} {N:Nat} {d0:List Deferred} {base:Nat} {S0:aW} {w0:World}
end
end
end Go.aG
end
section
namespace Go.aG
noncomputable section
open Go
variable {P:Program} {call:Oe} {all:List Oper} {A0:St}
end
end Go.aG
end
section
namespace Go.aG
noncomputable section
open Go
theorem put_defers (a:Act) (dst:Option Tmp) (v:Value):(a.put dst v).defers=a.defers:=by cases dst <;> rfl
def aw.out:aw→Exit
 | .normal=>.normal
 | .exit id=>.exit id
 | .goto l=>.goto l
 | .ret=>.ret
def mark (D:Nat):Deferred:={ target:=.collected D,args:=#[] }
section
variable {P:Program} {b:Frame} {a:Act} {k:List Item} {cs:List Frame} {w:World}
end
def Xo (a:Act):ResultVar→Sem Value
 | .tmp t=>pure (a.tmps.getD t undef)
 | .cell ad ty=>do loadVar ty (← asAddr (a.tmps.getD ad undef))
theorem Ve (fn:Func) (a:Act):results fn a.tmps=(do let vs ← fn.results.mapM (Xo a); pure (if h:vs.size=1 then vs[0] else .tuple vs)):=by
 unfold results
 congr 1
theorem mf {n m:Nat} (h:n≤m):∀ (c:Code),codeOk n c=true→codeOk m c=true
 | .region id ops d,hc=>by
  simp only [codeOk,List.all_eq_true] at hc ⊢
  intro o ho
  have:=hc o ho
  unfold EF at this ⊢
  split at this
  ·rename_i d e
   rw [Nat.blt_eq] at this ⊢
   omega
  ·rfl
 | .seq a b,hc=>by simp only [codeOk,Bool.and_eq_true] at hc ⊢; exact ⟨mf h a hc.1,mf h b hc.2⟩
 | .cond _ a b,hc=>by simp only [codeOk,Bool.and_eq_true] at hc ⊢; exact ⟨mf h a hc.1,mf h b hc.2⟩
 | .block _ a,hc=>mf h a hc
 | .loop a,hc=>mf h a hc
 | .rangeFunc _ ps a b,hc=>by
  simp only [codeOk,Bool.and_eq_true,List.all_eq_true,Nat.blt_eq] at hc ⊢
  exact ⟨fun p hp=>Nat.lt_of_lt_of_le (hc.1 p hp) h,mf h a hc.2.1,mf h b hc.2.2⟩
 | .scope a,hc=>mf h a hc
 | .skip,_ | .exit _,_ | .label _,_ | .goto _,_ | .ret,_ | .refuse _,_=>rfl
def CT (gl:List (Nat×List Value×Nat)) (b:Nat):Option Loc:=if b < gB then some (match gl.find? (fun x=>Nat.beq x.1 b) with | some x=>⟨b,0,x.2.1.length,x.2.2⟩ | none=>⟨b,0,0,0⟩) else none
theorem aaZ (gl:List (Nat×List Value×Nat)):ad5 (CT gl):=fun g hg=>by
 unfold CT
 rw [if_pos hg]
 split <;> exact ⟨_,rfl,rfl,rfl⟩
theorem Yd:∀ (gl:List (Nat×List Value×Nat)) (b:Nat),(SP gl).get b=match gl.find? (fun x=>Nat.beq x.1 b) with | some x=>some (.row x.2.1 x.2.2 false none) | none=>none
 | [],b=>by simp [SP]
 | (g,cs,e)::gl,b=>by
  simp only [SP,Trie.nX,List.find?_cons]
  cases hb:Nat.beq g b with
  | true=>simp [Nat.eq_of_beq_eq_true hb]
  | false=>rw [if_neg (fun e=>by subst e; simp at hb)]; exact Yd gl b
def akJ (w:World) (gl:List (Nat×List Value×Nat)):Prop:=∀ x∈gl,x.1 < gB∧x.1 < w.heap.size∧x.2.1.all (fun v=>flat v&&scalar v)=true∧∀ i v,x.2.1[i]? = some v→w.cell? ⟨x.1,i,none⟩=some v
theorem ud.aed {w:World} {gl:List (Nat×List Value×Nat)} (h:akJ w gl):ud (CT gl) (St.IP gl) w.heap.size w:=by
 have hg:∀ b o,(St.IP gl).get b=some o→∃ x∈gl,x.1=b∧gl.find? (fun x=>Nat.beq x.1 b)=some x∧o = .row x.2.1 x.2.2 false none:=by
  intro b o e
  have e:(SP gl).get b=some o:=e
  rw [Yd] at e
  split at e
  ·rename_i x hx
   simp at e
   have:=List.find?_some hx
   exact ⟨x,List.mem_of_find?_eq_some hx,Nat.eq_of_beq_eq_true this,hx,e.symm⟩
  ·simp at e
 refine ⟨⟨fun b cs bU own bQ e=>?_,fun b es e=>?_,fun b s pos e=>?_,fun b st ex t ps c d e=>?_,fun b1 b2 o1 o2 l1 l2 _ e1 _ m=>?_,fun b o bb f e k=>?_⟩,fun b l e=>?_,Nat.le_refl _,aaZ gl⟩
 ·obtain ⟨x,hx,rfl,hf,he⟩:=hg _ _ e
  simp at he
  obtain ⟨rfl,rfl,rfl,rfl⟩:=he
  obtain ⟨h1,h2,h3,h4⟩:=h x hx
  refine ⟨⟨x.1,0,x.2.1.length,x.2.2⟩,by unfold CT; rw [if_pos h1,hf],⟨fun i v hi=>?_,fun _=>h2,fun h=>by simp at h,fun h=>by simp at h,by simp,fun h=>by simp at h,rfl,h2,fun h=>by simp at h⟩⟩
  have:=List.all_eq_true.1 h3 v (List.mem_of_getElem? hi)
  simp only [Bool.and_eq_true] at this
  exact ⟨v,by simpa using h4 i v hi,VR.of_flat this.1,this.2⟩
 ·obtain ⟨x,_,_,_,he⟩:=hg _ _ e; simp at he
 ·obtain ⟨x,_,_,_,he⟩:=hg _ _ e; simp at he
 ·obtain ⟨x,_,_,_,he⟩:=hg _ _ e; simp at he
 ·obtain ⟨x,_,_,_,he⟩:=hg _ _ e1; subst he; simp [dh.fp] at m
 ·obtain ⟨x,_,_,_,he⟩:=hg _ _ e; subst he; simp [dh.l8] at k
 ·unfold CT at e
  split at e
  ·rename_i hb; exact hb
  ·simp at e
theorem ud.empty (w:World):ud (CT []) St.empty w.heap.size w:=ud.aed (gl:=[]) (fun _ h=>by simp at h)
end
end Go.aG
end
