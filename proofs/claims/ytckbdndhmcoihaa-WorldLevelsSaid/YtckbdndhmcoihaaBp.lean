/- Part of the proof of WorldLevels: the machine, shown to be the model's, and plain models. No conditions. -/
import Derived.Test.YtckbdndhmcoihaaAp
import Derived.Laws.Slices
import Derived.Laws.MakeOwn
import Derived.Laws.AppendOwn
import Derived.MapKept
import Derived.Laws.IdiomStrings
import Derived.OrdersIn
import Derived.LoopNIn
import Derived.RangeFuncRecord
import Derived.Scope
set_option linter.unusedSimpArgs false
set_option linter.unusedVariables false
section
namespace Go.aG
open Go
section
variable {P:Program} {o:Oper}
theorem iW {ρ:Ren} {y y' : Nat} {v v' : Value} {r:Nat} (hv:VR ρ v v') (h:Yr y v=some r) (hy:y<=y') :
  r<=y/\∀ code w,(Instr.sliceBound v' y' code).run P w = .ok r w:=by
 unfold Yr at h;split at h
 ·rename_i k i
  obtain ⟨rfl,bj⟩:=CP h;have:=hv.cj;subst this;have hle:r<=y:=by omega
  refine ⟨hle,fun code w=>?_⟩;have:=run_sliceBound (P:=P) w k (r:Int) y' code (by omega) (by omega);simpa using this
 ·simp at h
theorem JM {ρ:Ren} {ev cE:Operand->Value} {lo hi mx:Option Operand} {len cap ZI l h m:Nat} (he:zV ρ ev cE (eZ lo++eZ hi++eZ mx))
  (hb:wm len cap lo.isSome hi.isSome mx.isSome ((eZ lo++eZ hi++eZ mx).map ev)=some (l,h,m)) (hc:cap<=ZI) (G4:len<=cap) :
  l<=h/\h<=m/\m<=cap/\m<=(cond mx.isSome m ZI)/\(cond mx.isSome m ZI)<=ZI/\(mx.isSome=false->m=cap)/\∀ b w,(Instr.sliceBounds b len ZI (lo.map cE) (hi.map cE) (mx.map cE)).run P w = .ok (l,h,cond mx.isSome m ZI) w:=by
 cases lo with
 | none=>
  cases hi with
  | none=>
   cases mx with
   | none=>
    simp [eZ,wm] at hb;obtain ⟨rfl,rfl,rfl⟩:=hb;exact ⟨by omega,G4,aB _,hc,aB _,fun _=>rfl,fun b w=>by simp [Instr.sliceBounds]⟩
   | some x=>simp [eZ,wm] at hb
  | some y=>
   cases mx with
   | none=>
    simp only [eZ,Option.isSome,List.nil_append,yl,List.map,wm,ck] at hb;obtain ⟨r,hr,hb⟩:=hb;simp at hb;obtain ⟨rfl,rfl,rfl⟩:=hb;obtain ⟨h1,h2⟩:=iW (P:=P) (he y (by simp [eZ])) hr hc;exact ⟨by omega,h1,aB _,hc,aB _,fun _=>rfl,fun b w=>by simp [Instr.sliceBounds,h2]⟩
   | some z=>
    simp only [eZ,Option.isSome,List.nil_append,List.map,List.cons_append,wm,cC,ck] at hb;obtain ⟨r,hr,q,hq,hb⟩:=hb;simp at hb;obtain ⟨rfl,rfl,rfl⟩:=hb;obtain ⟨h1,h2⟩:=iW (P:=P) (he z (by simp [eZ])) hr hc;obtain ⟨h3,h4⟩:=iW (P:=P) (he y (by simp [eZ])) hq (aB _);exact ⟨by omega,h3,h1,aB _,by simp; omega,fun h=>by simp at h,fun b w=>by simp [Instr.sliceBounds,h2,h4]⟩
 | some x=>
  cases hi with
  | none=>
   cases mx with
   | none=>
    simp only [eZ,Option.isSome,yl,List.map,wm,ck] at hb;obtain ⟨r,hr,hb⟩:=hb;simp at hb;obtain ⟨rfl,rfl,rfl⟩:=hb;obtain ⟨h1,h2⟩:=iW (P:=P) (he x (by simp [eZ])) hr (aB _);exact ⟨h1,G4,aB _,hc,aB _,fun _=>rfl,fun b w=>by simp [Instr.sliceBounds,h2]⟩
   | some x=>simp [eZ,wm] at hb
  | some y=>
   cases mx with
   | none=>
    simp only [eZ,Option.isSome,yl,List.map,List.cons_append,List.nil_append,wm,cC,ck] at hb;obtain ⟨r,hr,q,hq,hb⟩:=hb;simp at hb;obtain ⟨rfl,rfl,rfl⟩:=hb;obtain ⟨h1,h2⟩:=iW (P:=P) (he y (by simp [eZ])) hr hc;obtain ⟨h3,h4⟩:=iW (P:=P) (he x (by simp [eZ])) hq (aB _);exact ⟨h3,h1,aB _,hc,aB _,fun _=>rfl,fun b w=>by simp [Instr.sliceBounds,h2,h4]⟩
   | some z=>
    simp only [eZ,Option.isSome,List.map,List.cons_append,List.nil_append,wm,cC,ck] at hb;obtain ⟨r,hr,q,hq,s,hs,hb⟩:=hb;simp at hb;obtain ⟨rfl,rfl,rfl⟩:=hb;obtain ⟨h1,h2⟩:=iW (P:=P) (he z (by simp [eZ])) hr hc;obtain ⟨h3,h4⟩:=iW (P:=P) (he y (by simp [eZ])) hq (aB _);obtain ⟨h5,h6⟩:=iW (P:=P) (he x (by simp [eZ])) hs (aB _);exact ⟨h5,h3,h1,aB _,by simp; omega,fun h=>by simp at h,fun b w=>by simp [Instr.sliceBounds,h2,h4,h6]⟩
theorem ZJ {A:St} {b n:Nat} (h:CI A b n=true):∃ cs own bK,A.get b=some (.row cs n own bK):=by
 unfold CI at h;split at h
 ·rename_i cs bp own bK hg
  have:=aK h;subst this;exact ⟨cs,own,bK,hg⟩
 ·simp at h
theorem ok_slice {t:TypeId} {x:Operand} {lo hi mx:Option Operand} (ho:o.op = .slice t x lo hi mx):gm P o (Lo P t x lo hi mx):=by
 unfold Lo;split
 ·rename_i e hu
  split
  ·rename_i n hn
   cases GD:Nat.ble 1 n with
   | false=>exact True.intro
   | true=>
    rw [aj];have GD:1<=n:=dX GD;intro ρ A base w ev cE v hs he hf;have hx:=he x (by simp);have hsl:P.underlying t=some (.slice (P.elem t))->True:=fun _=>trivial;simp only [List.map,vj] at hf;split at hf
    ·rename_i len cap vs e1
     simp only [List.cons.injEq] at e1;obtain ⟨e1,e2⟩:=e1;rw [e1] at hx;have hx:=hx.fV;subst e2;obtain ⟨⟨l,h,m⟩,hb,rfl⟩:=ck.1 hf;by_cases G4:len<=cap
     ·obtain ⟨h1,h2,h3,h4,h5,h6,h7⟩:=JM (P:=P) he.tail hb (aB _) G4
      have hm:cond mx.isSome m cap=m:=by cases hmx:mx.isSome <;> simp; exact (h6 hmx).symm
      refine ⟨.slice none (h - l) (m - l),by simp [VR],?_⟩;simp [execOp,ho,Instr.sliceAt,Instr.slice,bq hu,hx,h7,hm,pb hn]
     ·
      have key:∀ b w,(Instr.sliceBounds b len cap (lo.map cE) (hi.map cE) (mx.map cE)).run P w = .ok (l,h,m) w:=by
       intro b w;have aiY:cap<=len:=by omega
       cases lo with
       | none=>
        cases hi with
        | none=>
         cases mx with
         | none=>simp [eZ,wm] at hb; obtain ⟨rfl,rfl,rfl⟩:=hb; simp [Instr.sliceBounds]
         | some x=>simp [eZ,wm] at hb
        | some y=>
         cases mx with
         | none=>
          simp only [eZ,Option.isSome,List.nil_append,yl,List.map,wm,ck] at hb;obtain ⟨r,hr,hb⟩:=hb;simp at hb;obtain ⟨rfl,rfl,rfl⟩:=hb;have:=(iW (P:=P) (he y (by simp [eZ])) hr (aB _)).2;simp [Instr.sliceBounds,this]
         | some z=>
          simp only [eZ,Option.isSome,List.nil_append,List.map,List.cons_append,wm,cC,ck] at hb;obtain ⟨r,hr,q,hq,hb⟩:=hb;simp at hb;obtain ⟨rfl,rfl,rfl⟩:=hb;have h2:=(iW (P:=P) (he z (by simp [eZ])) hr (aB _)).2;have h4:=(iW (P:=P) (he y (by simp [eZ])) hq (aB _)).2;simp [Instr.sliceBounds,h2,h4]
       | some x'=>
        cases hi with
        | none=>
         cases mx with
         | none=>
          simp only [eZ,Option.isSome,yl,List.map,wm,ck] at hb;obtain ⟨r,hr,hb⟩:=hb;simp at hb;obtain ⟨rfl,rfl,rfl⟩:=hb;have:=(iW (P:=P) (he x' (by simp [eZ])) hr (aB _)).2;simp [Instr.sliceBounds,this]
         | some x=>simp [eZ,wm] at hb
        | some y=>
         cases mx with
         | none=>
          simp only [eZ,Option.isSome,yl,List.map,List.cons_append,List.nil_append,wm,cC,ck] at hb;obtain ⟨r,hr,q,hq,hb⟩:=hb;simp at hb;obtain ⟨rfl,rfl,rfl⟩:=hb;have h2:=(iW (P:=P) (he y (by simp [eZ])) hr (aB _)).2;have h4:=(iW (P:=P) (he x' (by simp [eZ])) hq (aB _)).2;simp [Instr.sliceBounds,h2,h4]
         | some z=>
          simp only [eZ,Option.isSome,List.map,List.cons_append,List.nil_append,wm,cC,ck] at hb;obtain ⟨r,hr,q,hq,s,Ol,hb⟩:=hb;simp at hb;obtain ⟨rfl,rfl,rfl⟩:=hb;have h2:=(iW (P:=P) (he z (by simp [eZ])) hr (aB _)).2;have h4:=(iW (P:=P) (he y (by simp [eZ])) hq (aB _)).2;have h6:=(iW (P:=P) (he x' (by simp [eZ])) Ol (aB _)).2;simp [Instr.sliceBounds,h2,h4,h6]
      refine ⟨.slice none (h - l) (m - l),by simp [VR],?_⟩;simp [execOp,ho,Instr.sliceAt,Instr.slice,bq hu,hx,key,pb hn]
    ·rename_i a len cap vs e1
     simp only [List.cons.injEq] at e1;obtain ⟨e1,e2⟩:=e1;rw [e1] at hx;subst e2;obtain ⟨FW,G4,lc,a',c',hl,vq,KB,mI,h'⟩:=hx.lC;cases hg:(cJ a&&CI A a.block n) with
     | false=>rw [hg] at hf; simp at hf
     | true=>
      rw [hg,aj] at hf;obtain ⟨_,TI⟩:=Bool.and_eq_true_iff.1 hg;obtain ⟨cs,own,bK,fp⟩:=ZJ TI;obtain ⟨l2,kT,ok⟩:=hs.row _ _ _ _ _ fp;rw [hl] at kT; simp at kT; subst kT;have hez:lc.bp=n:=ok.bp;obtain ⟨⟨l,h,m⟩,hb,rfl⟩:=ck.1 hf;obtain ⟨h1,h2,h3,h4,h5,h6,h7⟩:=JM (P:=P) he.tail hb vq G4;generalize OJ:cond mx.isSome m c' = m' at h4 h5 h7;refine ⟨.slice (some (if m' = l then a' else a'.add (l * n))) (h - l) (m' - l),?_,?_⟩
      ·simp only [VR]
       refine ⟨trivial,by omega,lc,_,m' - l,hl,by omega,fun cH=>?_,?_,rfl⟩
       ·rw [aa (by omega),KB (by omega),kH]
        simp only [GZ]
       ·rw [hez]
        rw [hez] at mI;have e5:l * n+(m' - l) * n=m' * n:=by rw [<- Nat.add_mul]; congr 1; omega
        have e6:m' * n<=c' * n:=Nat.mul_le_mul_right _ h5;omega
      ·simp only [execOp,ho,Instr.sliceAt,Instr.slice,Sem.run_bind,bq hu,ie,h',h7,pb hn]
       by_cases VN:m' = l <;> simp [VN]
    ·simp at hf
  ·trivial
 ·rename_i len e hu
  split
  ·rename_i n hn
   cases GD:Nat.ble 1 n with
   | false=>exact True.intro
   | true=>
    rw [aj];intro ρ A base w ev cE v hs he hf;have hx:=he x (by simp);simp only [List.map,MB] at hf;split at hf
    ·rename_i a vs e1
     simp only [List.cons.injEq] at e1;obtain ⟨e1,e2⟩:=e1;rw [e1] at hx;subst e2;obtain ⟨FW,lc,hl,h'⟩:=hx.hD;cases hg:(cJ a&&CI A a.block n&&Nat.ble (a.off+len * n) (rowLen A a.block)) with
     | false=>rw [hg] at hf; simp at hf
     | true=>
      rw [hg,aj] at hf;simp only [aq] at hg;obtain ⟨⟨_,TI⟩,hlen⟩:=hg;obtain ⟨cs,own,bK,fp⟩:=ZJ TI;obtain ⟨l2,kT,ok⟩:=hs.row _ _ _ _ _ fp;rw [hl] at kT; simp at kT; subst kT;have hez:lc.bp=n:=ok.bp;have hlen:=dX hlen;have OO:rowLen A a.block=cs.length:=by unfold rowLen; rw [fp]
      rw [OO] at hlen;have hft:=ok.fits;obtain ⟨⟨l,h,m⟩,hb,rfl⟩:=ck.1 hf;obtain ⟨h1,h2,h3,h4,h5,h6,h7⟩:=JM (P:=P) he.tail hb (aB _) (aB _);have hm:cond mx.isSome m len=m:=by cases hmx:mx.isSome <;> simp; exact (h6 hmx).symm
      rw [hm] at h7;refine ⟨.slice (some (if m=l then ⟨lc.cb,lc.dv+a.off,none⟩ else (⟨lc.cb,lc.dv+a.off,none⟩:Addr).add (l * n))) (h - l) (m - l),?_,?_⟩
      ·simp only [VR]
       refine ⟨trivial,by omega,lc,_,m - l,hl,aB _,fun cH=>?_,?_,rfl⟩
       ·rw [aa (by omega),kH]
        simp only [GZ]
       ·rw [hez]
        have e5:l * n+(m - l) * n=m * n:=by rw [<- Nat.add_mul]; congr 1; omega
        have e6:m * n<=len * n:=Nat.mul_le_mul_right _ h3;omega
      ·simp only [execOp,ho,Instr.sliceAt,Sem.run_bind,bq hu,ie,h',Instr.sureAddr,Sem.run_pure,h7,pb hn]
    ·simp at hf
  ·trivial
 ·rename_i hu
  cases hmx:mx with
  | some z=>exact True.intro
  | none=>
   show gm P o (.pure (HU lo.isSome hi.isSome) (x::(eZ lo++eZ hi)));intro ρ ev cE v he hf;have hx:=he x (by simp);simp only [List.map,HU] at hf;split at hf
   ·rename_i s vs e1
    simp only [List.cons.injEq] at e1;obtain ⟨e1,e2⟩:=e1;rw [e1] at hx;have hx:=hx.rj;subst e2;obtain ⟨⟨l,h,m⟩,hb,rfl⟩:=ck.1 hf;have KD:zV ρ ev cE (eZ lo++eZ hi++eZ (none:Option Operand)):=by simpa [eZ] using he.tail
    obtain ⟨h1,h2,h3,h4,h5,h6,h7⟩:=JM (P:=P) (mx:=none) KD (by simpa [eZ] using hb) (aB _) (aB _);simp only [Option.isSome_none,aI,Option.map_none] at h7;refine ⟨.string (s.extract l h),?_,fun w=>?_⟩
    ·have e:(⟨⟨(s.data.toList.drop l).take (h - l)⟩⟩:ByteArray)=s.extract l h:=by
      apply ByteArray.ext;apply Array.ext';simp [ByteArray.data_extract,List.extract_eq_take_drop]
     rw [e];simp [VR]
    ·simp [execOp,ho,Instr.sliceAt,Instr.slice,bq hu,hx,hmx,h7]
   ·simp at hf
 ·trivial
theorem acd {t:TypeId} {l c:Operand} (ho:o.op = .makeSlice t l c):gm P o (Ax P t l c):=by
 unfold Ax;split
 ·rename_i e hu
  split
  ·rename_i i hi
   split
   ·rename_i z hz
    cases hc:(Nat.ble 1 i.size&&Nat.ble 1 i.bytes&&Nat.beq z.cells.size i.size&&flat z&&z.cells.toList.all scalar) with
    | false=>exact True.intro
    | true=>
     rw [aj];simp only [aq] at hc;obtain ⟨⟨⟨⟨h1,h2⟩,h3⟩,h4⟩,h5⟩:=hc;have hn:1<=i.size:=dX h1;have hb:1<=i.bytes:=dX h2;have hzs:z.cells.size=i.size:=aK h3;rw [fg] at h5;intro ρ ev cE obj mk he hf;simp only [List.map,Fk] at hf;split at hf
     ·rename_i k1 l0 k2 c0 e1
      simp only [List.cons.injEq,and_true] at e1;cases hk:(Nat.ble l0 c0&&Nat.ble (i.bytes * c0) 281474976710656) with
      | false=>rw [hk] at hf; simp at hf
      | true=>
       rw [hk,aj] at hf;obtain ⟨tS,VL⟩:=Bool.and_eq_true_iff.1 hk;have hle:l0<=c0:=dX tS;have Yu:i.bytes * c0<=281474976710656:=dX VL;simp only [bM,du] at hf;obtain ⟨rfl,rfl⟩:=hf;have hl:=he l (by simp);have vq:=he c (by simp);rw [e1.1] at hl;rw [e1.2] at vq;have hl:=hl.cj;have vq:=vq.cj;have e2:madeCells z.cells (c0 * i.size)=⟨fw z.cells.toList c0⟩:=by
        unfold madeCells;rw [<- hzs];exact Sd z.cells c0 (by omega)
       have hc0:c0<=i.bytes * c0:=Nat.le_mul_of_pos_left _ hb;have apk:∀ (z:List Value) (k:Nat),(fw z k).length=k * z.length:=by
        intro z k
        induction k with
        | zero=>simp [fw]
        | succ k ih=>simp [fw,ih,Nat.succ_mul,Nat.add_comm]
       have apl:∀ (z:List Value) (k:Nat) (v:Value),v∈fw z k->v∈z:=by
        intro z k v
        induction k with
        | zero=>simp [fw]
        | succ k ih=>simp only [fw,jF]; exact fun h=>h.elim id ih
       refine ⟨.cells ⟨fw z.cells.toList c0⟩ e,fun b=>.slice (some ⟨b,0,none⟩) l0 c0,⟨_,e,rfl,dA.repeat (JL h4) c0,fun v hv=>h5 v (apl _ _ _ hv)⟩,fun w=>?_,fun aF n cb kC=>?_⟩
       ·have hr:=run_make (P:=P) w t e i z hu hi hz k1 k2 (l0:Int) (c0:Int) (by omega) (by omega) (by rw [<- Int.natCast_mul]; exact Int.ofNat_le.2 Yu) (by omega)
        have uY:cE l = .int k1 (l0:Int):=hl;have hc' : cE c = .int k2 (c0:Int):=vq;simp only [CE,e2] at hr;simp [execOp,ho,uY,hc',hr]
       ·simp only [VR]
        refine ⟨trivial,hle,_,⟨cb,0,none⟩,c0,kC,aB _,fun _=>rfl,?_,rfl⟩;show 0+0+c0 * i.size<=(fw z.cells.toList c0).length;rw [apk];simp [hzs]
     ·simp at hf
   ·trivial
  ·trivial
 ·trivial
theorem aki {t:TypeId} {x:Operand} (ho:o.op = .makeInterface t x):gm P o (VB P t x):=by
 unfold VB;split
 ·trivial
 ·rename_i d hu hd
  intro ρ ev cE v he hf;simp [aiW] at hf;subst hf;refine ⟨.iface t (cE x),by simp only [VR]; exact ⟨_,he x (by simp),rfl⟩,fun w=>?_⟩;simp only [execOp,ho,Instr.makeInterface,Sem.run_bind,bq hd,ie];cases d <;> first | rfl | exact absurd rfl (hu _)
 ·trivial
theorem TJ {ρ:Ren} {s:List Value->Sem Value} {vs b7:List Value} {v:Value} (hv:dA ρ vs b7) (h:MA P s vs=some v):VR ρ v v/\∀ w,(s b7).run P w = .ok v w:=by
 unfold MA at h;cases hf:yA vs with
 | false=>rw [hf] at h; simp at h
 | true=>
  rw [hf,aj] at h;obtain ⟨u,hu,h⟩:=cC.1 h;cases hfu:flat u with
  | false=>rw [hfu] at h; simp at h
  | true=>
   rw [hfu] at h;simp at h;subst h;rw [dA.qD hf hv];exact ⟨VR.of_flat hfu,fun w=>fD hu w⟩
theorem anf {argTypes:Array TypeId} {args:Array Operand} (ho:o.op = .call ⟨.builtin .min,args,argTypes⟩):gm P o (.pure (MA P fun vs=>Builtin.min_ #[] 0 ⟨vs⟩) args.toList):=by
 intro ρ ev cE v he hf;obtain ⟨h1,h2⟩:=TJ he.map hf;refine ⟨v,h1,fun w=>?_⟩;have h3:=h2 w;simp only [Builtin.min_] at h3;simp only [execOp,ho,resolve,Sem.run_bind,Sem.run_pure,ie,invoke,builtin,Builtin.min_,oQ];simp only [h3,ie]
theorem ang {argTypes:Array TypeId} {args:Array Operand} (ho:o.op = .call ⟨.builtin .max,args,argTypes⟩):gm P o (.pure (MA P fun vs=>Builtin.max_ #[] 0 ⟨vs⟩) args.toList):=by
 intro ρ ev cE v he hf;obtain ⟨h1,h2⟩:=TJ he.map hf;refine ⟨v,h1,fun w=>?_⟩;have h3:=h2 w;simp only [Builtin.max_] at h3;simp only [execOp,ho,resolve,Sem.run_bind,Sem.run_pure,ie,invoke,builtin,Builtin.max_,oQ];simp only [h3,ie]
theorem Xt {ρ:Ren} {x x' : Value} {k:Nat} (hx:VR ρ x x') (h:Xp x=some k):Builtin.lenOf x' = Sem.pure k:=by
 unfold Xp at h;split at h
 ·obtain ⟨a',c',rfl⟩:=ZH hx
  simp at h; subst h; rfl
 ·have:=hx.rj
  subst this;simp at h; subst h; rfl
 ·simp at h
theorem EX {ρ:Ren} {A:St} {base:Nat} {w:World} {n k:Nat} {x x' : Value} {new:List Value} (hs:Rel ρ A.get A.members base w) (hx:VR ρ x x') (h:za A n k x=some new)
  (hk:∀ m,Xp x=some m->k<=m) (hn:1<=n):∃ cA,dA ρ new cA/\(∀ v∈new,scalar v=true)/\new.length=k * n/\(Builtin.firstCells n k x').run P w = .ok cA.toArray w:=by
 unfold za at h;split at h
 ·rename_i a len cap
  obtain ⟨FW,G4,lc,a',c',hl,vq,KB,mI,rfl⟩:=hx.lC;have hkl:=hk len rfl;obtain ⟨bL,h1,h2,h3,h4⟩:=zc (P:=P) hs h hl;refine ⟨bL,h1,h3,h2,?_⟩;simp only [Builtin.firstCells];by_cases hc:c' = 0
  ·have xg:k=0:=by omega
   subst xg;have yn:new = []:=by rw [Nat.zero_mul] at h2; exact List.eq_nil_of_length_eq_zero h2
   subst yn;rw [h1.b5,Nat.zero_mul];exact run_loadCells_list w a' [] (by simp)
  ·rw [KB hc]; exact h4
 ·rename_i len cap
  have:=hx.fV;subst this;cases hb:Nat.beq k 0 with
  | false=>rw [hb] at h; simp at h
  | true=>
   rw [hb] at h;simp at h;subst h;have xg:=aK hb;subst xg;exact ⟨[],.nil,by simp,by simp,run_firstCells_none w n 0 len cap⟩
 ·rename_i s
  have:=hx.rj;subst this;cases hb:Nat.beq n 1 with
  | false=>rw [hb] at h; simp at h
  | true=>
   rw [hb] at h;simp at h;have ZK:=aK hb;subst ZK;have qE:=hk s.size rfl;have dS:s.data.size=s.size:=rfl;have fl:∀ l:List UInt8,dA ρ (l.map fun b=>Value.int .u8 b.toNat) (l.map fun b=>Value.int .u8 b.toNat):=by
    intro l
    induction l with
    | nil=>exact .nil
    | cons x l ih=>exact .cons (by simp [VR]) ih
   subst h;refine ⟨((s.data.toList.take k).map fun b=>.int .u8 b.toNat),by simpa using fl (s.data.toList.take k),?_,?_,?_⟩
   ·intro v hv
    obtain ⟨b,_,rfl⟩:=GY.1 (by first | exact hv | exact List.mem_of_mem_take hv);rfl
   ·simp; omega
   ·simp only [Builtin.firstCells]
    rw [Sem.run_pure];congr 1;apply Array.ext';simp [ByteArray.data_extract,List.extract_eq_take_drop]
 ·simp at h
theorem ze (t u ty e:TypeId) (i:TypeInfo) (ht:P.underlying t=some (.slice e)) (hi:P.info? e=some i) (hu:MC P u=true) (base:Option Addr) (dw ri:Nat) (x:Value) (n:Nat) (news:List Value)
  (hlen:Builtin.lenOf x=Sem.pure n) (w:World) (wC:(Builtin.firstCells i.size n x).run P w = .ok news.toArray w) (FY:dw+n<=ri) :
  (Builtin.append_ #[t,u] ty #[.slice base dw ri,x]).run P w=(((match base with | some a=>storeCells (a.add (dw * i.size)) news | none=>pure ():Sem Unit).run P w).andThen fun _ w=>.ok (.slice base (dw+n) ri) w):=by
 have hk:(∃ e',P.underlying u=some (.slice e'))\/P.underlying u=some .string:=by
  unfold MC at hu;split at hu
  ·rename_i e' h; exact .inl ⟨_,h⟩
  ·rename_i h; exact .inr h
  ·simp at hu
 rcases hk with ⟨e',hk⟩ | hk <;> cases base <;> simp [Builtin.append_,bq ht,bq hk,sizeOf,typeInfo,hi,hlen,FY,wC]
theorem VO (t u ty e:TypeId) (i:TypeInfo) (z:Value) (ht:P.underlying t=some (.slice e)) (hi:P.info? e=some i) (hz:i.zero=some z) (hu:MC P u=true) (base:Option Addr) (dw ri:Nat)
  (x:Value) (n:Nat) (Xu news:List Value) (hlen:Builtin.lenOf x=Sem.pure n) (w:World) (hold:(Builtin.firstCells i.size dw (.slice base dw ri)).run P w.drew = .ok Xu.toArray w.drew)
  (wC:(Builtin.firstCells i.size n x).run P w.drew = .ok news.toArray w.drew) (hg:ri < dw+n) (h63:dw+n<=17592186044416) (mI:Builtin.nextslicecap (dw+n) ri * i.bytes<=281474976710656) :
  (Builtin.append_ #[t,u] ty #[.slice base dw ri,x]).run P w =
   .ok (.slice (some ⟨w.heap.size,0,none⟩) (dw+n) (grownCap w (dw+n) ri e))
    (w.drew.alloc (.cells ((Xu++news).toArray++Builtin.zeroCells z.cells (grownCap w (dw+n) ri e - (dw+n))) e)):=by
 have hk:(∃ e',P.underlying u=some (.slice e'))\/P.underlying u=some .string:=by
  unfold MC at hu;split at hu
  ·rename_i e' h; exact .inl ⟨_,h⟩
  ·rename_i h; exact .inr h
  ·simp at hu
 have hn : ¬ (dw+n<=ri):=by omega
 have apm : ¬ (9223372036854775807 < ((dw:Int)+(n:Int))):=by omega
 have apn : ¬ (281474976710656 < Builtin.nextslicecap (dw+n) ri * i.bytes):=by omega
 rcases hk with ⟨e',hk⟩ | hk <;>
  (simp [Builtin.append_,bq ht,bq hk,sizeOf,typeInfo,zeroValue,hi,hz,hlen,hn,apm,apn,Question.forced,wC,hold,newRow,grownCap]
   congr 2;apply Array.ext';simp [List.append_assoc])
theorem ZL {ρ:Ren} {A:St} {base:Nat} {w:World} (hs:vm ρ A base w) (b lo hi:Nat) (L:List Nat):iU base ρ A w ρ (A.kill b lo hi L) w:=by
 obtain ⟨ZM,kT⟩:=Lv b lo hi L A;have Oj:∀ x o,(A.kill b lo hi L).get x=some o->o≠.dead->A.get x=some o:=by
  intro x o hx hd;rw [D7] at hx;split at hx
  ·simp at hx; exact absurd hx.symm hd
  ·exact hx
 have hm:∀ o:ct,o.eF=true->o≠.dead:=by intro o h e; subst e; simp [ct.eF] at h
 refine ⟨⟨.EW (fun x o hx hd=>hs.rel.obj (Oj x o hx hd) hd) (fun b1 b2 o1 o2 l1 l2 cH g1 g2 m1 m2=>hs.rel.apart b1 b2 o1 o2 l1 l2 cH (Oj _ _ g1 (hm _ m1)) (Oj _ _ g2 (hm _ m2)) m1 m2) (fun x o aP f hx hk=>?_),fun x l h=>?_,hs.size,hs.HX⟩,
  fun _ _=>rfl,.refl _ _ _,by simp,ZM,fun x _ hx=>?_,fun k _ h=>?_⟩
 ·rw [Ku]; exact hs.rel.cY x o aP f (Oj x o hx (by intro e; subst e; simp [ct.lF] at hk)) hk
 ·rw [MH]; exact hs.jI x l h
 ·cases Classical.em ((A.kill b lo hi L).get x=A.get x) with
  | inl h=>exact h
  | inr h=>have:=kT x h; omega
 ·obtain ⟨x,o,l,hx,OJ,hr,e⟩:=h
  exact ⟨x,o,l,Oj x o hx (hm _ OJ),OJ,hr,e⟩
theorem Lx (A:St) (aP f:Nat) (cs:List Value) (n x:Nat):(A.grow aP f cs n).get x=if x=A.next then some (.row cs n true (some (aP,f))) else A.get x:=by
 simp [St.grow]
theorem AD (A:St) (aP f:Nat) (cs:List Value) (n g:Nat):(A.grow aP f cs n).members g=if g=aP then A.next::A.members aP else A.members g:=by
 simp only [St.grow,St.ET,St.jh]
theorem ZN {ρ:Ren} {A:St} {base:Nat} {w:World} {cs bL:List Value} {c:Array Value} {n aP f:Nat} (T:TypeId) (hs:vm ρ A base w) (hc:dA ρ cs bL) (h1:∀ v∈cs,scalar v=true)
  (ZO:∀ (j:Nat) (v:Value),bL[j]? = some v->c[j]? = some v) (dS:cs.length<=c.size) :
  iU base ρ A w (ρ.set A.next ⟨w.heap.size,0,c.size,n⟩) (A.grow aP f cs n) (w.alloc (.cells c T)):=by
 refine H0 (o:=.row cs n true (some (aP,f))) hs (fun x=>Lx _ _ _ _ _ _) (fun g x h=>?_) (fun g f' h=>?_) (by simp [St.grow]) (by simp [St.grow]) (fun x hx _=>by rw [Lx,aa (by omega)]) rfl ?_
 ·rw [AD]; split
  ·rename_i e; subst e; simp [h]
  ·exact h
 ·simp [ct.lF] at h; rw [AD,h.1]; simp
 ·refine ⟨fun i v hi=>?_,fun h=>by simp at h,fun _=>hs.size,fun _ j hj=>?_,by simpa using dS,fun _ h=>by simp at h,rfl,by simp,fun _ _ j=>by simp only; rw [World.frozen?_alloc_new]⟩
  ·obtain ⟨v',h2,h3⟩:=hc.get hi
   refine ⟨v',?_,h3.mono (hs.EV _),h1 v (gh hi)⟩;rw [ba,World.cell?_alloc_new];exact ZO i v' h2
  ·simp only at hj ⊢
   rw [World.cell?_alloc_new,World.frozen?_alloc_new];refine ⟨?_,rfl⟩;rw [Array.getElem?_eq_getElem (by omega)];rfl
theorem adQ {ρ:Ren} {A:St} {base:Nat} {w:World} {b gS s bp aP f:Nat} {cs eV uR new cA:List Value} {l:Loc}
  (hs:vm ρ A base w) (hg:A.get b=some (.row cs bp true (some (aP,f)))) (kC:ρ b=some l)
  (hold:dA ρ eV uR) (ho1:∀ v∈eV,scalar v=true) (hol:eV.length=s) (FZ:∀ j v',uR[j]? = some v'->w.cell? ⟨l.cb,l.dv+gS+j,none⟩=some v')
  (yn:dA ρ new cA) (ZK:∀ v∈new,scalar v=true) (mI:l.dv+gS+s+new.length<=l.CM) :
  iU base ρ A w (ρ.set A.next ⟨l.cb,l.dv+gS,l.CM,bp⟩) ((A.kill A.next (f+(gS+s)) (f+(gS+s)+new.length) (A.members aP)).grow aP (f+gS) (eV++new) bp) (w.setCells l.cb (l.dv+gS+s) cA):=by
 obtain ⟨l',uY,ok⟩:=hs.rel.row _ _ _ _ _ hg;rw [kC] at uY; simp at uY; subst uY;have Oi:cA.length=new.length:=yn.length;have hovl:uR.length=s:=by rw [hold.length,hol]
 have KF:b < A.next:=hs.jI b l kC;have Qo:ct.eF (.row cs bp true (some (aP,f)))=true:=rfl;have hB:∀ x,((A.kill A.next (f+(gS+s)) (f+(gS+s)+new.length) (A.members aP)).grow aP (f+gS) (eV++new) bp).get x =
   if x=A.next then some (.row (eV++new) bp true (some (aP,f+gS))) else (A.kill A.next (f+(gS+s)) (f+(gS+s)+new.length) (A.members aP)).get x:=by
  intro x; rw [Lx,MH]
 have hBm:∀ g,((A.kill A.next (f+(gS+s)) (f+(gS+s)+new.length) (A.members aP)).grow aP (f+gS) (eV++new) bp).members g=if g=aP then A.next::A.members aP else A.members g:=by
  intro g; rw [AD,MH,Ku]
 have hBn:((A.kill A.next (f+(gS+s)) (f+(gS+s)+new.length) (A.members aP)).grow aP (f+gS) (eV++new) bp).next=A.next+1:=by
  simp [St.grow]
 have hkl:=Lv A.next (f+(gS+s)) (f+(gS+s)+new.length) (A.members aP) A;have hBl:((A.kill A.next (f+(gS+s)) (f+(gS+s)+new.length) (A.members aP)).grow aP (f+gS) (eV++new) bp).low=(A.kill A.next (f+(gS+s)) (f+(gS+s)+new.length) (A.members aP)).low:=rfl;have hAK:∀ x,x≠A.next->(A.kill A.next (f+(gS+s)) (f+(gS+s)+new.length) (A.members aP)).get x=if x∈A.members aP/\rH (A.get x) (f+(gS+s)) (f+(gS+s)+new.length)=true then some .dead else A.get x:=by
  intro x hx; rw [D7]; simp [hx]
 generalize ((A.kill A.next (f+(gS+s)) (f+(gS+s)+new.length) (A.members aP)).grow aP (f+gS) (eV++new) bp)=B at hB hBm hBn hBl;generalize (A.kill A.next (f+(gS+s)) (f+(gS+s)+new.length) (A.members aP))=K at hB hBl hkl hAK;have hle:=hs.EV (⟨l.cb,l.dv+gS,l.CM,bp⟩:Loc);have o9:∀ x o,x≠A.next->B.get x=some o->o≠.dead->A.get x=some o/\(x∈A.members aP->rH (some o) (f+(gS+s)) (f+(gS+s)+new.length)=false):=by
  intro x o hx ho hd;rw [hB,aa hx,hAK x hx] at ho;split at ho
  ·simp at ho; exact absurd ho.symm hd
  ·rename_i hc
   refine ⟨ho,fun hm=>?_⟩;rw [<- ho];cases gY:rH (A.get x) (f+(gS+s)) (f+(gS+s)+new.length) with
   | false=>rfl
   | true=>exact absurd ⟨hm,gY⟩ hc
 have qO:∀ x:Addr,(x.block=l.cb->x.spot=none->x.off < l.dv+gS+s\/l.dv+gS+s+cA.length<=x.off)->(w.setCells l.cb (l.dv+gS+s) cA).cell? x=w.cell? x:=
  fun x h=>World.cell?_setCells_out _ _ _ _ _ h
 have Zz:∀ x,((w.setCells l.cb (l.dv+gS+s) cA).cell? x).isSome=(w.cell? x).isSome:=fun x=>D8 _ _ _ _ _;have hfr:∀ x,(w.setCells l.cb (l.dv+gS+s) cA).frozen? x=w.frozen? x:=fun x=>World.frozen?_setCells _ _ _ _ _;have dS:(w.setCells l.cb (l.dv+gS+s) cA).heap.size=w.heap.size:=HY _ _ _ _;have hmd:∀ o:ct,o.eF=true->o≠.dead:=by intro o h e; subst e; simp [ct.eF] at h
 have vr:∀ x o l2,A.get x=some o->o.eF=true->ρ x=some l2->l2.cb=l.cb->∃ f2,o.lF=some (aP,f2)/\l2.dv+f=l.dv+f2:=by
  intro x o l2 hx hm hr Cy;by_cases TH:x=b
  ·subst TH
   rw [hg] at hx; simp at hx; subst hx;rw [kC] at hr; simp at hr; subst hr;exact ⟨f,rfl,rfl⟩
  ·obtain ⟨g,f1,f2,e1,e2,e3⟩:=hs.rel.apart x b _ _ l2 l TH hx hg hm Qo hr kC Cy
   simp [ct.lF] at e2;obtain ⟨rfl,rfl⟩:=e2;exact ⟨f1,e1,e3⟩
 have Ri:∀ x ki e2 JJ tR l2,x≠A.next->B.get x=some (.row ki e2 JJ tR)->ρ x=some l2->sf ρ base w l2 ki e2 JJ tR->∀ i,i < ki.length->
   (w.setCells l.cb (l.dv+gS+s) cA).cell? ⟨l2.cb,l2.dv+i,none⟩=w.cell? ⟨l2.cb,l2.dv+i,none⟩:=by
  intro x ki e2 JJ tR l2 hx jv aln ji i hi;refine qO _ (fun hbl _=>?_);simp only at hbl ⊢;obtain ⟨hA,gY⟩:=o9 x _ hx jv (by simp);cases JJ with
  | false=>have h3:=ji.xi rfl; have h4:=ok.eF rfl; omega
  | true=>
   obtain ⟨f2,e1,e3⟩:=vr x _ l2 hA rfl aln hbl;simp only [ct.lF] at e1;subst e1;have hm:=hs.rel.cY x _ aP f2 hA rfl;have:=TG rfl (gY hm);rw [Oi];omega
 refine ⟨⟨.EW ?_ ?_ ?_,?_,?_,hs.HX.mono (hs.EV _)⟩,?_,⟨(wA _ _ _ _).1,(wA _ _ _ _).2.1,(wA _ _ _ _).2.2,Nat.le_of_eq dS.symm,?_⟩,?_,?_,?_,?_⟩
 ·intro x o jv hd
  by_cases hx:x=A.next
  ·subst hx
   rw [hB,aE rfl] at jv;simp at jv;subst jv;refine ⟨_,Ren.fG _ _ _,fun i v hi=>?_,fun h=>by simp at h,fun _=>ok.eF rfl,fun _ j hj=>?_,?_,fun _ h=>by simp at h,rfl,by rw [dS]; exact ok.lG,fun _ h2 j=>by rw [hfr]; exact ok.mark rfl (by rw [ok.bp]; exact h2) j⟩
   ·have qF:dA ρ (eV++new) (uR++cA):=hold.append yn
    obtain ⟨v',h2,h3⟩:=qF.get hi;refine ⟨v',?_,h3.mono hle,?_⟩
    ·rw [List.getElem?_append] at h2
     split at h2
     ·rename_i bj
      rw [qO _ (fun _ _=>by simp only; omega)];exact FZ i v' h2
     ·rename_i hge
      have bj:i - uR.length < cA.length:=(cG.1 h2).1;have:=World.cell?_setCells_in l.cb cA (l.dv+gS+s) w (fun j hj=>(ok.there rfl (l.dv+gS+s+j) (by rw [Oi] at hj; omega)).1) (i - uR.length) bj;have e:l.dv+gS+s+(i - uR.length)=l.dv+gS+i:=by omega
      rw [e] at this;rw [cI bj] at h2;exact this.trans h2
    ·rcases jF.1 (gh hi) with h | h
     ·exact ho1 v h
     ·exact ZK v h
   ·rw [Zz,hfr]; exact ok.there rfl j hj
   ·simp only [kv,hol]; omega
  ·obtain ⟨hA,gY⟩:=o9 x o hx jv hd
   obtain ⟨l2,yy,ji⟩:=hs.rel.obj hA hd;refine ⟨l2,hle _ _ yy,?_⟩;cases o with
   | row ki e2 JJ tR=>
    have ji:sf ρ base w l2 ki e2 JJ tR:=ji;refine ⟨fun i v hi=>?_,ji.xi,ji.eF,fun h j hj=>?_,ji.fits,ji.ends,ji.bp,by rw [dS]; exact ji.lG,fun h1 h2 j=>by rw [hfr]; exact ji.mark h1 h2 j⟩
    ·obtain ⟨v',h3,h4,h5⟩:=ji.cells i v hi
     exact ⟨v',by rw [Ri x _ _ _ _ l2 hx jv yy ji i (cG.1 hi).1]; exact h3,h4.mono hle,h5⟩
    ·rw [Zz,hfr]; exact ji.there h j hj
   | map es=>
    have ji:Zx ρ base w l2 es:=ji;obtain ⟨bh,clock,h3,h4⟩:=ji.lG;refine ⟨ji.eF,bh,clock,?_,h4.mono hle⟩;rw [mh]
    ·exact h3
    ·intro e
     obtain ⟨_,e1,_⟩:=vr x _ l2 hA rfl yy e;simp [ct.lF] at e1
   | iter st pos=>
    have ji:TD base w l2 st pos:=ji;refine ⟨ji.eF,ji.lG.1,?_⟩;rw [mh]
    ·exact ji.lG.2
    ·intro e
     obtain ⟨_,e1,_⟩:=vr x _ l2 hA rfl yy e;simp [ct.lF] at e1
   | dead=>exact absurd rfl hd
   | loop st0 e0 t0 ps0 a0 c0=>
    have ji:TE ρ base w l2 st0 e0 t0 ps0 a0 c0:=ji;obtain ⟨fn,tmps,D,N,h3,h4⟩:=ji.lG;refine ⟨ji.eF,fn,tmps,D,N,?_,h4.mono hle⟩;rw [mh]
    ·exact h3
    ·intro e
     obtain ⟨_,e1,_⟩:=vr x _ l2 hA rfl yy e;simp [ct.lF] at e1
 ·intro b1 b2 o1 o2 l1 l2 cH g1 g2 m1 m2 r1 r2 Cy
  by_cases e1:b1=A.next
  ·have e2:b2≠A.next:=fun e=>cH (e1.trans e.symm)
   subst e1;rw [hB,aE rfl] at g1;simp at g1; subst g1;rw [Ren.fG] at r1; simp at r1; subst r1;rw [Ren.eG _ _ e2] at r2;obtain ⟨hA,_⟩:=o9 b2 o2 e2 g2 (hmd _ m2);obtain ⟨f2,k1,k2⟩:=vr b2 o2 l2 hA m2 r2 Cy.symm;exact ⟨aP,f+gS,f2,rfl,k1,by simp only; omega⟩
  ·rw [Ren.eG _ _ e1] at r1
   obtain ⟨hA1,_⟩:=o9 b1 o1 e1 g1 (hmd _ m1);by_cases e2:b2=A.next
   ·subst e2
    rw [hB,aE rfl] at g2;simp at g2; subst g2;rw [Ren.fG] at r2; simp at r2; subst r2;obtain ⟨f2,k1,k2⟩:=vr b1 o1 l1 hA1 m1 r1 Cy;exact ⟨aP,f2,f+gS,k1,rfl,by simp only; omega⟩
   ·rw [Ren.eG _ _ e2] at r2
    obtain ⟨hA2,_⟩:=o9 b2 o2 e2 g2 (hmd _ m2);exact hs.rel.apart b1 b2 o1 o2 l1 l2 cH hA1 hA2 m1 m2 r1 r2 Cy
 ·intro x o g fx hx hk
  rw [hBm];by_cases e:x=A.next
  ·subst e
   rw [hB,aE rfl] at hx;simp at hx; subst hx;simp [ct.lF] at hk;rw [aE hk.1.symm];simp
  ·have:=hs.rel.cY x o g fx (o9 x o e hx (by intro e; subst e; simp [ct.lF] at hk)).1 hk
   split
   ·rename_i e2; subst e2; simp [this]
   ·exact this
 ·intro x l2 h
  rw [hBn];by_cases e:x=A.next
  ·omega
  ·rw [Ren.eG _ _ e] at h; have:=hs.jI x l2 h; omega
 ·rw [dS]; exact hs.size
 ·intro x hx; exact Ren.eG _ _ (by omega)
 ·intro k hk hn
  exact mh _ (fun e=>hn ⟨b,_,l,hg,rfl,kC,e.symm⟩) _ _ _
 ·omega
 ·rw [hBl]; exact hkl.1
 ·intro x hx hxl
  rw [hB,aa (by omega)];cases Classical.em (K.get x=A.get x) with
  | inl h=>exact h
  | inr h=>have:=hkl.2 x h; omega
 ·rintro k hk ⟨x,o,l2,hx,hm,hr,rfl⟩
  by_cases e:x=A.next
  ·subst e
   rw [Ren.fG] at hr; simp at hr; subst hr;exact ⟨b,_,l,hg,rfl,kC,rfl⟩
  ·rw [Ren.eG _ _ e] at hr
   exact ⟨x,o,l2,(o9 x o e hx (hmd _ hm)).1,hm,hr,rfl⟩
theorem akj {a:Addr} (h:cJ a=true):a.spot=none:=by
 unfold cJ at h;simpa using h
theorem Yv (w:World) (a:Addr) (n:Nat) (cs:List Value) (h:∀ j,j < n->(w.cell? (a.add j)).isSome=true) (hr:(loadCells a n).run P w = .ok cs.toArray w) (j:Nat) (v:Value) (hj:cs[j]? = some v) :
  w.cell? (a.add j)=some v:=by
 have h1:=run_loadCells (P:=P) w a n (fun j=>(w.cell? (a.add j)).getD undef) (fun j hj=>by
  have:=h j hj;cases hc:w.cell? (a.add j) with
  | none=>rw [hc] at this; simp at this
  | some u=>rfl)
 rw [hr] at h1;simp only [Result.ok.injEq,and_true] at h1;have h2:cs=(List.range n).map fun j=>(w.cell? (a.add j)).getD undef:=by
  have:=congrArg Array.toList h1;simpa using this
 rw [h2,o8] at hj;cases hq:(List.range n)[j]? with
 | none=>rw [hq] at hj; simp at hj
 | some m=>
  rw [hq] at hj;have bj:j < n:=by have:=(cG.1 hq).1; simpa using this
  have hm:m=j:=by rw [List.getElem?_range bj] at hq; simpa using hq.symm
  subst hm;simp at hj;have:=h m bj;cases hc:w.cell? (a.add m) with
  | none=>rw [hc] at this; simp at this
  | some u=>rw [hc] at hj; simpa using hj
theorem afc (z:Array Value) (n:Nat):(Builtin.zeroCells z n).size=n * z.size:=size_zeroCells z n
theorem ZP {ρ:Ren} {A B:St} {base:Nat} {w:World} {t u ty e:TypeId} {i:TypeInfo} {z s x s' x' v:Value} (ht:P.underlying t=some (.slice e)) (hi:P.info? e=some i) (hz:i.zero=some z) (hu:MC P u=true)
  (hn:1<=i.size) (hzs:z.cells.size=i.size) (OP:vm ρ A base w) (hsv:VR ρ s s') (ZQ:VR ρ x x') (hf:j6 i.size i.bytes A [s,x] = some (v,B)) :
  ∃ aF v' w',(Builtin.append_ #[t,u] ty #[s',x']).run P w = .ok v' w'/\VR aF v v'/\iU base ρ A w aF B w':=by
 unfold j6 at hf;split at hf
 ·rename_i bs dw ri x0 e0
  simp at e0;obtain ⟨rfl,rfl⟩:=e0;obtain ⟨k,hk,hf⟩:=cC.1 hf;have hlen:=Xt ZQ hk;have hkk:∀ m,Xp x=some m->k<=m:=fun m h=>by rw [hk] at h; simp at h; omega
  cases FY:Nat.ble (dw+k) ri with
  | true=>
   rw [FY,aj] at hf;have FY:=dX FY;obtain ⟨new,yn,hf⟩:=cC.1 hf;obtain ⟨cA,h1,h2,h3,h4⟩:=EX (P:=P) OP.rel ZQ yn hkk hn;cases bs with
   | none=>
    simp at hf;obtain ⟨rfl,rfl⟩:=hf;have:=hsv.fV;subst this;have hr:=ze (P:=P) t u ty e i ht hi hu none dw ri x' k cA hlen w h4 FY;exact ⟨ρ,_,w,by rw [hr]; rfl,by simp [VR],.refl OP⟩
   | some a=>
    simp only at hf;cases hpa:cJ a with
    | false=>rw [hpa] at hf; simp at hf
    | true=>
     rw [hpa,aj] at hf;cases xg:Nat.beq k 0 with
     | true=>
      rw [xg,aj] at hf;simp at hf;obtain ⟨rfl,rfl⟩:=hf;have xg:=aK xg;obtain ⟨FW,G4,lc,a',c',hl,vq,KB,mI,rfl⟩:=hsv.lC;have hr:=ze (P:=P) t u ty e i ht hi hu (some a') dw c' x' k cA hlen w h4 (by omega);have Ly:cA = []:=List.eq_nil_of_length_eq_zero (by rw [h1.length,h3,xg,Nat.zero_mul]);refine ⟨ρ,.slice (some a') (dw+k) c',w,?_,?_,.refl OP⟩
      ·rw [hr,Ly]
       rfl
      ·simp only [VR]
       exact ⟨FW,by omega,lc,a',c',hl,vq,KB,mI,rfl⟩
     | false=>
     rw [xg,aI] at hf;obtain ⟨B',gY,hf⟩:=ck.1 hf;simp at hf;obtain ⟨rfl,rfl⟩:=hf;obtain ⟨FW,G4,lc,a',c',hl,vq,KB,mI,rfl⟩:=hsv.lC;have hr:=ze (P:=P) t u ty e i ht hi hu (some a') dw c' x' k cA hlen w h4 (by omega);obtain ⟨w',h5,h6⟩:=EU (P:=P) (a:=⟨a.block,a.off+dw * i.size,none⟩) OP gY hl h1;have lA:(storeCells (a'.add (dw * i.size)) cA).run P w = .ok () w':=by
      by_cases hc:c' = 0
      ·have:cA = []:=by
        apply List.eq_nil_of_length_eq_zero;rw [h1.length,h3];have:k=0:=by omega
        subst this; omega
       subst this;exact h5
      ·rw [KB hc,kH]
       simp only at h5;rw [GZ];exact h5
     refine ⟨ρ,.slice (some a') (dw+k) c',w',?_,?_,h6⟩
     ·rw [hr]
      simp only [lA,ie]
     ·simp only [VR]
      exact ⟨FW,FY,lc,a',c',hl,vq,KB,mI,rfl⟩
  | false=>
   rw [FY,aI] at hf;have FY:ri < dw+k:=by
    have : ¬ (dw+k<=ri):=fun h=>by rw [Nat.ble_eq_true_of_le h] at FY; simp at FY
    omega
   cases hc:(Nat.ble ((dw+k) * i.bytes) 140737488355328&&Nat.ble (dw+k) 17592186044416&&xK A i.size ri bs) with
   | false=>rw [hc] at hf; simp at hf
   | true=>
    rw [hc,aj] at hf;simp only [aq] at hc;obtain ⟨⟨FX,wB⟩,hex⟩:=hc;have FX:=dX FX;have wB:=dX wB;have adR:(dw+k) * i.bytes<=140737488355328:=FX;obtain ⟨new,yn,hf⟩:=cC.1 hf;obtain ⟨cA,h1,h2,h3,h4⟩:=EX (P:=P) OP.rel ZQ yn hkk hn;have hdr:=iU.drew (w:=w) OP;obtain ⟨alu,g1,g2,g3,g4⟩:=EX (P:=P) hdr.fT.rel ZQ yn hkk hn;have alv:∀ (bs' : Option Addr) (c' : Nat) (Xu VP:List Value) (aP f:Nat) (K:St),K=A\/(∃ x lo hi L,K=A.kill x lo hi L)->dA ρ Xu VP->(∀ v∈Xu,scalar v=true)->Xu.length=dw * i.size->
      (Builtin.firstCells i.size dw (.slice bs' dw c')).run P w.drew = .ok VP.toArray w.drew->c' < dw+k->
      ∃ aF v' w',(Builtin.append_ #[t,u] ty #[.slice bs' dw c',x']).run P w = .ok v' w'/\VR aF (.slice (some ⟨A.next,0,none⟩) (dw+k) (dw+k)) v'/\iU base ρ A w aF (K.grow aP f (Xu++new) i.size) w':=by
     intro bs' c' Xu VP aP f K hK ho ho1 hol lA bj;have hr:=VO (P:=P) t u ty e i z ht hi hz hu bs' dw c' x' k VP alu hlen w lA g4 bj wB (growslice_fits bj adR);have hge:=grownCap_ge w (dw+k) c' e;have hkg:iU base ρ A w ρ K w.drew:=by
      rcases hK with rfl | ⟨x,lo,hi,L,rfl⟩
      ·exact hdr
      ·exact (ZL OP x lo hi L).trans (iU.drew (ZL OP x lo hi L).fT)
     have hKn:K.next=A.next:=by
      rcases hK with rfl | ⟨x,lo,hi,L,rfl⟩
      ·rfl
      ·simp
     have MJ:((VP++alu).toArray++Builtin.zeroCells z.cells (grownCap w (dw+k) c' e - (dw+k))).size=grownCap w (dw+k) c' e * i.size:=by
      rw [Array.size_append,afc,hzs,List.size_toArray,kv,ho.length,g1.length,hol,g3];rw [<- Nat.add_mul,<- Nat.add_mul];congr 1; omega
     have HZ:=ZN (w:=w.drew) (n:=i.size) (aP:=aP) (f:=f) (c:=(VP++alu).toArray++Builtin.zeroCells z.cells (grownCap w (dw+k) c' e - (dw+k))) e hkg.fT (ho.append g1)
      (fun v hv=>(jF.1 hv).elim (ho1 v) (g2 v)) (fun j v hj=>by
       rw [Array.getElem?_append_left (by have:=(cG.1 hj).1; simpa using this)];simpa using hj) (by
       rw [MJ,kv,hol,g3,<- Nat.add_mul];exact Nat.mul_le_mul_right _ hge)
     refine ⟨_,_,_,hr,?_,hkg.trans HZ⟩;simp only [VR];refine ⟨trivial,aB _,_,⟨w.heap.size,0,none⟩,grownCap w (dw+k) c' e,by rw [hKn]; exact Ren.fG _ _ _,hge,fun _=>rfl,?_,rfl⟩;rw [MJ];show 0+0+grownCap w (dw+k) c' e * i.size<=grownCap w (dw+k) c' e * i.size;omega
    unfold HV at hf;cases bs with
    | none=>
     simp only at hf;cases hs0:Nat.beq dw 0 with
     | false=>rw [hs0] at hf; simp at hf
     | true=>
      rw [hs0,aj] at hf;simp at hf;obtain ⟨rfl,rfl⟩:=hf;have hs0:=aK hs0;have:=hsv.fV;subst this;have Lz:Builtin.firstCells i.size dw (.slice none dw ri)=pure #[]:=rfl;exact alv none ri [] [] A.next 0 A (.inl rfl) .nil (by simp) (by rw [hs0]; simp) (by rw [Lz]; rfl) FY
    | some a=>
     simp only at hf;cases hpa:cJ a with
     | false=>rw [hpa] at hf; simp at hf
     | true=>
      rw [hpa,aj] at hf;have FW:=akj hpa;obtain ⟨_,G4,lc,a',c',hl,vq,KB,mI,rfl⟩:=hsv.lC;obtain ⟨eV,hold,hf⟩:=cC.1 hf;obtain ⟨uR,q1,q2,q3,q4⟩:=zc (P:=P) hdr.fT.rel hold hl;have lA:(Builtin.firstCells i.size dw (.slice (some a') dw c')).run P w.drew = .ok uR.toArray w.drew:=by
       simp only [Builtin.firstCells];by_cases hc:c' = 0
       ·have hs0:dw=0:=by omega
        subst hs0;have Ly:eV = []:=by rw [Nat.zero_mul] at q2; exact List.eq_nil_of_length_eq_zero q2
        subst Ly;rw [q1.b5,Nat.zero_mul];exact run_loadCells_list w.drew a' [] (by simp)
       ·rw [KB hc]; exact q4
      split at hf
      ·rename_i cs bp own bK hg
       cases hez:Nat.beq bp i.size with
       | false=>rw [hez] at hf; simp at hf
       | true=>
        rw [hez,aj] at hf;have hez:=aK hez;subst hez;obtain ⟨l2,kT,ok⟩:=OP.rel.row _ _ _ _ _ hg;rw [hl] at kT; simp at kT; subst kT;have hle:lc.bp=i.size:=ok.bp;cases bK with
        | none=>
         simp only at hf;cases own with
         | false=>simp at hf
         | true=>
          simp at hf;obtain ⟨rfl,rfl⟩:=hf;have hxe:a.off+ri * i.size=cs.length:=by
           unfold xK at hex;simp only [hg] at hex;exact aK hex
          have hends:=ok.ends rfl rfl;have hc' : c' < dw+k:=by
           have h9:c' * i.size<=ri * i.size:=by rw [hle] at mI; omega
           have:=Nat.le_of_mul_le_mul_right h9 (by omega);omega
          exact alv (some a') c' eV uR A.next 0 A (.inl rfl) q1 q3 q2 lA hc'
        | some p=>
         obtain ⟨aP,f⟩:=p;simp only at hf;cases own with
         | false=>simp at hf
         | true=>
          simp at hf;obtain ⟨rfl,rfl⟩:=hf;by_cases hc' : c' < dw+k
          ·exact alv (some a') c' eV uR aP (f+a.off) _ (.inr ⟨_,_,_,_,rfl⟩) q1 q3 q2 lA hc'
          ·
           have cH:c'≠0:=by omega
           have ha:=KB cH;subst ha;have hr:=ze (P:=P) t u ty e i ht hi hu (some ⟨lc.cb,lc.dv+a.off,none⟩) dw c' x' k cA hlen w h4 (by omega);have vp:lc.dv+a.off+dw * i.size+new.length<=lc.CM:=by
            rw [h3];rw [hle] at mI;have h9:(dw+k) * i.size<=c' * i.size:=Nat.mul_le_mul_right _ (by omega);rw [Nat.add_mul] at h9;omega
           have Oi:cA.length=new.length:=h1.length;obtain ⟨afd,p1,p2,p3,p4⟩:=zc (P:=P) OP.rel hold hl;have FZ:∀ (j:Nat) (v' : Value),afd[j]? = some v'->w.cell? ⟨lc.cb,lc.dv+a.off+j,none⟩=some v':=by
            intro j v' hj;have bj:j < dw * i.size:=by have:=(cG.1 hj).1; rw [p1.length,p2] at this; exact this
            have qO:=(ok.there rfl (lc.dv+a.off+j) (by omega)).1;have:=Yv (P:=P) w ⟨lc.cb,lc.dv+a.off,none⟩ (dw * i.size) afd (fun j hj=>by rw [kH]; exact (ok.there rfl (lc.dv+a.off+j) (by omega)).1) p4 j v' hj;rwa [kH] at this
           have HZ:=adQ (w:=w) (gS:=a.off) (s:=dw * i.size) OP hg hl p1 p3 p2 FZ h1 h2 vp;have gY:(storeCells ((⟨lc.cb,lc.dv+a.off,none⟩:Addr).add (dw * i.size)) cA).run P w = .ok () (w.setCells lc.cb (lc.dv+a.off+dw * i.size) cA):=by
            rw [kH];exact run_storeCells_cells (P:=P) lc.cb (lc.dv+a.off+dw * i.size) cA 0 w (fun j hj=>(ok.there rfl _ (by rw [Oi] at hj; omega)).1) (fun j hj=>(ok.there rfl _ (by rw [Oi] at hj; omega)).2) (fun v CO=>by
             obtain ⟨j,hj⟩:=List.getElem?_of_mem CO;have bj:j < new.length:=by rw [<- Oi]; exact (cG.1 hj).1
             obtain ⟨u,hu⟩:∃ u,new[j]? = some u:=⟨new[j],cI bj⟩
             obtain ⟨v2,h7,h8⟩:=h1.get hu;rw [hj] at h7; simp at h7; subst h7;exact h8.scalar (h2 u (gh hu)))
           refine ⟨_,.slice (some ⟨lc.cb,lc.dv+a.off,none⟩) (dw+k) c',_,by rw [hr]; simp only [gY,ie],?_,HZ⟩;simp only [VR];refine ⟨trivial,aB _,_,_,c',Ren.fG _ _ _,by omega,fun _=>rfl,?_,rfl⟩;show lc.dv+a.off+0+c' * i.size<=lc.CM;rw [hle] at mI;omega
      ·simp at hf
 ·simp at hf
theorem akk {argTypes:Array TypeId} {t u:TypeId} (h:argTypes.toList = [t,u]):argTypes = #[t,u]:=by
 apply Array.ext';simpa using h
theorem ahw {argTypes:Array TypeId} {args:Array Operand} (ho:o.op = .call ⟨.builtin .append,args,argTypes⟩):gm P o (MD P argTypes.toList args.toList):=by
 unfold MD;split
 ·rename_i t u uZ
  split
  ·rename_i e ht
   split
   ·rename_i i hi
    split
    ·rename_i z hz
     cases hc:(Nat.ble 1 i.size&&Nat.beq z.cells.size i.size&&MC P u) with
     | false=>exact True.intro
     | true=>
      rw [aj];simp only [aq] at hc;obtain ⟨⟨h1,h2⟩,h3⟩:=hc;intro ρ A B base w ev cE v hs he hf;have hf0:=hf;unfold j6 at hf0;split at hf0
      ·rename_i bs dw ri x e1
       have hm:=he.map;rw [e1] at hm hf;obtain ⟨s',r1,e2,hsv,hm⟩:=hm.cons_inv;obtain ⟨x',r2,e3,ZQ,hm⟩:=hm.cons_inv;have:=hm.b5;subst this e3;obtain ⟨aF,v',w',h4,h5,h6⟩:=ZP (ty:=o.type) ht hi hz h3 (dX h1) (aK h2) hs hsv ZQ hf;refine ⟨aF,v',.value v',w',?_,rfl,h5,h6⟩;have e4:args.map cE = #[s',x']:=by apply Array.ext'; simpa using e2
       have e5:=akk uZ;subst e5;simp only [execOp,ho,Sem.run_bind,resolve,Sem.run_pure,ie,invoke,builtin,e4,h4]
      ·simp at hf0
    ·trivial
   ·trivial
  ·trivial
 ·trivial
theorem alw {argTypes:Array TypeId} {args:Array Operand} (ho:o.op = .call ⟨.builtin .copy,args,argTypes⟩):gm P o (TB P argTypes.toList args.toList):=by
 unfold TB;split
 ·rename_i t rest uZ
  have NP:argTypes[0]? = some t:=by rw [<- Array.getElem?_toList,uZ]; rfl
  split
  ·rename_i e ht
   split
   ·rename_i n hn
    cases GD:Nat.ble 1 n with
    | false=>exact True.intro
    | true=>
     rw [aj];have GD:1<=n:=dX GD;intro ρ A B base w ev cE v hs he hf;unfold Zt at hf;split at hf
     ·rename_i bs TA dCap x e1
      have hm:=he.map;rw [e1] at hm;obtain ⟨s',r1,e2,hsv,hm⟩:=hm.cons_inv;obtain ⟨x',r2,e3,ZQ,hm⟩:=hm.cons_inv;have:=hm.b5;subst this e3;have e4:args.map cE = #[s',x']:=by apply Array.ext'; simpa using e2
      obtain ⟨k,hk,hf⟩:=cC.1 hf;have hlen:=Xt ZQ hk;obtain ⟨new,yn,hf⟩:=cC.1 hf;obtain ⟨cA,h1,h2,h3,h4⟩:=EX (P:=P) hs.rel ZQ yn (fun m h=>by rw [hk] at h; simp at h; subst h; exact Nat.min_le_left _ _) GD;cases bs with
      | none=>
       simp at hf;obtain ⟨rfl,rfl⟩:=hf;have:=hsv.fV;subst this;refine ⟨ρ,goInt (Nat.min k TA),.value (goInt (Nat.min k TA)),w,?_,rfl,VR.of_flat rfl,.refl hs⟩;simp [execOp,ho,resolve,invoke,builtin,e4,Builtin.copy_,NP,bq ht,hlen,pb hn,h4]
      | some a=>
       simp only at hf;obtain ⟨B',gY,hf⟩:=ck.1 hf;simp at hf;obtain ⟨rfl,rfl⟩:=hf;obtain ⟨FW,G4,lc,a',c',hl,vq,KB,mI,rfl⟩:=hsv.lC;obtain ⟨w',h5,h6⟩:=EU (P:=P) hs gY hl h1;have lA:(storeCells a' cA).run P w = .ok () w':=by
        by_cases hc:c' = 0
        ·have:cA = []:=by
          apply List.eq_nil_of_length_eq_zero;rw [h1.length,h3];have:TA=0:=by omega
          subst this; simp
         subst this;exact h5
        ·rw [KB hc]; exact h5
       refine ⟨ρ,goInt (Nat.min k TA),.value (goInt (Nat.min k TA)),w',?_,rfl,VR.of_flat rfl,h6⟩;simp [execOp,ho,resolve,invoke,builtin,e4,Builtin.copy_,NP,bq ht,hlen,pb hn,h4,lA]
     ·simp at hf
   ·trivial
  ·trivial
 ·trivial
end
end Go.aG
end
section
namespace Go.aG
open Go
section
variable {P:Program} {o:Oper}
theorem CQ {ρ:Ren} {A:St} {base:Nat} {w:World} {r:Nat} {es pj:List (Value×Value)} {Fm:Array MapEntry} {EY:Nat} {l:Loc} (hs:vm ρ A base w) (hg:A.get r=some (.map es)) (kC:ρ r=some l)
  (hm:gZ ρ pj Fm.toList):iU base ρ A w ρ (A.put r (.map pj)) { w with heap:=w.heap.setIfInBounds l.cb (.map Fm EY) }:=by
 obtain ⟨l',uY,ok⟩:=hs.rel.map _ _ hg;rw [kC] at uY; simp at uY; subst uY;obtain ⟨bh,clock,qP,_⟩:=ok.lG;have bj:l.cb < w.heap.size:=(rV.1 qP).1;have KG:ct.eF (.map es)=true:=rfl;have hold:∀ k,k≠l.cb->(w.heap.setIfInBounds l.cb (.map Fm EY))[k]? = w.heap[k]?:=fun k hk=>by
  rw [Array.getElem?_setIfInBounds_ne (Ne.symm hk)]
 have dS:(w.heap.setIfInBounds l.cb (.map Fm EY)).size=w.heap.size:=by simp
 have hB:∀ x,(A.put r (.map pj)).get x=if x=r then some (.map pj) else A.get x:=fun x=>St.bA _ _ _ _;have hmd:∀ o:ct,o.eF=true->o≠.dead:=by intro o h e; subst e; simp [ct.eF] at h
 have Ri:∀ x o l2,x≠r->A.get x=some o->o≠.dead->ρ x=some l2->Kw ρ base w l2 o->l2.cb≠l.cb:=by
  intro x o l2 hx jv hd yy ji e;cases ZR:o.eF with
  | true=>
   obtain ⟨_,_,_,_,e1,_⟩:=hs.rel.apart x r o _ l2 l hx jv hg ZR KG yy kC e;simp [ct.lF] at e1
  | false=>
   cases o with
   | row cs bp own bK=>
    have ji:sf ρ base w l2 cs bp own bK:=ji;have h1:own=false:=ZR;have:=ji.xi h1;have:=ok.eF;omega
   | map _=>simp [ct.eF] at ZR
   | iter _ _=>simp [ct.eF] at ZR
   | dead=>exact hd rfl
   | loop _ _ _ _ _ _=>simp [ct.eF] at ZR
 refine ⟨⟨.EW ?_ ?_ ?_,fun b l2 h=>hs.jI b l2 h,by simpa using hs.size,hs.HX⟩,fun _ _=>rfl,⟨rfl,rfl,rfl,Nat.le_of_eq dS.symm,fun k hk hn=>hold k (fun e=>hn ⟨r,_,l,hg,KG,kC,e.symm⟩)⟩,aB _,Nat.min_le_left _ _,fun x hx hxl=>?_,?_⟩
 ·intro x o jv hd
  rw [hB] at jv;split at jv
  ·rename_i e; subst e; simp at jv; subst jv
   refine ⟨l,kC,ok.eF,Fm,EY,?_,hm⟩;show (w.heap.setIfInBounds l.cb (.map Fm EY))[l.cb]? = _;rw [Array.getElem?_setIfInBounds_self_of_lt bj]
  ·rename_i e
   obtain ⟨l2,yy,ji⟩:=hs.rel.obj jv hd;exact ⟨l2,yy,ji.dP (Ren.le_refl _) (hold _ (Ri x o l2 e jv hd yy ji)) (Nat.le_of_eq dS.symm)⟩
 ·have Oj:∀ x o,(A.put r (.map pj)).get x=some o->o.eF=true->∃ o',A.get x=some o'/\o'.eF=true/\o'.lF=o.lF:=by
   intro x o hx hm;rw [hB] at hx;split at hx
   ·rename_i e; subst e; simp at hx; subst hx; exact ⟨_,hg,rfl,rfl⟩
   ·exact ⟨o,hx,hm,rfl⟩
  intro b1 b2 o1 o2 l1 l2 cH g1 g2 m1 m2 r1 r2 Cy;obtain ⟨p1,q1,n1,k1⟩:=Oj _ _ g1 m1;obtain ⟨p2,q2,n2,k2⟩:=Oj _ _ g2 m2;rw [<- k1,<- k2];exact hs.rel.apart b1 b2 p1 p2 l1 l2 cH q1 q2 n1 n2 r1 r2 Cy
 ·intro x o aP f jv hk
  rw [hB] at jv;split at jv
  ·rename_i e; subst e; simp at jv; subst jv; simp [ct.lF] at hk
  ·exact hs.rel.cY x o aP f jv hk
 ·rw [St.Zy] at hxl
  have:Nat.min A.low r<=r:=Nat.min_le_right _ _;rw [hB,aa (by omega)]
 ·rintro k hk ⟨x,o,l2,jv,hm,yy,rfl⟩
  rw [hB] at jv;split at jv
  ·rename_i e; subst e
   rw [kC] at yy; simp at yy; subst yy;exact ⟨x,_,l,hg,KG,kC,rfl⟩
  ·exact ⟨x,o,l2,jv,hm,yy,rfl⟩
theorem gZ.length {ρ:Ren} : ∀ {es:List (Value×Value)} {l:List MapEntry},gZ ρ es l->l.length=es.length
 | [],l,h=>by simp only [gZ] at h; subst h; rfl
 | (k,v)::es,l,h=>by
  simp only [gZ] at h;obtain ⟨e,r,rfl,_,_,h⟩:=h;simp [gZ.length h]
theorem gZ.get {ρ:Ren} : ∀ {es:List (Value×Value)} {l:List MapEntry},gZ ρ es l->∀ (i:Nat) (k v:Value),es[i]? = some (k,v)->∃ e,l[i]? = some e/\VR ρ k e.key/\VR ρ v e.val
 | [],l,h,i,k,v,hi=>by simp at hi
 | (k,v)::es,l,h,i,k',v',hi=>by
  simp only [gZ] at h;obtain ⟨e,r,rfl,h1,h2,h⟩:=h;cases i with
  | zero=>simp at hi; obtain ⟨rfl,rfl⟩:=hi; exact ⟨e,rfl,h1,h2⟩
  | succ i=>simp at hi; simpa using gZ.get h i k' v' hi
theorem gZ.append {ρ:Ren} : ∀ {es:List (Value×Value)} {l:List MapEntry} {k v:Value} {e:MapEntry},gZ ρ es l->VR ρ k e.key->VR ρ v e.val->gZ ρ (es++[(k,v)]) (l++[e])
 | [],l,k,v,e,h,h1,h2=>by
  simp only [gZ] at h; subst h;simp only [List.nil_append,gZ];exact ⟨e,[],rfl,h1,h2,rfl⟩
 | (k0,v0)::es,l,k,v,e,h,h1,h2=>by
  simp only [gZ] at h;obtain ⟨e0,r,rfl,h3,h4,h⟩:=h;simp only [List.cons_append,gZ];exact ⟨e0,r++[e],rfl,h3,h4,gZ.append h h1 h2⟩
theorem gZ.modify {ρ:Ren} : ∀ {es:List (Value×Value)} {l:List MapEntry} {k v:Value} (f:MapEntry->MapEntry) (i:Nat),gZ ρ es l->(∀ e,VR ρ k (f e).key/\VR ρ v (f e).val)->gZ ρ (es.set i (k,v)) (l.modify i f)
 | [],l,k,v,f,i,h,_=>by simp only [gZ] at h; subst h; simp [gZ]
 | (k0,v0)::es,l,k,v,f,i,h,hf=>by
  simp only [gZ] at h;obtain ⟨e0,r,rfl,h3,h4,h⟩:=h;cases i with
  | zero=>simp only [List.set_cons_zero,List.modify_zero_cons,gZ]; exact ⟨_,r,rfl,(hf e0).1,(hf e0).2,h⟩
  | succ i=>simp only [List.set_cons_succ,List.modify_succ_cons,gZ]; exact ⟨e0,_,rfl,h3,h4,gZ.modify f i h hf⟩
theorem gZ.erase {ρ:Ren} : ∀ {es:List (Value×Value)} {l:List MapEntry} (i:Nat),gZ ρ es l->gZ ρ (es.eraseIdx i) (l.eraseIdx i)
 | [],l,i,h=>by simp only [gZ] at h; subst h; simp [gZ]
 | (k0,v0)::es,l,i,h=>by
  simp only [gZ] at h;obtain ⟨e0,r,rfl,h3,h4,h⟩:=h;cases i with
  | zero=>simpa using h
  | succ i=>simp only [List.eraseIdx_cons_succ,gZ]; exact ⟨e0,_,rfl,h3,h4,gZ.erase i h⟩
def FR (ρ:Ren):Option (Nat×Value)->Option (Nat×Value)->Prop
 | none,r=>r=none
 | some (i,v),r=>∃ v',r=some (i,v')/\VR ρ v v'
theorem TK {ρ:Ren} (d:TypeDesc) (k:Value):∀ (es:List (Value×Value)) (l:List MapEntry) (i:Nat),gZ ρ es l->xL es=true->
  (D6 d k es i=none->Instr.findNow d k l i=none)/\∀ r,D6 d k es i=some r->∃ r',Instr.findNow d k l i=some r'/\FR ρ r r'
 | [],l,i,h,_=>by
  simp only [gZ] at h; subst h;exact ⟨fun h=>by simp [D6] at h,fun r hr=>by simp [D6] at hr; subst hr; exact ⟨none,rfl,rfl⟩⟩
 | (k0,v0)::es,l,i,h,hf=>by
  simp only [gZ] at h;obtain ⟨e0,r0,rfl,h3,h4,h⟩:=h;simp only [xL,aq] at hf;have hk:e0.key=k0:=h3.qD hf.1;have ih:=TK d k es r0 (i+1) h hf.2;simp only [D6,Instr.findNow,hk];cases hsn:Instr.sameNow d k k0 with
  | none=>exact ⟨fun _=>rfl,fun r hr=>by simp at hr⟩
  | some b=>
   cases b with
   | true=>exact ⟨fun h=>by simp at h,fun r hr=>by simp at hr; subst hr; exact ⟨_,rfl,_,rfl,h4⟩⟩
   | false=>exact ih
theorem TL {ρ:Ren} (kt:TypeId) (k:Value):∀ (es:List (Value×Value)) (l:List MapEntry) (i:Nat),gZ ρ es l->xL es=true->
  ∀ r,Lq P kt k es i=some r->∃ r',(∀ w,(Instr.findAsking kt k l i).run P w = .ok r' w)/\FR ρ r r'
 | [],l,i,h,_=>by
  simp only [gZ] at h; subst h;intro r hr;simp [Lq] at hr; subst hr; exact ⟨none,fun w=>rfl,rfl⟩
 | (k0,v0)::es,l,i,h,hf=>by
  simp only [gZ] at h;obtain ⟨e0,r0,rfl,h3,h4,h⟩:=h;simp only [xL,aq] at hf;have hk:e0.key=k0:=h3.qD hf.1;intro r hr;simp only [Lq] at hr;split at hr
  ·rename_i he
   simp at hr; subst hr;refine ⟨some (i,e0.val),fun w=>?_,_,rfl,h4⟩;simp [Instr.findAsking,hk,fD he w]
  ·rename_i he
   obtain ⟨r',h5,h6⟩:=TL kt k es r0 (i+1) h hf.2 r hr;refine ⟨r',fun w=>?_,h6⟩;simp only [Instr.findAsking,hk,Sem.run_bind,fD he w,ie];exact h5 w
  ·simp at hr
theorem MK {ρ:Ren} {kt:TypeId} {d:TypeDesc} {k:Value} {es:List (Value×Value)} {l:List MapEntry} {r:Option (Nat×Value)} (hd:P.underlying kt=some d) (h:gZ ρ es l) (hf:xL es=true) (hr:Zu P kt d k es=some r) :
  ∃ r',(∀ w,(Instr.findKey kt k l).run P w = .ok r' w)/\FR ρ r r':=by
 have hn:=TK d k es l 0 h hf;unfold Zu at hr;split at hr
 ·rename_i q hq
  simp at hr; subst hr;obtain ⟨r',h1,h2⟩:=hn.2 _ hq;refine ⟨r',fun w=>?_,h2⟩;simp only [Instr.findKey,Sem.run_bind,bq hd,ie,h1];rfl
 ·rename_i hq
  have h1:=hn.1 hq;obtain ⟨r',h2,h3⟩:=TL kt k es l 0 h hf r hr;refine ⟨r',fun w=>?_,h3⟩;simp only [Instr.findKey,Sem.run_bind,bq hd,ie,h1];exact h2 w
theorem G5 {ρ:Ren} {kt:TypeId} {b:Bool} {k k' : Value} {es:List (Value×Value)} (h:Ks P kt b k es=true) (hk:VR ρ k k'):k' = k/\flat k=true/\xL es=true/\∀ w,(Instr.checkKey b 10000 kt k).run P w = .ok () w:=by
 unfold Ks at h;simp only [aq] at h;obtain ⟨⟨h1,h2⟩,h3⟩:=h;cases hp:cP P (Instr.checkKey b 10000 kt k) with
 | none=>rw [hp] at h3; simp at h3
 | some u=>exact ⟨hk.qD h1,h1,h2,fun w=>fD hp w⟩
theorem gZ.isEmpty {ρ:Ren} {es:List (Value×Value)} {l:Array MapEntry} (h:gZ ρ es l.toList):l.isEmpty=es.isEmpty:=by
 have:=h.length;cases es with
 | nil=>simp at this; simpa using this
 | cons e es=>simp at this; simp; intro h; rw [h] at this; simp at this
theorem VR.OQ {ρ:Ren} {r:Nat} {v:Value} (h:VR ρ (.map (some r)) v):∃ l,ρ r=some l/\v = .map (some l.cb):=by simpa only [VR] using h
theorem VR.G6 {ρ:Ren} {v:Value} (h:VR ρ (.map none) v):v = .map none:=by simpa only [VR] using h
theorem VR.acF {ρ:Ren} {ok b:Bool} {v v' : Value} (h:VR ρ v v'):VR ρ (acF ok v b) (if ok then .tuple #[v',.bool b] else v'):=by
 cases ok with
 | true=>exact VR.mkTuple (.cons h (.cons (VR.of_flat rfl) .nil))
 | false=>exact h
theorem afe {t:TypeId} {r:Option Operand} (ho:o.op = .makeMap t r):gm P o (OH P t r):=by
 unfold OH;split
 ·rename_i kt et hu
  intro ρ ev cE obj mk he hf;have fH:obj = .map []/\mk=fun n=>.map (some n):=by
   unfold VE at hf;split at hf
   ·simp at hf; exact ⟨hf.1.symm,hf.2.symm⟩
   ·simp at hf; exact ⟨hf.1.symm,hf.2.symm⟩
   ·simp at hf
  obtain ⟨rfl,rfl⟩:=fH;refine ⟨.map #[] 0,fun n=>.map (some n),rfl,fun w=>?_,fun aF n cb h=>by simp only [VR]; exact ⟨_,h,rfl⟩⟩;cases r with
  | none=>simp [execOp,ho,Instr.makeMap]
  | some x=>
   have hx:=he x (by simp [eZ]);unfold VE at hf;simp only [eZ,List.map] at hf;split at hf
   ·rename_i e; simp at e
   ·rename_i k n e
    simp at e;rw [e] at hx;simp [execOp,ho,Instr.makeMap,hx.cj,bq hu,asInt,asIntOf]
   ·simp at hf
 ·trivial
theorem LB {ρ:Ren} {kt et:TypeId} {d:TypeDesc} {z v k k' : Value} {ok:Bool} {es:List (Value×Value)} {l:Array MapEntry} (hd:P.underlying kt=some d) (hz:wx P et=some z) (hzf:flat z=true)
  (hm:gZ ρ es l.toList) (hk:VR ρ k k') (h:MF P kt d z ok k es=some v) :
  ∃ v',VR ρ v v'/\∀ w,(do
   Instr.checkKey l.isEmpty 10000 kt k'
   let (v,b) <- match <- Instr.findKey kt k' l.toList with
    | some (_,v)=>pure (v,true)
    | none=>pure (<- zeroValue et,false)
   pure (if ok then Value.tuple #[v,.bool b] else v):Sem Value).run P w = .ok v' w:=by
 unfold MF at h;cases hc:Ks P kt es.isEmpty k es with
 | false=>rw [hc] at h; simp at h
 | true=>
  rw [hc,aj] at h;obtain ⟨rfl,_,hkf,VJ⟩:=G5 hc hk;obtain ⟨r,hr,rfl⟩:=ck.1 h;obtain ⟨r',h1,h2⟩:=MK hd hm hkf hr;rw [hm.isEmpty];cases r with
  | none=>
   have h2:r' = none:=h2;subst h2;refine ⟨_,VR.acF (VR.of_flat hzf),fun w=>?_⟩;simp [VJ,h1,Qp hz]
  | some p=>
   obtain ⟨i,u⟩:=p;obtain ⟨u',rfl,h3⟩:=h2;refine ⟨_,VR.acF h3,fun w=>?_⟩;simp [VJ,h1]
theorem ahx {t:TypeId} {x ix:Operand} {ok:Bool} (ho:o.op = .lookup t x ix ok):gm P o (R8 P t x ix ok):=by
 unfold R8;split
 ·rename_i kt et hu
  split
  ·rename_i d z hd hz
   cases hzf:flat z with
   | false=>exact True.intro
   | true=>
    rw [aj];intro ρ A base w ev cE v hs he hf;have hx:=he x (by simp);have hk:=he ix (by simp);simp only [List.map] at hf;unfold ae4 at hf;split at hf
    ·rename_i k e
     simp at e;obtain ⟨e1,e2⟩:=e;rw [e1] at hx;have hx:=hx.G6;rw [<- e2] at hf;obtain ⟨v',h1,h2⟩:=LB (ρ:=ρ) (l:=#[]) hd hz hzf (by simp [gZ]) hk hf;refine ⟨v',h1,?_⟩;have h2:=h2 w;simp only [execOp,ho,Instr.lookup,Sem.run_bind,bq hu,ie,hx,Sem.run_pure] at h2 ⊢;exact congrArg (fun r:Result Value=>r.andThen fun a w'=>Result.ok (Next.value a) w') h2
    ·rename_i r k e
     simp at e;obtain ⟨e1,e2⟩:=e;rw [e1] at hx;rw [<- e2] at hf;obtain ⟨lc,hl,hx⟩:=hx.OQ;split at hf
     ·rename_i es hg
      obtain ⟨l2,kT,ji⟩:=hs.map _ _ hg;rw [hl] at kT; simp at kT; subst kT;obtain ⟨bh,clock,qP,hm⟩:=ji.lG;obtain ⟨v',h1,h2⟩:=LB (l:=bh) hd hz hzf hm hk hf;refine ⟨v',h1,?_⟩;have h2:=h2 w;simp only [execOp,ho,Instr.lookup,Sem.run_bind,bq hu,ie,hx,MapKept.run_getObj_map qP,Sem.run_pure] at h2 ⊢;exact congrArg (fun r:Result Value=>r.andThen fun a w'=>Result.ok (Next.value a) w') h2
     ·simp at hf
    ·simp at hf
  ·trivial
 ·trivial
theorem TM {ρ:Ren} {A B:St} {base:Nat} {w:World} {t kt et:TypeId} {d:TypeDesc} {m k x m' k' x' v:Value} (hu:P.underlying t=some (.map kt et)) (hd:P.underlying kt=some d) (hs:vm ρ A base w)
  (hm:VR ρ m m') (hk:VR ρ k k') (hx:VR ρ x x') (h:OG P kt d A [m,k,x] = some (v,B)):v=undef/\∃ w',(Instr.mapUpdate t m' k' x').run P w = .ok () w'/\iU base ρ A w ρ B w':=by
 unfold OG at h;split at h
 ·rename_i r k0 x0 e
  simp at e;obtain ⟨rfl,rfl,rfl⟩:=e;obtain ⟨lc,hl,rfl⟩:=hm.OQ;split at h
  ·rename_i es hg
   obtain ⟨l2,kT,ji⟩:=hs.rel.map _ _ hg;rw [hl] at kT; simp at kT; subst kT;obtain ⟨bh,clock,qP,VQ⟩:=ji.lG;cases hc:Ks P kt false k es with
   | false=>rw [hc] at h; simp at h
   | true=>
    rw [hc,aj] at h;obtain ⟨rfl,hkf0,hkf,VJ⟩:=G5 hc hk;obtain ⟨q,hq,h⟩:=cC.1 h;obtain ⟨r',h1,h2⟩:=MK hd VQ hkf hq;cases q with
    | none=>
     have h2:r' = none:=h2;subst h2;simp at h;obtain ⟨rfl,rfl⟩:=h;refine ⟨rfl,_,?_,CQ (Fm:=bh.push { key:=k',val:=x',born:=clock }) (EY:=clock+1) hs hg hl (by rw [Array.toList_push]; exact VQ.append hk hx)⟩;simp [Instr.mapUpdate,bq hu,MapKept.run_getObj_map qP,VJ,h1,MapKept.run_setObj_map _ qP]
    | some p=>
     obtain ⟨i,u⟩:=p;obtain ⟨u',rfl,h3⟩:=h2;simp only at h;cases hsb:Instr.sameBits 10000 (adI es i k') k' with
     | false=>rw [hsb] at h; simp at h
     | true=>
      rw [hsb] at h;simp at h;obtain ⟨rfl,rfl⟩:=h;have hold:((bh[i]?).map (·.key)).getD k' = adI es i k':=by
       unfold adI;cases hi:es[i]? with
       | none=>
        have:bh[i]? = none:=by
         rw [Array.getElem?_eq_none_iff];have:=YT.1 hi;rw [<- Array.length_toList,VQ.length]; exact this
        rw [this]; rfl
       | some p=>
        obtain ⟨k1,v1⟩:=p;obtain ⟨e,h5,h6,h7⟩:=VQ.get i k1 v1 hi;have h5' : bh[i]? = some e:=by simpa using h5
        have tS:flat k1=true:=by
         have key:∀ (es:List (Value×Value)) (i:Nat),xL es=true->es[i]? = some (k1,v1)->flat k1=true:=by
          intro es
          induction es with
          | nil=>intro i _ h; simp at h
          | cons e es ih=>
           intro i hk h;simp only [xL,aq] at hk;cases i with
           | zero=>simp at h; subst h; exact hk.1
           | succ i=>exact ih i hk.2 (by simpa using h)
         exact key es i hkf hi
        rw [h5'];simp only [Option.map_some,eU];exact h6.qD tS
      refine ⟨rfl,_,?_,CQ (Fm:=bh.modify i fun e=>{ e with key:=k',val:=x' }) (EY:=clock) hs hg hl (by rw [Array.toList_modify]; exact VQ.modify _ i fun e=>⟨hk,hx⟩)⟩;simp [Instr.mapUpdate,bq hu,MapKept.run_getObj_map qP,VJ,h1,hold,Instr.keyThatStays,hsb,MapKept.run_setObj_map _ qP]
  ·simp at h
 ·simp at h
theorem Ro {t:TypeId} {m k x:Operand} (ho:o.op = .mapUpdate t m k x\/o.op = .insert t m k x):gm P o (ER P t m k x):=by
 unfold ER;split
 ·rename_i kt et hu
  split
  ·rename_i d hd
   intro ρ A B base w ev cE v hs he hf;simp only [List.map] at hf;obtain ⟨rfl,w',h1,h2⟩:=TM hu hd hs (he m (by simp)) (he k (by simp)) (he x (by simp)) hf;refine ⟨ρ,undef,.skip,w',?_,rfl,VR.of_flat (by simp [undef,flat,Mu,yA]),h2⟩;rcases ho with ho | ho <;> simp [execOp,ho,h1]
  ·trivial
 ·trivial
theorem yD:flat kh=true:=rfl
theorem ahy {argTypes:Array TypeId} {args:Array Operand} (ho:o.op = .call ⟨.builtin .delete,args,argTypes⟩):gm P o (R9 P argTypes.toList args.toList):=by
 unfold R9;split
 ·rename_i t rest uZ
  have NP:argTypes[0]? = some t:=by rw [<- Array.getElem?_toList,uZ]; rfl
  split
  ·rename_i kt et hu
   split
   ·rename_i d hd
    intro ρ A B base w ev cE v hs he hf;have hm:=he.map;unfold ae5 at hf;split at hf
    ·rename_i k e1
     rw [e1] at hm;obtain ⟨m',r1,e2,ZS,hm⟩:=hm.cons_inv;obtain ⟨k',r2,e3,hkv,hm⟩:=hm.cons_inv;have:=hm.b5;subst this e3;have e4:args.map cE = #[m',k']:=by apply Array.ext'; simpa using e2
     have:=ZS.G6;subst this;cases hc:Ks P kt true k [] with
     | false=>rw [hc] at hf; simp at hf
     | true=>
      rw [hc] at hf;simp at hf;obtain ⟨rfl,rfl⟩:=hf;obtain ⟨rfl,_,hkf,VJ⟩:=G5 hc hkv;refine ⟨ρ,kh,.value kh,w,?_,rfl,VR.of_flat yD,.refl hs⟩;simp [execOp,ho,resolve,invoke,builtin,e4,Builtin.delete_,NP,bq hu,VJ,kh]
    ·rename_i r k e1
     rw [e1] at hm;obtain ⟨m',r1,e2,ZS,hm⟩:=hm.cons_inv;obtain ⟨k',r2,e3,hkv,hm⟩:=hm.cons_inv;have:=hm.b5;subst this e3;have e4:args.map cE = #[m',k']:=by apply Array.ext'; simpa using e2
     obtain ⟨lc,hl,rfl⟩:=ZS.OQ;split at hf
     ·rename_i es hg
      obtain ⟨l2,kT,ji⟩:=hs.rel.map _ _ hg;rw [hl] at kT; simp at kT; subst kT;obtain ⟨bh,clock,qP,VQ⟩:=ji.lG;cases hc:Ks P kt es.isEmpty k es with
      | false=>rw [hc] at hf; simp at hf
      | true=>
       rw [hc,aj] at hf;obtain ⟨rfl,_,hkf,VJ⟩:=G5 hc hkv;obtain ⟨q,hq,LC⟩:=ck.1 hf;obtain ⟨r',h1,h2⟩:=MK hd VQ hkf hq;rw [<- VQ.isEmpty] at VJ;cases q with
       | none=>
        have h2:r' = none:=h2;subst h2;simp at LC;obtain ⟨rfl,rfl⟩:=LC;refine ⟨ρ,kh,.value kh,_,?_,rfl,VR.of_flat yD,CQ (Fm:=bh) (EY:=clock) hs hg hl VQ⟩;simp [execOp,ho,resolve,invoke,builtin,e4,Builtin.delete_,NP,bq hu,MapKept.run_getObj_map qP,VJ,h1,MapKept.run_setObj_map _ qP,kh]
       | some p=>
        obtain ⟨i,u⟩:=p;obtain ⟨u',rfl,h3⟩:=h2;simp at LC;obtain ⟨rfl,rfl⟩:=LC;refine ⟨ρ,kh,.value kh,_,?_,rfl,VR.of_flat yD,CQ (Fm:=bh.eraseIdxIfInBounds i) (EY:=clock) hs hg hl (by rw [Array.toList_eraseIdxIfInBounds]; exact VQ.erase i)⟩;simp [execOp,ho,resolve,invoke,builtin,e4,Builtin.delete_,NP,bq hu,MapKept.run_getObj_map qP,VJ,h1,MapKept.run_setObj_map _ qP,kh]
     ·simp at hf
    ·simp at hf
   ·trivial
  ·trivial
 ·trivial
theorem akl {argTypes:Array TypeId} {args:Array Operand} (ho:o.op = .call ⟨.builtin .clear,args,argTypes⟩):gm P o (VF P argTypes.toList args.toList):=by
 unfold VF;split
 ·rename_i t uZ
  have NP:argTypes[0]? = some t:=by rw [<- Array.getElem?_toList,uZ]; rfl
  split
  ·rename_i kt et hu
   intro ρ A B base w ev cE v hs he hf;have hm:=he.map;unfold Zv at hf;split at hf
   ·rename_i e1
    simp at hf;obtain ⟨rfl,rfl⟩:=hf;rw [e1] at hm;obtain ⟨m',r1,e2,ZS,hm⟩:=hm.cons_inv;have:=hm.b5;subst this;have e4:args.map cE = #[m']:=by apply Array.ext'; simpa using e2
    have:=ZS.G6;subst this;refine ⟨ρ,kh,.value kh,w,?_,rfl,VR.of_flat yD,.refl hs⟩;simp [execOp,ho,resolve,invoke,builtin,e4,Builtin.clear_,NP,bq hu,kh]
   ·rename_i r e1
    rw [e1] at hm;obtain ⟨m',r1,e2,ZS,hm⟩:=hm.cons_inv;have:=hm.b5;subst this;have e4:args.map cE = #[m']:=by apply Array.ext'; simpa using e2
    obtain ⟨lc,hl,rfl⟩:=ZS.OQ;split at hf
    ·rename_i es hg
     simp at hf;obtain ⟨rfl,rfl⟩:=hf;obtain ⟨l2,kT,ji⟩:=hs.rel.map _ _ hg;rw [hl] at kT; simp at kT; subst kT;obtain ⟨bh,clock,qP,VQ⟩:=ji.lG;refine ⟨ρ,kh,.value kh,_,?_,rfl,VR.of_flat yD,CQ (Fm:=#[]) (EY:=clock) hs hg hl rfl⟩;simp [execOp,ho,resolve,invoke,builtin,e4,Builtin.clear_,NP,bq hu,MapKept.run_getObj_map qP,MapKept.run_setObj_map _ qP,kh]
    ·simp at hf
   ·simp at hf
  ·rename_i e hu
   split
   ·rename_i z hz
    cases hzc:(flat z&&Nat.ble 1 z.cells.size) with
    | false=>exact True.intro
    | true=>
     rw [aj];obtain ⟨Ky,Cz⟩:=Bool.and_eq_true_iff.1 hzc;have Cz:=dX Cz;intro ρ A B base w ev cE v hs he hf;have hm:=he.map;unfold acG at hf;split at hf
     ·rename_i n c e1
      simp at hf;obtain ⟨rfl,rfl⟩:=hf;rw [e1] at hm;obtain ⟨m',r1,e2,ZS,hm⟩:=hm.cons_inv;have:=hm.b5;subst this;have e4:args.map cE = #[m']:=by apply Array.ext'; simpa using e2
      have:=ZS.fV;subst this;refine ⟨ρ,kh,.value kh,w,?_,rfl,VR.of_flat yD,.refl hs⟩;simp [execOp,ho,resolve,invoke,builtin,e4,Builtin.clear_,NP,bq hu,kh]
     ·rename_i a n c e1
      rw [e1] at hm;obtain ⟨m',r1,e2,ZS,hm⟩:=hm.cons_inv;have:=hm.b5;subst this;have e4:args.map cE = #[m']:=by apply Array.ext'; simpa using e2
      obtain ⟨FW,G4,lc,a',c',hl,vq,KB,mI,rfl⟩:=ZS.lC;cases hn:Nat.beq n 0 with
      | true=>
       rw [hn] at hf;simp at hf;obtain ⟨rfl,rfl⟩:=hf;have:=aK hn;subst this;refine ⟨ρ,kh,.value kh,w,?_,rfl,VR.of_flat yD,.refl hs⟩;simp [execOp,ho,resolve,invoke,builtin,e4,Builtin.clear_,NP,bq hu,kh]
      | false=>
       rw [hn,aI] at hf;have hn0:=Nat.ne_of_beq_eq_false hn;obtain ⟨B',gY,hf⟩:=ck.1 hf;simp at hf;obtain ⟨rfl,rfl⟩:=hf;obtain ⟨w',h5,h6⟩:=EU (P:=P) hs gY hl ((JL Ky).repeat n);have:=KB (by omega);subst this;have e5:Builtin.zeroCells z.cells n=⟨fw z.cells.toList n⟩:=Sd z.cells n Cz;refine ⟨ρ,kh,.value kh,w',?_,rfl,VR.of_flat yD,h6⟩;obtain ⟨m,rfl⟩:=Nat.exists_eq_succ_of_ne_zero hn0;simp [execOp,ho,resolve,invoke,builtin,e4,Builtin.clear_,NP,bq hu,Qp hz,e5,h5,kh]
     ·simp at hf
   ·trivial
  ·trivial
 ·trivial
theorem anh {argTypes:Array TypeId} {args:Array Operand} (ho:o.op = .call ⟨.builtin .len,args,argTypes⟩):gm P o (YX P argTypes.toList args.toList):=by
 unfold YX;split
 ·rename_i t et
  have uZ:argTypes[0]? = some t:=by rw [<- Array.getElem?_toList,et]; rfl
  split
  ·rename_i e hu; exact akh ho uZ hu
  ·rename_i hu; exact ahv ho uZ hu
  ·rename_i kt et' hu
   intro ρ A base w ev cE v hs he hf;have hm:=he.map;unfold ae6 at hf;split at hf
   ·rename_i e1
    rw [e1] at hm;obtain ⟨y,ys,e2,h1,h2⟩:=hm.cons_inv;have:=h2.b5;subst this;simp at hf; subst hf;have:=h1.G6;subst this;refine ⟨_,VR.of_flat rfl,?_⟩;have e3:(args.map cE)[0]? = some (.map none):=by rw [oQ,e2]; rfl
    simp [execOp,ho,resolve,invoke,builtin,Builtin.len_,uZ,e3,bq hu,goInt]
   ·rename_i r e1
    rw [e1] at hm;obtain ⟨y,ys,e2,h1,h2⟩:=hm.cons_inv;have:=h2.b5;subst this;obtain ⟨lc,hl,rfl⟩:=h1.OQ;split at hf
    ·rename_i es hg
     simp at hf; subst hf;obtain ⟨l2,kT,ji⟩:=hs.map _ _ hg;rw [hl] at kT; simp at kT; subst kT;obtain ⟨bh,clock,qP,VQ⟩:=ji.lG;refine ⟨_,VR.of_flat rfl,?_⟩;have e3:(args.map cE)[0]? = some (.map (some lc.cb)):=by rw [oQ,e2]; rfl
     have dS:bh.size=es.length:=by rw [<- Array.length_toList,VQ.length]
     simp [execOp,ho,resolve,invoke,builtin,Builtin.len_,uZ,e3,bq hu,goInt,MapKept.run_getObj_map qP,dS]
    ·simp at hf
   ·simp at hf
  ·trivial
 ·trivial
end
end Go.aG
end
section
namespace Go.aG
open Go
section
variable {P:Program} {o:Oper}
theorem adS {l:List UInt8} : ∀ {cs:List Value},JH cs=some l->cs=kF l:=by
 intro cs
 induction cs generalizing l with
 | nil=>intro h; simp [JH] at h; subst h; rfl
 | cons c cs ih=>
  intro h;cases c with
  | int k n=>
   cases k <;> cases n <;> simp only [JH] at h <;> try (simp at h; done)
   rename_i m;cases hb:Nat.blt m 256 with
   | false=>rw [hb] at h; simp at h
   | true=>
    rw [hb,aj] at h;obtain ⟨r,hr,rfl⟩:=ck.1 h;rw [bF] at hb;rw [ih hr];simp only [kF,List.map_cons,List.cons.injEq,and_true];have:(UInt8.ofNat m).toNat=m:=by simp; omega
    rw [this];rfl
  | _=>simp [JH] at h
theorem ace {ρ:Ren} (l:List UInt8):dA ρ (kF l) (kF l):=by
 induction l with
 | nil=>exact .nil
 | cons x l ih=>exact .cons (by simp [VR]) ih
theorem OS:∀ (l:List UInt8),yA (kF l)=true
 | []=>rfl
 | x::l=>by show (true&&yA (kF l))=true; rw [OS l]; rfl
theorem ZT {e:TypeId} (h:isByte P e=true):P.underlying e=some (.int .u8):=by
 unfold isByte at h;split at h
 ·rename_i h'; exact h'
 ·simp at h
theorem Yw {ρ:Ren} {A:St} {base:Nat} {w:World} {cs bL:List Value} {c:Array Value} {n aP f:Nat} {fr:Nat×Nat} (T:TypeId) (ZK:n=1) (hs:vm ρ A base w) (hc:dA ρ cs bL) (h1:∀ v∈cs,scalar v=true)
  (ZO:∀ (j:Nat) (v:Value),bL[j]? = some v->c[j]? = some v) (dS:cs.length<=c.size) (hfr:c.size<=fr.1) :
  iU base ρ A w (ρ.set A.next ⟨w.heap.size,0,c.size,n⟩) (A.grow aP f cs n) (w.alloc (.cells c T fr)):=by
 refine H0 (o:=.row cs n true (some (aP,f))) hs (fun x=>Lx _ _ _ _ _ _) (fun g x h=>?_) (fun g f' h=>?_) (by simp [St.grow]) (by simp [St.grow]) (fun x hx _=>by rw [Lx,aa (by omega)]) rfl ?_
 ·rw [AD]; split
  ·rename_i e; subst e; simp [h]
  ·exact h
 ·simp [ct.lF] at h; rw [AD,h.1]; simp
 ·refine ⟨fun i v hi=>?_,fun h=>by simp at h,fun _=>hs.size,fun _ j hj=>?_,by simpa using dS,fun _ h=>by simp at h,rfl,by simp,fun _ h=>absurd ZK h⟩
  ·obtain ⟨v',h2,h3⟩:=hc.get hi
   refine ⟨v',?_,h3.mono (hs.EV _),h1 v (gh hi)⟩;rw [ba,World.cell?_alloc_mark];exact ZO i v' h2
  ·simp only at hj ⊢
   rw [World.cell?_alloc_mark];refine ⟨?_,?_⟩
   ·rw [Array.getElem?_eq_getElem (by omega)]
    rfl
   ·have:(w.alloc (.cells c T fr)).heap[w.heap.size]? = some (.cells c T fr):=by
     show (w.heap.push (.cells c T fr))[w.heap.size]? = _;simp
    simp only [World.frozen?,this];have z7 : ¬ (fr.1<=j):=by omega
    simp [z7]
theorem VS {ρ:Ren} {A:St} {base:Nat} {w:World} {src dst e:TypeId} {x x' v:Value} (hs:Rel ρ A.get A.members base w) (h1:P.underlying src=some (.slice e)) (h2:P.underlying dst=some .string) (he:P.underlying e=some (.int .u8))
  (hx:VR ρ x x') (h:HW A [x] = some v):VR ρ v v/\(convert src dst x').run P w = .ok v w:=by
 unfold HW at h;split at h
 ·rename_i n c e1
  simp at e1; subst e1;simp at h; subst h;have:=hx.fV;subst this;refine ⟨VR.of_flat rfl,?_⟩;rw [run_convert_bytes_string w src dst e none n c h1 he h2];rfl
 ·rename_i a n c e1
  simp at e1; subst e1;obtain ⟨l,hl,rfl⟩:=ck.1 h;obtain ⟨cs,Kz,hb⟩:=cC.1 hl;have:=adS hb;subst this;obtain ⟨FW,G4,lc,a',c',kC,vq,KB,mI,rfl⟩:=hx.lC;obtain ⟨bL,q1,q2,q3,q4⟩:=zc (P:=P) hs Kz kC;have alx:bL=kF l:=q1.qD (OS l);subst alx;have hlen:l.length=n:=by simpa [kF] using q2
  refine ⟨VR.of_flat rfl,?_⟩;rw [run_convert_bytes_string w src dst e (some a') n c' h1 he h2];have F1:(loadCells a' n).run P w = .ok (kF l).toArray w:=by
   by_cases hc:c' = 0
   ·have hn0:n=0:=by omega
    subst hn0;have:l = []:=List.eq_nil_of_length_eq_zero hlen;subst this;exact run_loadCells_list w a' [] (by simp)
   ·rw [KB hc]; exact q4
  have wB:kF l=(l.map (fun b=>(b.toNat:Int))).map (Value.int .u8):=by simp [kF]
  rw [wB] at F1;rw [run_bytesToString w a' n c' _ F1,foldl_push_byteCells];have ZU:ByteArray.empty.data = #[]:=rfl;rw [ZU];simp
 ·simp at h
theorem VT {ρ:Ren} {A B:St} {base:Nat} {w:World} {src dst e:TypeId} {x x' v:Value} (hs:vm ρ A base w) (h1:P.underlying src=some .string) (h2:P.underlying dst=some (.slice e)) (he:P.underlying e=some (.int .u8))
  (hx:VR ρ x x') (h:MG A [x] = some (v,B)):∃ aF v' w',(convert src dst x').run P w = .ok v' w'/\VR aF v v'/\iU base ρ A w aF B w':=by
 unfold MG at h;split at h
 ·rename_i s e1
  simp at e1; subst e1;simp at h;obtain ⟨rfl,rfl⟩:=h;have:=hx.rj;subst this;have hr:=run_bytes_of_string (P:=P) w src dst e s h1 h2 he;have hge:=grownCap_ge w s.size 0 e;have hds:s.data.size=s.size:=rfl;have MJ:(bytesRow s (grownCap w s.size 0 e)).size=grownCap w s.size 0 e:=by
   unfold bytesRow;simp [hds];omega
  have hdr:=iU.drew (w:=w) hs;have HZ:=Yw (w:=w.drew) (n:=1) (aP:=A.next) (f:=0) (c:=bytesRow s (grownCap w s.size 0 e)) (fr:=((bytesRow s (grownCap w s.size 0 e)).size,(bytesRow s (grownCap w s.size 0 e)).size+1)) e rfl hdr.fT
   (ace s.data.toList) (fun v hv=>by
    obtain ⟨b,_,rfl⟩:=GY.1 hv;rfl) (fun j v hj=>by
    unfold bytesRow;have bj:j < s.data.size:=by
     have:=(cG.1 hj).1;simpa [kF] using this
    rw [Array.getElem?_append_left (by simpa using bj)];simpa [kF] using hj) (by rw [MJ]; simp [kF,hds]; exact hge) (aB _)
  refine ⟨_,_,_,hr,?_,hdr.trans HZ⟩;simp only [VR];refine ⟨trivial,aB _,_,⟨w.heap.size,0,none⟩,grownCap w s.size 0 e,Ren.fG _ _ _,hge,fun _=>rfl,?_,rfl⟩;rw [MJ];show 0+0+grownCap w s.size 0 e * 1<=grownCap w s.size 0 e;omega
 ·simp at h
theorem aly {src dst:TypeId} {x:Operand} (ho:o.op = .convert src dst x):gm P o (Fl P src dst x):=by
 unfold Fl;split
 ·rename_i e h1 h2
  cases hb:isByte P e with
  | false=>exact True.intro
  | true=>
   rw [aj];intro ρ A base w ev cE v hs he hf;obtain ⟨h3,h4⟩:=VS hs h1 h2 (ZT hb) (he x (by simp)) hf;exact ⟨v,h3,by simp [execOp,ho,h4]⟩
 ·rename_i e h1 h2
  cases hb:isByte P e with
  | false=>exact True.intro
  | true=>
   rw [aj];intro ρ A B base w ev cE v hs he hf;obtain ⟨aF,v',w',h3,h4,h5⟩:=VT hs h1 h2 (ZT hb) (he x (by simp)) hf;exact ⟨aF,v',.value v',w',by simp [execOp,ho,h3],rfl,h4,h5⟩
 ·rename_i h1 h2
  intro ρ ev cE v he hf;simp only [List.map] at hf;unfold Zw at hf;split at hf
  ·rename_i s e
   simp at e hf;subst hf;have hx:=he x (by simp);rw [e] at hx;refine ⟨_,VR.of_flat rfl,fun w=>?_⟩;simp [execOp,ho,convert,bq h1,bq h2,hx.rj]
  ·simp at hf
 ·exact afa ho
theorem acf {ρ:Ren} {A:St} {base:Nat} {w:World} {r:Nat} {s:List UInt8} {pos TN:Nat} {l:Loc} (hs:vm ρ A base w) (hg:A.get r=some (.iter s pos)) (kC:ρ r=some l) :
  iU base ρ A w ρ (A.put r (.iter s TN)) { w with heap:=w.heap.setIfInBounds l.cb (.stringIter ⟨⟨s⟩⟩ TN) }:=by
 obtain ⟨l',uY,ok⟩:=hs.rel.iter _ _ _ hg;rw [kC] at uY; simp at uY; subst uY;obtain ⟨NQ,qP⟩:=ok.lG;have bj:l.cb < w.heap.size:=(rV.1 qP).1;have KG:ct.eF (.iter s pos)=true:=rfl;have hold:∀ k,k≠l.cb->(w.heap.setIfInBounds l.cb (.stringIter ⟨⟨s⟩⟩ TN))[k]? = w.heap[k]?:=fun k hk=>by
  rw [Array.getElem?_setIfInBounds_ne (Ne.symm hk)]
 have dS:(w.heap.setIfInBounds l.cb (.stringIter ⟨⟨s⟩⟩ TN)).size=w.heap.size:=by simp
 have hB:∀ x,(A.put r (.iter s TN)).get x=if x=r then some (.iter s TN) else A.get x:=fun x=>St.bA _ _ _ _;have hmd:∀ o:ct,o.eF=true->o≠.dead:=by intro o h e; subst e; simp [ct.eF] at h
 have Ri:∀ x o l2,x≠r->A.get x=some o->o≠.dead->ρ x=some l2->Kw ρ base w l2 o->l2.cb≠l.cb:=by
  intro x o l2 hx jv hd yy ji e;cases ZR:o.eF with
  | true=>
   obtain ⟨_,_,_,_,e1,_⟩:=hs.rel.apart x r o _ l2 l hx jv hg ZR KG yy kC e;simp [ct.lF] at e1
  | false=>
   cases o with
   | row cs bp own bK=>
    have ji:sf ρ base w l2 cs bp own bK:=ji;have h1:own=false:=ZR;have:=ji.xi h1;have:=ok.eF;omega
   | map _=>simp [ct.eF] at ZR
   | iter _ _=>simp [ct.eF] at ZR
   | dead=>exact hd rfl
   | loop _ _ _ _ _ _=>simp [ct.eF] at ZR
 refine ⟨⟨.EW ?_ ?_ ?_,fun b l2 h=>hs.jI b l2 h,by simpa using hs.size,hs.HX⟩,fun _ _=>rfl,⟨rfl,rfl,rfl,Nat.le_of_eq dS.symm,fun k hk hn=>hold k (fun e=>hn ⟨r,_,l,hg,KG,kC,e.symm⟩)⟩,aB _,Nat.min_le_left _ _,fun x hx hxl=>?_,?_⟩
 ·intro x o jv hd
  rw [hB] at jv;split at jv
  ·rename_i e; subst e; simp at jv; subst jv
   refine ⟨l,kC,ok.eF,NQ,?_⟩;show (w.heap.setIfInBounds l.cb (.stringIter ⟨⟨s⟩⟩ TN))[l.cb]? = _;rw [Array.getElem?_setIfInBounds_self_of_lt bj]
  ·rename_i e
   obtain ⟨l2,yy,ji⟩:=hs.rel.obj jv hd;exact ⟨l2,yy,ji.dP (Ren.le_refl _) (hold _ (Ri x o l2 e jv hd yy ji)) (Nat.le_of_eq dS.symm)⟩
 ·have Oj:∀ x o,(A.put r (.iter s TN)).get x=some o->o.eF=true->∃ o',A.get x=some o'/\o'.eF=true/\o'.lF=o.lF:=by
   intro x o hx hm;rw [hB] at hx;split at hx
   ·rename_i e; subst e; simp at hx; subst hx; exact ⟨_,hg,rfl,rfl⟩
   ·exact ⟨o,hx,hm,rfl⟩
  intro b1 b2 o1 o2 l1 l2 cH g1 g2 m1 m2 r1 r2 Cy;obtain ⟨p1,q1,n1,k1⟩:=Oj _ _ g1 m1;obtain ⟨p2,q2,n2,k2⟩:=Oj _ _ g2 m2;rw [<- k1,<- k2];exact hs.rel.apart b1 b2 p1 p2 l1 l2 cH q1 q2 n1 n2 r1 r2 Cy
 ·intro x o aP f jv hk
  rw [hB] at jv;split at jv
  ·rename_i e; subst e; simp at jv; subst jv; simp [ct.lF] at hk
  ·exact hs.rel.cY x o aP f jv hk
 ·rw [St.Zy] at hxl
  have:Nat.min A.low r<=r:=Nat.min_le_right _ _;rw [hB,aa (by omega)]
 ·rintro k hk ⟨x,o,l2,jv,hm,yy,rfl⟩
  rw [hB] at jv;split at jv
  ·rename_i e; subst e
   rw [kC] at yy; simp at yy; subst yy;exact ⟨x,_,l,hg,KG,kC,rfl⟩
  ·exact ⟨x,o,l2,jv,hm,yy,rfl⟩
theorem akm {t:TypeId} {x:Operand} (ho:o.op = .range t x):gm P o (VG P t x):=by
 unfold VG;split
 ·rename_i hu
  intro ρ ev cE obj mk he hf;simp only [List.map] at hf;unfold aiX at hf;split at hf
  ·rename_i s e
   simp at e;have hx:=he x (by simp);rw [e] at hx;have hx:=hx.rj;simp at hf;obtain ⟨rfl,rfl⟩:=hf;refine ⟨.stringIter s 0,fun n=>.pointer (some ⟨n,0,none⟩),?_,fun w=>?_,fun aF n cb h=>VR.BM (a:=⟨n,0,none⟩) rfl h⟩
   ·show Obj.stringIter s 0 = .stringIter ⟨⟨s.data.toList⟩⟩ 0
    rfl
   ·simp [execOp,ho,Instr.range,bq hu,hx]
  ·simp at hf
 ·trivial
theorem LD {w:World} {r:Nat} {s:ByteArray} {pos:Nat} (hb:w.heap[r]? = some (.stringIter s pos)):(getObj r).run P w = .ok (.stringIter s pos) w:=by
 simp [getObj,Sem.run,hb]
theorem VU {w:World} {r:Nat} {s:ByteArray} {pos:Nat} (o:Obj) (hb:w.heap[r]? = some (.stringIter s pos)):(setObj r o).run P w = .ok () { w with heap:=w.heap.setIfInBounds r o }:=by
 simp [setObj,Sem.run,hb]
theorem alz {it:Operand} {b:Bool} (ho:o.op = .next it b):gm P o (cond b (.act aho [it]) .bad):=by
 cases b with
 | false=>trivial
 | true=>
  rw [aj];intro ρ A B base w ev cE v hs he hf;simp only [List.map] at hf;unfold aho at hf;split at hf
  ·rename_i a e
   simp at e;have hx:=he it (by simp);rw [e] at hx;obtain ⟨FW,l,hl,hx⟩:=hx.hD;cases ha0:Nat.beq a.off 0 with
   | false=>rw [ha0] at hf; simp at hf
   | true=>
    rw [ha0,aj] at hf;have ha0:=aK ha0;split at hf
    ·rename_i s pos hg
     obtain ⟨l2,kT,ok⟩:=hs.rel.iter _ _ _ hg;rw [hl] at kT; simp at kT; subst kT;obtain ⟨NQ,qP⟩:=ok.lG;have dS:(⟨⟨s⟩⟩:ByteArray).size=s.length:=rfl;rw [NQ,ha0] at hx;cases bj:Nat.blt pos s.length with
     | true=>
      rw [bj,aj] at hf;rw [bF] at bj;split at hf;rename_i c width apo;simp at hf;obtain ⟨rfl,rfl⟩:=hf;refine ⟨ρ,.tuple #[.bool true,.int .i64 (Int.ofNat pos),.int .i32 c],.value _,_,?_,rfl,VR.of_flat rfl,acf (TN:=pos+width) hs hg hl⟩;simp [execOp,ho,Instr.next,hx,LD qP,dS,bj,apo,VU _ qP,goInt]
     | false=>
      rw [bj,aI] at hf;have hge : ¬ pos < s.length:=fun h=>by rw [<- bF] at h; rw [h] at bj; simp at bj
      simp at hf;obtain ⟨rfl,rfl⟩:=hf;refine ⟨ρ,.tuple #[.bool false],.value _,w,?_,rfl,VR.of_flat rfl,.refl hs⟩;simp [execOp,ho,Instr.next,hx,LD qP,dS,hge]
    ·simp at hf
  ·simp at hf
theorem rl (P:Program) (o:Oper):gm P o (compile P o.op):=by
 cases ho:o.op with
 | move x=>exact alo ho
 | assign x=>exact ahr ho
 | pick c a b=>exact alp ho
 | alloc t=>exact akb ho
 | box t x=>exact anc ho
 | build t parts=>exact akg ho
 | buildSlice t len parts=>exact ZG ho
 | load t a=>exact alq ho
 | store t a x=>exact akc ho
 | nilCheck x=>exact adM ho
 | binOp op t x y yt=>exact ane ho
 | unOp op t x=>exact aoH ho
 | convert src dst x=>exact aly ho
 | makeFunc fn first cap=>exact adN ho
 | fieldAddr s x f=>exact ab9 ho
 | field t x f=>exact akd ho
 | indexAddr t x ix=>exact aca ho
 | index t x ix=>exact ake ho
 | extract t i=>exact afb ho
 | slice t x lo hi mx=>exact ok_slice ho
 | makeSlice t l c=>exact acd ho
 | makeInterface t x=>exact aki ho
 | range t x=>exact akm ho
 | next it b=>exact alz ho
 | makeMap t r=>exact afe ho
 | lookup t x ix ok=>exact ahx ho
 | mapUpdate t m k x=>exact Ro (.inl ho)
 | insert t m k x=>exact Ro (.inr ho)
 | call c=>
  show gm P o (CJ P c);unfold CJ;split
  ·rename_i f hf; exact als ho hf
  ·rename_i b hb
   obtain ⟨callee,args,argTypes⟩:=c;simp only at hb;subst hb;unfold JI;split
   ·exact anh ho
   ·exact anf ho
   ·exact ang ho
   ·exact ahw ho
   ·exact alw ho
   ·exact ahy ho
   ·exact akl ho
   ·trivial
  ·trivial
 | _=>trivial
end
end Go.aG
end
section
namespace Go.aG
noncomputable section
open Go
abbrev Fr (r:Option Nat):Fence:={ Fence.wide with round:=r }
def Ren.res (ρ:Ren) (n:Nat):Ren:=fun b=>if b < n then ρ b else none
theorem Ren.Y0 {ρ:Ren} {n b:Nat} (h:b < n):ρ.res n b=ρ b:=by unfold Ren.res; rw [aE h]
theorem Sa.under {ρ:Ren} {n:Nat} {fn Cx:Fn} (hu:adK n fn=true) (h:Sa ρ fn Cx):Sa (ρ.res n) fn Cx:=by
 cases fn with
 | yield r=>
  obtain ⟨l,h1,h2⟩:=h;simp only [adK] at hu;rw [bF] at hu;exact ⟨l,by rw [Ren.Y0 hu]; exact h1,h2⟩
 | _=>exact h
mutual
theorem VR.under {ρ:Ren} {n:Nat} : ∀ {v v' : Value},aG.under n v=true->VR ρ v v'->VR (ρ.res n) v v'
 | .bool b,v,_,hv=>by simpa [VR] using hv
 | .int k n,v,_,hv=>by simpa [VR] using hv
 | .float k x,v,_,hv=>by simpa [VR] using hv
 | .complex k x y,v,_,hv=>by simpa [VR] using hv
 | .string s,v,_,hv=>by simpa [VR] using hv
 | .pointer none,v,_,hv=>by simpa [VR] using hv
 | .pointer (some a),v,hu,hv=>by
  simp only [aG.under] at hu;rw [bF] at hu;simp only [VR] at hv ⊢;rw [Ren.Y0 hu];exact hv
 | .slice none n c,v,_,hv=>by simpa [VR] using hv
 | .slice (some a) n c,v,hu,hv=>by
  simp only [aG.under] at hu;rw [bF] at hu;simp only [VR] at hv ⊢;rw [Ren.Y0 hu];exact hv
 | .map none,v,_,hv=>by simpa [VR] using hv
 | .map (some r),v,hu,hv=>by
  simp only [aG.under] at hu;rw [bF] at hu;simp only [VR] at hv ⊢;rw [Ren.Y0 hu];exact hv
 | .chan _,_,_,_=>by simp [VR]
 | .func fn f c,v,hu,hv=>by
  simp only [aG.under,aq] at hu;simp only [VR] at hv ⊢;obtain ⟨f',c',h2,h3,Cx,h4,h5⟩:=hv;exact ⟨f',c',uX.under hu.1.2 h2,uX.under hu.2 h3,Cx,Sa.under hu.1.1 h4,h5⟩
 | .nilFunc,v,_,hv=>by simpa [VR] using hv
 | .iface t x,v,hu,hv=>by
  simp only [aG.under] at hu;simp only [VR] at hv ⊢;obtain ⟨x',h2,h3⟩:=hv;exact ⟨x',VR.under hu h2,h3⟩
 | .nilIface,v,_,hv=>by simpa [VR] using hv
 | .agg cs,v,hu,hv=>by
  simp only [aG.under] at hu;simp only [VR] at hv ⊢;obtain ⟨x',h2,h3⟩:=hv;exact ⟨x',uX.under hu h2,h3⟩
 | .tuple cs,v,hu,hv=>by
  simp only [aG.under] at hu;simp only [VR] at hv ⊢;obtain ⟨x',h2,h3⟩:=hv;exact ⟨x',uX.under hu h2,h3⟩
theorem uX.under {ρ:Ren} {n:Nat} : ∀ {v v' : Array Value},aG.Qm n v=true->uX ρ v v'->uX (ρ.res n) v v'
 | ⟨l⟩,a,hu,hv=>by simp only [aG.Qm] at hu; simp only [uX] at hv ⊢; exact dA.under hu hv
theorem dA.under {ρ:Ren} {n:Nat} : ∀ {v v' : List Value},aG.YY n v=true->dA ρ v v'->dA (ρ.res n) v v'
 | [],l,_,hv=>by simpa [dA] using hv
 | x::xs,l,hu,hv=>by
  simp only [aG.YY,aq] at hu;simp only [dA] at hv ⊢;obtain ⟨y,ys,e,h1,h2⟩:=hv;exact ⟨y,ys,e,VR.under hu.1 h1,dA.under hu.2 h2⟩
end
theorem ML {acc:List Nat} {j:Nat} : ∀ {es:List Edge},Nat.testBit (wy acc es) j=true->∃ e∈es,binds e=true/\(j=e.on\/oE acc e.on j=true)
 | [],h=>by simp [wy] at h
 | e::es,h=>by
  simp only [wy] at h;cases hb:binds e with
  | false=>
   rw [hb,aI] at h;obtain ⟨e',h1,h2⟩:=ML h;exact ⟨e',by simp [h1],h2⟩
  | true=>
   rw [hb,aj] at h;have e1:∀ a b:Nat,Nat.lor a b=a ||| b:=fun _ _=>rfl;have e2:Nat.shiftLeft 1 e.on=1 <<< e.on:=rfl;rw [e1,e1,e2,Nat.testBit_or,Nat.testBit_or,u7,u7] at h;rcases h with (h | h) | h
   ·refine ⟨e,by simp,hb,.inl ?_⟩
    rw [Nat.one_shiftLeft,Nat.testBit_two_pow] at h;exact (Qh h).symm
   ·exact ⟨e,by simp,hb,.inr h⟩
   ·obtain ⟨e',h1,h2⟩:=ML h
    exact ⟨e',by simp [h1],h2⟩
theorem Xv:∀ (os:List Oper) (acc:List Nat),∃ r,dE acc os=acc++r/\r.length=os.length
 | [],acc=>⟨[],by simp [dE]⟩
 | o::os,acc=>by
  obtain ⟨r,h1,h2⟩:=Xv os (acc++[wy acc o.after.toList]);exact ⟨wy acc o.after.toList::r,by simp [dE,h1],by simp [h2]⟩
theorem acI:∀ (os:List Oper) (acc:List Nat) (i j:Nat) (o:Oper),os[i]? = some o->(∀ e∈o.after.toList,binds e=true->e.on < acc.length+i)->
  oE (dE acc os) (acc.length+i) j=true->∃ e∈o.after.toList,binds e=true/\(j=e.on\/oE (dE acc os) e.on j=true)
 | [],acc,i,j,o,ho,_,_=>by simp at ho
 | o0::os,acc,0,j,o,ho,hf,h=>by
  simp at ho;subst ho;obtain ⟨r,h1,_⟩:=Xv os (acc++[wy acc o0.after.toList]);have e0:dE acc (o0::os)=acc++[wy acc o0.after.toList]++r:=by simp only [dE]; exact h1
  rw [e0] at h ⊢;have e1:(acc++[wy acc o0.after.toList]++r).getD (acc.length+0) 0=wy acc o0.after.toList:=by simp [List.getD]
  unfold oE at h;rw [e1] at h;obtain ⟨e,h2,h3,h4⟩:=ML h;refine ⟨e,h2,h3,h4.imp id fun h5=>?_⟩;have bj:=hf e h2 h3;unfold oE at h5 ⊢;have:(acc++[wy acc o0.after.toList]++r).getD e.on 0=acc.getD e.on 0:=by
   simp only [List.getD,List.append_assoc];rw [qM (by simpa using bj)]
  rw [this];exact h5
 | o0::os,acc,i+1,j,o,ho,hf,h=>by
  have hlen:(acc++[wy acc o0.after.toList]).length+i=acc.length+(i+1):=by simp; omega
  have:=acI os (acc++[wy acc o0.after.toList]) i j o (by simpa using ho) (by rw [hlen]; exact hf) (by rw [hlen]; exact h);simpa only [dE] using this
structure wD (P:Program) (all:List Oper):Prop where
 back:∀ i o,all[i]? = some o->∀ e∈o.after.toList,binds e=true->e.on < i
 apart:∀ i j x y,all[i]? = some y->all[j]? = some x->j < i->FV P all x y=true->oE (dE [] all) i j=true
theorem Rp {P:Program} {all:List Oper} {b:List Nat} {i:Nat} {y:Oper} : ∀ (xs:List Oper) (k:Nat),Lt P all b i y xs k=true->∀ (j:Nat) (x:Oper),xs[j]? = some x->k+j < i->FV P all x y=true->oE b i (k+j)=true
 | [],k,_,j,x,hx,_,_=>by simp at hx
 | x0::xs,k,h,0,x,hx,bj,hc=>by
  simp at hx;subst hx;simp only [Lt,aq,u7,lU] at h;rcases h.1 with (h1 | h1) | h1
  ·have:=dX h1; omega
  ·rw [hc] at h1; simp at h1
  ·exact h1
 | x0::xs,k,h,j+1,x,hx,bj,hc=>by
  simp only [Lt,aq] at h;have:=Rp xs (k+1) h.2 j x (by simpa using hx) (by omega) hc;rwa [show k+1+j=k+(j+1) by omega] at this
theorem BO {P:Program} {all:List Oper} {b:List Nat} : ∀ (os:List Oper) (k:Nat),AA P all b os k=true->∀ (i:Nat) (o:Oper),os[i]? = some o->
  (∀ e∈o.after.toList,binds e=true->e.on < k+i)/\Lt P all b (k+i) o all 0=true
 | [],k,_,i,o,ho=>by simp at ho
 | o0::os,k,h,0,o,ho=>by
  simp at ho;subst ho;simp only [AA,aq,fg] at h;refine ⟨fun e he hb=>?_,h.1.2⟩;have:=h.1.1 e he;rw [hb] at this;simp at this;exact this
 | o0::os,k,h,i+1,o,ho=>by
  simp only [AA,aq] at h;have:=BO os (k+1) h.2 i o (by simpa using ho);rwa [show k+1+i=k+(i+1) by omega] at this
theorem F2 {P:Program} {all:List Oper} (h:Lu P all=true):wD P all:=by
 unfold Lu at h;refine ⟨fun i o ho=>?_,fun i j x y hy hx bj hc=>?_⟩
 ·have:=(BO all 0 h i o ho).1
  simpa using this
 ·have:=Rp all 0 (BO all 0 h i y hy).2 j x hx (by simpa using bj) hc
  simpa using this
def va (all:List Oper) (S:Nat->Bool):Prop:=∀ i j,S i=true->oE (dE [] all) i j=true->S j=true
def zf (all:List Oper) (S:Nat->Bool) (i:Nat):Prop:=∀ o,all[i]? = some o->∀ e∈o.after.toList,binds e=true->S e.on=true
theorem va.ready {P:Program} {all:List Oper} (hf:wD P all) {S:Nat->Bool} (hc:va all S) {i:Nat} {o:Oper} (ho:all[i]? = some o) (hr:zf all S i):∀ j,oE (dE [] all) i j=true->S j=true:=by
 intro j hj;obtain ⟨e,h1,h2,h3⟩:=acI all [] i j o ho (by simpa using hf.back i o ho) (by simpa using hj);have hs:=hr o ho e h1 h2;rcases h3 with rfl | h3
 ·exact hs
 ·exact hc _ _ hs h3
def cQ (S:Nat->Bool) (i:Nat):Nat->Bool:=fun j=>S j||Nat.beq j i
theorem va.insert {P:Program} {all:List Oper} (hf:wD P all) {S:Nat->Bool} (hc:va all S) {i:Nat} {o:Oper} (ho:all[i]? = some o) (hr:zf all S i):va all (cQ S i):=by
 intro a b h1 h2;simp only [cQ,u7] at h1 ⊢;rcases h1 with h1 | h1
 ·exact .inl (hc a b h1 h2)
 ·have:=aK h1
  subst this;exact .inl (hc.ready hf ho hr b h2)
theorem acJ (e:Edge):Region.binds .any e=binds e:=by
 unfold Region.binds binds;cases e.ground <;> rfl
theorem Xw {all:List Oper} {cY:Array Bool} {i:Nat} (h:i∈Region.ready .any ⟨all⟩ cY):i < all.length/\cY.getD i true=false/\zf all (fun j=>cY.getD j false) i:=by
 unfold Region.ready at h;rw [List.mem_filter,G1] at h;obtain ⟨h1,h2⟩:=h;simp only [aq,lU] at h2;refine ⟨by simpa using h1,h2.1,fun o ho e he hb=>?_⟩;have e1:(⟨all⟩:Array Oper)[i]? = some o:=by simpa using ho
 rw [e1] at h2;simp only [Option.map_some,eU] at h2;have:=Array.all_eq_true'.1 h2.2 e (by simpa using he);rw [acJ,hb] at this;simpa using this
theorem ahz {P:Program} {all:List Oper} (hf:wD P all) {cY:Array Bool} (hl:cY.size=all.length) (h:Region.ready .any ⟨all⟩ cY = []):∀ i,i < all.length->cY.getD i false=true:=by
 intro i
 induction i using Nat.strongRecOn with
 | _ i ih=>
  intro hi;cases hc:cY.getD i false with
  | true=>rfl
  | false=>
   exfalso;obtain ⟨o,ho⟩:∃ o,all[i]? = some o:=⟨_,cI hi⟩
   have hm:i∈Region.ready .any ⟨all⟩ cY:=by
    unfold Region.ready;rw [List.mem_filter,G1];refine ⟨by simpa using hi,?_⟩;have e1:(⟨all⟩:Array Oper)[i]? = some o:=by simpa using ho
    rw [e1];have e2:cY.getD i true=false:=by
     have:i < cY.size:=by omega
     simpa [kR,this] using hc
    simp only [e2,JF,CF,Option.map_some,eU];rw [Array.all_eq_true'];intro e he;cases hb:binds e with
    | false=>rw [acJ,hb]; rfl
    | true=>
     have bj:=hf.back i o ho e (by simpa using he) hb;rw [ih e.on bj (by omega)];simp
   rw [h] at hm;simp at hm
theorem count_set:∀ (l:List Bool) (i:Nat),l[i]? = some false->((l.set i true).filter (!·)).length+1=(l.filter (!·)).length
 | [],i,h=>by simp at h
 | x::l,0,h=>by
  simp at h;subst h;simp
 | x::l,i+1,h=>by
  have:=count_set l i (by simpa using h);cases x <;> simp at this ⊢ <;> omega
theorem G7 {P:Program} {all:List Oper} (hf:wD P all) {Q:Exit->Act->World->Prop} (I:(Nat->Bool)->Act->World->Prop) (hI:∀ S S' a w,(∀ i,i < all.length->S i=S' i)->I S a w->I S' a w)
  (step:∀ S a w i o,I S a w->va all S->all[i]? = some o->S i=false->zf all S i->(∀ j,S j=true->j < all.length)->wpOp P ⟨all⟩ Q i (I (cQ S i)) a w)
  (fin:∀ S a w,(∀ i,i < all.length->S i=true)->I S a w->Q .normal a w) :
  ∀ (fuel:Nat) (cY:Array Bool) (a:Act) (w:World),cY.size=all.length->(cY.toList.filter (!·)).length=fuel->va all (fun j=>cY.getD j false)->I (fun j=>cY.getD j false) a w->wpAny P .any ⟨all⟩ Q fuel cY a w
 | 0,cY,a,w,hs,hn,hc,h=>by
  have qF:∀ i,i < all.length->cY.getD i false=true:=by
   intro i hi;have:i < cY.size:=by omega
   cases hb:cY.getD i false with
   | true=>rfl
   | false=>
    exfalso;have hg:cY[i] = false:=by simpa [kR,this] using hb
    have hm:cY[i]∈cY.toList.filter (!·):=by
     rw [List.mem_filter];exact ⟨by simp,by simp [hg]⟩
    rw [qL.1 hn] at hm;simp at hm
  refine ⟨?_,fin _ a w qF h⟩;cases hr:Region.ready .any ⟨all⟩ cY with
  | nil=>rfl
  | cons i r=>
   have:=Xw (all:=all) (cY:=cY) (i:=i) (by rw [hr]; simp);have h1:=qF i this.1;have h2:cY.getD i true=true:=by
    have bj:i < cY.size:=by omega
    simpa [kR,bj] using h1
   rw [h2] at this;simp at this
 | fuel+1,cY,a,w,hs,hn,hc,h=>by
  refine ⟨fun hr=>fin _ a w (ahz hf hs hr) h,fun i hi=>?_⟩;obtain ⟨bj,hl,u6⟩:=Xw hi;obtain ⟨o,ho⟩:∃ o,all[i]? = some o:=⟨_,cI bj⟩
  have TP:i < cY.size:=by omega
  have sh:cY.getD i false=false:=by simpa [kR,TP] using hl
  have NR:∀ j,j < all.length->cQ (fun j=>cY.getD j false) i j=(cY.setIfInBounds i true).getD j false:=by
   intro j hj;by_cases e:j=i
   ·subst e
    simp [cQ,kR,TP]
   ·have:Nat.beq j i=false:=by
     cases hb:Nat.beq j i with
     | false=>rfl
     | true=>exact absurd (aK hb) e
    simp [cQ,this,kR,Array.getElem?_setIfInBounds_ne (Ne.symm e)]
  refine wpOp_mono (fun a' w' h'=>?_) (step _ a w i o h hc ho sh u6 (fun j hj=>by
   rcases Nat.lt_or_ge j all.length with h1 | h1
   ·exact h1
   ·have:cY.getD j false=false:=by
     rw [kR,Array.getElem?_eq_none (by omega)];rfl
    rw [this] at hj; simp at hj))
  refine G7 hf I hI step fin fuel _ a' w' (by simpa using hs) ?_ ?_ (hI _ _ a' w' NR h')
  ·rw [Array.toList_setIfInBounds]
   have:=count_set cY.toList i (by simpa [kR,TP] using sh);omega
  ·intro x y hx hy
   have hb:∀ z,(cY.setIfInBounds i true).getD z false=true↔cQ (fun j=>cY.getD j false) i z=true:=by
    intro z;rcases Nat.lt_or_ge z all.length with h1 | h1
    ·rw [NR z h1]
    ·have e1:(cY.setIfInBounds i true).getD z false=false:=by
      rw [kR,Array.getElem?_eq_none (by simp; omega)];rfl
     have e2:cY.getD z false=false:=by
      rw [kR,Array.getElem?_eq_none (by omega)];rfl
     have e3:Nat.beq z i=false:=by
      cases hb:Nat.beq z i with
      | false=>rfl
      | true=>have:=aK hb; omega
     simp [cQ,e1,e2,e3]
   rw [hb] at hx ⊢;exact hc.insert hf ho u6 x y hx hy
def aoJ (all:List Oper) (i:Nat):Option Tmp:=(all[i]?).bind (·.dst)
end
end Go.aG
end
section
namespace Go.aG
noncomputable section
open Go
def Quiet (A0:St) (R:List Rec):Prop:=∀ r∈R,r.nx=A0.next/\(r.did = .val\/∃ f vs,r.did = .read f vs)
def lS (R:List Rec) (S:Nat->Bool):Option Nat:=alm (R.filter fun r=>S r.i)
def TQ (A0:St) (R:List Rec) (S:Nat->Bool):St:=aoF A0 R (lS R S)
def writer (all:List Oper) (R:List Rec) (S:Nat->Bool) (x:Nat):Option Rec:=R.find? fun r=>S r.i&&(aoJ all r.i==some x)
def valOf (all:List Oper) (t0:Tm) (R:List Rec) (S:Nat->Bool) (x:Nat):Value:=
 match writer all R S x with
 | some r=>r.v
 | none=>(t0.get x).getD undef
def apq (all:List Oper) (A0:St) (R:List Rec) (S:Nat->Bool) (x:Nat):Nat:=
 match writer all R S x with
 | some r=>r.nx
 | none=>A0.next
structure Inv (all:List Oper) (A0:St) (t0:Tm) (R:List Rec) (N:Nat) (d0:List Deferred) (base:Nat) (VV:Ren) (w0:World) (S:Nat->Bool) (a:Act) (w:World) (ρ:Ren):Prop where
 size:a.tmps.size=N
 defers:a.defers=d0
 tm:∀ x,VR (ρ.res (apq all A0 R S x)) (valOf all t0 R S x) (a.tmps.getD x undef)
 core:iU base VV A0 w0 (ρ.res (TQ A0 R S).next) (TQ A0 R S) w
 news:∀ r∈R,S r.i=true->∀ id o,r.did = .make id o->alk (dE [] all) (lS R S) r.i=false->
  ∃ c cb,ρ id=some (ZA o cb)/\ZB (ρ.res r.nx) o c/\w.heap[cb]? = some c/\w0.heap.size<=cb/\¬ Img (ρ.res (TQ A0 R S).next) (TQ A0 R S) cb
 newsApart:∀ r∈R,∀ s∈R,S r.i=true->S s.i=true->∀ id o id' o',r.did = .make id o->s.did = .make id' o'->alk (dE [] all) (lS R S) r.i=false->alk (dE [] all) (lS R S) s.i=false->
  r.i≠s.i->∀ l l',ρ id=some l->ρ id' = some l'->l.cb≠l'.cb
 unborn:∀ r∈R,S r.i=false->∀ id o,r.did = .make id o->ρ id=none
 jI:∀ bl l,ρ bl=some l->bl < (TQ A0 R S).next\/∃ r∈R,S r.i=true/\∃ o,r.did = .make bl o
section
variable {P:Program} {call:VH} {all:List Oper} {A0:St} {t0:Tm} {R:List Rec} {N:Nat} {d0:List Deferred} {base:Nat} {VV:Ren} {w0:World}
theorem ky {x:Nat} : ∀ {xs:List Operand},Operand.tmp x∈xs->x∈tQ xs
 | [],h=>by simp at h
 | .tmp t::xs,h=>by
  rcases de.1 h with h | h
  ·simp at h; subst h; simp [tQ]
  ·simp [tQ,ky h]
 | .const _::xs,h=>by
  rcases de.1 h with h | h
  ·simp at h
  ·simpa [tQ] using ky h
 | .global _::xs,h=>by
  rcases de.1 h with h | h
  ·simp at h
  ·simpa [tQ] using ky h
 | .func _::xs,h=>by
  rcases de.1 h with h | h
  ·simp at h
  ·simpa [tQ] using ky h
end
end
end Go.aG
end
section
namespace Go.aG
noncomputable section
open Go
theorem vm.dP {ρ aF:Ren} {A:St} {base:Nat} {w w' : World} (hs:vm ρ A base w) (hle:ρ.le aF) (apr:∀ b l,aF b=some l->b < A.next) (hw:∀ k,k < w.heap.size->w'.heap[k]? = w.heap[k]?) (dS:w.heap.size<=w'.heap.size):vm aF A base w':=by
 have VW:∀ b o l,A.get b=some o->o≠.dead->aF b=some l->ρ b=some l:=by
  intro b o l hg hd hr;obtain ⟨l',h1,_⟩:=hs.rel.obj hg hd;have:=hle _ _ h1;rw [hr] at this; simp at this; subst this;exact h1
 refine ⟨.EW (fun b o hg hd=>?_) ?_ hs.rel.cY,apr,gR hs.size dS,hs.HX.mono hle⟩
 ·obtain ⟨l,h1,h2⟩:=hs.rel.obj hg hd
  exact ⟨l,hle _ _ h1,h2.dP hle (hw _ (h2.lt hd)) dS⟩
 ·intro b1 b2 o1 o2 l1 l2 cH g1 g2 m1 m2 r1 r2 Cy
  exact hs.rel.apart b1 b2 o1 o2 l1 l2 cH g1 g2 m1 m2 (VW b1 o1 l1 g1 (by intro e; subst e; simp [ct.eF] at m1) r1) (VW b2 o2 l2 g2 (by intro e; subst e; simp [ct.eF] at m2) r2) Cy
section
variable {P:Program} {call:VH} {all:List Oper} {A0:St} {t0:Tm} {R:List Rec} {N:Nat} {d0:List Deferred} {base:Nat} {VV:Ren} {w0:World}
end
end
end Go.aG
end
section
namespace Go.aG
noncomputable section
open Go
theorem VR.undef {ρ:Ren} : VR ρ undef undef:=VR.of_flat (by simp [Go.undef,flat,Mu,yA])
section
variable {P:Program} {call:VH} {all:List Oper} {A0:St} {t0:Tm} {R:List Rec} {N:Nat} {d0:List Deferred} {base:Nat} {VV:Ren} {w0:World}
end
end
end Go.aG
end
section
namespace Go.aG
noncomputable section
open Go
variable {P:Program} {call:VH} {all:List Oper} {A0:St}
end
end Go.aG
end
section
namespace Go.aG
noncomputable section
open Go
theorem put_defers (a:Act) (dst:Option Tmp) (v:Value):(a.put dst v).defers=a.defers:=by cases dst <;> rfl
def ah.out:ah->Exit
 | .normal=>.normal
 | .exit id=>.exit id
 | .goto l=>.goto l
 | .ret=>.ret
def mark (D:Nat):Deferred:={ target:=.collected D,args:=#[] }
section
variable {P:Program} {b:Frame} {a:Act} {k:List Item} {cs:List Frame} {w:World}
end
def Y1 (a:Act):ResultVar->Sem Value
 | .tmp t=>pure (a.tmps.getD t undef)
 | .cell ad ty=>do loadVar ty (<- asAddr (a.tmps.getD ad undef))
theorem Xx (fn:Func) (a:Act):results fn a.tmps=(do let vs <- fn.results.mapM (Y1 a); pure (if h:vs.size=1 then vs[0] else .tuple vs)):=by
 unfold results;congr 1
theorem mi {n m:Nat} (h:n<=m):∀ (c:Code),codeOk n c=true->codeOk m c=true
 | .region id ops d,hc=>by
  simp only [codeOk,fg] at hc ⊢;intro o ho;have:=hc o ho;unfold Kt at this ⊢;split at this
  ·rename_i d e
   rw [bF] at this ⊢;omega
  ·rfl
 | .seq a b,hc=>by simp only [codeOk,aq] at hc ⊢; exact ⟨mi h a hc.1,mi h b hc.2⟩
 | .cond _ a b,hc=>by simp only [codeOk,aq] at hc ⊢; exact ⟨mi h a hc.1,mi h b hc.2⟩
 | .block _ a,hc=>mi h a hc
 | .loop a,hc=>mi h a hc
 | .rangeFunc _ ps a b,hc=>by
  simp only [codeOk,aq,fg,bF] at hc ⊢;exact ⟨fun p hp=>fa (hc.1 p hp) h,mi h a hc.2.1,mi h b hc.2.2⟩
 | .scope a,hc=>mi h a hc
 | .skip,_ | .exit _,_ | .label _,_ | .goto _,_ | .ret,_ | .refuse _,_=>rfl
def H4 (gl:List (Nat×List Value×Nat)) (b:Nat):Option Loc:=if b < gB then some (match gl.find? (fun x=>Nat.beq x.1 b) with | some x=>⟨b,0,x.2.1.length,x.2.2⟩ | none=>⟨b,0,0,0⟩) else none
theorem acg (gl:List (Nat×List Value×Nat)):ae8 (H4 gl):=fun g hg=>by
 unfold H4;rw [aE hg];split <;> exact ⟨_,rfl,rfl,rfl⟩
theorem ZV:∀ (gl:List (Nat×List Value×Nat)) (b:Nat),(VI gl).get b=match gl.find? (fun x=>Nat.beq x.1 b) with | some x=>some (.row x.2.1 x.2.2 false none) | none=>none
 | [],b=>by simp [VI]
 | (g,cs,e)::gl,b=>by
  simp only [VI,Trie.oO,List.find?_cons];cases hb:Nat.beq g b with
  | true=>simp [aK hb]
  | false=>rw [aa (fun e=>by subst e; simp at hb)]; exact ZV gl b
def ani (w:World) (gl:List (Nat×List Value×Nat)):Prop:=∀ x∈gl,x.1 < gB/\x.1 < w.heap.size/\x.2.1.all (fun v=>flat v&&scalar v)=true/\∀ i v,x.2.1[i]? = some v->w.cell? ⟨x.1,i,none⟩=some v
theorem vm.aff {w:World} {gl:List (Nat×List Value×Nat)} (h:ani w gl):vm (H4 gl) (St.HX gl) w.heap.size w:=by
 have hg:∀ b o,(St.HX gl).get b=some o->∃ x∈gl,x.1=b/\gl.find? (fun x=>Nat.beq x.1 b)=some x/\o = .row x.2.1 x.2.2 false none:=by
  intro b o e;have e:(VI gl).get b=some o:=e;rw [ZV] at e;split at e
  ·rename_i x hx
   simp at e;have:=List.find?_some hx;exact ⟨x,List.mem_of_find?_eq_some hx,aK this,hx,e.symm⟩
  ·simp at e
 refine ⟨⟨fun b cs bp own bK e=>?_,fun b es e=>?_,fun b s pos e=>?_,fun b st ex t ps c d e=>?_,fun b1 b2 o1 o2 l1 l2 _ e1 _ m=>?_,fun b o aP f e k=>?_⟩,fun b l e=>?_,aB _,acg gl⟩
 ·obtain ⟨x,hx,rfl,hf,he⟩:=hg _ _ e
  simp at he;obtain ⟨rfl,rfl,rfl,rfl⟩:=he;obtain ⟨h1,h2,h3,h4⟩:=h x hx;refine ⟨⟨x.1,0,x.2.1.length,x.2.2⟩,by unfold H4; rw [aE h1,hf],⟨fun i v hi=>?_,fun _=>h2,fun h=>by simp at h,fun h=>by simp at h,by simp,fun h=>by simp at h,rfl,h2,fun h=>by simp at h⟩⟩;have:=fg.1 h3 v (gh hi);simp only [aq] at this;exact ⟨v,by simpa using h4 i v hi,VR.of_flat this.1,this.2⟩
 ·obtain ⟨x,_,_,_,he⟩:=hg _ _ e; simp at he
 ·obtain ⟨x,_,_,_,he⟩:=hg _ _ e; simp at he
 ·obtain ⟨x,_,_,_,he⟩:=hg _ _ e; simp at he
 ·obtain ⟨x,_,_,_,he⟩:=hg _ _ e1; subst he; simp [ct.eF] at m
 ·obtain ⟨x,_,_,_,he⟩:=hg _ _ e; subst he; simp [ct.lF] at k
 ·unfold H4 at e
  split at e
  ·rename_i hb; exact hb
  ·simp at e
theorem vm.empty (w:World):vm (H4 []) St.empty w.heap.size w:=vm.aff (gl:=[]) (fun _ h=>by simp at h)
end
end Go.aG
end
section
namespace Go.K
open Go Go.aG
noncomputable section
inductive Mk where
 | any
 | exact
 | aP (b:Nat)
inductive KV where
 | int (k:IntKind) (n:Int)
 | bool (b:Bool)
 | str (s:ByteArray)
 | agg (cs:List KV)
 | ma (vs:List KV)
 | ts (T:TypeId) (m:Mk) (n:Nat) (es:List KV) (acc:Nat->KV)
 | tp (T Tc:TypeId) (i k:Nat) (es:List KV) (acc:Nat->KV)
 | al (T:TypeId) (b o n:Nat)
 | ap (T Tc:TypeId) (b i k:Nat)
 | ptr (b off:Nat)
 | sl (b off len cap:Nat)
 | GF
 | kl
 | CR
 | map (b:Nat)
 | fn (f:Fn) (first cap:List KV)
 | H5
 | iface (t:TypeId) (v:KV)
 | H6
 | bf
instance:Inhabited KV:=⟨.bf⟩
inductive gT where
 | row (cs:List KV) (bp:Nat)
 | map (es:List (KV×KV))
 | aP (top sz:Nat)
 | arr (v:KV)
 | iA (v:KV)
 | dead
structure ae where
 heap:Trie gT
 next:Nat
def ae.empty:ae:=⟨.leaf,0⟩
def ae.get (A:ae) (b:Nat):Option gT:=A.heap.get b
def ae.new (A:ae) (o:gT):ae:=⟨A.heap.set o A.next,Nat.succ A.next⟩
def ae.put (A:ae) (b:Nat) (o:gT):ae:=⟨A.heap.set o b,A.next⟩
abbrev bd:=Trie KV
def iD {α:Type} : List (Nat×α)->Trie α
 | []=>.leaf
 | p::ps=>(iD ps).set p.2 p.1
def KV.cells:KV->List KV
 | .agg cs=>cs
 | v=>[v]
def one:KV->Bool
 | .agg _ | .ma _ | .bf=>false
 | _=>true
def tT:KV:=.ma []
inductive KR (α:Type) where
 | no
 | ok (v:α)
 | jJ (c:Bool) (v:α)
 | br (c:Bool) (x y:KR α)
def KR.run {α R:Type} (r:KR α) (k:α->Option R):Option R:=
 KR.rec (motive:=fun _=>Option R) none (fun v=>k v) (fun c v=>Bool.rec (motive:=fun _=>Option R) none (k v) c) (fun c _ _ rx ry=>Bool.rec (motive:=fun _=>Option R) ry rx c) r
def KR.map {α β:Type} (f:α->β):KR α->KR β
 | .no=>.no
 | .ok v=>.ok (f v)
 | .jJ c v=>.jJ c (f v)
 | .br c x y=>.br c (x.map f) (y.map f)
def KR.of {α:Type} : Option α->KR α
 | some v=>.ok v
 | none=>.no
inductive CK where
 | int (k:IntKind)
 | bool
 | str
 | slice (t:TypeId)
 | other
structure Lay where
 agg:Bool
 ks:List CK
def dj {α:Type} (l:List α):Nat->List α
 | 0=>[]
 | n+1=>l++dj l n
def OT (f:TypeId->Option Lay):List Field->Nat->Option (List CK)
 | [],_=>some []
 | fd::fs,off=>cond (Nat.beq fd.offset off) ((f fd.type).bind fun l=>(OT f fs (off+l.ks.length)).map fun r=>l.ks++r) none
def lay (P:Program):Nat->TypeId->Option Lay
 | 0,_=>none
 | n+1,t=>match P.underlying t with
  | some (.int k)=>some ⟨false,[.int k]⟩
  | some .bool=>some ⟨false,[.bool]⟩
  | some .string=>some ⟨false,[.str]⟩
  | some (.slice e)=>some ⟨false,[.slice e]⟩
  | some (.struct fs)=>(OT (lay P n) fs.toList 0).map fun ks=>⟨true,ks⟩
  | some (.array len e)=>(lay P n e).map fun l=>⟨true,dj l.ks len⟩
  | some _=>some ⟨false,[.other]⟩
  | none=>none
def aQ (P:Program) (t:TypeId):Lay:=(lay P 12 t).getD ⟨false,[]⟩
def kindOk:CK->KV->Bool
 | .int k,.int k' _=>decide (k=k')
 | .bool,.bool _=>true
 | .str,.str _=>true
 | .slice t,.ts t' .any _ _ _=>Nat.beq t t'
 | _,_=>false
def aD:List CK->List KV->Bool
 | [],[]=>true
 | k::ks,v::vs=>kindOk k v&&aD ks vs
 | _,_=>false
def cw (l:Lay):KV->Bool
 | .agg cs=>l.agg&&aD l.ks cs
 | .ma _=>false
 | v=>!l.agg&&aD l.ks [v]
def dH (l:Lay):List KV->Bool
 | []=>true
 | e::es=>cw l e&&dH l es
def av:KV->Int
 | .int _ n=>n
 | _=>0
def fh:KV->Bool
 | .bool b=>b
 | _=>false
def strOf:KV->ByteArray
 | .str s=>s
 | _=>ByteArray.empty
def aps:KV->List KV
 | .ts _ _ _ es _=>es
 | _=>[]
def lenOf:KV->Nat
 | .ts _ _ n _ _=>n
 | _=>0
def z8:KV->Nat->KV
 | .ts _ _ _ _ acc=>acc
 | _=>fun _=>.bf
def leaf (c:CK) (v:KV):KV:=
 CK.rec (motive:=fun _=>KV) (fun k=>.int k (av v)) (.bool (fh v)) (.str (strOf v)) (fun t=>.ts t .any (lenOf v) (aps v) (z8 v)) v c
def leaves (e:KV):List CK->Nat->List KV
 | [],_=>[]
 | c::cs,k=>leaf c (e.cells.getD k .bf)::leaves e cs (Nat.succ k)
def Om (agg:Bool) (cs:List KV):KV:=Bool.rec (motive:=fun _=>KV) (cs.headD .bf) (.agg cs) agg
def MM:List CK->Bool
 | []=>true
 | .other::_=>false
 | _::cs=>MM cs
mutual
def fy:Value->KV
 | .bool b=>.bool b
 | .int k n=>.int k n
 | .string s=>.str s
 | .pointer none=>.GF
 | .slice none 0 0=>.kl
 | .map none=>.CR
 | .nilFunc=>.H5
 | .nilIface=>.H6
 | .agg cs=>.agg (ofA cs)
 | .tuple cs=>.ma (ofA cs)
 | _=>.bf
def ofA:Array Value->List KV
 | ⟨l⟩=>ofL l
def ofL:List Value->List KV
 | []=>[]
 | v::vs=>fy v::ofL vs
end
abbrev FP:=List KV->KR KV
abbrev FR:=ae->List KV->KR KV
abbrev FA:=ae->List KV->KR (KV×ae)
inductive r8 where
 | pure (f:FP) (xs:List Operand)
 | read (f:FR) (xs:List Operand)
 | act (f:FA) (xs:List Operand)
 | look (f:FP) (xs:List Operand)
 | D9 (g:FuncId) (f:List KV->KR KV) (xs:List Operand)
 | H7 (g:FuncId) (f:List KV->KR KV) (xs:List Operand)
 | call (f:Operand) (args:List Operand)
 | bad
def adT:FP
 | [x]=>.ok x
 | _=>.no
def adU:FP
 | [.bool b]=>.br b (.ok (.bool true)) (.ok (.bool false))
 | [x]=>.ok x
 | _=>.no
def ahA:FP
 | [.bool t,.bool a,.bool b]=>.ok (.bool (cond t a b))
 | [.bool t,a,b]=>.ok (cond t a b)
 | _=>.no
def gx:List KV->Bool
 | []=>true
 | v::vs=>one v&&gx vs
def yE {α:Type} : Nat->List α->Option (List α)
 | 0,_=>some []
 | _+1,[]=>none
 | n+1,x::xs=>(yE n xs).map (x::·)
def Ea {α:Type} : Nat->List α->List α
 | 0,l=>l
 | _+1,[]=>[]
 | n+1,_::xs=>Ea n xs
def kU {α:Type} : Nat->List α->List α->Option (List α)
 | 0,l,[]=>some l
 | 0,[],_::_=>none
 | 0,_::l,v::vs=>(kU 0 l vs).map (v::·)
 | _+1,[],[]=>some []
 | _+1,[],_::_=>none
 | n+1,x::l,vs=>(kU n l vs).map (x::·)
def Xy (n:Nat) (z:List KV):FA:=fun A _=>.ok (.ptr A.next 0,A.new (.row z n))
def rC (P:Program) (t:TypeId):r8:=
 match wx P t with
 | some z=>cond (flat z&&z.cells.toList.all scalar&&gx (fy z).cells) (.act (Xy (oP P t) (fy z).cells) []) .bad
 | none=>.bad
def H8 (n:Nat):FA:=fun A xs=>
 match xs with
 | [v]=>cond (gx v.cells) (.ok (.ptr A.next 0,A.new (.row v.cells n))) .no
 | _=>.no
def VX (place:Nat->Option (Nat×Nat)):List KV->List (Nat×KV)->Option (List KV)
 | cells,[]=>some cells
 | cells,(i,v)::rest=>
  match place i with
  | some (off,size)=>cond (Nat.beq v.cells.length size&&Nat.ble 1 size) ((kU off cells v.cells).bind fun cs=>VX place cs rest) none
  | none=>none
def zW:List Nat->List KV->List (Nat×KV)
 | i::is,v::vs=>(i,v)::zW is vs
 | _,_=>[]
def yo:KV->Bool
 | .bf=>false
 | _=>true
def Qq (place:Nat->Option (Nat×Nat)) (z:List KV) (is:List Nat):FP:=fun vs=>
 match VX place z (zW is vs) with
 | some cs=>cond (vs.all yo) (.ok (.agg cs)) .no
 | none=>.no
def wF (P:Program) (t:TypeId) (is:List Nat) (xs:List Operand):r8:=
 match wx P t,P.underlying t with
 | some z,some (.struct fields)=>
  match placesOf P fields.toList with
  | some l=>cond (flat z&&gx (fy z).cells) (.pure (Qq (Ty l) (fy z).cells is) xs) .bad
  | none=>.bad
 | some z,some (.array _ e)=>
  match size? P e with
  | some n=>cond (flat z&&gx (fy z).cells) (.pure (Qq (Ch n) (fy z).cells is) xs) .bad
  | none=>.bad
 | _,_=>.bad
def qG:Nat->KV:=fun _=>.bf
def cZ (es:List KV):Nat->KV:=fun i=>es.getD i .bf
def nN (c:CK) (v:KV):KV:=
 match c,v with
 | .slice t,.kl=>.ts t .any 0 [] qG
 | .slice t,.ts t' _ n es acc=>cond (Nat.beq t t') (.ts t .any n es acc) .bf
 | c,v=>cond (kindOk c v) v .bf
def CS:List CK->List KV->List KV
 | c::cs,v::vs=>nN c v::CS cs vs
 | _,_=>[]
def dM (l:Lay) (v:KV):KV:=
 match v with
 | .agg cs=>cond (l.agg&&Nat.beq cs.length l.ks.length) (.agg (CS l.ks cs)) .bf
 | v=>cond l.agg .bf (match l.ks with
  | [c]=>nN c v
  | _=>.bf)
def setAt (es:List KV) (i:Nat) (v:KV):List KV:=
 match i,es with
 | 0,_::es=>v::es
 | n+1,e::es=>e::setAt es n v
 | _,[]=>[]
def F3 (es:List KV):List (Nat×KV)->List KV
 | []=>es
 | (i,v)::rest=>F3 (setAt es i v) rest
def OU (l:Lay) (e:TypeId) (z:KV) (len:Nat) (is:List Nat):FP:=fun vs=>
 let es:=F3 (dj [z] len) ((zW is vs).map fun p=>(p.1,dM l p.2))
 cond (vs.all yo&&dH l (vs.map (dM l))&&dH l es) (.ok (.ts e .exact len es (cZ es))) .no
def Se (l:Lay) (e:TypeId) (z:KV) (len:Nat) (is:List Nat):FA:=fun A vs=>
 let es:=F3 (dj [z] len) ((zW is vs).map fun p=>(p.1,dM l p.2))
 cond (vs.all yo&&dH l (vs.map (dM l))&&dH l es) (.ok (.al e A.next 0 len,A.new (.arr (.ts e .any len es (cZ es))))) .no
def Eb (n:Nat):List Nat->Bool
 | []=>true
 | i::is=>Nat.blt i n&&Eb n is
def Sf (n:Nat) (z:List KV) (len:Nat) (is:List Nat):FA:=fun A vs=>
 match VX (Ch n) (dj z len) (zW is vs) with
 | some cs=>cond (vs.all yo&&gx cs) (.ok (.sl A.next 0 len len,A.new (.row cs n))) .no
 | none=>.no
def kV (P:Program) (mt:TypeId->Bool) (t:TypeId) (len:Nat) (is:List Nat) (xs:List Operand):r8:=
 match P.underlying t with
 | some (.slice e)=>
  match P.info? e,wx P e with
  | some i,some z=>cond (Nat.ble (len * i.size) 16777216&&Nat.beq z.cells.size i.size&&Nat.ble 1 i.size&&flat z&&Nat.beq (aQ P e).ks.length i.size&&Eb len is)
    (cond (MM (aQ P e).ks) (cond (mt (e+3000000)) (.act (Se (aQ P e) e (dM (aQ P e) (fy z)) len is) xs) (.look (OU (aQ P e) e (dM (aQ P e) (fy z)) len is) xs)) (cond (gx (fy z).cells) (.act (Sf i.size (fy z).cells len is) xs) .bad)) .bad
  | _,_=>.bad
 | _=>.bad
def rowAt (A:ae) (b:Nat):Option (List KV):=
 match A.get b with
 | some (.row cs _)=>some cs
 | _=>none
def KH (A:ae) (b:Nat):Option KV:=
 match A.get b with
 | some (.arr v)=>some v
 | some (.iA v)=>some v
 | _=>none
def Y2 (P:Program) (t Tc:TypeId):Bool:=Nat.beq Tc t&&MM (aQ P t).ks&&decide (Tx P t=some (aQ P t).agg)&&decide (size? P t=some (aQ P t).ks.length)&&((aQ P t).agg||Nat.beq (aQ P t).ks.length 1)
def putCells (P:Program) (T:TypeId) (k:Nat) (e:KV) (vs:List KV):Option KV:=(kU k (leaves e (aQ P T).ks 0) vs).map fun cs=>Om (aQ P T).agg cs
def bN (acc:Nat->KV) (i:Nat) (v:KV):Nat->KV:=fun j=>cond (Nat.beq j i) v (acc j)
def aiZ (T:TypeId) (n i:Nat) (es:List KV) (acc:Nat->KV) (e:KV):KV:=.ts T .any n (setAt es i e) (bN acc i e)
def Aa (P:Program) (t:TypeId):FR:=fun A xs=>
 match xs with
 | [.ptr b off]=>
  match Tx P t,size? P t with
  | some ag,some n=>match (rowAt A b).bind fun cs=>yE n (Ea off cs) with
   | some l=>cond ag (.ok (.agg l)) (match l with | [v]=>.ok v | _=>.no)
   | none=>.no
  | _,_=>.no
 | [.tp _ Tc i k _ acc]=>
  cond (Y2 P t Tc) (.ok (Om (aQ P t).agg (leaves (acc i) (aQ P t).ks k))) .no
 | [.ap T Tc b i k]=>match KH A b with
  | some (.ts T' _ _ _ acc)=>cond (Nat.beq T T'&&Y2 P t Tc) (.ok (Om (aQ P t).agg (leaves (acc i) (aQ P t).ks k))) .no
  | _=>.no
 | _=>.no
def TR (P:Program) (t:TypeId):FA:=fun A xs=>
 match xs with
 | [.ptr b off,v]=>
  cond (decide (some v.cells.length=size? P t)&&gx v.cells)
   (match A.get b with
   | some (.row cs bp)=>match kU off cs v.cells with
    | some bL=>.ok (tT,A.put b (.row bL bp))
    | none=>.no
   | _=>.no) .no
 | [.ap T Tc b i k,v]=>
  match A.get b with
  | some (.arr (.ts T' _ n es acc))=>
   cond (Nat.beq T T'&&Nat.beq Tc t&&cw (aQ P t) (dM (aQ P t) v)&&decide (size? P t=some (aQ P t).ks.length))
    (match putCells P T k (acc i) (dM (aQ P t) v).cells with
    | some e=>.ok (tT,A.put b (.arr (aiZ T n i es acc e)))
    | none=>.no) .no
  | _=>.no
 | _=>.no
def ZW:FP
 | [.ptr b off]=>.ok (.ptr b off)
 | [.tp T Tc i k es acc]=>.ok (.tp T Tc i k es acc)
 | [.ap T Tc b i k]=>.ok (.ap T Tc b i k)
 | [.fn (.func f) first cap]=>.ok (.fn (.func f) first cap)
 | _=>.no
abbrev Fo (k:IntKind) (a b:Int):Nat:=(BitVec.ofInt k.bits a &&& BitVec.ofInt k.bits b).toNat
abbrev bOr (k:IntKind) (a b:Int):Nat:=(BitVec.ofInt k.bits a ||| BitVec.ofInt k.bits b).toNat
abbrev apt (k:IntKind) (a b:Int):Nat:=(BitVec.ofInt k.bits a ^^^ BitVec.ofInt k.bits b).toNat
abbrev alA (k:IntKind) (a b:Int):Nat:=(BitVec.ofInt k.bits a &&& ~~~ BitVec.ofInt k.bits b).toNat
def opI (op:BinOp) (k:IntKind) (a b:Int):KR KV:=
 match op with
 | .add=>.ok (.int k (k.wrap (a+b)))
 | .sub=>.ok (.int k (k.wrap (a - b)))
 | .mul=>.ok (.int k (k.wrap (a * b)))
 | .eql=>.ok (.bool (a==b))
 | .neq=>.ok (.bool (a != b))
 | .lss=>.ok (.bool (decide (a < b)))
 | .leq=>.ok (.bool (decide (a<=b)))
 | .gtr=>.ok (.bool (decide (a > b)))
 | .geq=>.ok (.bool (decide (a >= b)))
 | .quo=>.jJ (!(decide (b=0))) (.int k (k.wrap (a.tdiv b)))
 | .rem=>.jJ (!(decide (b=0))) (.int k (a.tmod b))
 | .and=>.ok (.int k (k.wrap (Fo k a b)))
 | .or=>.ok (.int k (k.wrap (bOr k a b)))
 | .xor=>.ok (.int k (k.wrap (apt k a b)))
 | .andNot=>.ok (.int k (k.wrap (alA k a b)))
 | _=>.no
def apu (op:BinOp) (k:IntKind) (a b:Int):KR KV:=
 match op with
 | .shl=>.jJ (!(decide (b < 0))) (.int k (k.wrap (a * 2 ^ (min b.toNat k.bits))))
 | .shr=>.jJ (!(decide (b < 0))) (.int k (a.fdiv (2 ^ (min b.toNat k.bits))))
 | _=>.no
def afg:BinOp->Bool
 | .shl | .shr=>true
 | _=>false
def eqK:KV->KV->Option Bool
 | .int k a,.int k' b=>cond (decide (k=k')) (some (a==b)) none
 | .bool a,.bool b=>some (a==b)
 | .str a,.str b=>some (a==b)
 | _,_=>none
def wo:List KV->List KV->Option Bool
 | [],[]=>some true
 | x::xs,y::ys=>match eqK x y,wo xs ys with
  | some a,some b=>some (a&&b)
  | _,_=>none
 | _,_=>none
def GG (P:Program):Nat->TypeId->Bool
 | 0,_=>false
 | n+1,t=>(match P.info? t,lay P (n+1) t with
   | some i,some l=>Nat.beq i.size l.ks.length
   | _,_=>false)&&match P.underlying t with
  | some (.int _) | some .bool | some .string=>true
  | some (.struct fs) => !(P.stoodInHeld t) && fs.toList.all fun f => !(f.name == "_") && GG P n f.type
  | some (.array _ e)=>GG P n e
  | _=>false
def ai0 (P:Program) (t:TypeId) (x y:KV):Option Bool:=
 match x,y with
 | .agg xs,.agg ys=>cond ((aQ P t).agg&&GG P 12 t&&!(P.eqGuardType P.depth t)&&aD (aQ P t).ks xs&&aD (aQ P t).ks ys) (wo xs ys) none
 | .bool a,.bool b=>match P.underlying t with
  | some .bool=>some (a==b)
  | _=>none
 | .kl,.kl=>match P.underlying t with
  | some (.slice _)=>some true
  | _=>none
 | .ts _ _ n _ _,.kl=>match P.underlying t with
  | some (.slice _)=>cond (Nat.beq n 0) none (some false)
  | _=>none
 | .kl,.ts _ _ n _ _=>match P.underlying t with
  | some (.slice _)=>cond (Nat.beq n 0) none (some false)
  | _=>none
 | .GF,.GF=>match P.underlying t with
  | some (.pointer _)=>some true
  | _=>none
 | .ptr _ _,.GF=>match P.underlying t with
  | some (.pointer _)=>some false
  | _=>none
 | .GF,.ptr _ _=>match P.underlying t with
  | some (.pointer _)=>some false
  | _=>none
 | _,_=>none
def ai1 (P:Program) (t:TypeId):Bool:=match P.underlying t with
 | some (.slice _)=>true
 | _=>false
def alB (P:Program) (op:BinOp) (t:TypeId):FP
 | [.int j a,.int k b]=>cond (afg op) (apu op j a b) (cond (decide (j=k)) (opI op j a b) .no)
 | [.str a,.str b]=>match op with
  | .eql=>.ok (.bool (a.toList==b.toList))
  | .neq=>.ok (.bool !(a.toList==b.toList))
  | .lss=>.ok (.bool (Op.bytesLess a.toList b.toList))
  | .add=>.jJ (Nat.ble (a.size+b.size) 9223372036854775807) (.str (a++b))
  | _=>.no
 | [.ts _ _ n _ _,.kl]=>match op with
  | .eql=>cond (ai1 P t) (.jJ (Nat.blt 0 n) (.bool false)) .no
  | .neq=>cond (ai1 P t) (.jJ (Nat.blt 0 n) (.bool true)) .no
  | _=>.no
 | [x,y]=>match op,ai0 P t x y with
  | .eql,some b=>.ok (.bool b)
  | .neq,some b=>.ok (.bool !b)
  | _,_=>.no
 | _=>.no
def kUn (op:UnOp):FP
 | [.bool b]=>match op with
  | .not=>.ok (.bool !b)
  | _=>.no
 | [.int k n]=>match op with
  | .neg=>.ok (.int k (k.wrap (0 - n)))
  | .xor=>.ok (.int k (k.wrap (BitVec.ofInt k.bits (if k.signed then -1 else k.max) ^^^ BitVec.ofInt k.bits n).toNat))
  | _=>.no
 | _=>.no
def ai2 (k:IntKind):FP
 | [.int _ n]=>.ok (.int k (k.wrap n))
 | _=>.no
def ai3:FP
 | [.str s]=>.ok (.str s)
 | _=>.no
def byteOf:KV->UInt8
 | .int _ n=>UInt8.ofNat n.toNat
 | _=>0
def ai4:KV->Bool
 | .int .u8 n=>decide (0<=n)&&decide (n < 256)
 | _=>false
def MN:FP
 | [.kl]=>.ok (.str ⟨⟨[]⟩⟩)
 | [.ts _ _ _ es _]=>.jJ (es.all ai4) (.str ⟨⟨es.map byteOf⟩⟩)
 | _=>.no
def Sg (e:TypeId):FP
 | [.str s]=>.ok (.ts e .any s.size (s.data.toList.map fun b=>.int .u8 b.toNat) (fun i=>.int .u8 (s.data.toList.getD i 0).toNat))
 | _=>.no
def qQ (P:Program) (src dst:TypeId) (x:Operand):r8:=
 match P.underlying src,P.underlying dst with
 | some (.int _),some (.int k)=>.pure (ai2 k) [x]
 | some .string,some .string=>.pure ai3 [x]
 | some (.slice e),some .string=>cond (isByte P e) (.read (fun _=>MN) [x]) .bad
 | some .string,some (.slice e)=>cond (isByte P e) (.look (Sg e) [x]) .bad
 | _,_=>.bad
def MO (f:Fn) (k:Nat):FP:=fun vs=>
 match yE k vs with
 | some first=>.ok (.fn f first (Ea k vs))
 | none=>.no
def Xz (s:TypeId) (off:Nat) (ft:TypeId) (uT:Bool):FP
 | [.ptr b o]=>.ok (.ptr b (o+off))
 | [.tp T Tc i k es acc]=>cond (Nat.beq Tc s&&uT) (.ok (.tp T ft i (k+off) es acc)) .no
 | [.ap T Tc b i k]=>cond (Nat.beq Tc s&&uT) (.ok (.ap T ft b i (k+off))) .no
 | _=>.no
def alC:CK->CK->Bool
 | .int a,.int b=>decide (a=b)
 | .bool,.bool=>true
 | .str,.str=>true
 | .slice a,.slice b=>Nat.beq a b
 | .other,.other=>true
 | _,_=>false
def Ec:List CK->List CK->Bool
 | [],[]=>true
 | a::aqL,b::bs=>alC a b&&Ec aqL bs
 | _,_=>false
def Y3 (P:Program) (s:TypeId) (off:Nat) (ft:TypeId):Bool:=
 match yE (aQ P ft).ks.length (Ea off (aQ P s).ks) with
 | some l=>Ec l (aQ P ft).ks
 | none=>false
def mj (P:Program) (s:TypeId) (x:Operand) (f:Nat):r8:=
 match zb P s f with
 | some fd=>match size? P fd.type with
  | some (_+1)=>.pure (Xz s fd.offset fd.type (Y3 P s fd.offset fd.type)) [x]
  | _=>.bad
 | none=>.bad
def VY (P:Program) (t:TypeId) (cs:List KV) (off:Nat):Option KV:=
 match Tx P t with
 | some true=>(size? P t).bind fun n=>(yE n (Ea off cs)).map fun l=>.agg l
 | some false=>(Ea off cs).head?
 | none=>none
def ai5 (P:Program) (fd:Field):FP
 | [.agg cs]=>.of (VY P fd.type cs fd.offset)
 | _=>.no
def wG (P:Program) (t:TypeId) (x:Operand) (f:Nat):r8:=
 match zb P t f with
 | some fd=>.pure (ai5 P fd) [x]
 | none=>.bad
def ZX (i:Int) (n:Nat):Bool:=decide (0<=i)&&decide (i < (n:Int))
def ai6 {α:Type} (i:Int) (f:Nat->KR α) (m:Nat):Nat->KR α:=Nat.rec (motive:=fun _=>Nat->KR α) (fun _=>.no) (fun _ ih j=>.br (decide (i=(j:Int))) (f j) (ih (Nat.succ j))) m
def ZY (P:Program) (t:TypeId) (len n:Nat) (e:TypeId):FP
 | [.ptr b o,.int _ i]=>cond (Nat.ble len 8) (ai6 i (fun j=>.ok (.ptr b (o+j * n))) len 0) (.jJ (ZX i len) (.ptr b (o+i.toNat * n)))
 | [.tp T Tc j k es acc,.int _ i]=>cond (Nat.beq Tc t&&Ec (aQ P t).ks (dj (aQ P e).ks len)&&Nat.beq (aQ P e).ks.length n) (.jJ (ZX i len) (.tp T e j (k+i.toNat * n) es acc)) .no
 | [.ap T Tc b j k,.int _ i]=>cond (Nat.beq Tc t&&Ec (aQ P t).ks (dj (aQ P e).ks len)&&Nat.beq (aQ P e).ks.length n) (.jJ (ZX i len) (.ap T e b j (k+i.toNat * n))) .no
 | _=>.no
def acK (e n:Nat) (uT:Bool):FP
 | [.sl b o len _,.int _ i]=>.jJ (ZX i len) (.ptr b (o+i.toNat * n))
 | [.ts T _ m es acc,.int _ i]=>cond (Nat.beq T e&&uT) (.jJ (ZX i m) (.tp T T i.toNat 0 es acc)) .no
 | [.al T b o m,.int _ i]=>cond (Nat.beq T e&&uT) (.jJ (ZX i m) (.ap T T b (o+i.toNat) 0)) .no
 | _=>.no
def ml (P:Program) (t:TypeId) (x ix:Operand):r8:=
 match P.underlying t with
 | some (.array len e)=>match size? P e with
  | some n=>.pure (ZY P t len n e) [x,ix]
  | none=>.bad
 | some (.slice e)=>match size? P e with
  | some n=>.pure (acK e n (Nat.beq (aQ P e).ks.length n)) [x,ix]
  | none=>.bad
 | _=>.bad
def Sh (P:Program) (len n:Nat) (e:TypeId):FP
 | [.agg cs,.int _ i]=>cond (Nat.ble len 8) (ai6 i (fun j=>.of (VY P e cs (j * n))) len 0) (match VY P e cs (i.toNat * n) with
  | some v=>.jJ (ZX i len) v
  | none=>.no)
 | _=>.no
def ZZ:FP
 | [.str s,.int _ i]=>.jJ (ZX i s.size) (.int .u8 ((s.data.toList.getD i.toNat 0).toNat))
 | _=>.no
def wH (P:Program) (t:TypeId) (x ix:Operand):r8:=
 match P.underlying t with
 | some (.array len e)=>match size? P e with
  | some n=>.pure (Sh P len n e) [x,ix]
  | none=>.bad
 | some .string=>.pure ZZ [x,ix]
 | _=>.bad
def acL {α:Type} : Nat->List α->Option α
 | _,[]=>none
 | 0,x::_=>some x
 | n+1,_::xs=>acL n xs
def acM (i:Nat):FP
 | [.ma vs]=>.of (acL i vs)
 | _=>.no
def ai7:FP
 | [.ts _ _ n _ _]=>.ok (.int .i64 (n:Int))
 | [.sl _ _ n _]=>.ok (.int .i64 (n:Int))
 | [.al _ _ _ n]=>.ok (.int .i64 (n:Int))
 | [.kl]=>.ok (.int .i64 0)
 | _=>.no
def afh:FP
 | [.str s]=>.ok (.int .i64 (s.size:Int))
 | _=>.no
def Z0 (P:Program) (argTypes:List TypeId) (args:List Operand):r8:=
 match argTypes with
 | [t]=>match P.underlying t with
  | some (.slice _)=>.pure ai7 args
  | some .string=>.pure afh args
  | _=>.bad
 | _=>.bad
def LF (mx:Bool):FP
 | [.int j a,.int k b]=>cond (decide (j=k)) (.ok (.int j (cond mx (max a b) (min a b)))) .no
 | [.int j a,.int k b,.int l c]=>cond (decide (j=k)&&decide (j=l)) (.ok (.int j (cond mx (max (max a b) c) (min (min a b) c)))) .no
 | _=>.no
def Rq (len:Nat) (lo hi:Bool):List KV->Option (Int×Int)
 | []=>cond (lo||hi) none (some (0,len))
 | [.int _ x]=>cond (lo&&!hi) (some (x,len)) (cond (!lo&&hi) (some (0,x)) none)
 | [.int _ x,.int _ y]=>cond (lo&&hi) (some (x,y)) none
 | _=>none
def VZ (P:Program) (n:Nat) (lo hi:Bool):FR:=fun A xs=>
 match xs with
 | .ts T _ m es acc::r=>match Rq m lo hi r with
  | some (x,y)=>cond (Nat.beq (aQ P T).ks.length n) (.jJ (decide (0<=x)&&decide (x<=y)&&decide (y<=(m:Int))) (.ts T .any (y.toNat - x.toNat) ((es.drop x.toNat).take (y.toNat - x.toNat)) (fun i=>acc (x.toNat+i)))) .no
  | none=>.no
 | .sl b o len cap::r=>match A.get b with
  | some (.row _ bp)=>match Rq len lo hi r with
   | some (x,y)=>cond (Nat.beq bp n) (.jJ (decide (0<=x)&&decide (x<=y)&&decide (y<=(len:Int))&&decide (len<=cap)) (.sl b (o+x.toNat * n) (y.toNat - x.toNat) (cap - x.toNat))) .no
   | none=>.no
  | _=>.no
 | .al T b o m::r=>match KH A b with
  | some (.ts T' _ _ _ _)=>match Rq m lo hi r with
   | some (x,y)=>cond (Nat.beq (aQ P T).ks.length n&&Nat.beq T T') (.jJ (decide (0<=x)&&decide (x<=y)&&decide (y<=(m:Int))) (.al T b (o+x.toNat) (y.toNat - x.toNat))) .no
   | none=>.no
  | _=>.no
 | _=>.no
def V1 (P:Program) (n:Nat) (lo hi:Bool):FA:=fun A xs=>
 match xs with
 | .al T b o m::r=>match A.get b with
  | some (.arr (.ts T' _ _ es acc))=>match Rq m lo hi r with
   | some (x,y)=>cond (Nat.beq (aQ P T).ks.length n&&Nat.beq T T'&&Nat.beq o 0&&decide (x=0)) (.jJ (decide (0<=y)&&decide (y<=(m:Int))) (.al T A.next 0 y.toNat,(A.put b .dead).new (.arr (.ts T .any y.toNat (es.take y.toNat) acc)))) .no
   | none=>.no
  | _=>.no
 | _=>.no
def Si (len n:Nat) (lo hi:Bool):FR:=fun A xs=>
 match xs with
 | .ptr b o::r=>match A.get b with
  | some (.row cs bp)=>match Rq len lo hi r with
   | some (x,y)=>cond (Nat.beq bp n&&Nat.ble (o+len * n) cs.length) (.jJ (decide (0<=x)&&decide (x<=y)&&decide (y<=(len:Int))) (.sl b (o+x.toNat * n) (y.toNat - x.toNat) (len - x.toNat))) .no
   | none=>.no
  | _=>.no
 | _=>.no
def Sj (lo hi:Bool):FP
 | .str s::r=>match Rq s.size lo hi r with
  | some (x,y)=>.jJ (decide (0<=x)&&decide (x<=y)&&decide (y<=(s.size:Int))) (.str ⟨⟨(s.data.toList.drop x.toNat).take (y.toNat - x.toNat)⟩⟩)
  | none=>.no
 | _=>.no
def wI (P:Program) (mt:TypeId->Bool) (t:TypeId) (x:Operand) (lo hi mx:Option Operand):r8:=
 match P.underlying t with
 | some (.slice e)=>match size? P e with
  | some n=>cond (Nat.ble 1 n&&mx.isNone) (cond (mt (e+4000000)) (.act (V1 P n lo.isSome hi.isSome) (x::(eZ lo++eZ hi))) (.read (VZ P n lo.isSome hi.isSome) (x::(eZ lo++eZ hi)))) .bad
  | none=>.bad
 | some (.array len e)=>match size? P e with
  | some n=>cond (Nat.ble 1 n&&mx.isNone) (.read (Si len n lo.isSome hi.isSome) (x::(eZ lo++eZ hi))) .bad
  | none=>.bad
 | some .string=>cond mx.isNone (.pure (Sj lo.isSome hi.isSome) (x::(eZ lo++eZ hi))) .bad
 | _=>.bad
def dT (b n m:Nat):Bool:=Nat.ble ((n+m) * b) 140737488355328&&Nat.ble (n+m) 17592186044416
def ai (top n:Nat):Bool:=Nat.beq top n
def aw (n:Nat) (f g:Nat->KV):Nat->KV:=fun i=>cond (Nat.blt i n) (f i) (g (i - n))
def TS (e sz b n:Nat) (base:List KV) (ab:Nat->KV) (A:ae) (f m:Nat) (new:List KV) (an:Nat->KV) (more:Bool):KR (KV×ae):=
 .jJ (more&&dT b n m)
  (.ts e (.aP f) (n+m) (base++new) (aw n ab an),A.put f (.aP (n+m) sz))
def OV (e sz b:Nat):FA:=fun A xs=>
 match xs with
 | [.kl,.ts e' _ m new an]=>cond (Nat.beq e e') (TS e sz b 0 [] qG (A.new (.aP 0 sz)) A.next m new an true) .no
 | [.ts e1 .exact n es ab,.ts e' _ m new an]=>cond (Nat.beq e e'&&Nat.beq e e1) (TS e sz b n es ab (A.new (.aP 0 sz)) A.next m new an (Nat.blt 0 m)) .no
 | [.ts e1 (.aP f) n es ab,.ts e' _ m new an]=>match A.get f with
  | some (.aP top sz')=>cond (Nat.beq e e'&&Nat.beq e e1&&Nat.beq sz' sz) (TS e sz b n es ab A f m new an (ai top n)) .no
  | _=>.no
 | _=>.no
def acN (o:Nat) (acc:Nat->KV):Nat->KV:=
 match o with
 | 0=>acc
 | o+1=>fun i=>acc (o+1+i)
theorem adV (o:Nat) (acc:Nat->KV):acN o acc=fun i=>acc (o+i):=by
 cases o with
 | zero=>funext i; show acc i=acc (0+i); rw [ba]
 | succ o=>rfl
def adW (A:ae) (T b o n:Nat):Option KV:=
 match KH A b with
 | some (.ts T' _ _ es acc)=>cond (Nat.beq T T') (some (.ts T .any n ((es.drop o).take n) (acN o acc))) none
 | _=>none
def OW (A:ae) (v:KV):Option KV:=
 match v with
 | .al T b o n=>adW A T b o n
 | .ts T m n es acc=>some (.ts T m n es acc)
 | _=>none
def ai8 (b n m:Nat):Bool:=Nat.ble ((n+m) * b) 140737488355328&&Nat.ble (n+m) 17592186044416
def Y4 (e b n:Nat) (base:List KV) (ab:Nat->KV) (A:ae) (m:Nat) (new:List KV) (an:Nat->KV) (more:Bool):KR (KV×ae):=
 .jJ (more&&ai8 b n m) (.al e A.next 0 (n+m),A.new (.arr (.ts e .any (n+m) (base++new) (aw n ab an))))
def HG (e b:Nat):FA:=fun A xs=>
 match xs with
 | [.kl,.ts e' _ m new an]=>cond (Nat.beq e e') (Y4 e b 0 [] qG A m new an true) .no
 | [.al e1 f o n,.ts e' _ m new an]=>match A.get f with
  | some (.arr (.ts e2 _ _ es acc))=>cond (Nat.beq e e'&&Nat.beq e e1&&Nat.beq e e2) (Y4 e b n (es.take n) acc (A.put f .dead) m new an (Nat.beq o 0)) .no
  | _=>.no
 | _=>.no
def alD:KV->Bool
 | .al _ _ _ _=>true
 | _=>false
def LG (e sz b:Nat) (mt:Bool):FA:=fun A xs=>
 match xs with
 | [x,y]=>match OW A y with
  | some y'=>cond (alD x) (HG e b A [x,y']) (cond mt (HG e b A [x,y']) (OV e sz b A [x,y']))
  | none=>.no
 | _=>.no
def JN (P:Program) (mt:TypeId->Bool) (argTypes:List TypeId) (args:List Operand):r8:=
 match argTypes with
 | [t,u]=>
  match P.underlying t,P.underlying u with
  | some (.slice e),some (.slice _)=>
   match P.info? e with
   | some i=>match i.zero with
    | some z=>cond (Nat.ble 1 i.size&&Nat.beq z.cells.size i.size&&Nat.beq (aQ P e).ks.length i.size) (.act (LG e i.size i.bytes (mt e)) args) .bad
    | none=>.bad
   | none=>.bad
  | _,_=>.bad
 | _=>.bad
def OX (n b:Nat) (z:List KV):FA:=fun A xs=>
 match xs with
 | [.int _ l,.int _ c]=>.jJ (decide (0<=l)&&decide (l<=c)&&Nat.ble (b * c.toNat) 281474976710656) (.sl A.next 0 l.toNat c.toNat,A.new (.row (dj z c.toNat) n))
 | _=>.no
def Z1 (A:ae) (v:KV):KV×ae:=
 match v with
 | .al T b o n=>match A.get b with
  | some (.arr (.ts T' m N es acc))=>cond (Nat.beq T T') (.ts T .any n ((es.drop o).take n) (fun i=>acc (o+i)),A.put b (.iA (.ts T' m N es acc))) (.bf,A)
  | some (.iA (.ts T' _ _ es acc))=>cond (Nat.beq T T') (.ts T .any n ((es.drop o).take n) (fun i=>acc (o+i)),A) (.bf,A)
  | _=>(.bf,A)
 | v=>(v,A)
def V2 (A:ae):List KV->List KV×ae
 | []=>([],A)
 | v::vs=>((Z1 A v).1::(V2 (Z1 A v).2 vs).1,(V2 (Z1 A v).2 vs).2)
def acO (A:ae) (v:KV):KV×ae:=
 match v with
 | .agg cs=>(.agg (V2 A cs).1,(V2 A cs).2)
 | v=>Z1 A v
def zX (A:ae):List KV->List KV×ae
 | []=>([],A)
 | v::vs=>((acO A v).1::(zX (acO A v).2 vs).1,(zX (acO A v).2 vs).2)
def V3 (T b:Nat) (z:KV):FA:=fun A xs=>
 match xs with
 | [.int _ l,.int _ c]=>.jJ (decide (0<=l)&&decide (l<=c)&&Nat.ble (b * c.toNat) 281474976710656) (.al T A.next 0 l.toNat,A.new (.arr (.ts T .any c.toNat (dj [z] c.toNat) (fun _=>z))))
 | _=>.no
def adX (T b:Nat) (z:KV):FP:=fun xs=>
 match xs with
 | [.int _ l,.int _ c]=>.jJ (decide (0<=l)&&decide (l<=c)&&Nat.ble (b * c.toNat) 281474976710656) (.ts T .any l.toNat (dj [z] l.toNat) (fun _=>z))
 | _=>.no
def yF (P:Program) (mt:TypeId->Bool) (t:TypeId) (l c:Operand):r8:=
 match P.underlying t with
 | some (.slice e)=>
  match P.info? e with
  | some i=>match i.zero with
   | some z=>cond (mt (e+1000000)) (cond (Nat.ble 1 i.size&&Nat.ble 1 i.bytes&&Nat.beq z.cells.size i.size&&flat z&&z.cells.toList.all scalar&&Nat.beq (aQ P e).ks.length i.size&&cw (aQ P e) (dM (aQ P e) (fy z))) (.look (adX e i.bytes (dM (aQ P e) (fy z))) [l,c]) .bad) <| cond (mt e) (cond (Nat.ble 1 i.size&&Nat.ble 1 i.bytes&&Nat.beq z.cells.size i.size&&flat z&&z.cells.toList.all scalar&&Nat.beq (aQ P e).ks.length i.size&&cw (aQ P e) (dM (aQ P e) (fy z))) (.act (V3 e i.bytes (dM (aQ P e) (fy z))) [l,c]) .bad) <| cond (Nat.ble 1 i.size&&Nat.ble 1 i.bytes&&Nat.beq z.cells.size i.size&&flat z&&z.cells.toList.all scalar&&gx (fy z).cells) (.act (OX i.size i.bytes (fy z).cells) [l,c]) .bad
   | none=>.bad
  | none=>.bad
 | _=>.bad
def CT (es:List KV) (o:Nat) (new:List KV):List KV:=es.take o++new++es.drop (o+new.length)
def az (o k:Nat) (f g:Nat->KV):Nat->KV:=fun i=>cond (Nat.blt i o) (f i) (cond (Nat.blt i (o+k)) (g (i - o)) (f i))
def ahB (e:Nat):FA:=fun A xs=>
 match xs with
 | [.al e1 b o n,y]=>match OW A y,A.get b with
  | some (.ts e' _ m new an),some (.arr (.ts e2 _ N es acc))=>cond (Nat.beq e e'&&Nat.beq e e1&&Nat.beq e e2)
    (.ok (.int .i64 (Nat.min m n:Nat),A.put b (.arr (.ts e .any N (CT es o (new.take (Nat.min m n))) (az o (Nat.min m n) acc an))))) .no
  | _,_=>.no
 | _=>.no
def Qr (P:Program) (argTypes:List TypeId) (args:List Operand):r8:=
 match argTypes with
 | [t,u]=>
  match P.underlying t,P.underlying u with
  | some (.slice e),some (.slice _)=>match size? P e with
   | some n=>cond (Nat.ble 1 n&&Nat.beq (aQ P e).ks.length n) (.act (ahB e) args) .bad
   | none=>.bad
  | _,_=>.bad
 | _=>.bad
def CU (P:Program) (mt:TypeId->Bool) (b:Builtin) (argTypes:List TypeId) (args:List Operand):r8:=
 match b with
 | .len=>Z0 P argTypes args
 | .min=>.pure (LF false) args
 | .max=>.pure (LF true) args
 | .append=>JN P mt argTypes args
 | .copy=>Qr P argTypes args
 | _=>.bad
inductive wq where
 | no
 | out (e:ah) (t:bd) (A:ae)
 | br (c:Bool) (x y:wq)
 | once
inductive x7 where
 | no
 | out (v:KV) (A:ae)
 | br (c:Bool) (x y:x7)
structure afi where
 ac:FuncId->Option (List KV->ae->x7)
 mt:TypeId->Bool
 fz:Bool
 eg:Bool
def afi.none:afi:=⟨fun _=>.none,fun _=>false,false,false⟩
structure dD where
 pc:FuncId->Option (List KV->KR KV)
 lp:FuncId->Nat->Option (bd->ae->wq)
 x:afi
def dD.none:dD:=⟨fun _=>.none,fun _ _=>.none,.none⟩
def ij (P:Program) (f:KV->KV) (t:TypeId) (e:KV):KV:=Om (aQ P t).agg ((leaves e (aQ P t).ks 0).map f)
def cg (P:Program) (d:Nat):KV->KV:=Nat.rec (motive:=fun _=>KV->KV) (fun v=>v) (fun _ ih v=>match v with
 | .ts t _ n _ acc=>.ts t .any n ((List.range n).map fun i=>ij P ih t (acc i)) (fun i=>ij P ih t (acc i))
 | v=>v) d
def dB:Nat:=6
def TT (P:Program) (t:TypeId) (v:KV):KV:=cond (cw (aQ P t) (dM (aQ P t) v)) (ij P (cg P dB) t (dM (aQ P t) v)) .bf
def normArgs (P:Program):List TypeId->List KV->List KV
 | t::ts,v::vs=>TT P t v::normArgs P ts vs
 | _,_=>[]
def bT (P:Program) (g:FuncId):List TypeId:=match P.funcs.toList[g]? with
 | some fn=>fn.params.toList
 | none=>[]
def dD.afj (cfg:dD) (g:FuncId):Bool:=cfg.x.fz||cfg.x.mt (2000000+g)
def lH (P:Program) (cfg:dD) (c:Call):r8:=
 match c.callee with
 | .value (.func g)=>match cfg.pc g with
  | some F=>cond (cfg.afj g) (.H7 g (fun vs=>cond (Nat.beq vs.length (bT P g).length) (F (normArgs P (bT P g) vs)) .no) c.args.toList)
    (.D9 g (fun vs=>cond (Nat.beq vs.length (bT P g).length) (F (normArgs P (bT P g) vs)) .no) c.args.toList)
  | none=>.call (.func g) c.args.toList
 | .value f=>.call f c.args.toList
 | .builtin b=>CU P cfg.x.mt b c.argTypes.toList c.args.toList
 | .invoke _ _=>.bad
def AE:Fn->Bool
 | .yield _=>true
 | _=>false
def bw (P:Program) (cfg:dD):Op->r8
 | .move x=>.pure adT [x]
 | .assign x=>.pure (cond cfg.x.eg adU adT) [x]
 | .pick c a b=>.pure ahA [c,a,b]
 | .alloc t=>rC P t
 | .box t x=>.act (H8 (oP P t)) [x]
 | .build t parts=>wF P t (parts.toList.map (·.1)) (parts.toList.map (·.2))
 | .buildSlice t len parts=>kV P cfg.x.mt t len (parts.toList.map (·.1)) (parts.toList.map (·.2))
 | .load t a=>.read (Aa P t) [a]
 | .store t a x=>.act (TR P t) [a,x]
 | .nilCheck x=>.pure ZW [x]
 | .binOp op t x y _=>.pure (alB P op t) [x,y]
 | .unOp op _ x=>.pure (kUn op) [x]
 | .convert src dst x=>qQ P src dst x
 | .makeFunc fn first cap=>cond (AE fn) .bad (.pure (MO fn first.size) (first.toList++cap.toList))
 | .fieldAddr s x f=>mj P s x f
 | .field t x f=>wG P t x f
 | .indexAddr t x ix=>ml P t x ix
 | .index t x ix=>wH P t x ix
 | .extract t ix=>.pure (acM ix) [t]
 | .slice t x lo hi mx=>wI P cfg.x.mt t x lo hi mx
 | .makeSlice t l c=>yF P cfg.x.mt t l c
 | .call c=>lH P cfg c
 | _=>.bad
def gp (t:bd):Operand->KV
 | .tmp i=>(t.get i).getD .bf
 | .const v=>cond (flat v) (fy v) .bf
 | .global _=>.bf
 | .func f=>.fn (.func f) [] []
def jU (t:bd):List Operand->List KV
 | []=>[]
 | x::xs=>gp t x::jU t xs
def qH (t:bd) (dst:Option Tmp) (v:KV):bd:=
 match dst with
 | some d=>t.set v d
 | none=>t
def yG (args:List KV):KV->Option (FuncId×List KV)
 | .fn (.func g) first cap=>some (g,first++args++cap)
 | _=>none
inductive BK where
 | bool (b:Bool)
 | ma
 | no
def x8:KV->BK
 | .bool b=>.bool b
 | .ma _=>.ma
 | _=>.no
section
variable {R:Type}
abbrev ko (R:Type):=FuncId->List KV->ae->(KV->ae->Option R)->Option R
def JO (aR:ko R) (t:bd) (A:ae) (k:KV->ae->Option R) (ins:r8):Option R:=
 r8.rec (motive:=fun _=>Option R)
  (fun f xs=>(f (jU t xs)).run fun v=>k v A)
  (fun f xs=>(f A (jU t xs)).run fun v=>k v A)
  (fun f xs=>(f A (jU t xs)).run fun p=>k p.1 p.2)
  (fun f xs=>(f (jU t xs)).run fun v=>k v A)
  (fun _ f xs=>(f (jU t xs)).run fun v=>k v A)
  (fun _ f xs=>(f (zX A (jU t xs)).1).run fun v=>k v (zX A (jU t xs)).2)
  (fun f args=>Option.rec (motive:=fun _=>Option R) none (fun p=>aR p.1 p.2 A k) (yG (jU t args) (gp t f)))
  none ins
def afk (t:bd) (d:Option Tmp) (want:Bool) (yes no:bd->Option R):Option R:=
 Option.rec (motive:=fun _=>Option R) none (fun d=>BK.rec (motive:=fun _=>Option R)
  (fun b=>Bool.rec (motive:=fun _=>Option R)
   (Bool.rec (motive:=fun _=>Option R) (yes (t.set (.bool false) d)) (no (t.set (.bool false) d)) want)
   (Bool.rec (motive:=fun _=>Option R) (no (t.set (.bool true) d)) (yes (t.set (.bool true) d)) want) b)
  (no t) none (x8 ((t.get d).getD .bf))) d
def Ab (P:Program) (cfg:dD) (aR:ko R) (all:List Oper) (o:Oper) (k:bd->ae->Option R) (t:bd) (A:ae):Option R:=
 Option.rec (motive:=fun _=>Option R) (JO aR t A (fun v A=>k (qH t o.dst v) A) (bw P cfg o.op))
  (fun g=>afk t ((all[g.1]?).bind (·.dst)) g.2 (fun t=>JO aR t A (fun v A=>k (qH t o.dst v) A) (bw P cfg o.op)) (fun t=>k (qH t o.dst tT) A)) o.guard
def XA (P:Program) (cfg:dD) (aR:ko R) (all:List Oper) (k:bd->ae->Option R) (os:List Oper):bd->ae->Option R:=
 List.rec (motive:=fun _=>bd->ae->Option R) k (fun o _ ih=>Ab P cfg aR all o ih) os
abbrev KE (R:Type):=ah->bd->ae->Option R
def adY (t:bd) (c:Operand) (f g:bd->Option R):Option R:=
 match c with
 | .tmp d=>BK.rec (motive:=fun _=>Option R) (fun b=>Bool.rec (motive:=fun _=>Option R) (g (t.set (.bool false) d)) (f (t.set (.bool true) d)) b) none none (x8 ((t.get d).getD .bf))
 | c=>BK.rec (motive:=fun _=>Option R) (fun b=>Bool.rec (motive:=fun _=>Option R) (g t) (f t) b) none none (x8 (gp t c))
def cF (i:r8):Nat:=r8.rec (motive:=fun _=>Nat) (fun _ _=>0) (fun _ _=>1) (fun _ _=>3) (fun _ _=>0) (fun _ _ _=>0) (fun _ _ _=>3) (fun _ _=>9) 9 i
def TU:r8->List Operand
 | .pure _ xs=>xs
 | .read _ xs=>xs
 | .act _ xs=>xs
 | .look _ xs=>xs
 | .D9 _ _ xs=>xs
 | .H7 _ _ xs=>xs
 | .call f xs=>f::xs
 | .bad=>[]
def nS (P:Program) (cfg:dD) (all:List Oper) (o:Oper):List Tmp:=HD all o++tQ (TU (bw P cfg o.op))
def wJ (P:Program) (cfg:dD) (all:List Oper) (x y:Oper):Bool:=OI x.dst (nS P cfg all y)||OI y.dst (nS P cfg all x)||TC x.dst y.dst
def KI (P:Program) (cfg:dD) (all:List Oper) (x y:Oper):Bool:=
 wJ P cfg all x y||(Nat.ble 3 (cF (bw P cfg x.op))&&!(Nat.beq (cF (bw P cfg y.op)) 0))||(Nat.ble 3 (cF (bw P cfg y.op))&&!(Nat.beq (cF (bw P cfg x.op)) 0))
def Qs:Op->Bool
 | .alloc _=>true
 | .box _ _=>true
 | .call c=>match c.callee with
  | .builtin .append=>true
  | _=>false
 | _=>false
def TV:Op->Option Operand
 | .store _ a _=>some a
 | _=>none
def G8:Op->Option Operand
 | .load _ a=>some a
 | _=>none
def uB (i:Nat) (x:Operand):List Oper->Nat->Bool
 | [],_=>true
 | o::os,j=>(Nat.blt j i||!(OI o.dst (tQ [x])))&&uB i x os (Nat.succ j)
def MP (i:Nat) (x:Option Operand) (all:List Oper):Bool:=
 match x with
 | some x=>uB i x all 0
 | none=>true
def MQ (x y:Oper):Option (Option Operand×Operand):=
 match G8 y.op with
 | some a=>cond (Qs x.op) (some (none,a)) (match TV x.op with
  | some a2=>some (some a2,a)
  | none=>none)
 | none=>none
def XB (all:List Oper) (j:Nat) (x:Oper) (i:Nat) (y:Oper):Option (Option Operand×Operand):=
 match MQ x y with
 | some p=>cond (uB i p.2 all 0&&MP j p.1 all) (some p) none
 | none=>match MQ y x with
  | some p=>cond (uB j p.2 all 0&&MP i p.1 all) (some p) none
  | none=>none
def LH (t:bd) (nx:Nat) (p:Option Operand×Operand):Bool:=
 match gp t p.2 with
 | .tp _ _ _ _ _ _=>true
 | .ptr b _=>Nat.blt b nx&&(match p.1 with
  | some a2=>(match gp t a2 with
   | .ptr b2 _=>!(Nat.beq b b2)
   | .ap _ _ _ _ _=>true
   | _=>false)
  | none=>true)
 | _=>false
def Sk (t:bd) (nx:Nat) (l:List (Option Operand×Operand)):Bool:=List.rec (motive:=fun _=>Bool) true (fun p _ ih=>Bool.rec false ih (LH t nx p)) l
def Fp (P:Program) (cfg:dD) (all:List Oper) (b:List Nat) (i:Nat) (y:Oper):List Oper->Nat->List (Option Operand×Operand)
 | [],_=>[]
 | x::xs,j=>cond (Nat.ble i j||!KI P cfg all x y||oE b i j) (Fp P cfg all b i y xs (Nat.succ j)) (match XB all j x i y with
  | some p=>p::Fp P cfg all b i y xs (Nat.succ j)
  | none=>Fp P cfg all b i y xs (Nat.succ j))
def V4 (P:Program) (cfg:dD) (all:List Oper) (b:List Nat):List Oper->Nat->List (Option Operand×Operand)
 | [],_=>[]
 | o::os,i=>Fp P cfg all b i o all 0++V4 P cfg all b os (Nat.succ i)
def Sm (P:Program) (cfg:dD) (all:List Oper):Bool:=all.all fun o=>!(Nat.ble 3 (cF (bw P cfg o.op)))||Qs o.op||(TV o.op).isSome
def KK (P:Program) (cfg:dD) (all:List Oper):List (Option Operand×Operand):=V4 P cfg all (dE [] all) all 0
def Qt (P:Program) (cfg:dD) (all:List Oper) (b:List Nat) (i:Nat) (y:Oper):List Oper->Nat->Bool
 | [],_=>true
 | x::xs,j=>(Nat.ble i j||!KI P cfg all x y||oE b i j||(!wJ P cfg all x y&&(XB all j x i y).isSome))&&Qt P cfg all b i y xs (Nat.succ j)
def LI (P:Program) (cfg:dD) (all:List Oper) (b:List Nat):List Oper->Nat->Bool
 | [],_=>true
 | o::os,i=>Qt P cfg all b i o all 0&&LI P cfg all b os (Nat.succ i)
def afl (P:Program) (cfg:dD) (all:List Oper):Bool:=Lu P all&&all.all (fun o=>Nat.ble (cF (bw P cfg o.op)) 3)&&LI P cfg all (dE [] all) all 0&&((KK P cfg all).isEmpty||Sm P cfg all)
def fO (o:Oper):Option (TypeId×Tmp):=
 match o.op,o.guard,o.dst with
 | .alloc T,none,some d=>some (T,d)
 | _,_,_=>none
def zg (d:Tmp):List Oper->Bool
 | []=>false
 | o::os=>(match fO o with
  | some (_,e)=>Nat.beq d e
  | none=>false)||zg d os
def vt (all:List Oper) (o:Oper):Option (TypeId×Tmp×Operand):=
 match o.op,o.guard,o.dst with
 | .store T (.tmp d) x,none,none=>cond (zg d all) (some (T,d,x)) none
 | _,_,_=>none
def si (all:List Oper) (o:Oper):Bool:=(fO o).isSome||(vt all o).isSome
def vu (all:List Oper) (d:Tmp):List Oper->Option (TypeId×Operand)
 | []=>none
 | o::os=>match vt all o with
  | some (T,e,x)=>cond (Nat.beq d e) (some (T,x)) (vu all d os)
  | none=>vu all d os
def LJ (i:Nat) (d:Tmp):List Oper->Nat->Bool
 | [],_=>true
 | o::os,j=>(Nat.beq j i||!(OI o.dst [d]))&&LJ i d os (Nat.succ j)
def Ed (all:List Oper) (i:Nat) (d:Tmp):List Oper->Nat->Bool
 | [],_=>true
 | o::os,j=>(Nat.beq j i||(match vt all o with
  | some (_,e,_)=>!(Nat.beq d e)
  | none=>true))&&Ed all i d os (Nat.succ j)
def OY (all:List Oper):List Oper->Nat->Bool
 | [],_=>true
 | o::os,i=>(match fO o with
  | some (_,d)=>LJ i d all 0
  | none=>true)&&(match vt all o with
  | some (_,d,x)=>uB i x all 0&&Ed all i d all 0&&zg d (all.take i)&&!(OI (some d) (tQ [x]))
  | none=>true)&&OY all os (Nat.succ i)
def HH (P:Program) (cfg:dD) (all:List Oper) (b:List Nat) (i:Nat) (y:Oper):List Oper->Nat->Bool
 | [],_=>true
 | x::xs,j=>(Nat.ble i j||!wJ P cfg all x y||oE b i j)&&HH P cfg all b i y xs (Nat.succ j)
def Ci (P:Program) (cfg:dD) (all:List Oper) (b:List Nat):List Oper->Nat->Bool
 | [],_=>true
 | o::os,i=>HH P cfg all b i o all 0&&Ci P cfg all b os (Nat.succ i)
def LK (o:Oper):Option (Operand×List Operand):=
 match o.op,o.guard with
 | .call c,none=>match c.callee with
  | .value (.tmp d)=>some (.tmp d,c.args.toList)
  | _=>none
 | _,_=>none
def G9 (P:Program) (cfg:dD) (t:bd) (p:Operand×List Operand):r8:=
 match gp t p.1 with
 | .fn (.func g) [] []=>match cfg.pc g with
  | some F=>.D9 g (fun vs=>cond (Nat.beq vs.length (bT P g).length) (F (normArgs P (bT P g) vs)) .no) p.2
  | none=>.bad
 | _=>.bad
def TW (P:Program) (cfg:dD) (all:List Oper):Bool:=Lu P all&&all.all (fun o=>si all o||Nat.ble (cF (bw P cfg o.op)) 1||(LK o).isSome)&&Ci P cfg all (dE [] all) all 0&&OY all all 0
def ahC (P:Program) (cfg:dD) (aR:ko R) (all:List Oper) (o:Oper) (k:bd->ae->Option R) (t:bd) (A:ae):Option R:=
 Bool.rec (motive:=fun _=>Option R) (Option.rec (motive:=fun _=>Option R) (Ab P cfg aR all o k t A) (fun p=>JO aR t A (fun v A=>k (qH t o.dst v) A) (G9 P cfg t p)) (LK o)) (k (qH t o.dst .bf) A) (si all o)
def Z2 (P:Program) (cfg:dD) (aR:ko R) (all:List Oper) (k:bd->ae->Option R) (os:List Oper):bd->ae->Option R:=
 List.rec (motive:=fun _=>bd->ae->Option R) k (fun o _ ih=>ahC P cfg aR all o ih) os
def zh (P:Program) (all:List Oper) (t:bd) (T:TypeId) (d:Tmp):Option (List KV):=
 match wx P T with
 | some z=>cond (flat z&&z.cells.toList.all scalar&&gx (fy z).cells&&decide (some (fy z).cells.length=size? P T)) (match vu all d all with
  | some (T',x)=>cond (Nat.beq T T'&&decide (some (gp t x).cells.length=size? P T)&&gx (gp t x).cells) (some (gp t x).cells) none
  | none=>some (fy z).cells) none
 | none=>none
def XC (P:Program) (all:List Oper) (t0:bd) (k:bd->ae->Option R) (os:List Oper):bd->ae->Option R:=
 List.rec (motive:=fun _=>bd->ae->Option R) k (fun o _ ih t A=>Option.rec (motive:=fun _=>Option R) (ih t A) (fun p=>
  Option.rec (motive:=fun _=>Option R) none (fun cs=>ih (t.set (.ptr A.next 0) p.2) (A.new (.row cs (oP P p.1)))) (zh P all t0 p.1 p.2)) (fO o)) os
def xj (P:Program) (cfg:dD) (o:Oper):Bool:=
 match bw P cfg o.op with
 | .call _ _=>true
 | _=>false
def acP (P:Program) (cfg:dD):List Oper->Nat->Option Nat
 | [],_=>none
 | o::os,i=>cond (xj P cfg o) (some i) (acP P cfg os (Nat.succ i))
def Y5 (q:Oper) (j:Nat) (all:List Oper):Bool:=
 match q.guard,G8 q.op with
 | none,some a=>uB j a all 0
 | _,_=>false
def LL (P:Program) (cfg:dD) (b:List Nat) (i:Nat) (h:Bool) (all:List Oper):List Oper->Nat->Bool
 | [],_=>true
 | q::os,j=>cond (Nat.beq j i) true (cond (Nat.blt j i) (cond (Nat.beq (cF (bw P cfg q.op)) 0) true (cond (oE b i j) true (h&&Y5 q j all))) (oE b j i))&&LL P cfg b i h all os (Nat.succ j)
def LM (P:Program) (cfg:dD) (b:List Nat) (all:List Oper):List Oper->Nat->Bool
 | [],_=>true
 | o::os,i=>cond (Nat.ble (cF (bw P cfg o.op)) 1) true (LL P cfg b i (xj P cfg o) all all 0)&&LM P cfg b all os (Nat.succ i)
def Sn (hs:List Nat) (A:ae):Option ae:=
 List.rec (motive:=fun _=>Option ae) (some A) (fun b _ ih=>Option.rec (motive:=fun _=>Option ae) none (fun A'=>match A'.get b with
  | some (.row _ _)=>some (A'.put b (.map []))
  | some (.map [])=>some A'
  | _=>none) ih) hs
def yH (hs:List Nat) (A A' : ae):ae:=
 List.rec (motive:=fun _=>ae) A' (fun b _ ih=>match A.get b with
  | some o=>ih.put b o
  | none=>ih) hs
def Qu (P:Program) (cfg:dD) (b:List Nat) (i:Nat) (t:bd):List Oper->Nat->Option (List Nat)
 | [],_=>some []
 | q::os,j=>match Qu P cfg b i t os (Nat.succ j) with
  | none=>none
  | some l=>cond (Nat.blt j i&&!(Nat.beq (cF (bw P cfg q.op)) 0)&&!(oE b i j)) (match G8 q.op with
   | some a=>match gp t a with
    | .ptr c _=>some (c::l)
    | .tp _ _ _ _ _ _=>some l
    | _=>none
   | none=>none) (some l)
def TX (hs:List Nat) (aR:ko R):ko R:=fun f vs A k=>match Sn hs A with
 | some Ah=>aR f vs Ah (fun v A'=>k v (yH hs A A'))
 | none=>none
def OZ (P:Program) (cfg:dD) (aR:ko R) (all:List Oper) (i:Nat) (o:Oper) (k:bd->ae->Option R) (t:bd) (A:ae):Option R:=
 Bool.rec (motive:=fun _=>Option R) (Ab P cfg aR all o k t A) (Option.rec (motive:=fun _=>Option R) none (fun hs=>Ab P cfg (TX hs aR) all o k t A) (Qu P cfg (dE [] all) i t all 0)) (xj P cfg o)
def AG (P:Program) (cfg:dD) (aR:ko R) (all:List Oper) (k:bd->ae->Option R) (os:List Oper):Nat->bd->ae->Option R:=
 List.rec (motive:=fun _=>Nat->bd->ae->Option R) (fun _=>k) (fun o _ ih i=>OZ P cfg aR all i o (ih (Nat.succ i))) os
def MR (P:Program) (cfg:dD) (all:List Oper):Bool:=
 match acP P cfg all 0 with
 | some _=>Lu P all&&Ci P cfg all (dE [] all) all 0&&LM P cfg (dE [] all) all all 0
 | none=>false
def Z3 (P:Program) (cfg:dD) (aR:ko R) (ops:List Oper) (draw:Bool) (k:bd->ae->Option R):bd->ae->Option R:=
 Bool.rec (motive:=fun _=>bd->ae->Option R) (XA P cfg aR ops k ops) (Bool.rec (motive:=fun _=>bd->ae->Option R)
  (Bool.rec (motive:=fun _=>bd->ae->Option R)
   (Bool.rec (motive:=fun _=>bd->ae->Option R) (fun _ _=>none) (Z2 P cfg aR ops (fun t A=>XC P ops t k ops t A) ops) (TW P cfg ops))
   (AG P cfg aR ops k ops 0) (MR P cfg ops))
  (fun t A=>XA P cfg aR ops (fun t' A'=>Bool.rec (motive:=fun _=>Option R) none (k t' A') (Sk t' A.next (KK P cfg ops))) ops t A) (afl P cfg ops)) draw
def Sp (k:KE R) (f:bd->ae->Option R):KE R:=fun e t A=>ah.rec (motive:=fun _=>Option R) (f t A) (fun i=>k (.exit i) t A) (fun l=>k (.goto l) t A) (k .ret t A) e
def ai9 (id:Nat) (k:KE R):KE R:=fun e t A=>ah.rec (motive:=fun _=>Option R) (k .normal t A) (fun i=>Bool.rec (motive:=fun _=>Option R) (k (.exit i) t A) (k .normal t A) (Nat.beq i id)) (fun l=>k (.goto l) t A) (k .ret t A) e
def Z4 (k:KE R):KE R:=fun e t A=>ah.rec (motive:=fun _=>Option R) (k .normal t A) (fun i=>k (.exit i) t A) (fun _=>none) (k .ret t A) e
def V5 (g:KE R->bd->ae->Option R) (k:KE R) (L:Nat):bd->ae->Option R:=
 Nat.rec (motive:=fun _=>bd->ae->Option R) (fun _ _=>none) (fun _ ih=>g (Sp k ih)) L
def x7.run (k:KV->ae->Option R) (x:x7):Option R:=x7.rec (motive:=fun _=>Option R) none (fun v A=>k v A) (fun c _ _ rx ry=>Bool.rec (motive:=fun _=>Option R) ry rx c) x
def wq.run (k:KE R) (x:wq):Option R:=wq.rec (motive:=fun _=>Option R) none (fun e t A=>k e t A) (fun c _ _ rx ry=>Bool.rec (motive:=fun _=>Option R) ry rx c) none x
def Sq (F:bd->ae->wq) (k:KE R) (t:bd) (A:ae):Option R:=(F t A).run k
def O0:Nat:=999983
def JP:Code->Option Nat
 | .seq (.label l) _=>some l
 | .seq _ b=>JP b
 | _=>none
def V6 (k:KE R):KE R:=fun e t A=>ah.rec (motive:=fun _=>Option R) none (fun i=>Bool.rec (motive:=fun _=>Option R) (k (.exit i) t A) (k .normal t A) (Nat.beq i O0)) (fun _=>none) (k .ret t A) e
def adZ (ol:Option Nat) (F:bd->ae->wq) (k:KE R):KE R:=fun e t A=>ah.rec (motive:=fun _=>Option R) (k .normal t A) (fun i=>k (.exit i) t A)
 (fun l'=>Option.rec (motive:=fun _=>Option R) none (fun l=>Bool.rec (motive:=fun _=>Option R) none (wq.run (V6 k) (F t A)) (Nat.beq l' l)) ol) (k .ret t A) e
def ad0 (x:wq):Bool:=wq.rec (motive:=fun _=>Bool) false (fun _ _ _=>false) (fun _ _ _ _ _=>false) true x
def V7 (g:KE R->bd->ae->Option R) (F:bd->ae->wq) (k:KE R) (L:Nat):bd->ae->Option R:=
 Nat.rec (motive:=fun _=>bd->ae->Option R) (fun t A=>Sq F k t A) (fun _ ih t A=>Bool.rec (motive:=fun _=>Option R) (Sq F k t A) (g (Sp k ih) t A) (ad0 (F t A))) L
def gK:Nat:=1000000000000000000000
def oS (P:Program) (cfg:dD) (aR:ko R) (L:Nat) (f:FuncId) (c:Code):Nat->KE R->bd->ae->Option R:=
 Code.rec (motive:=fun _=>Nat->KE R->bd->ae->Option R) (fun _ k t A=>k .normal t A)
  (fun _ ops d _ k=>Z3 P cfg aR ops.toList d (fun t A=>k .normal t A))
  (fun _ _ a b p k=>a (2 * p) (Sp k fun t A=>b (2 * p+1) k t A))
  (fun c _ _ a b p k t A=>adY t c (fun t=>a (2 * p) k t A) (fun t=>b (2 * p+1) k t A))
  (fun id _ g p k=>g (2 * p) (ai9 id k))
  (fun _ g p k=>Option.rec (motive:=fun _=>bd->ae->Option R) (V5 (g (2 * p)) k L) (fun F=>V7 (g (2 * p)) F k L) (cfg.lp f p))
  (fun _ _ _ _ _ _ _ _ _ _=>none) (fun id _ k t A=>k (.exit id) t A) (fun c g p k=>Option.rec (motive:=fun _=>bd->ae->Option R) (g (2 * p) (Z4 k)) (fun F=>g (2 * p) (adZ (JP c) F k)) (cfg.lp f p)) (fun _ _ k t A=>k .normal t A) (fun l _ k t A=>k (.goto l) t A) (fun _ k t A=>k .ret t A) (fun _ _ _ _ _=>none) c
def oT:List KV->Nat->bd->bd
 | [],_,t=>t
 | v::vs,i,t=>oT vs (Nat.succ i) (t.set v i)
def LN (P:Program) (A:ae) (t:bd):List ResultVar->Option (List KV)
 | []=>some []
 | .tmp x::rs=>(LN P A t rs).map (gp t (.tmp x)::·)
 | .cell a ty::rs=>match Aa P ty A [gp t (.tmp a)] with
  | .ok v=>(LN P A t rs).map (v::·)
  | _=>none
def H9:List KV->KV
 | [v]=>v
 | vs=>.ma vs
def afm (P:Program) (fn:Func) (k:List KV->ae->Option R):KE R:=fun e t A=>
 ah.rec (motive:=fun _=>Option R) (Option.rec (motive:=fun _=>Option R) none (fun vs=>k vs A) (LN P A t fn.results.toList)) (fun _=>none) (fun _=>none) (Option.rec (motive:=fun _=>Option R) none (fun vs=>k vs A) (LN P A t fn.results.toList)) e
def V8 (P:Program) (cfg:dD) (aR:ko R) (L:Nat) (f:FuncId) (args:List KV) (A:ae) (k:List KV->ae->Option R):Option R:=
 match P.funcs.toList[f]? with
 | some fn=>match fn.body with
  | some c=>oS P cfg aR L f c 1 (afm P fn k) (oT args 0 .leaf) A
  | none=>none
 | none=>none
def Ha (P:Program) (cfg:dD) (L:Nat) (n:Nat):ko R:=
 Nat.rec (motive:=fun _=>ko R) (fun _ _ _ _=>none) (fun _ ih f args A k=>
  Bool.rec (motive:=fun _=>Option R) none (Option.rec (motive:=fun _=>Option R) (V8 P cfg ih L f args A fun vs B=>k (H9 vs) B) (fun F=>x7.run k (F args A)) (cfg.x.ac f)) (Nat.blt f yB)) n
end
def zi (P:Program):List TypeId->List KV->List KV
 | t::ts,v::vs=>TT P t v::zi P ts vs
 | _,_=>[]
def vv (P:Program) (g:FuncId):List TypeId:=match P.funcs.toList[g]? with
 | some fn=>fn.resultTypes.toList
 | none=>[]
def CV (P:Program) (cfg:dD) (L n:Nat) (f:FuncId) (args:List KV):Option KV:=
 V8 P cfg (Ha P cfg L n) L f args .empty fun vs A=>Bool.rec (motive:=fun _=>Option KV) none (some (H9 (zi P (vv P f) (zX A vs).1))) (Nat.beq vs.length (vv P f).length)
end
end Go.K
end
