/- Part of the proof of WorldIn: the machine, shown to be the model's, and plain models. No conditions. -/
import Derived.Test.YtckbdndhmcoihaaAq
import Derived.Laws.Slices
import Derived.Laws.MakeOwn
import Derived.Laws.AppendOwn
import Derived.MapKept
import Derived.Laws.IdiomStrings
import Derived.OrdersIn
import Derived.LoopNIn
import Derived.RangeFuncRecord
import Derived.Scope
set_option linter.unusedSimpArgs false
set_option linter.unusedVariables false
section
namespace Go.aG
open Go
section
variable {P:Program} {o:Oper}
theorem jd {ρ:Ren} {y y' : Nat} {v v' : Value} {r:Nat} (hv:VR ρ v v') (h:Zz y v=some r) (hy:y<=y') :
  r<=y/\∀ code w,(Instr.sliceBound v' y' code).run P w = .ok r w:=by
 unfold Zz at h;split at h
 ·rename_i k i
  obtain ⟨rfl,bm⟩:=Di h;have:=hv.cg;subst this;have hle:r<=y:=by omega
  refine ⟨hle,fun code w=>?_⟩;have:=run_sliceBound (P:=P) w k (r:Int) y' code (by omega) (by omega);simpa using this
 ·simp at h
theorem Kw {ρ:Ren} {ev cF:Operand->Value} {lo hi mx:Option Operand} {len cap aaK l h m:Nat} (he:AB ρ ev cF (eY lo++eY hi++eY mx))
  (hb:wD len cap lo.isSome hi.isSome mx.isSome ((eY lo++eY hi++eY mx).map ev)=some (l,h,m)) (hc:cap<=aaK) (HR:len<=cap) :
  l<=h/\h<=m/\m<=cap/\m<=(cond mx.isSome m aaK)/\(cond mx.isSome m aaK)<=aaK/\(mx.isSome=false->m=cap)/\∀ b w,(Instr.sliceBounds b len aaK (lo.map cF) (hi.map cF) (mx.map cF)).run P w = .ok (l,h,cond mx.isSome m aaK) w:=by
 cases lo with
 | none=>
  cases hi with
  | none=>
   cases mx with
   | none=>
    simp [eY,wD] at hb;obtain ⟨rfl,rfl,rfl⟩:=hb;exact ⟨by omega,HR,aC _,hc,aC _,fun _=>rfl,fun b w=>by simp [Instr.sliceBounds]⟩
   | some x=>simp [eY,wD] at hb
  | some y=>
   cases mx with
   | none=>
    simp only [eY,Option.isSome,List.nil_append,yH,List.map,wD,cj] at hb;obtain ⟨r,hr,hb⟩:=hb;simp at hb;obtain ⟨rfl,rfl,rfl⟩:=hb;obtain ⟨h1,h2⟩:=jd (P:=P) (he y (by simp [eY])) hr hc;exact ⟨by omega,h1,aC _,hc,aC _,fun _=>rfl,fun b w=>by simp [Instr.sliceBounds,h2]⟩
   | some z=>
    simp only [eY,Option.isSome,List.nil_append,List.map,List.cons_append,wD,cE,cj] at hb;obtain ⟨r,hr,q,hq,hb⟩:=hb;simp at hb;obtain ⟨rfl,rfl,rfl⟩:=hb;obtain ⟨h1,h2⟩:=jd (P:=P) (he z (by simp [eY])) hr hc;obtain ⟨h3,h4⟩:=jd (P:=P) (he y (by simp [eY])) hq (aC _);exact ⟨by omega,h3,h1,aC _,by simp; omega,fun h=>by simp at h,fun b w=>by simp [Instr.sliceBounds,h2,h4]⟩
 | some x=>
  cases hi with
  | none=>
   cases mx with
   | none=>
    simp only [eY,Option.isSome,yH,List.map,wD,cj] at hb;obtain ⟨r,hr,hb⟩:=hb;simp at hb;obtain ⟨rfl,rfl,rfl⟩:=hb;obtain ⟨h1,h2⟩:=jd (P:=P) (he x (by simp [eY])) hr (aC _);exact ⟨h1,HR,aC _,hc,aC _,fun _=>rfl,fun b w=>by simp [Instr.sliceBounds,h2]⟩
   | some x=>simp [eY,wD] at hb
  | some y=>
   cases mx with
   | none=>
    simp only [eY,Option.isSome,yH,List.map,List.cons_append,List.nil_append,wD,cE,cj] at hb;obtain ⟨r,hr,q,hq,hb⟩:=hb;simp at hb;obtain ⟨rfl,rfl,rfl⟩:=hb;obtain ⟨h1,h2⟩:=jd (P:=P) (he y (by simp [eY])) hr hc;obtain ⟨h3,h4⟩:=jd (P:=P) (he x (by simp [eY])) hq (aC _);exact ⟨h3,h1,aC _,hc,aC _,fun _=>rfl,fun b w=>by simp [Instr.sliceBounds,h2,h4]⟩
   | some z=>
    simp only [eY,Option.isSome,List.map,List.cons_append,List.nil_append,wD,cE,cj] at hb;obtain ⟨r,hr,q,hq,s,hs,hb⟩:=hb;simp at hb;obtain ⟨rfl,rfl,rfl⟩:=hb;obtain ⟨h1,h2⟩:=jd (P:=P) (he z (by simp [eY])) hr hc;obtain ⟨h3,h4⟩:=jd (P:=P) (he y (by simp [eY])) hq (aC _);obtain ⟨h5,h6⟩:=jd (P:=P) (he x (by simp [eY])) hs (aC _);exact ⟨h5,h3,h1,aC _,by simp; omega,fun h=>by simp at h,fun b w=>by simp [Instr.sliceBounds,h2,h4,h6]⟩
theorem aaL {A:St} {b n:Nat} (h:Dc A b n=true):∃ cs own bN,A.get b=some (.row cs n own bN):=by
 unfold Dc at h;split at h
 ·rename_i cs bp own bN hg
  have:=aL h;subst this;exact ⟨cs,own,bN,hg⟩
 ·simp at h
theorem ok_slice {t:TypeId} {x:Operand} {lo hi mx:Option Operand} (ho:o.op = .slice t x lo hi mx):gC P o (Ma P t x lo hi mx):=by
 unfold Ma;split
 ·rename_i e hu
  split
  ·rename_i n hn
   cases Hk:Nat.ble 1 n with
   | false=>exact True.intro
   | true=>
    rw [aj];have Hk:1<=n:=dX Hk;intro ρ A base w ev cF v hs he hf;have hx:=he x (by simp);have hsl:P.underlying t=some (.slice (P.elem t))->True:=fun _=>trivial;simp only [List.map,vr] at hf;split at hf
    ·rename_i len cap vs e1
     simp only [List.cons.injEq] at e1;obtain ⟨e1,e2⟩:=e1;rw [e1] at hx;have hx:=hx.ga;subst e2;obtain ⟨⟨l,h,m⟩,hb,rfl⟩:=cj.1 hf;by_cases HR:len<=cap
     ·obtain ⟨h1,h2,h3,h4,h5,h6,h7⟩:=Kw (P:=P) he.tail hb (aC _) HR
      have hm:cond mx.isSome m cap=m:=by cases hmx:mx.isSome <;> simp; exact (h6 hmx).symm
      refine ⟨.slice none (h - l) (m - l),by simp [VR],?_⟩;simp [execOp,ho,Instr.sliceAt,Instr.slice,bq hu,hx,h7,hm,pk hn]
     ·
      have key:∀ b w,(Instr.sliceBounds b len cap (lo.map cF) (hi.map cF) (mx.map cF)).run P w = .ok (l,h,m) w:=by
       intro b w;have ajM:cap<=len:=by omega
       cases lo with
       | none=>
        cases hi with
        | none=>
         cases mx with
         | none=>simp [eY,wD] at hb; obtain ⟨rfl,rfl,rfl⟩:=hb; simp [Instr.sliceBounds]
         | some x=>simp [eY,wD] at hb
        | some y=>
         cases mx with
         | none=>
          simp only [eY,Option.isSome,List.nil_append,yH,List.map,wD,cj] at hb;obtain ⟨r,hr,hb⟩:=hb;simp at hb;obtain ⟨rfl,rfl,rfl⟩:=hb;have:=(jd (P:=P) (he y (by simp [eY])) hr (aC _)).2;simp [Instr.sliceBounds,this]
         | some z=>
          simp only [eY,Option.isSome,List.nil_append,List.map,List.cons_append,wD,cE,cj] at hb;obtain ⟨r,hr,q,hq,hb⟩:=hb;simp at hb;obtain ⟨rfl,rfl,rfl⟩:=hb;have h2:=(jd (P:=P) (he z (by simp [eY])) hr (aC _)).2;have h4:=(jd (P:=P) (he y (by simp [eY])) hq (aC _)).2;simp [Instr.sliceBounds,h2,h4]
       | some x'=>
        cases hi with
        | none=>
         cases mx with
         | none=>
          simp only [eY,Option.isSome,yH,List.map,wD,cj] at hb;obtain ⟨r,hr,hb⟩:=hb;simp at hb;obtain ⟨rfl,rfl,rfl⟩:=hb;have:=(jd (P:=P) (he x' (by simp [eY])) hr (aC _)).2;simp [Instr.sliceBounds,this]
         | some x=>simp [eY,wD] at hb
        | some y=>
         cases mx with
         | none=>
          simp only [eY,Option.isSome,yH,List.map,List.cons_append,List.nil_append,wD,cE,cj] at hb;obtain ⟨r,hr,q,hq,hb⟩:=hb;simp at hb;obtain ⟨rfl,rfl,rfl⟩:=hb;have h2:=(jd (P:=P) (he y (by simp [eY])) hr (aC _)).2;have h4:=(jd (P:=P) (he x' (by simp [eY])) hq (aC _)).2;simp [Instr.sliceBounds,h2,h4]
         | some z=>
          simp only [eY,Option.isSome,List.map,List.cons_append,List.nil_append,wD,cE,cj] at hb;obtain ⟨r,hr,q,hq,s,Pd,hb⟩:=hb;simp at hb;obtain ⟨rfl,rfl,rfl⟩:=hb;have h2:=(jd (P:=P) (he z (by simp [eY])) hr (aC _)).2;have h4:=(jd (P:=P) (he y (by simp [eY])) hq (aC _)).2;have h6:=(jd (P:=P) (he x' (by simp [eY])) Pd (aC _)).2;simp [Instr.sliceBounds,h2,h4,h6]
      refine ⟨.slice none (h - l) (m - l),by simp [VR],?_⟩;simp [execOp,ho,Instr.sliceAt,Instr.slice,bq hu,hx,key,pk hn]
    ·rename_i a len cap vs e1
     simp only [List.cons.injEq] at e1;obtain ⟨e1,e2⟩:=e1;rw [e1] at hx;subst e2;obtain ⟨Gv,HR,lc,a',c',hl,vw,Lt,mR,h'⟩:=hx.lK;cases hg:(cK a&&Dc A a.block n) with
     | false=>rw [hg] at hf; simp at hf
     | true=>
      rw [hg,aj] at hf;obtain ⟨_,UQ⟩:=Bool.and_eq_true_iff.1 hg;obtain ⟨cs,own,bN,fv⟩:=aaL UQ;obtain ⟨l2,k7,ok⟩:=hs.row _ _ _ _ _ fv;rw [hl] at k7; simp at k7; subst k7;have hez:lc.bp=n:=ok.bp;obtain ⟨⟨l,h,m⟩,hb,rfl⟩:=cj.1 hf;obtain ⟨h1,h2,h3,h4,h5,h6,h7⟩:=Kw (P:=P) he.tail hb vw HR;generalize Pv:cond mx.isSome m c' = m' at h4 h5 h7;refine ⟨.slice (some (if m' = l then a' else a'.add (l * n))) (h - l) (m' - l),?_,?_⟩
      ·simp only [VR]
       refine ⟨trivial,by omega,lc,_,m' - l,hl,by omega,fun cD=>?_,?_,rfl⟩
       ·rw [aa (by omega),Lt (by omega),kP]
        simp only [HK]
       ·rw [hez]
        rw [hez] at mR;have e5:l * n+(m' - l) * n=m' * n:=by rw [<- Nat.add_mul]; congr 1; omega
        have e6:m' * n<=c' * n:=Nat.mul_le_mul_right _ h5;omega
      ·simp only [execOp,ho,Instr.sliceAt,Instr.slice,Sem.run_bind,bq hu,ir,h',h7,pk hn]
       by_cases W6:m' = l <;> simp [W6]
    ·simp at hf
  ·trivial
 ·rename_i len e hu
  split
  ·rename_i n hn
   cases Hk:Nat.ble 1 n with
   | false=>exact True.intro
   | true=>
    rw [aj];intro ρ A base w ev cF v hs he hf;have hx:=he x (by simp);simp only [List.map,Nh] at hf;split at hf
    ·rename_i a vs e1
     simp only [List.cons.injEq] at e1;obtain ⟨e1,e2⟩:=e1;rw [e1] at hx;subst e2;obtain ⟨Gv,lc,hl,h'⟩:=hx.ig;cases hg:(cK a&&Dc A a.block n&&Nat.ble (a.off+len * n) (rowLen A a.block)) with
     | false=>rw [hg] at hf; simp at hf
     | true=>
      rw [hg,aj] at hf;simp only [ao] at hg;obtain ⟨⟨_,UQ⟩,hlen⟩:=hg;obtain ⟨cs,own,bN,fv⟩:=aaL UQ;obtain ⟨l2,k7,ok⟩:=hs.row _ _ _ _ _ fv;rw [hl] at k7; simp at k7; subst k7;have hez:lc.bp=n:=ok.bp;have hlen:=dX hlen;have Pz:rowLen A a.block=cs.length:=by unfold rowLen; rw [fv]
      rw [Pz] at hlen;have hft:=ok.fits;obtain ⟨⟨l,h,m⟩,hb,rfl⟩:=cj.1 hf;obtain ⟨h1,h2,h3,h4,h5,h6,h7⟩:=Kw (P:=P) he.tail hb (aC _) (aC _);have hm:cond mx.isSome m len=m:=by cases hmx:mx.isSome <;> simp; exact (h6 hmx).symm
      rw [hm] at h7;refine ⟨.slice (some (if m=l then ⟨lc.cb,lc.dw+a.off,none⟩ else (⟨lc.cb,lc.dw+a.off,none⟩:Addr).add (l * n))) (h - l) (m - l),?_,?_⟩
      ·simp only [VR]
       refine ⟨trivial,by omega,lc,_,m - l,hl,aC _,fun cD=>?_,?_,rfl⟩
       ·rw [aa (by omega),kP]
        simp only [HK]
       ·rw [hez]
        have e5:l * n+(m - l) * n=m * n:=by rw [<- Nat.add_mul]; congr 1; omega
        have e6:m * n<=len * n:=Nat.mul_le_mul_right _ h3;omega
      ·simp only [execOp,ho,Instr.sliceAt,Sem.run_bind,bq hu,ir,h',Instr.sureAddr,Sem.run_pure,h7,pk hn]
    ·simp at hf
  ·trivial
 ·rename_i hu
  cases hmx:mx with
  | some z=>exact True.intro
  | none=>
   show gC P o (.pure (IM lo.isSome hi.isSome) (x::(eY lo++eY hi)));intro ρ ev cF v he hf;have hx:=he x (by simp);simp only [List.map,IM] at hf;split at hf
   ·rename_i s vs e1
    simp only [List.cons.injEq] at e1;obtain ⟨e1,e2⟩:=e1;rw [e1] at hx;have hx:=hx.rA;subst e2;obtain ⟨⟨l,h,m⟩,hb,rfl⟩:=cj.1 hf;have Lv:AB ρ ev cF (eY lo++eY hi++eY (none:Option Operand)):=by simpa [eY] using he.tail
    obtain ⟨h1,h2,h3,h4,h5,h6,h7⟩:=Kw (P:=P) (mx:=none) Lv (by simpa [eY] using hb) (aC _) (aC _);simp only [Option.isSome_none,aH,Option.map_none] at h7;refine ⟨.string (s.extract l h),?_,fun w=>?_⟩
    ·have e:(⟨⟨(s.data.toList.drop l).take (h - l)⟩⟩:ByteArray)=s.extract l h:=by
      apply ByteArray.ext;apply Array.ext';simp [ByteArray.data_extract,List.extract_eq_take_drop]
     rw [e];simp [VR]
    ·simp [execOp,ho,Instr.sliceAt,Instr.slice,bq hu,hx,hmx,h7]
   ·simp at hf
 ·trivial
theorem ac4 {t:TypeId} {l c:Operand} (ho:o.op = .makeSlice t l c):gC P o (Bc P t l c):=by
 unfold Bc;split
 ·rename_i e hu
  split
  ·rename_i i hi
   split
   ·rename_i z hz
    cases hc:(Nat.ble 1 i.size&&Nat.ble 1 i.bytes&&Nat.beq z.cells.size i.size&&flat z&&z.cells.toList.all scalar) with
    | false=>exact True.intro
    | true=>
     rw [aj];simp only [ao] at hc;obtain ⟨⟨⟨⟨h1,h2⟩,h3⟩,h4⟩,h5⟩:=hc;have hn:1<=i.size:=dX h1;have hb:1<=i.bytes:=dX h2;have hzs:z.cells.size=i.size:=aL h3;rw [fk] at h5;intro ρ ev cF obj mk he hf;simp only [List.map,FX] at hf;split at hf
     ·rename_i k1 l0 k2 c0 e1
      simp only [List.cons.injEq,and_true] at e1;cases hk:(Nat.ble l0 c0&&Nat.ble (i.bytes * c0) 281474976710656) with
      | false=>rw [hk] at hf; simp at hf
      | true=>
       rw [hk,aj] at hf;obtain ⟨tY,WZ⟩:=Bool.and_eq_true_iff.1 hk;have hle:l0<=c0:=dX tY;have ZC:i.bytes * c0<=281474976710656:=dX WZ;simp only [bQ,dt] at hf;obtain ⟨rfl,rfl⟩:=hf;have hl:=he l (by simp);have vw:=he c (by simp);rw [e1.1] at hl;rw [e1.2] at vw;have hl:=hl.cg;have vw:=vw.cg;have e2:madeCells z.cells (c0 * i.size)=⟨fD z.cells.toList c0⟩:=by
        unfold madeCells;rw [<- hzs];exact Tk z.cells c0 (by omega)
       have hc0:c0<=i.bytes * c0:=Nat.le_mul_of_pos_left _ hb;have ap9:∀ (z:List Value) (k:Nat),(fD z k).length=k * z.length:=by
        intro z k
        induction k with
        | zero=>simp [fD]
        | succ k ih=>simp [fD,ih,Nat.succ_mul,Nat.add_comm]
       have aqa:∀ (z:List Value) (k:Nat) (v:Value),v∈fD z k->v∈z:=by
        intro z k v
        induction k with
        | zero=>simp [fD]
        | succ k ih=>simp only [fD,jM]; exact fun h=>h.elim id ih
       refine ⟨.cells ⟨fD z.cells.toList c0⟩ e,fun b=>.slice (some ⟨b,0,none⟩) l0 c0,⟨_,e,rfl,dB.repeat (Kv h4) c0,fun v hv=>h5 v (aqa _ _ _ hv)⟩,fun w=>?_,fun aF n cb kK=>?_⟩
       ·have hr:=run_make (P:=P) w t e i z hu hi hz k1 k2 (l0:Int) (c0:Int) (by omega) (by omega) (by rw [<- Int.natCast_mul]; exact Int.ofNat_le.2 ZC) (by omega)
        have vb:cF l = .int k1 (l0:Int):=hl;have hc' : cF c = .int k2 (c0:Int):=vw;simp only [C9,e2] at hr;simp [execOp,ho,vb,hc',hr]
       ·simp only [VR]
        refine ⟨trivial,hle,_,⟨cb,0,none⟩,c0,kK,aC _,fun _=>rfl,?_,rfl⟩;show 0+0+c0 * i.size<=(fD z.cells.toList c0).length;rw [ap9];simp [hzs]
     ·simp at hf
   ·trivial
  ·trivial
 ·trivial
theorem ak4 {t:TypeId} {x:Operand} (ho:o.op = .makeInterface t x):gC P o (WS P t x):=by
 unfold WS;split
 ·trivial
 ·rename_i d hu hd
  intro ρ ev cF v he hf;simp [ajK] at hf;subst hf;refine ⟨.iface t (cF x),by simp only [VR]; exact ⟨_,he x (by simp),rfl⟩,fun w=>?_⟩;simp only [execOp,ho,Instr.makeInterface,Sem.run_bind,bq hd,ir];cases d <;> first | rfl | exact absurd rfl (hu _)
 ·trivial
theorem UR {ρ:Ren} {s:List Value->Sem Value} {vs b7:List Value} {v:Value} (hv:dB ρ vs b7) (h:Ng P s vs=some v):VR ρ v v/\∀ w,(s b7).run P w = .ok v w:=by
 unfold Ng at h;cases hf:yU vs with
 | false=>rw [hf] at h; simp at h
 | true=>
  rw [hf,aj] at h;obtain ⟨u,hu,h⟩:=cE.1 h;cases hfu:flat u with
  | false=>rw [hfu] at h; simp at h
  | true=>
   rw [hfu] at h;simp at h;subst h;rw [dB.qK hf hv];exact ⟨VR.of_flat hfu,fun w=>fI hu w⟩
theorem an3 {argTypes:Array TypeId} {args:Array Operand} (ho:o.op = .call ⟨.builtin .min,args,argTypes⟩):gC P o (.pure (Ng P fun vs=>Builtin.min_ #[] 0 ⟨vs⟩) args.toList):=by
 intro ρ ev cF v he hf;obtain ⟨h1,h2⟩:=UR he.map hf;refine ⟨v,h1,fun w=>?_⟩;have h3:=h2 w;simp only [Builtin.min_] at h3;simp only [execOp,ho,resolve,Sem.run_bind,Sem.run_pure,ir,invoke,builtin,Builtin.min_,oZ];simp only [h3,ir]
theorem an4 {argTypes:Array TypeId} {args:Array Operand} (ho:o.op = .call ⟨.builtin .max,args,argTypes⟩):gC P o (.pure (Ng P fun vs=>Builtin.max_ #[] 0 ⟨vs⟩) args.toList):=by
 intro ρ ev cF v he hf;obtain ⟨h1,h2⟩:=UR he.map hf;refine ⟨v,h1,fun w=>?_⟩;have h3:=h2 w;simp only [Builtin.max_] at h3;simp only [execOp,ho,resolve,Sem.run_bind,Sem.run_pure,ir,invoke,builtin,Builtin.max_,oZ];simp only [h3,ir]
theorem YE {ρ:Ren} {x x' : Value} {k:Nat} (hx:VR ρ x x') (h:YA x=some k):Builtin.lenOf x' = Sem.pure k:=by
 unfold YA at h;split at h
 ·obtain ⟨a',c',rfl⟩:=aaJ hx
  simp at h; subst h; rfl
 ·have:=hx.rA
  subst this;simp at h; subst h; rfl
 ·simp at h
theorem FD {ρ:Ren} {A:St} {base:Nat} {w:World} {n k:Nat} {x x' : Value} {new:List Value} (hs:Rel ρ A.get A.members base w) (hx:VR ρ x x') (h:zC A n k x=some new)
  (hk:∀ m,YA x=some m->k<=m) (hn:1<=n):∃ cC,dB ρ new cC/\(∀ v∈new,scalar v=true)/\new.length=k * n/\(Builtin.firstCells n k x').run P w = .ok cC.toArray w:=by
 unfold zC at h;split at h
 ·rename_i a len cap
  obtain ⟨Gv,HR,lc,a',c',hl,vw,Lt,mR,rfl⟩:=hx.lK;have hkl:=hk len rfl;obtain ⟨bP,h1,h2,h3,h4⟩:=zF (P:=P) hs h hl;refine ⟨bP,h1,h3,h2,?_⟩;simp only [Builtin.firstCells];by_cases hc:c' = 0
  ·have xy:k=0:=by omega
   subst xy;have yJ:new = []:=by rw [Nat.zero_mul] at h2; exact List.eq_nil_of_length_eq_zero h2
   subst yJ;rw [h1.b6,Nat.zero_mul];exact run_loadCells_list w a' [] (by simp)
  ·rw [Lt hc]; exact h4
 ·rename_i len cap
  have:=hx.ga;subst this;cases hb:Nat.beq k 0 with
  | false=>rw [hb] at h; simp at h
  | true=>
   rw [hb] at h;simp at h;subst h;have xy:=aL hb;subst xy;exact ⟨[],.nil,by simp,by simp,run_firstCells_none w n 0 len cap⟩
 ·rename_i s
  have:=hx.rA;subst this;cases hb:Nat.beq n 1 with
  | false=>rw [hb] at h; simp at h
  | true=>
   rw [hb] at h;simp at h;have hn1:=aL hb;subst hn1;have qL:=hk s.size rfl;have dT:s.data.size=s.size:=rfl;have fl:∀ l:List UInt8,dB ρ (l.map fun b=>Value.int .u8 b.toNat) (l.map fun b=>Value.int .u8 b.toNat):=by
    intro l
    induction l with
    | nil=>exact .nil
    | cons x l ih=>exact .cons (by simp [VR]) ih
   subst h;refine ⟨((s.data.toList.take k).map fun b=>.int .u8 b.toNat),by simpa using fl (s.data.toList.take k),?_,?_,?_⟩
   ·intro v hv
    obtain ⟨b,_,rfl⟩:=HJ.1 (by first | exact hv | exact List.mem_of_mem_take hv);rfl
   ·simp; omega
   ·simp only [Builtin.firstCells]
    rw [Sem.run_pure];congr 1;apply Array.ext';simp [ByteArray.data_extract,List.extract_eq_take_drop]
 ·simp at h
theorem zG (t u ty e:TypeId) (i:TypeInfo) (ht:P.underlying t=some (.slice e)) (hi:P.info? e=some i) (hu:Ni P u=true) (base:Option Addr) (dx rz:Nat) (x:Value) (n:Nat) (news:List Value)
  (hlen:Builtin.lenOf x=Sem.pure n) (w:World) (wN:(Builtin.firstCells i.size n x).run P w = .ok news.toArray w) (Gx:dx+n<=rz) :
  (Builtin.append_ #[t,u] ty #[.slice base dx rz,x]).run P w=(((match base with | some a=>storeCells (a.add (dx * i.size)) news | none=>pure ():Sem Unit).run P w).andThen fun _ w=>.ok (.slice base (dx+n) rz) w):=by
 have hk:(∃ e',P.underlying u=some (.slice e'))\/P.underlying u=some .string:=by
  unfold Ni at hu;split at hu
  ·rename_i e' h; exact .inl ⟨_,h⟩
  ·rename_i h; exact .inr h
  ·simp at hu
 rcases hk with ⟨e',hk⟩ | hk <;> cases base <;> simp [Builtin.append_,bq ht,bq hk,sizeOf,typeInfo,hi,hlen,Gx,wN]
theorem W7 (t u ty e:TypeId) (i:TypeInfo) (z:Value) (ht:P.underlying t=some (.slice e)) (hi:P.info? e=some i) (hz:i.zero=some z) (hu:Ni P u=true) (base:Option Addr) (dx rz:Nat)
  (x:Value) (n:Nat) (YF news:List Value) (hlen:Builtin.lenOf x=Sem.pure n) (w:World) (hold:(Builtin.firstCells i.size dx (.slice base dx rz)).run P w.drew = .ok YF.toArray w.drew)
  (wN:(Builtin.firstCells i.size n x).run P w.drew = .ok news.toArray w.drew) (hg:rz < dx+n) (h63:dx+n<=17592186044416) (mR:Builtin.nextslicecap (dx+n) rz * i.bytes<=281474976710656) :
  (Builtin.append_ #[t,u] ty #[.slice base dx rz,x]).run P w =
   .ok (.slice (some ⟨w.heap.size,0,none⟩) (dx+n) (grownCap w (dx+n) rz e))
    (w.drew.alloc (.cells ((YF++news).toArray++Builtin.zeroCells z.cells (grownCap w (dx+n) rz e - (dx+n))) e)):=by
 have hk:(∃ e',P.underlying u=some (.slice e'))\/P.underlying u=some .string:=by
  unfold Ni at hu;split at hu
  ·rename_i e' h; exact .inl ⟨_,h⟩
  ·rename_i h; exact .inr h
  ·simp at hu
 have hn : ¬ (dx+n<=rz):=by omega
 have aqb : ¬ (9223372036854775807 < ((dx:Int)+(n:Int))):=by omega
 have aqc : ¬ (281474976710656 < Builtin.nextslicecap (dx+n) rz * i.bytes):=by omega
 rcases hk with ⟨e',hk⟩ | hk <;>
  (simp [Builtin.append_,bq ht,bq hk,sizeOf,typeInfo,zeroValue,hi,hz,hlen,hn,aqb,aqc,Question.forced,wN,hold,newRow,grownCap]
   congr 2;apply Array.ext';simp [List.append_assoc])
theorem aaM {ρ:Ren} {A:St} {base:Nat} {w:World} (hs:vu ρ A base w) (b lo hi:Nat) (L:List Nat):jb base ρ A w ρ (A.kill b lo hi L) w:=by
 obtain ⟨hl1,k7⟩:=Mh b lo hi L A;have Pc:∀ x o,(A.kill b lo hi L).get x=some o->o≠.dead->A.get x=some o:=by
  intro x o hx hd;rw [EG] at hx;split at hx
  ·simp at hx; exact absurd hx.symm hd
  ·exact hx
 have hm:∀ o:ct,o.eH=true->o≠.dead:=by intro o h e; subst e; simp [ct.eH] at h
 refine ⟨⟨.FC (fun x o hx hd=>hs.rel.obj (Pc x o hx hd) hd) (fun b1 b2 o1 o2 l1 l2 cD g1 g2 m1 m2=>hs.rel.apart b1 b2 o1 o2 l1 l2 cD (Pc _ _ g1 (hm _ m1)) (Pc _ _ g2 (hm _ m2)) m1 m2) (fun x o aP f hx hk=>?_),fun x l h=>?_,hs.size,hs.IU⟩,
  fun _ _=>rfl,.refl _ _ _,by simp,hl1,fun x _ hx=>?_,fun k _ h=>?_⟩
 ·rw [Lm]; exact hs.rel.cX x o aP f (Pc x o hx (by intro e; subst e; simp [ct.lM] at hk)) hk
 ·rw [Nn]; exact hs.jP x l h
 ·cases Classical.em ((A.kill b lo hi L).get x=A.get x) with
  | inl h=>exact h
  | inr h=>have:=k7 x h; omega
 ·obtain ⟨x,o,l,hx,Pv,hr,e⟩:=h
  exact ⟨x,o,l,Pc x o hx (hm _ Pv),Pv,hr,e⟩
theorem Mj (A:St) (aP f:Nat) (cs:List Value) (n x:Nat):(A.grow aP f cs n).get x=if x=A.next then some (.row cs n true (some (aP,f))) else A.get x:=by
 simp [St.grow]
theorem Bi (A:St) (aP f:Nat) (cs:List Value) (n g:Nat):(A.grow aP f cs n).members g=if g=aP then A.next::A.members aP else A.members g:=by
 simp only [St.grow,St.Fy,St.jq]
theorem aaN {ρ:Ren} {A:St} {base:Nat} {w:World} {cs bP:List Value} {c:Array Value} {n aP f:Nat} (T:TypeId) (hs:vu ρ A base w) (hc:dB ρ cs bP) (h1:∀ v∈cs,scalar v=true)
  (aaO:∀ (j:Nat) (v:Value),bP[j]? = some v->c[j]? = some v) (dT:cs.length<=c.size) :
  jb base ρ A w (ρ.set A.next ⟨w.heap.size,0,c.size,n⟩) (A.grow aP f cs n) (w.alloc (.cells c T)):=by
 refine IX (o:=.row cs n true (some (aP,f))) hs (fun x=>Mj _ _ _ _ _ _) (fun g x h=>?_) (fun g f' h=>?_) (by simp [St.grow]) (by simp [St.grow]) (fun x hx _=>by rw [Mj,aa (by omega)]) rfl ?_
 ·rw [Bi]; split
  ·rename_i e; subst e; simp [h]
  ·exact h
 ·simp [ct.lM] at h; rw [Bi,h.1]; simp
 ·refine ⟨fun i v hi=>?_,fun h=>by simp at h,fun _=>hs.size,fun _ j hj=>?_,by simpa using dT,fun _ h=>by simp at h,rfl,by simp,fun _ _ j=>by simp only; rw [World.frozen?_alloc_new]⟩
  ·obtain ⟨v',h2,h3⟩:=hc.get hi
   refine ⟨v',?_,h3.mono (hs.FB _),h1 v (gu hi)⟩;rw [bd,World.cell?_alloc_new];exact aaO i v' h2
  ·simp only at hj ⊢
   rw [World.cell?_alloc_new,World.frozen?_alloc_new];refine ⟨?_,rfl⟩;rw [Array.getElem?_eq_getElem (by omega)];rfl
theorem aeG {ρ:Ren} {A:St} {base:Nat} {w:World} {b hJ s bp aP f:Nat} {cs eV u6 new cC:List Value} {l:Loc}
  (hs:vu ρ A base w) (hg:A.get b=some (.row cs bp true (some (aP,f)))) (kK:ρ b=some l)
  (hold:dB ρ eV u6) (ho1:∀ v∈eV,scalar v=true) (hol:eV.length=s) (Gy:∀ j v',u6[j]? = some v'->w.cell? ⟨l.cb,l.dw+hJ+j,none⟩=some v')
  (yJ:dB ρ new cC) (hn1:∀ v∈new,scalar v=true) (mR:l.dw+hJ+s+new.length<=l.Df) :
  jb base ρ A w (ρ.set A.next ⟨l.cb,l.dw+hJ,l.Df,bp⟩) ((A.kill A.next (f+(hJ+s)) (f+(hJ+s)+new.length) (A.members aP)).grow aP (f+hJ) (eV++new) bp) (w.setCells l.cb (l.dw+hJ+s) cC):=by
 obtain ⟨l',vb,ok⟩:=hs.rel.row _ _ _ _ _ hg;rw [kK] at vb; simp at vb; subst vb;have Pb:cC.length=new.length:=yJ.length;have hovl:u6.length=s:=by rw [hold.length,hol]
 have Lw:b < A.next:=hs.jP b l kK;have Rf:ct.eH (.row cs bp true (some (aP,f)))=true:=rfl;have hB:∀ x,((A.kill A.next (f+(hJ+s)) (f+(hJ+s)+new.length) (A.members aP)).grow aP (f+hJ) (eV++new) bp).get x =
   if x=A.next then some (.row (eV++new) bp true (some (aP,f+hJ))) else (A.kill A.next (f+(hJ+s)) (f+(hJ+s)+new.length) (A.members aP)).get x:=by
  intro x; rw [Mj,Nn]
 have hBm:∀ g,((A.kill A.next (f+(hJ+s)) (f+(hJ+s)+new.length) (A.members aP)).grow aP (f+hJ) (eV++new) bp).members g=if g=aP then A.next::A.members aP else A.members g:=by
  intro g; rw [Bi,Nn,Lm]
 have hBn:((A.kill A.next (f+(hJ+s)) (f+(hJ+s)+new.length) (A.members aP)).grow aP (f+hJ) (eV++new) bp).next=A.next+1:=by
  simp [St.grow]
 have hkl:=Mh A.next (f+(hJ+s)) (f+(hJ+s)+new.length) (A.members aP) A;have hBl:((A.kill A.next (f+(hJ+s)) (f+(hJ+s)+new.length) (A.members aP)).grow aP (f+hJ) (eV++new) bp).low=(A.kill A.next (f+(hJ+s)) (f+(hJ+s)+new.length) (A.members aP)).low:=rfl;have hAK:∀ x,x≠A.next->(A.kill A.next (f+(hJ+s)) (f+(hJ+s)+new.length) (A.members aP)).get x=if x∈A.members aP/\rQ (A.get x) (f+(hJ+s)) (f+(hJ+s)+new.length)=true then some .dead else A.get x:=by
  intro x hx; rw [EG]; simp [hx]
 generalize ((A.kill A.next (f+(hJ+s)) (f+(hJ+s)+new.length) (A.members aP)).grow aP (f+hJ) (eV++new) bp)=B at hB hBm hBn hBl;generalize (A.kill A.next (f+(hJ+s)) (f+(hJ+s)+new.length) (A.members aP))=K at hB hBl hkl hAK;have hle:=hs.FB (⟨l.cb,l.dw+hJ,l.Df,bp⟩:Loc);have pj:∀ x o,x≠A.next->B.get x=some o->o≠.dead->A.get x=some o/\(x∈A.members aP->rQ (some o) (f+(hJ+s)) (f+(hJ+s)+new.length)=false):=by
  intro x o hx ho hd;rw [hB,aa hx,hAK x hx] at ho;split at ho
  ·simp at ho; exact absurd ho.symm hd
  ·rename_i hc
   refine ⟨ho,fun hm=>?_⟩;rw [<- ho];cases gz:rQ (A.get x) (f+(hJ+s)) (f+(hJ+s)+new.length) with
   | false=>rfl
   | true=>exact absurd ⟨hm,gz⟩ hc
 have qU:∀ x:Addr,(x.block=l.cb->x.spot=none->x.off < l.dw+hJ+s\/l.dw+hJ+s+cC.length<=x.off)->(w.setCells l.cb (l.dw+hJ+s) cC).cell? x=w.cell? x:=
  fun x h=>World.cell?_setCells_out _ _ _ _ _ h
 have aaC:∀ x,((w.setCells l.cb (l.dw+hJ+s) cC).cell? x).isSome=(w.cell? x).isSome:=fun x=>EH _ _ _ _ _;have hfr:∀ x,(w.setCells l.cb (l.dw+hJ+s) cC).frozen? x=w.frozen? x:=fun x=>World.frozen?_setCells _ _ _ _ _;have dT:(w.setCells l.cb (l.dw+hJ+s) cC).heap.size=w.heap.size:=IV _ _ _ _;have hmd:∀ o:ct,o.eH=true->o≠.dead:=by intro o h e; subst e; simp [ct.eH] at h
 have vx:∀ x o l2,A.get x=some o->o.eH=true->ρ x=some l2->l2.cb=l.cb->∃ f2,o.lM=some (aP,f2)/\l2.dw+f=l.dw+f2:=by
  intro x o l2 hx hm hr C4;by_cases UO:x=b
  ·subst UO
   rw [hg] at hx; simp at hx; subst hx;rw [kK] at hr; simp at hr; subst hr;exact ⟨f,rfl,rfl⟩
  ·obtain ⟨g,f1,f2,e1,e2,e3⟩:=hs.rel.apart x b _ _ l2 l UO hx hg hm Rf hr kK C4
   simp [ct.lM] at e2;obtain ⟨rfl,rfl⟩:=e2;exact ⟨f1,e1,e3⟩
 have Sg:∀ x kx e2 Kt tX l2,x≠A.next->B.get x=some (.row kx e2 Kt tX)->ρ x=some l2->sv ρ base w l2 kx e2 Kt tX->∀ i,i < kx.length->
   (w.setCells l.cb (l.dw+hJ+s) cC).cell? ⟨l2.cb,l2.dw+i,none⟩=w.cell? ⟨l2.cb,l2.dw+i,none⟩:=by
  intro x kx e2 Kt tX l2 hx jE amc jr i hi;refine qU _ (fun hbl _=>?_);simp only at hbl ⊢;obtain ⟨hA,gz⟩:=pj x _ hx jE (by simp);cases Kt with
  | false=>have h3:=jr.xA rfl; have h4:=ok.eH rfl; omega
  | true=>
   obtain ⟨f2,e1,e3⟩:=vx x _ l2 hA rfl amc hbl;simp only [ct.lM] at e1;subst e1;have hm:=hs.rel.cX x _ aP f2 hA rfl;have:=UN rfl (gz hm);rw [Pb];omega
 refine ⟨⟨.FC ?_ ?_ ?_,?_,?_,hs.IU.mono (hs.FB _)⟩,?_,⟨(wL _ _ _ _).1,(wL _ _ _ _).2.1,(wL _ _ _ _).2.2,Nat.le_of_eq dT.symm,?_⟩,?_,?_,?_,?_⟩
 ·intro x o jE hd
  by_cases hx:x=A.next
  ·subst hx
   rw [hB,aD rfl] at jE;simp at jE;subst jE;refine ⟨_,Ren.fL _ _ _,fun i v hi=>?_,fun h=>by simp at h,fun _=>ok.eH rfl,fun _ j hj=>?_,?_,fun _ h=>by simp at h,rfl,by rw [dT]; exact ok.lN,fun _ h2 j=>by rw [hfr]; exact ok.mark rfl (by rw [ok.bp]; exact h2) j⟩
   ·have qM:dB ρ (eV++new) (u6++cC):=hold.append yJ
    obtain ⟨v',h2,h3⟩:=qM.get hi;refine ⟨v',?_,h3.mono hle,?_⟩
    ·rw [List.getElem?_append] at h2
     split at h2
     ·rename_i bm
      rw [qU _ (fun _ _=>by simp only; omega)];exact Gy i v' h2
     ·rename_i hge
      have bm:i - u6.length < cC.length:=(cH.1 h2).1;have:=World.cell?_setCells_in l.cb cC (l.dw+hJ+s) w (fun j hj=>(ok.there rfl (l.dw+hJ+s+j) (by rw [Pb] at hj; omega)).1) (i - u6.length) bm;have e:l.dw+hJ+s+(i - u6.length)=l.dw+hJ+i:=by omega
      rw [e] at this;rw [cJ bm] at h2;exact this.trans h2
    ·rcases jM.1 (gu hi) with h | h
     ·exact ho1 v h
     ·exact hn1 v h
   ·rw [aaC,hfr]; exact ok.there rfl j hj
   ·simp only [kF,hol]; omega
  ·obtain ⟨hA,gz⟩:=pj x o hx jE hd
   obtain ⟨l2,yS,jr⟩:=hs.rel.obj hA hd;refine ⟨l2,hle _ _ yS,?_⟩;cases o with
   | row kx e2 Kt tX=>
    have jr:sv ρ base w l2 kx e2 Kt tX:=jr;refine ⟨fun i v hi=>?_,jr.xA,jr.eH,fun h j hj=>?_,jr.fits,jr.ends,jr.bp,by rw [dT]; exact jr.lN,fun h1 h2 j=>by rw [hfr]; exact jr.mark h1 h2 j⟩
    ·obtain ⟨v',h3,h4,h5⟩:=jr.cells i v hi
     exact ⟨v',by rw [Sg x _ _ _ _ l2 hx jE yS jr i (cH.1 hi).1]; exact h3,h4.mono hle,h5⟩
    ·rw [aaC,hfr]; exact jr.there h j hj
   | map es=>
    have jr:aaA ρ base w l2 es:=jr;obtain ⟨bo,clock,h3,h4⟩:=jr.lN;refine ⟨jr.eH,bo,clock,?_,h4.mono hle⟩;rw [mo]
    ·exact h3
    ·intro e
     obtain ⟨_,e1,_⟩:=vx x _ l2 hA rfl yS e;simp [ct.lM] at e1
   | iter st pos=>
    have jr:UK base w l2 st pos:=jr;refine ⟨jr.eH,jr.lN.1,?_⟩;rw [mo]
    ·exact jr.lN.2
    ·intro e
     obtain ⟨_,e1,_⟩:=vx x _ l2 hA rfl yS e;simp [ct.lM] at e1
   | dead=>exact absurd rfl hd
   | loop st0 e0 t0 ps0 a0 c0=>
    have jr:UL ρ base w l2 st0 e0 t0 ps0 a0 c0:=jr;obtain ⟨fn,tmps,D,N,h3,h4⟩:=jr.lN;refine ⟨jr.eH,fn,tmps,D,N,?_,h4.mono hle⟩;rw [mo]
    ·exact h3
    ·intro e
     obtain ⟨_,e1,_⟩:=vx x _ l2 hA rfl yS e;simp [ct.lM] at e1
 ·intro b1 b2 o1 o2 l1 l2 cD g1 g2 m1 m2 r1 r2 C4
  by_cases e1:b1=A.next
  ·have e2:b2≠A.next:=fun e=>cD (e1.trans e.symm)
   subst e1;rw [hB,aD rfl] at g1;simp at g1; subst g1;rw [Ren.fL] at r1; simp at r1; subst r1;rw [Ren.eI _ _ e2] at r2;obtain ⟨hA,_⟩:=pj b2 o2 e2 g2 (hmd _ m2);obtain ⟨f2,k1,k2⟩:=vx b2 o2 l2 hA m2 r2 C4.symm;exact ⟨aP,f+hJ,f2,rfl,k1,by simp only; omega⟩
  ·rw [Ren.eI _ _ e1] at r1
   obtain ⟨hA1,_⟩:=pj b1 o1 e1 g1 (hmd _ m1);by_cases e2:b2=A.next
   ·subst e2
    rw [hB,aD rfl] at g2;simp at g2; subst g2;rw [Ren.fL] at r2; simp at r2; subst r2;obtain ⟨f2,k1,k2⟩:=vx b1 o1 l1 hA1 m1 r1 C4;exact ⟨aP,f2,f+hJ,k1,rfl,by simp only; omega⟩
   ·rw [Ren.eI _ _ e2] at r2
    obtain ⟨hA2,_⟩:=pj b2 o2 e2 g2 (hmd _ m2);exact hs.rel.apart b1 b2 o1 o2 l1 l2 cD hA1 hA2 m1 m2 r1 r2 C4
 ·intro x o g fx hx hk
  rw [hBm];by_cases e:x=A.next
  ·subst e
   rw [hB,aD rfl] at hx;simp at hx; subst hx;simp [ct.lM] at hk;rw [aD hk.1.symm];simp
  ·have:=hs.rel.cX x o g fx (pj x o e hx (by intro e; subst e; simp [ct.lM] at hk)).1 hk
   split
   ·rename_i e2; subst e2; simp [this]
   ·exact this
 ·intro x l2 h
  rw [hBn];by_cases e:x=A.next
  ·omega
  ·rw [Ren.eI _ _ e] at h; have:=hs.jP x l2 h; omega
 ·rw [dT]; exact hs.size
 ·intro x hx; exact Ren.eI _ _ (by omega)
 ·intro k hk hn
  exact mo _ (fun e=>hn ⟨b,_,l,hg,rfl,kK,e.symm⟩) _ _ _
 ·omega
 ·rw [hBl]; exact hkl.1
 ·intro x hx hxl
  rw [hB,aa (by omega)];cases Classical.em (K.get x=A.get x) with
  | inl h=>exact h
  | inr h=>have:=hkl.2 x h; omega
 ·rintro k hk ⟨x,o,l2,hx,hm,hr,rfl⟩
  by_cases e:x=A.next
  ·subst e
   rw [Ren.fL] at hr; simp at hr; subst hr;exact ⟨b,_,l,hg,rfl,kK,rfl⟩
  ·rw [Ren.eI _ _ e] at hr
   exact ⟨x,o,l2,(pj x o e hx (hmd _ hm)).1,hm,hr,rfl⟩
theorem ak5 {a:Addr} (h:cK a=true):a.spot=none:=by
 unfold cK at h;simpa using h
theorem ZD (w:World) (a:Addr) (n:Nat) (cs:List Value) (h:∀ j,j < n->(w.cell? (a.add j)).isSome=true) (hr:(loadCells a n).run P w = .ok cs.toArray w) (j:Nat) (v:Value) (hj:cs[j]? = some v) :
  w.cell? (a.add j)=some v:=by
 have h1:=run_loadCells (P:=P) w a n (fun j=>(w.cell? (a.add j)).getD undef) (fun j hj=>by
  have:=h j hj;cases hc:w.cell? (a.add j) with
  | none=>rw [hc] at this; simp at this
  | some u=>rfl)
 rw [hr] at h1;simp only [Result.ok.injEq,and_true] at h1;have h2:cs=(List.range n).map fun j=>(w.cell? (a.add j)).getD undef:=by
  have:=congrArg Array.toList h1;simpa using this
 rw [h2,pg] at hj;cases hq:(List.range n)[j]? with
 | none=>rw [hq] at hj; simp at hj
 | some m=>
  rw [hq] at hj;have bm:j < n:=by have:=(cH.1 hq).1; simpa using this
  have hm:m=j:=by rw [List.getElem?_range bm] at hq; simpa using hq.symm
  subst hm;simp at hj;have:=h m bm;cases hc:w.cell? (a.add m) with
  | none=>rw [hc] at this; simp at this
  | some u=>rw [hc] at hj; simpa using hj
theorem af2 (z:Array Value) (n:Nat):(Builtin.zeroCells z n).size=n * z.size:=size_zeroCells z n
theorem aaP {ρ:Ren} {A B:St} {base:Nat} {w:World} {t u ty e:TypeId} {i:TypeInfo} {z s x s' x' v:Value} (ht:P.underlying t=some (.slice e)) (hi:P.info? e=some i) (hz:i.zero=some z) (hu:Ni P u=true)
  (hn:1<=i.size) (hzs:z.cells.size=i.size) (PA:vu ρ A base w) (hsv:VR ρ s s') (hxv:VR ρ x x') (hf:ke i.size i.bytes A [s,x] = some (v,B)) :
  ∃ aF v' w',(Builtin.append_ #[t,u] ty #[s',x']).run P w = .ok v' w'/\VR aF v v'/\jb base ρ A w aF B w':=by
 unfold ke at hf;split at hf
 ·rename_i bs dx rz x0 e0
  simp at e0;obtain ⟨rfl,rfl⟩:=e0;obtain ⟨k,hk,hf⟩:=cE.1 hf;have hlen:=YE hxv hk;have hkk:∀ m,YA x=some m->k<=m:=fun m h=>by rw [hk] at h; simp at h; omega
  cases Gx:Nat.ble (dx+k) rz with
  | true=>
   rw [Gx,aj] at hf;have Gx:=dX Gx;obtain ⟨new,yJ,hf⟩:=cE.1 hf;obtain ⟨cC,h1,h2,h3,h4⟩:=FD (P:=P) PA.rel hxv yJ hkk hn;cases bs with
   | none=>
    simp at hf;obtain ⟨rfl,rfl⟩:=hf;have:=hsv.ga;subst this;have hr:=zG (P:=P) t u ty e i ht hi hu none dx rz x' k cC hlen w h4 Gx;exact ⟨ρ,_,w,by rw [hr]; rfl,by simp [VR],.refl PA⟩
   | some a=>
    simp only at hf;cases hpa:cK a with
    | false=>rw [hpa] at hf; simp at hf
    | true=>
     rw [hpa,aj] at hf;cases xy:Nat.beq k 0 with
     | true=>
      rw [xy,aj] at hf;simp at hf;obtain ⟨rfl,rfl⟩:=hf;have xy:=aL xy;obtain ⟨Gv,HR,lc,a',c',hl,vw,Lt,mR,rfl⟩:=hsv.lK;have hr:=zG (P:=P) t u ty e i ht hi hu (some a') dx c' x' k cC hlen w h4 (by omega);have Ml:cC = []:=List.eq_nil_of_length_eq_zero (by rw [h1.length,h3,xy,Nat.zero_mul]);refine ⟨ρ,.slice (some a') (dx+k) c',w,?_,?_,.refl PA⟩
      ·rw [hr,Ml]
       rfl
      ·simp only [VR]
       exact ⟨Gv,by omega,lc,a',c',hl,vw,Lt,mR,rfl⟩
     | false=>
     rw [xy,aH] at hf;obtain ⟨B',gz,hf⟩:=cj.1 hf;simp at hf;obtain ⟨rfl,rfl⟩:=hf;obtain ⟨Gv,HR,lc,a',c',hl,vw,Lt,mR,rfl⟩:=hsv.lK;have hr:=zG (P:=P) t u ty e i ht hi hu (some a') dx c' x' k cC hlen w h4 (by omega);obtain ⟨w',h5,h6⟩:=Fz (P:=P) (a:=⟨a.block,a.off+dx * i.size,none⟩) PA gz hl h1;have lI:(storeCells (a'.add (dx * i.size)) cC).run P w = .ok () w':=by
      by_cases hc:c' = 0
      ·have:cC = []:=by
        apply List.eq_nil_of_length_eq_zero;rw [h1.length,h3];have:k=0:=by omega
        subst this; omega
       subst this;exact h5
      ·rw [Lt hc,kP]
       simp only at h5;rw [HK];exact h5
     refine ⟨ρ,.slice (some a') (dx+k) c',w',?_,?_,h6⟩
     ·rw [hr]
      simp only [lI,ir]
     ·simp only [VR]
      exact ⟨Gv,Gx,lc,a',c',hl,vw,Lt,mR,rfl⟩
  | false=>
   rw [Gx,aH] at hf;have Gx:rz < dx+k:=by
    have : ¬ (dx+k<=rz):=fun h=>by rw [Nat.ble_eq_true_of_le h] at Gx; simp at Gx
    omega
   cases hc:(Nat.ble ((dx+k) * i.bytes) 140737488355328&&Nat.ble (dx+k) 17592186044416&&x7 A i.size rz bs) with
   | false=>rw [hc] at hf; simp at hf
   | true=>
    rw [hc,aj] at hf;simp only [ao] at hc;obtain ⟨⟨Gw,wM⟩,hex⟩:=hc;have Gw:=dX Gw;have wM:=dX wM;have aeH:(dx+k) * i.bytes<=140737488355328:=Gw;obtain ⟨new,yJ,hf⟩:=cE.1 hf;obtain ⟨cC,h1,h2,h3,h4⟩:=FD (P:=P) PA.rel hxv yJ hkk hn;have hdr:=jb.drew (w:=w) PA;obtain ⟨ami,g1,g2,g3,g4⟩:=FD (P:=P) hdr.fY.rel hxv yJ hkk hn;have amj:∀ (bs' : Option Addr) (c' : Nat) (YF W8:List Value) (aP f:Nat) (K:St),K=A\/(∃ x lo hi L,K=A.kill x lo hi L)->dB ρ YF W8->(∀ v∈YF,scalar v=true)->YF.length=dx * i.size->
      (Builtin.firstCells i.size dx (.slice bs' dx c')).run P w.drew = .ok W8.toArray w.drew->c' < dx+k->
      ∃ aF v' w',(Builtin.append_ #[t,u] ty #[.slice bs' dx c',x']).run P w = .ok v' w'/\VR aF (.slice (some ⟨A.next,0,none⟩) (dx+k) (dx+k)) v'/\jb base ρ A w aF (K.grow aP f (YF++new) i.size) w':=by
     intro bs' c' YF W8 aP f K hK ho ho1 hol lI bm;have hr:=W7 (P:=P) t u ty e i z ht hi hz hu bs' dx c' x' k W8 ami hlen w lI g4 bm wM (growslice_fits bm aeH);have hge:=grownCap_ge w (dx+k) c' e;have hkg:jb base ρ A w ρ K w.drew:=by
      rcases hK with rfl | ⟨x,lo,hi,L,rfl⟩
      ·exact hdr
      ·exact (aaM PA x lo hi L).trans (jb.drew (aaM PA x lo hi L).fY)
     have hKn:K.next=A.next:=by
      rcases hK with rfl | ⟨x,lo,hi,L,rfl⟩
      ·rfl
      ·simp
     have Nq:((W8++ami).toArray++Builtin.zeroCells z.cells (grownCap w (dx+k) c' e - (dx+k))).size=grownCap w (dx+k) c' e * i.size:=by
      rw [Array.size_append,af2,hzs,List.size_toArray,kF,ho.length,g1.length,hol,g3];rw [<- Nat.add_mul,<- Nat.add_mul];congr 1; omega
     have IW:=aaN (w:=w.drew) (n:=i.size) (aP:=aP) (f:=f) (c:=(W8++ami).toArray++Builtin.zeroCells z.cells (grownCap w (dx+k) c' e - (dx+k))) e hkg.fY (ho.append g1)
      (fun v hv=>(jM.1 hv).elim (ho1 v) (g2 v)) (fun j v hj=>by
       rw [Array.getElem?_append_left (by have:=(cH.1 hj).1; simpa using this)];simpa using hj) (by
       rw [Nq,kF,hol,g3,<- Nat.add_mul];exact Nat.mul_le_mul_right _ hge)
     refine ⟨_,_,_,hr,?_,hkg.trans IW⟩;simp only [VR];refine ⟨trivial,aC _,_,⟨w.heap.size,0,none⟩,grownCap w (dx+k) c' e,by rw [hKn]; exact Ren.fL _ _ _,hge,fun _=>rfl,?_,rfl⟩;rw [Nq];show 0+0+grownCap w (dx+k) c' e * i.size<=grownCap w (dx+k) c' e * i.size;omega
    unfold IP at hf;cases bs with
    | none=>
     simp only at hf;cases hs0:Nat.beq dx 0 with
     | false=>rw [hs0] at hf; simp at hf
     | true=>
      rw [hs0,aj] at hf;simp at hf;obtain ⟨rfl,rfl⟩:=hf;have hs0:=aL hs0;have:=hsv.ga;subst this;have Nr:Builtin.firstCells i.size dx (.slice none dx rz)=pure #[]:=rfl;exact amj none rz [] [] A.next 0 A (.inl rfl) .nil (by simp) (by rw [hs0]; simp) (by rw [Nr]; rfl) Gx
    | some a=>
     simp only at hf;cases hpa:cK a with
     | false=>rw [hpa] at hf; simp at hf
     | true=>
      rw [hpa,aj] at hf;have Gv:=ak5 hpa;obtain ⟨_,HR,lc,a',c',hl,vw,Lt,mR,rfl⟩:=hsv.lK;obtain ⟨eV,hold,hf⟩:=cE.1 hf;obtain ⟨u6,q1,q2,q3,q4⟩:=zF (P:=P) hdr.fY.rel hold hl;have lI:(Builtin.firstCells i.size dx (.slice (some a') dx c')).run P w.drew = .ok u6.toArray w.drew:=by
       simp only [Builtin.firstCells];by_cases hc:c' = 0
       ·have hs0:dx=0:=by omega
        subst hs0;have Ml:eV = []:=by rw [Nat.zero_mul] at q2; exact List.eq_nil_of_length_eq_zero q2
        subst Ml;rw [q1.b6,Nat.zero_mul];exact run_loadCells_list w.drew a' [] (by simp)
       ·rw [Lt hc]; exact q4
      split at hf
      ·rename_i cs bp own bN hg
       cases hez:Nat.beq bp i.size with
       | false=>rw [hez] at hf; simp at hf
       | true=>
        rw [hez,aj] at hf;have hez:=aL hez;subst hez;obtain ⟨l2,k7,ok⟩:=PA.rel.row _ _ _ _ _ hg;rw [hl] at k7; simp at k7; subst k7;have hle:lc.bp=i.size:=ok.bp;cases bN with
        | none=>
         simp only at hf;cases own with
         | false=>simp at hf
         | true=>
          simp at hf;obtain ⟨rfl,rfl⟩:=hf;have hxe:a.off+rz * i.size=cs.length:=by
           unfold x7 at hex;simp only [hg] at hex;exact aL hex
          have hends:=ok.ends rfl rfl;have hc' : c' < dx+k:=by
           have h9:c' * i.size<=rz * i.size:=by rw [hle] at mR; omega
           have:=Nat.le_of_mul_le_mul_right h9 (by omega);omega
          exact amj (some a') c' eV u6 A.next 0 A (.inl rfl) q1 q3 q2 lI hc'
        | some p=>
         obtain ⟨aP,f⟩:=p;simp only at hf;cases own with
         | false=>simp at hf
         | true=>
          simp at hf;obtain ⟨rfl,rfl⟩:=hf;by_cases hc' : c' < dx+k
          ·exact amj (some a') c' eV u6 aP (f+a.off) _ (.inr ⟨_,_,_,_,rfl⟩) q1 q3 q2 lI hc'
          ·
           have cD:c'≠0:=by omega
           have ha:=Lt cD;subst ha;have hr:=zG (P:=P) t u ty e i ht hi hu (some ⟨lc.cb,lc.dw+a.off,none⟩) dx c' x' k cC hlen w h4 (by omega);have rS:lc.dw+a.off+dx * i.size+new.length<=lc.Df:=by
            rw [h3];rw [hle] at mR;have h9:(dx+k) * i.size<=c' * i.size:=Nat.mul_le_mul_right _ (by omega);rw [Nat.add_mul] at h9;omega
           have Pb:cC.length=new.length:=h1.length;obtain ⟨af3,p1,p2,p3,p4⟩:=zF (P:=P) PA.rel hold hl;have Gy:∀ (j:Nat) (v' : Value),af3[j]? = some v'->w.cell? ⟨lc.cb,lc.dw+a.off+j,none⟩=some v':=by
            intro j v' hj;have bm:j < dx * i.size:=by have:=(cH.1 hj).1; rw [p1.length,p2] at this; exact this
            have qU:=(ok.there rfl (lc.dw+a.off+j) (by omega)).1;have:=ZD (P:=P) w ⟨lc.cb,lc.dw+a.off,none⟩ (dx * i.size) af3 (fun j hj=>by rw [kP]; exact (ok.there rfl (lc.dw+a.off+j) (by omega)).1) p4 j v' hj;rwa [kP] at this
           have IW:=aeG (w:=w) (hJ:=a.off) (s:=dx * i.size) PA hg hl p1 p3 p2 Gy h1 h2 rS;have gz:(storeCells ((⟨lc.cb,lc.dw+a.off,none⟩:Addr).add (dx * i.size)) cC).run P w = .ok () (w.setCells lc.cb (lc.dw+a.off+dx * i.size) cC):=by
            rw [kP];exact run_storeCells_cells (P:=P) lc.cb (lc.dw+a.off+dx * i.size) cC 0 w (fun j hj=>(ok.there rfl _ (by rw [Pb] at hj; omega)).1) (fun j hj=>(ok.there rfl _ (by rw [Pb] at hj; omega)).2) (fun v Dh=>by
             obtain ⟨j,hj⟩:=List.getElem?_of_mem Dh;have bm:j < new.length:=by rw [<- Pb]; exact (cH.1 hj).1
             obtain ⟨u,hu⟩:∃ u,new[j]? = some u:=⟨new[j],cJ bm⟩
             obtain ⟨v2,h7,h8⟩:=h1.get hu;rw [hj] at h7; simp at h7; subst h7;exact h8.scalar (h2 u (gu hu)))
           refine ⟨_,.slice (some ⟨lc.cb,lc.dw+a.off,none⟩) (dx+k) c',_,by rw [hr]; simp only [gz,ir],?_,IW⟩;simp only [VR];refine ⟨trivial,aC _,_,_,c',Ren.fL _ _ _,by omega,fun _=>rfl,?_,rfl⟩;show lc.dw+a.off+0+c' * i.size<=lc.Df;rw [hle] at mR;omega
      ·simp at hf
 ·simp at hf
theorem ak6 {argTypes:Array TypeId} {t u:TypeId} (h:argTypes.toList = [t,u]):argTypes = #[t,u]:=by
 apply Array.ext';simpa using h
theorem aik {argTypes:Array TypeId} {args:Array Operand} (ho:o.op = .call ⟨.builtin .append,args,argTypes⟩):gC P o (Nj P argTypes.toList args.toList):=by
 unfold Nj;split
 ·rename_i t u vc
  split
  ·rename_i e ht
   split
   ·rename_i i hi
    split
    ·rename_i z hz
     cases hc:(Nat.ble 1 i.size&&Nat.beq z.cells.size i.size&&Ni P u) with
     | false=>exact True.intro
     | true=>
      rw [aj];simp only [ao] at hc;obtain ⟨⟨h1,h2⟩,h3⟩:=hc;intro ρ A B base w ev cF v hs he hf;have hf0:=hf;unfold ke at hf0;split at hf0
      ·rename_i bs dx rz x e1
       have hm:=he.map;rw [e1] at hm hf;obtain ⟨s',r1,e2,hsv,hm⟩:=hm.cons_inv;obtain ⟨x',r2,e3,hxv,hm⟩:=hm.cons_inv;have:=hm.b6;subst this e3;obtain ⟨aF,v',w',h4,h5,h6⟩:=aaP (ty:=o.type) ht hi hz h3 (dX h1) (aL h2) hs hsv hxv hf;refine ⟨aF,v',.value v',w',?_,rfl,h5,h6⟩;have e4:args.map cF = #[s',x']:=by apply Array.ext'; simpa using e2
       have e5:=ak6 vc;subst e5;simp only [execOp,ho,Sem.run_bind,resolve,Sem.run_pure,ir,invoke,builtin,e4,h4]
      ·simp at hf0
    ·trivial
   ·trivial
  ·trivial
 ·trivial
theorem amk {argTypes:Array TypeId} {args:Array Operand} (ho:o.op = .call ⟨.builtin .copy,args,argTypes⟩):gC P o (UI P argTypes.toList args.toList):=by
 unfold UI;split
 ·rename_i t rest vc
  have OG:argTypes[0]? = some t:=by rw [<- Array.getElem?_toList,vc]; rfl
  split
  ·rename_i e ht
   split
   ·rename_i n hn
    cases Hk:Nat.ble 1 n with
    | false=>exact True.intro
    | true=>
     rw [aj];have Hk:1<=n:=dX Hk;intro ρ A B base w ev cF v hs he hf;unfold aaw at hf;split at hf
     ·rename_i bs UH dCap x e1
      have hm:=he.map;rw [e1] at hm;obtain ⟨s',r1,e2,hsv,hm⟩:=hm.cons_inv;obtain ⟨x',r2,e3,hxv,hm⟩:=hm.cons_inv;have:=hm.b6;subst this e3;have e4:args.map cF = #[s',x']:=by apply Array.ext'; simpa using e2
      obtain ⟨k,hk,hf⟩:=cE.1 hf;have hlen:=YE hxv hk;obtain ⟨new,yJ,hf⟩:=cE.1 hf;obtain ⟨cC,h1,h2,h3,h4⟩:=FD (P:=P) hs.rel hxv yJ (fun m h=>by rw [hk] at h; simp at h; subst h; exact Nat.min_le_left _ _) Hk;cases bs with
      | none=>
       simp at hf;obtain ⟨rfl,rfl⟩:=hf;have:=hsv.ga;subst this;refine ⟨ρ,goInt (Nat.min k UH),.value (goInt (Nat.min k UH)),w,?_,rfl,VR.of_flat rfl,.refl hs⟩;simp [execOp,ho,resolve,invoke,builtin,e4,Builtin.copy_,OG,bq ht,hlen,pk hn,h4]
      | some a=>
       simp only at hf;obtain ⟨B',gz,hf⟩:=cj.1 hf;simp at hf;obtain ⟨rfl,rfl⟩:=hf;obtain ⟨Gv,HR,lc,a',c',hl,vw,Lt,mR,rfl⟩:=hsv.lK;obtain ⟨w',h5,h6⟩:=Fz (P:=P) hs gz hl h1;have lI:(storeCells a' cC).run P w = .ok () w':=by
        by_cases hc:c' = 0
        ·have:cC = []:=by
          apply List.eq_nil_of_length_eq_zero;rw [h1.length,h3];have:UH=0:=by omega
          subst this; simp
         subst this;exact h5
        ·rw [Lt hc]; exact h5
       refine ⟨ρ,goInt (Nat.min k UH),.value (goInt (Nat.min k UH)),w',?_,rfl,VR.of_flat rfl,h6⟩;simp [execOp,ho,resolve,invoke,builtin,e4,Builtin.copy_,OG,bq ht,hlen,pk hn,h4,lI]
     ·simp at hf
   ·trivial
  ·trivial
 ·trivial
end
end Go.aG
end
section
namespace Go.aG
open Go
section
variable {P:Program} {o:Oper}
theorem Dj {ρ:Ren} {A:St} {base:Nat} {w:World} {r:Nat} {es pt:List (Value×Value)} {FZ:Array MapEntry} {FE:Nat} {l:Loc} (hs:vu ρ A base w) (hg:A.get r=some (.map es)) (kK:ρ r=some l)
  (hm:ie ρ pt FZ.toList):jb base ρ A w ρ (A.put r (.map pt)) { w with heap:=w.heap.setIfInBounds l.cb (.map FZ FE) }:=by
 obtain ⟨l',vb,ok⟩:=hs.rel.map _ _ hg;rw [kK] at vb; simp at vb; subst vb;obtain ⟨bo,clock,qV,_⟩:=ok.lN;have bm:l.cb < w.heap.size:=(r8.1 qV).1;have Lx:ct.eH (.map es)=true:=rfl;have hold:∀ k,k≠l.cb->(w.heap.setIfInBounds l.cb (.map FZ FE))[k]? = w.heap[k]?:=fun k hk=>by
  rw [Array.getElem?_setIfInBounds_ne (Ne.symm hk)]
 have dT:(w.heap.setIfInBounds l.cb (.map FZ FE)).size=w.heap.size:=by simp
 have hB:∀ x,(A.put r (.map pt)).get x=if x=r then some (.map pt) else A.get x:=fun x=>St.bA _ _ _ _;have hmd:∀ o:ct,o.eH=true->o≠.dead:=by intro o h e; subst e; simp [ct.eH] at h
 have Sg:∀ x o l2,x≠r->A.get x=some o->o≠.dead->ρ x=some l2->Lo ρ base w l2 o->l2.cb≠l.cb:=by
  intro x o l2 hx jE hd yS jr e;cases hmo:o.eH with
  | true=>
   obtain ⟨_,_,_,_,e1,_⟩:=hs.rel.apart x r o _ l2 l hx jE hg hmo Lx yS kK e;simp [ct.lM] at e1
  | false=>
   cases o with
   | row cs bp own bN=>
    have jr:sv ρ base w l2 cs bp own bN:=jr;have h1:own=false:=hmo;have:=jr.xA h1;have:=ok.eH;omega
   | map _=>simp [ct.eH] at hmo
   | iter _ _=>simp [ct.eH] at hmo
   | dead=>exact hd rfl
   | loop _ _ _ _ _ _=>simp [ct.eH] at hmo
 refine ⟨⟨.FC ?_ ?_ ?_,fun b l2 h=>hs.jP b l2 h,by simpa using hs.size,hs.IU⟩,fun _ _=>rfl,⟨rfl,rfl,rfl,Nat.le_of_eq dT.symm,fun k hk hn=>hold k (fun e=>hn ⟨r,_,l,hg,Lx,kK,e.symm⟩)⟩,aC _,Nat.min_le_left _ _,fun x hx hxl=>?_,?_⟩
 ·intro x o jE hd
  rw [hB] at jE;split at jE
  ·rename_i e; subst e; simp at jE; subst jE
   refine ⟨l,kK,ok.eH,FZ,FE,?_,hm⟩;show (w.heap.setIfInBounds l.cb (.map FZ FE))[l.cb]? = _;rw [Array.getElem?_setIfInBounds_self_of_lt bm]
  ·rename_i e
   obtain ⟨l2,yS,jr⟩:=hs.rel.obj jE hd;exact ⟨l2,yS,jr.dR (Ren.le_refl _) (hold _ (Sg x o l2 e jE hd yS jr)) (Nat.le_of_eq dT.symm)⟩
 ·have Pc:∀ x o,(A.put r (.map pt)).get x=some o->o.eH=true->∃ o',A.get x=some o'/\o'.eH=true/\o'.lM=o.lM:=by
   intro x o hx hm;rw [hB] at hx;split at hx
   ·rename_i e; subst e; simp at hx; subst hx; exact ⟨_,hg,rfl,rfl⟩
   ·exact ⟨o,hx,hm,rfl⟩
  intro b1 b2 o1 o2 l1 l2 cD g1 g2 m1 m2 r1 r2 C4;obtain ⟨p1,q1,n1,k1⟩:=Pc _ _ g1 m1;obtain ⟨p2,q2,n2,k2⟩:=Pc _ _ g2 m2;rw [<- k1,<- k2];exact hs.rel.apart b1 b2 p1 p2 l1 l2 cD q1 q2 n1 n2 r1 r2 C4
 ·intro x o aP f jE hk
  rw [hB] at jE;split at jE
  ·rename_i e; subst e; simp at jE; subst jE; simp [ct.lM] at hk
  ·exact hs.rel.cX x o aP f jE hk
 ·rw [St.aaB] at hxl
  have:Nat.min A.low r<=r:=Nat.min_le_right _ _;rw [hB,aa (by omega)]
 ·rintro k hk ⟨x,o,l2,jE,hm,yS,rfl⟩
  rw [hB] at jE;split at jE
  ·rename_i e; subst e
   rw [kK] at yS; simp at yS; subst yS;exact ⟨x,_,l,hg,Lx,kK,rfl⟩
  ·exact ⟨x,o,l2,jE,hm,yS,rfl⟩
theorem ie.length {ρ:Ren} : ∀ {es:List (Value×Value)} {l:List MapEntry},ie ρ es l->l.length=es.length
 | [],l,h=>by simp only [ie] at h; subst h; rfl
 | (k,v)::es,l,h=>by
  simp only [ie] at h;obtain ⟨e,r,rfl,_,_,h⟩:=h;simp [ie.length h]
theorem ie.get {ρ:Ren} : ∀ {es:List (Value×Value)} {l:List MapEntry},ie ρ es l->∀ (i:Nat) (k v:Value),es[i]? = some (k,v)->∃ e,l[i]? = some e/\VR ρ k e.key/\VR ρ v e.val
 | [],l,h,i,k,v,hi=>by simp at hi
 | (k,v)::es,l,h,i,k',v',hi=>by
  simp only [ie] at h;obtain ⟨e,r,rfl,h1,h2,h⟩:=h;cases i with
  | zero=>simp at hi; obtain ⟨rfl,rfl⟩:=hi; exact ⟨e,rfl,h1,h2⟩
  | succ i=>simp at hi; simpa using ie.get h i k' v' hi
theorem ie.append {ρ:Ren} : ∀ {es:List (Value×Value)} {l:List MapEntry} {k v:Value} {e:MapEntry},ie ρ es l->VR ρ k e.key->VR ρ v e.val->ie ρ (es++[(k,v)]) (l++[e])
 | [],l,k,v,e,h,h1,h2=>by
  simp only [ie] at h; subst h;simp only [List.nil_append,ie];exact ⟨e,[],rfl,h1,h2,rfl⟩
 | (k0,v0)::es,l,k,v,e,h,h1,h2=>by
  simp only [ie] at h;obtain ⟨e0,r,rfl,h3,h4,h⟩:=h;simp only [List.cons_append,ie];exact ⟨e0,r++[e],rfl,h3,h4,ie.append h h1 h2⟩
theorem ie.modify {ρ:Ren} : ∀ {es:List (Value×Value)} {l:List MapEntry} {k v:Value} (f:MapEntry->MapEntry) (i:Nat),ie ρ es l->(∀ e,VR ρ k (f e).key/\VR ρ v (f e).val)->ie ρ (es.set i (k,v)) (l.modify i f)
 | [],l,k,v,f,i,h,_=>by simp only [ie] at h; subst h; simp [ie]
 | (k0,v0)::es,l,k,v,f,i,h,hf=>by
  simp only [ie] at h;obtain ⟨e0,r,rfl,h3,h4,h⟩:=h;cases i with
  | zero=>simp only [List.set_cons_zero,List.modify_zero_cons,ie]; exact ⟨_,r,rfl,(hf e0).1,(hf e0).2,h⟩
  | succ i=>simp only [List.set_cons_succ,List.modify_succ_cons,ie]; exact ⟨e0,_,rfl,h3,h4,ie.modify f i h hf⟩
theorem ie.erase {ρ:Ren} : ∀ {es:List (Value×Value)} {l:List MapEntry} (i:Nat),ie ρ es l->ie ρ (es.eraseIdx i) (l.eraseIdx i)
 | [],l,i,h=>by simp only [ie] at h; subst h; simp [ie]
 | (k0,v0)::es,l,i,h=>by
  simp only [ie] at h;obtain ⟨e0,r,rfl,h3,h4,h⟩:=h;cases i with
  | zero=>simpa using h
  | succ i=>simp only [List.eraseIdx_cons_succ,ie]; exact ⟨e0,_,rfl,h3,h4,ie.erase i h⟩
def FR (ρ:Ren):Option (Nat×Value)->Option (Nat×Value)->Prop
 | none,r=>r=none
 | some (i,v),r=>∃ v',r=some (i,v')/\VR ρ v v'
theorem UT {ρ:Ren} (d:TypeDesc) (k:Value):∀ (es:List (Value×Value)) (l:List MapEntry) (i:Nat),ie ρ es l->x8 es=true->
  (EF d k es i=none->Instr.findNow d k l i=none)/\∀ r,EF d k es i=some r->∃ r',Instr.findNow d k l i=some r'/\FR ρ r r'
 | [],l,i,h,_=>by
  simp only [ie] at h; subst h;exact ⟨fun h=>by simp [EF] at h,fun r hr=>by simp [EF] at hr; subst hr; exact ⟨none,rfl,rfl⟩⟩
 | (k0,v0)::es,l,i,h,hf=>by
  simp only [ie] at h;obtain ⟨e0,r0,rfl,h3,h4,h⟩:=h;simp only [x8,ao] at hf;have hk:e0.key=k0:=h3.qK hf.1;have ih:=UT d k es r0 (i+1) h hf.2;simp only [EF,Instr.findNow,hk];cases hsn:Instr.sameNow d k k0 with
  | none=>exact ⟨fun _=>rfl,fun r hr=>by simp at hr⟩
  | some b=>
   cases b with
   | true=>exact ⟨fun h=>by simp at h,fun r hr=>by simp at hr; subst hr; exact ⟨_,rfl,_,rfl,h4⟩⟩
   | false=>exact ih
theorem UU {ρ:Ren} (kt:TypeId) (k:Value):∀ (es:List (Value×Value)) (l:List MapEntry) (i:Nat),ie ρ es l->x8 es=true->
  ∀ r,Mb P kt k es i=some r->∃ r',(∀ w,(Instr.findAsking kt k l i).run P w = .ok r' w)/\FR ρ r r'
 | [],l,i,h,_=>by
  simp only [ie] at h; subst h;intro r hr;simp [Mb] at hr; subst hr; exact ⟨none,fun w=>rfl,rfl⟩
 | (k0,v0)::es,l,i,h,hf=>by
  simp only [ie] at h;obtain ⟨e0,r0,rfl,h3,h4,h⟩:=h;simp only [x8,ao] at hf;have hk:e0.key=k0:=h3.qK hf.1;intro r hr;simp only [Mb] at hr;split at hr
  ·rename_i he
   simp at hr; subst hr;refine ⟨some (i,e0.val),fun w=>?_,_,rfl,h4⟩;simp [Instr.findAsking,hk,fI he w]
  ·rename_i he
   obtain ⟨r',h5,h6⟩:=UU kt k es r0 (i+1) h hf.2 r hr;refine ⟨r',fun w=>?_,h6⟩;simp only [Instr.findAsking,hk,Sem.run_bind,fI he w,ir];exact h5 w
  ·simp at hr
theorem Ns {ρ:Ren} {kt:TypeId} {d:TypeDesc} {k:Value} {es:List (Value×Value)} {l:List MapEntry} {r:Option (Nat×Value)} (hd:P.underlying kt=some d) (h:ie ρ es l) (hf:x8 es=true) (hr:aax P kt d k es=some r) :
  ∃ r',(∀ w,(Instr.findKey kt k l).run P w = .ok r' w)/\FR ρ r r':=by
 have hn:=UT d k es l 0 h hf;unfold aax at hr;split at hr
 ·rename_i q hq
  simp at hr; subst hr;obtain ⟨r',h1,h2⟩:=hn.2 _ hq;refine ⟨r',fun w=>?_,h2⟩;simp only [Instr.findKey,Sem.run_bind,bq hd,ir,h1];rfl
 ·rename_i hq
  have h1:=hn.1 hq;obtain ⟨r',h2,h3⟩:=UU kt k es l 0 h hf r hr;refine ⟨r',fun w=>?_,h3⟩;simp only [Instr.findKey,Sem.run_bind,bq hd,ir,h1];exact h2 w
theorem HS {ρ:Ren} {kt:TypeId} {b:Bool} {k k' : Value} {es:List (Value×Value)} (h:Lj P kt b k es=true) (hk:VR ρ k k'):k' = k/\flat k=true/\x8 es=true/\∀ w,(Instr.checkKey b 10000 kt k).run P w = .ok () w:=by
 unfold Lj at h;simp only [ao] at h;obtain ⟨⟨h1,h2⟩,h3⟩:=h;cases hp:cO P (Instr.checkKey b 10000 kt k) with
 | none=>rw [hp] at h3; simp at h3
 | some u=>exact ⟨hk.qK h1,h1,h2,fun w=>fI hp w⟩
theorem ie.isEmpty {ρ:Ren} {es:List (Value×Value)} {l:Array MapEntry} (h:ie ρ es l.toList):l.isEmpty=es.isEmpty:=by
 have:=h.length;cases es with
 | nil=>simp at this; simpa using this
 | cons e es=>simp at this; simp; intro h; rw [h] at this; simp at this
theorem VR.PB {ρ:Ren} {r:Nat} {v:Value} (h:VR ρ (.map (some r)) v):∃ l,ρ r=some l/\v = .map (some l.cb):=by simpa only [VR] using h
theorem VR.HT {ρ:Ren} {v:Value} (h:VR ρ (.map none) v):v = .map none:=by simpa only [VR] using h
theorem VR.adx {ρ:Ren} {ok b:Bool} {v v' : Value} (h:VR ρ v v'):VR ρ (adx ok v b) (if ok then .tuple #[v',.bool b] else v'):=by
 cases ok with
 | true=>exact VR.mkTuple (.cons h (.cons (VR.of_flat rfl) .nil))
 | false=>exact h
theorem af4 {t:TypeId} {r:Option Operand} (ho:o.op = .makeMap t r):gC P o (Pt P t r):=by
 unfold Pt;split
 ·rename_i kt et hu
  intro ρ ev cF obj mk he hf;have fM:obj = .map []/\mk=fun n=>.map (some n):=by
   unfold WT at hf;split at hf
   ·simp at hf; exact ⟨hf.1.symm,hf.2.symm⟩
   ·simp at hf; exact ⟨hf.1.symm,hf.2.symm⟩
   ·simp at hf
  obtain ⟨rfl,rfl⟩:=fM;refine ⟨.map #[] 0,fun n=>.map (some n),rfl,fun w=>?_,fun aF n cb h=>by simp only [VR]; exact ⟨_,h,rfl⟩⟩;cases r with
  | none=>simp [execOp,ho,Instr.makeMap]
  | some x=>
   have hx:=he x (by simp [eY]);unfold WT at hf;simp only [eY,List.map] at hf;split at hf
   ·rename_i e; simp at e
   ·rename_i k n e
    simp at e;rw [e] at hx;simp [execOp,ho,Instr.makeMap,hx.cg,bq hu,asInt,asIntOf]
   ·simp at hf
 ·trivial
theorem Mm {ρ:Ren} {kt et:TypeId} {d:TypeDesc} {z v k k' : Value} {ok:Bool} {es:List (Value×Value)} {l:Array MapEntry} (hd:P.underlying kt=some d) (hz:yp P et=some z) (hzf:flat z=true)
  (hm:ie ρ es l.toList) (hk:VR ρ k k') (h:Nk P kt d z ok k es=some v) :
  ∃ v',VR ρ v v'/\∀ w,(do
   Instr.checkKey l.isEmpty 10000 kt k'
   let (v,b) <- match <- Instr.findKey kt k' l.toList with
    | some (_,v)=>pure (v,true)
    | none=>pure (<- zeroValue et,false)
   pure (if ok then Value.tuple #[v,.bool b] else v):Sem Value).run P w = .ok v' w:=by
 unfold Nk at h;cases hc:Lj P kt es.isEmpty k es with
 | false=>rw [hc] at h; simp at h
 | true=>
  rw [hc,aj] at h;obtain ⟨rfl,_,hkf,WY⟩:=HS hc hk;obtain ⟨r,hr,rfl⟩:=cj.1 h;obtain ⟨r',h1,h2⟩:=Ns hd hm hkf hr;rw [hm.isEmpty];cases r with
  | none=>
   have h2:r' = none:=h2;subst h2;refine ⟨_,VR.adx (VR.of_flat hzf),fun w=>?_⟩;simp [WY,h1,Rg hz]
  | some p=>
   obtain ⟨i,u⟩:=p;obtain ⟨u',rfl,h3⟩:=h2;refine ⟨_,VR.adx h3,fun w=>?_⟩;simp [WY,h1]
theorem ail {t:TypeId} {x ix:Operand} {ok:Bool} (ho:o.op = .lookup t x ix ok):gC P o (Tf P t x ix ok):=by
 unfold Tf;split
 ·rename_i kt et hu
  split
  ·rename_i d z hd hz
   cases hzf:flat z with
   | false=>exact True.intro
   | true=>
    rw [aj];intro ρ A base w ev cF v hs he hf;have hx:=he x (by simp);have hk:=he ix (by simp);simp only [List.map] at hf;unfold afU at hf;split at hf
    ·rename_i k e
     simp at e;obtain ⟨e1,e2⟩:=e;rw [e1] at hx;have hx:=hx.HT;rw [<- e2] at hf;obtain ⟨v',h1,h2⟩:=Mm (ρ:=ρ) (l:=#[]) hd hz hzf (by simp [ie]) hk hf;refine ⟨v',h1,?_⟩;have h2:=h2 w;simp only [execOp,ho,Instr.lookup,Sem.run_bind,bq hu,ir,hx,Sem.run_pure] at h2 ⊢;exact congrArg (fun r:Result Value=>r.andThen fun a w'=>Result.ok (Next.value a) w') h2
    ·rename_i r k e
     simp at e;obtain ⟨e1,e2⟩:=e;rw [e1] at hx;rw [<- e2] at hf;obtain ⟨lc,hl,hx⟩:=hx.PB;split at hf
     ·rename_i es hg
      obtain ⟨l2,k7,jr⟩:=hs.map _ _ hg;rw [hl] at k7; simp at k7; subst k7;obtain ⟨bo,clock,qV,hm⟩:=jr.lN;obtain ⟨v',h1,h2⟩:=Mm (l:=bo) hd hz hzf hm hk hf;refine ⟨v',h1,?_⟩;have h2:=h2 w;simp only [execOp,ho,Instr.lookup,Sem.run_bind,bq hu,ir,hx,MapKept.run_getObj_map qV,Sem.run_pure] at h2 ⊢;exact congrArg (fun r:Result Value=>r.andThen fun a w'=>Result.ok (Next.value a) w') h2
     ·simp at hf
    ·simp at hf
  ·trivial
 ·trivial
theorem UW {ρ:Ren} {A B:St} {base:Nat} {w:World} {t kt et:TypeId} {d:TypeDesc} {m k x m' k' x' v:Value} (hu:P.underlying t=some (.map kt et)) (hd:P.underlying kt=some d) (hs:vu ρ A base w)
  (hm:VR ρ m m') (hk:VR ρ k k') (hx:VR ρ x x') (h:Ps P kt d A [m,k,x] = some (v,B)):v=undef/\∃ w',(Instr.mapUpdate t m' k' x').run P w = .ok () w'/\jb base ρ A w ρ B w':=by
 unfold Ps at h;split at h
 ·rename_i r k0 x0 e
  simp at e;obtain ⟨rfl,rfl,rfl⟩:=e;obtain ⟨lc,hl,rfl⟩:=hm.PB;split at h
  ·rename_i es hg
   obtain ⟨l2,k7,jr⟩:=hs.rel.map _ _ hg;rw [hl] at k7; simp at k7; subst k7;obtain ⟨bo,clock,qV,W9⟩:=jr.lN;cases hc:Lj P kt false k es with
   | false=>rw [hc] at h; simp at h
   | true=>
    rw [hc,aj] at h;obtain ⟨rfl,hkf0,hkf,WY⟩:=HS hc hk;obtain ⟨q,hq,h⟩:=cE.1 h;obtain ⟨r',h1,h2⟩:=Ns hd W9 hkf hq;cases q with
    | none=>
     have h2:r' = none:=h2;subst h2;simp at h;obtain ⟨rfl,rfl⟩:=h;refine ⟨rfl,_,?_,Dj (FZ:=bo.push { key:=k',val:=x',born:=clock }) (FE:=clock+1) hs hg hl (by rw [Array.toList_push]; exact W9.append hk hx)⟩;simp [Instr.mapUpdate,bq hu,MapKept.run_getObj_map qV,WY,h1,MapKept.run_setObj_map _ qV]
    | some p=>
     obtain ⟨i,u⟩:=p;obtain ⟨u',rfl,h3⟩:=h2;simp only at h;cases hsb:Instr.sameBits 10000 (aey es i k') k' with
     | false=>rw [hsb] at h; simp at h
     | true=>
      rw [hsb] at h;simp at h;obtain ⟨rfl,rfl⟩:=h;have hold:((bo[i]?).map (·.key)).getD k' = aey es i k':=by
       unfold aey;cases hi:es[i]? with
       | none=>
        have:bo[i]? = none:=by
         rw [Array.getElem?_eq_none_iff];have:=ZZ.1 hi;rw [<- Array.length_toList,W9.length]; exact this
        rw [this]; rfl
       | some p=>
        obtain ⟨k1,v1⟩:=p;obtain ⟨e,h5,h6,h7⟩:=W9.get i k1 v1 hi;have h5' : bo[i]? = some e:=by simpa using h5
        have tY:flat k1=true:=by
         have key:∀ (es:List (Value×Value)) (i:Nat),x8 es=true->es[i]? = some (k1,v1)->flat k1=true:=by
          intro es
          induction es with
          | nil=>intro i _ h; simp at h
          | cons e es ih=>
           intro i hk h;simp only [x8,ao] at hk;cases i with
           | zero=>simp at h; subst h; exact hk.1
           | succ i=>exact ih i hk.2 (by simpa using h)
         exact key es i hkf hi
        rw [h5'];simp only [Option.map_some,dI];exact h6.qK tY
      refine ⟨rfl,_,?_,Dj (FZ:=bo.modify i fun e=>{ e with key:=k',val:=x' }) (FE:=clock) hs hg hl (by rw [Array.toList_modify]; exact W9.modify _ i fun e=>⟨hk,hx⟩)⟩;simp [Instr.mapUpdate,bq hu,MapKept.run_getObj_map qV,WY,h1,hold,Instr.keyThatStays,hsb,MapKept.run_setObj_map _ qV]
  ·simp at h
 ·simp at h
theorem Sm {t:TypeId} {m k x:Operand} (ho:o.op = .mapUpdate t m k x\/o.op = .insert t m k x):gC P o (Fw P t m k x):=by
 unfold Fw;split
 ·rename_i kt et hu
  split
  ·rename_i d hd
   intro ρ A B base w ev cF v hs he hf;simp only [List.map] at hf;obtain ⟨rfl,w',h1,h2⟩:=UW hu hd hs (he m (by simp)) (he k (by simp)) (he x (by simp)) hf;refine ⟨ρ,undef,.skip,w',?_,rfl,VR.of_flat (by simp [undef,flat,Na,yU]),h2⟩;rcases ho with ho | ho <;> simp [execOp,ho,h1]
  ·trivial
 ·trivial
theorem yW:flat kv=true:=rfl
theorem aim {argTypes:Array TypeId} {args:Array Operand} (ho:o.op = .call ⟨.builtin .delete,args,argTypes⟩):gC P o (Tg P argTypes.toList args.toList):=by
 unfold Tg;split
 ·rename_i t rest vc
  have OG:argTypes[0]? = some t:=by rw [<- Array.getElem?_toList,vc]; rfl
  split
  ·rename_i kt et hu
   split
   ·rename_i d hd
    intro ρ A B base w ev cF v hs he hf;have hm:=he.map;unfold afV at hf;split at hf
    ·rename_i k e1
     rw [e1] at hm;obtain ⟨m',r1,e2,hmv,hm⟩:=hm.cons_inv;obtain ⟨k',r2,e3,hkv,hm⟩:=hm.cons_inv;have:=hm.b6;subst this e3;have e4:args.map cF = #[m',k']:=by apply Array.ext'; simpa using e2
     have:=hmv.HT;subst this;cases hc:Lj P kt true k [] with
     | false=>rw [hc] at hf; simp at hf
     | true=>
      rw [hc] at hf;simp at hf;obtain ⟨rfl,rfl⟩:=hf;obtain ⟨rfl,_,hkf,WY⟩:=HS hc hkv;refine ⟨ρ,kv,.value kv,w,?_,rfl,VR.of_flat yW,.refl hs⟩;simp [execOp,ho,resolve,invoke,builtin,e4,Builtin.delete_,OG,bq hu,WY,kv]
    ·rename_i r k e1
     rw [e1] at hm;obtain ⟨m',r1,e2,hmv,hm⟩:=hm.cons_inv;obtain ⟨k',r2,e3,hkv,hm⟩:=hm.cons_inv;have:=hm.b6;subst this e3;have e4:args.map cF = #[m',k']:=by apply Array.ext'; simpa using e2
     obtain ⟨lc,hl,rfl⟩:=hmv.PB;split at hf
     ·rename_i es hg
      obtain ⟨l2,k7,jr⟩:=hs.rel.map _ _ hg;rw [hl] at k7; simp at k7; subst k7;obtain ⟨bo,clock,qV,W9⟩:=jr.lN;cases hc:Lj P kt es.isEmpty k es with
      | false=>rw [hc] at hf; simp at hf
      | true=>
       rw [hc,aj] at hf;obtain ⟨rfl,_,hkf,WY⟩:=HS hc hkv;obtain ⟨q,hq,Mn⟩:=cj.1 hf;obtain ⟨r',h1,h2⟩:=Ns hd W9 hkf hq;rw [<- W9.isEmpty] at WY;cases q with
       | none=>
        have h2:r' = none:=h2;subst h2;simp at Mn;obtain ⟨rfl,rfl⟩:=Mn;refine ⟨ρ,kv,.value kv,_,?_,rfl,VR.of_flat yW,Dj (FZ:=bo) (FE:=clock) hs hg hl W9⟩;simp [execOp,ho,resolve,invoke,builtin,e4,Builtin.delete_,OG,bq hu,MapKept.run_getObj_map qV,WY,h1,MapKept.run_setObj_map _ qV,kv]
       | some p=>
        obtain ⟨i,u⟩:=p;obtain ⟨u',rfl,h3⟩:=h2;simp at Mn;obtain ⟨rfl,rfl⟩:=Mn;refine ⟨ρ,kv,.value kv,_,?_,rfl,VR.of_flat yW,Dj (FZ:=bo.eraseIdxIfInBounds i) (FE:=clock) hs hg hl (by rw [Array.toList_eraseIdxIfInBounds]; exact W9.erase i)⟩;simp [execOp,ho,resolve,invoke,builtin,e4,Builtin.delete_,OG,bq hu,MapKept.run_getObj_map qV,WY,h1,MapKept.run_setObj_map _ qV,kv]
     ·simp at hf
    ·simp at hf
   ·trivial
  ·trivial
 ·trivial
theorem ak7 {argTypes:Array TypeId} {args:Array Operand} (ho:o.op = .call ⟨.builtin .clear,args,argTypes⟩):gC P o (WU P argTypes.toList args.toList):=by
 unfold WU;split
 ·rename_i t vc
  have OG:argTypes[0]? = some t:=by rw [<- Array.getElem?_toList,vc]; rfl
  split
  ·rename_i kt et hu
   intro ρ A B base w ev cF v hs he hf;have hm:=he.map;unfold aay at hf;split at hf
   ·rename_i e1
    simp at hf;obtain ⟨rfl,rfl⟩:=hf;rw [e1] at hm;obtain ⟨m',r1,e2,hmv,hm⟩:=hm.cons_inv;have:=hm.b6;subst this;have e4:args.map cF = #[m']:=by apply Array.ext'; simpa using e2
    have:=hmv.HT;subst this;refine ⟨ρ,kv,.value kv,w,?_,rfl,VR.of_flat yW,.refl hs⟩;simp [execOp,ho,resolve,invoke,builtin,e4,Builtin.clear_,OG,bq hu,kv]
   ·rename_i r e1
    rw [e1] at hm;obtain ⟨m',r1,e2,hmv,hm⟩:=hm.cons_inv;have:=hm.b6;subst this;have e4:args.map cF = #[m']:=by apply Array.ext'; simpa using e2
    obtain ⟨lc,hl,rfl⟩:=hmv.PB;split at hf
    ·rename_i es hg
     simp at hf;obtain ⟨rfl,rfl⟩:=hf;obtain ⟨l2,k7,jr⟩:=hs.rel.map _ _ hg;rw [hl] at k7; simp at k7; subst k7;obtain ⟨bo,clock,qV,W9⟩:=jr.lN;refine ⟨ρ,kv,.value kv,_,?_,rfl,VR.of_flat yW,Dj (FZ:=#[]) (FE:=clock) hs hg hl rfl⟩;simp [execOp,ho,resolve,invoke,builtin,e4,Builtin.clear_,OG,bq hu,MapKept.run_getObj_map qV,MapKept.run_setObj_map _ qV,kv]
    ·simp at hf
   ·simp at hf
  ·rename_i e hu
   split
   ·rename_i z hz
    cases hzc:(flat z&&Nat.ble 1 z.cells.size) with
    | false=>exact True.intro
    | true=>
     rw [aj];obtain ⟨Lr,C5⟩:=Bool.and_eq_true_iff.1 hzc;have C5:=dX C5;intro ρ A B base w ev cF v hs he hf;have hm:=he.map;unfold ady at hf;split at hf
     ·rename_i n c e1
      simp at hf;obtain ⟨rfl,rfl⟩:=hf;rw [e1] at hm;obtain ⟨m',r1,e2,hmv,hm⟩:=hm.cons_inv;have:=hm.b6;subst this;have e4:args.map cF = #[m']:=by apply Array.ext'; simpa using e2
      have:=hmv.ga;subst this;refine ⟨ρ,kv,.value kv,w,?_,rfl,VR.of_flat yW,.refl hs⟩;simp [execOp,ho,resolve,invoke,builtin,e4,Builtin.clear_,OG,bq hu,kv]
     ·rename_i a n c e1
      rw [e1] at hm;obtain ⟨m',r1,e2,hmv,hm⟩:=hm.cons_inv;have:=hm.b6;subst this;have e4:args.map cF = #[m']:=by apply Array.ext'; simpa using e2
      obtain ⟨Gv,HR,lc,a',c',hl,vw,Lt,mR,rfl⟩:=hmv.lK;cases hn:Nat.beq n 0 with
      | true=>
       rw [hn] at hf;simp at hf;obtain ⟨rfl,rfl⟩:=hf;have:=aL hn;subst this;refine ⟨ρ,kv,.value kv,w,?_,rfl,VR.of_flat yW,.refl hs⟩;simp [execOp,ho,resolve,invoke,builtin,e4,Builtin.clear_,OG,bq hu,kv]
      | false=>
       rw [hn,aH] at hf;have hn0:=Nat.ne_of_beq_eq_false hn;obtain ⟨B',gz,hf⟩:=cj.1 hf;simp at hf;obtain ⟨rfl,rfl⟩:=hf;obtain ⟨w',h5,h6⟩:=Fz (P:=P) hs gz hl ((Kv Lr).repeat n);have:=Lt (by omega);subst this;have e5:Builtin.zeroCells z.cells n=⟨fD z.cells.toList n⟩:=Tk z.cells n C5;refine ⟨ρ,kv,.value kv,w',?_,rfl,VR.of_flat yW,h6⟩;obtain ⟨m,rfl⟩:=Nat.exists_eq_succ_of_ne_zero hn0;simp [execOp,ho,resolve,invoke,builtin,e4,Builtin.clear_,OG,bq hu,Rg hz,e5,h5,kv]
     ·simp at hf
   ·trivial
  ·trivial
 ·trivial
theorem an5 {argTypes:Array TypeId} {args:Array Operand} (ho:o.op = .call ⟨.builtin .len,args,argTypes⟩):gC P o (Z3 P argTypes.toList args.toList):=by
 unfold Z3;split
 ·rename_i t et
  have vc:argTypes[0]? = some t:=by rw [<- Array.getElem?_toList,et]; rfl
  split
  ·rename_i e hu; exact ak3 ho vc hu
  ·rename_i hu; exact aij ho vc hu
  ·rename_i kt et' hu
   intro ρ A base w ev cF v hs he hf;have hm:=he.map;unfold afW at hf;split at hf
   ·rename_i e1
    rw [e1] at hm;obtain ⟨y,ys,e2,h1,h2⟩:=hm.cons_inv;have:=h2.b6;subst this;simp at hf; subst hf;have:=h1.HT;subst this;refine ⟨_,VR.of_flat rfl,?_⟩;have e3:(args.map cF)[0]? = some (.map none):=by rw [oZ,e2]; rfl
    simp [execOp,ho,resolve,invoke,builtin,Builtin.len_,vc,e3,bq hu,goInt]
   ·rename_i r e1
    rw [e1] at hm;obtain ⟨y,ys,e2,h1,h2⟩:=hm.cons_inv;have:=h2.b6;subst this;obtain ⟨lc,hl,rfl⟩:=h1.PB;split at hf
    ·rename_i es hg
     simp at hf; subst hf;obtain ⟨l2,k7,jr⟩:=hs.map _ _ hg;rw [hl] at k7; simp at k7; subst k7;obtain ⟨bo,clock,qV,W9⟩:=jr.lN;refine ⟨_,VR.of_flat rfl,?_⟩;have e3:(args.map cF)[0]? = some (.map (some lc.cb)):=by rw [oZ,e2]; rfl
     have dT:bo.size=es.length:=by rw [<- Array.length_toList,W9.length]
     simp [execOp,ho,resolve,invoke,builtin,Builtin.len_,vc,e3,bq hu,goInt,MapKept.run_getObj_map qV,dT]
    ·simp at hf
   ·simp at hf
  ·trivial
 ·trivial
end
end Go.aG
end
section
namespace Go.aG
open Go
section
variable {P:Program} {o:Oper}
theorem aeI {l:List UInt8} : ∀ {cs:List Value},Kr cs=some l->cs=kO l:=by
 intro cs
 induction cs generalizing l with
 | nil=>intro h; simp [Kr] at h; subst h; rfl
 | cons c cs ih=>
  intro h;cases c with
  | int k n=>
   cases k <;> cases n <;> simp only [Kr] at h <;> try (simp at h; done)
   rename_i m;cases hb:Nat.blt m 256 with
   | false=>rw [hb] at h; simp at h
   | true=>
    rw [hb,aj] at h;obtain ⟨r,hr,rfl⟩:=cj.1 h;rw [bI] at hb;rw [ih hr];simp only [kO,List.map_cons,List.cons.injEq,and_true];have:(UInt8.ofNat m).toNat=m:=by simp; omega
    rw [this];rfl
  | _=>simp [Kr] at h
theorem ac5 {ρ:Ren} (l:List UInt8):dB ρ (kO l) (kO l):=by
 induction l with
 | nil=>exact .nil
 | cons x l ih=>exact .cons (by simp [VR]) ih
theorem PC:∀ (l:List UInt8),yU (kO l)=true
 | []=>rfl
 | x::l=>by show (true&&yU (kO l))=true; rw [PC l]; rfl
theorem aaQ {e:TypeId} (h:isByte P e=true):P.underlying e=some (.int .u8):=by
 unfold isByte at h;split at h
 ·rename_i h'; exact h'
 ·simp at h
theorem ZE {ρ:Ren} {A:St} {base:Nat} {w:World} {cs bP:List Value} {c:Array Value} {n aP f:Nat} {fr:Nat×Nat} (T:TypeId) (hn1:n=1) (hs:vu ρ A base w) (hc:dB ρ cs bP) (h1:∀ v∈cs,scalar v=true)
  (aaO:∀ (j:Nat) (v:Value),bP[j]? = some v->c[j]? = some v) (dT:cs.length<=c.size) (hfr:c.size<=fr.1) :
  jb base ρ A w (ρ.set A.next ⟨w.heap.size,0,c.size,n⟩) (A.grow aP f cs n) (w.alloc (.cells c T fr)):=by
 refine IX (o:=.row cs n true (some (aP,f))) hs (fun x=>Mj _ _ _ _ _ _) (fun g x h=>?_) (fun g f' h=>?_) (by simp [St.grow]) (by simp [St.grow]) (fun x hx _=>by rw [Mj,aa (by omega)]) rfl ?_
 ·rw [Bi]; split
  ·rename_i e; subst e; simp [h]
  ·exact h
 ·simp [ct.lM] at h; rw [Bi,h.1]; simp
 ·refine ⟨fun i v hi=>?_,fun h=>by simp at h,fun _=>hs.size,fun _ j hj=>?_,by simpa using dT,fun _ h=>by simp at h,rfl,by simp,fun _ h=>absurd hn1 h⟩
  ·obtain ⟨v',h2,h3⟩:=hc.get hi
   refine ⟨v',?_,h3.mono (hs.FB _),h1 v (gu hi)⟩;rw [bd,World.cell?_alloc_mark];exact aaO i v' h2
  ·simp only at hj ⊢
   rw [World.cell?_alloc_mark];refine ⟨?_,?_⟩
   ·rw [Array.getElem?_eq_getElem (by omega)]
    rfl
   ·have:(w.alloc (.cells c T fr)).heap[w.heap.size]? = some (.cells c T fr):=by
     show (w.heap.push (.cells c T fr))[w.heap.size]? = _;simp
    simp only [World.frozen?,this];have AH : ¬ (fr.1<=j):=by omega
    simp [AH]
theorem Xa {ρ:Ren} {A:St} {base:Nat} {w:World} {src dst e:TypeId} {x x' v:Value} (hs:Rel ρ A.get A.members base w) (h1:P.underlying src=some (.slice e)) (h2:P.underlying dst=some .string) (he:P.underlying e=some (.int .u8))
  (hx:VR ρ x x') (h:IQ A [x] = some v):VR ρ v v/\(convert src dst x').run P w = .ok v w:=by
 unfold IQ at h;split at h
 ·rename_i n c e1
  simp at e1; subst e1;simp at h; subst h;have:=hx.ga;subst this;refine ⟨VR.of_flat rfl,?_⟩;rw [run_convert_bytes_string w src dst e none n c h1 he h2];rfl
 ·rename_i a n c e1
  simp at e1; subst e1;obtain ⟨l,hl,rfl⟩:=cj.1 h;obtain ⟨cs,Ls,hb⟩:=cE.1 hl;have:=aeI hb;subst this;obtain ⟨Gv,HR,lc,a',c',kK,vw,Lt,mR,rfl⟩:=hx.lK;obtain ⟨bP,q1,q2,q3,q4⟩:=zF (P:=P) hs Ls kK;have aml:bP=kO l:=q1.qK (PC l);subst aml;have hlen:l.length=n:=by simpa [kO] using q2
  refine ⟨VR.of_flat rfl,?_⟩;rw [run_convert_bytes_string w src dst e (some a') n c' h1 he h2];have Gz:(loadCells a' n).run P w = .ok (kO l).toArray w:=by
   by_cases hc:c' = 0
   ·have hn0:n=0:=by omega
    subst hn0;have:l = []:=List.eq_nil_of_length_eq_zero hlen;subst this;exact run_loadCells_list w a' [] (by simp)
   ·rw [Lt hc]; exact q4
  have wM:kO l=(l.map (fun b=>(b.toNat:Int))).map (Value.int .u8):=by simp [kO]
  rw [wM] at Gz;rw [run_bytesToString w a' n c' _ Gz,foldl_push_byteCells];have he0:ByteArray.empty.data = #[]:=rfl;rw [he0];simp
 ·simp at h
theorem Xb {ρ:Ren} {A B:St} {base:Nat} {w:World} {src dst e:TypeId} {x x' v:Value} (hs:vu ρ A base w) (h1:P.underlying src=some .string) (h2:P.underlying dst=some (.slice e)) (he:P.underlying e=some (.int .u8))
  (hx:VR ρ x x') (h:Nl A [x] = some (v,B)):∃ aF v' w',(convert src dst x').run P w = .ok v' w'/\VR aF v v'/\jb base ρ A w aF B w':=by
 unfold Nl at h;split at h
 ·rename_i s e1
  simp at e1; subst e1;simp at h;obtain ⟨rfl,rfl⟩:=h;have:=hx.rA;subst this;have hr:=run_bytes_of_string (P:=P) w src dst e s h1 h2 he;have hge:=grownCap_ge w s.size 0 e;have hds:s.data.size=s.size:=rfl;have Nq:(bytesRow s (grownCap w s.size 0 e)).size=grownCap w s.size 0 e:=by
   unfold bytesRow;simp [hds];omega
  have hdr:=jb.drew (w:=w) hs;have IW:=ZE (w:=w.drew) (n:=1) (aP:=A.next) (f:=0) (c:=bytesRow s (grownCap w s.size 0 e)) (fr:=((bytesRow s (grownCap w s.size 0 e)).size,(bytesRow s (grownCap w s.size 0 e)).size+1)) e rfl hdr.fY
   (ac5 s.data.toList) (fun v hv=>by
    obtain ⟨b,_,rfl⟩:=HJ.1 hv;rfl) (fun j v hj=>by
    unfold bytesRow;have bm:j < s.data.size:=by
     have:=(cH.1 hj).1;simpa [kO] using this
    rw [Array.getElem?_append_left (by simpa using bm)];simpa [kO] using hj) (by rw [Nq]; simp [kO,hds]; exact hge) (aC _)
  refine ⟨_,_,_,hr,?_,hdr.trans IW⟩;simp only [VR];refine ⟨trivial,aC _,_,⟨w.heap.size,0,none⟩,grownCap w s.size 0 e,Ren.fL _ _ _,hge,fun _=>rfl,?_,rfl⟩;rw [Nq];show 0+0+grownCap w s.size 0 e * 1<=grownCap w s.size 0 e;omega
 ·simp at h
theorem amm {src dst:TypeId} {x:Operand} (ho:o.op = .convert src dst x):gC P o (FY P src dst x):=by
 unfold FY;split
 ·rename_i e h1 h2
  cases hb:isByte P e with
  | false=>exact True.intro
  | true=>
   rw [aj];intro ρ A base w ev cF v hs he hf;obtain ⟨h3,h4⟩:=Xa hs h1 h2 (aaQ hb) (he x (by simp)) hf;exact ⟨v,h3,by simp [execOp,ho,h4]⟩
 ·rename_i e h1 h2
  cases hb:isByte P e with
  | false=>exact True.intro
  | true=>
   rw [aj];intro ρ A B base w ev cF v hs he hf;obtain ⟨aF,v',w',h3,h4,h5⟩:=Xb hs h1 h2 (aaQ hb) (he x (by simp)) hf;exact ⟨aF,v',.value v',w',by simp [execOp,ho,h3],rfl,h4,h5⟩
 ·rename_i h1 h2
  intro ρ ev cF v he hf;simp only [List.map] at hf;unfold aaz at hf;split at hf
  ·rename_i s e
   simp at e hf;subst hf;have hx:=he x (by simp);rw [e] at hx;refine ⟨_,VR.of_flat rfl,fun w=>?_⟩;simp [execOp,ho,convert,bq h1,bq h2,hx.rA]
  ·simp at hf
 ·exact af0 ho
theorem ac6 {ρ:Ren} {A:St} {base:Nat} {w:World} {r:Nat} {s:List UInt8} {pos UX:Nat} {l:Loc} (hs:vu ρ A base w) (hg:A.get r=some (.iter s pos)) (kK:ρ r=some l) :
  jb base ρ A w ρ (A.put r (.iter s UX)) { w with heap:=w.heap.setIfInBounds l.cb (.stringIter ⟨⟨s⟩⟩ UX) }:=by
 obtain ⟨l',vb,ok⟩:=hs.rel.iter _ _ _ hg;rw [kK] at vb; simp at vb; subst vb;obtain ⟨OH,qV⟩:=ok.lN;have bm:l.cb < w.heap.size:=(r8.1 qV).1;have Lx:ct.eH (.iter s pos)=true:=rfl;have hold:∀ k,k≠l.cb->(w.heap.setIfInBounds l.cb (.stringIter ⟨⟨s⟩⟩ UX))[k]? = w.heap[k]?:=fun k hk=>by
  rw [Array.getElem?_setIfInBounds_ne (Ne.symm hk)]
 have dT:(w.heap.setIfInBounds l.cb (.stringIter ⟨⟨s⟩⟩ UX)).size=w.heap.size:=by simp
 have hB:∀ x,(A.put r (.iter s UX)).get x=if x=r then some (.iter s UX) else A.get x:=fun x=>St.bA _ _ _ _;have hmd:∀ o:ct,o.eH=true->o≠.dead:=by intro o h e; subst e; simp [ct.eH] at h
 have Sg:∀ x o l2,x≠r->A.get x=some o->o≠.dead->ρ x=some l2->Lo ρ base w l2 o->l2.cb≠l.cb:=by
  intro x o l2 hx jE hd yS jr e;cases hmo:o.eH with
  | true=>
   obtain ⟨_,_,_,_,e1,_⟩:=hs.rel.apart x r o _ l2 l hx jE hg hmo Lx yS kK e;simp [ct.lM] at e1
  | false=>
   cases o with
   | row cs bp own bN=>
    have jr:sv ρ base w l2 cs bp own bN:=jr;have h1:own=false:=hmo;have:=jr.xA h1;have:=ok.eH;omega
   | map _=>simp [ct.eH] at hmo
   | iter _ _=>simp [ct.eH] at hmo
   | dead=>exact hd rfl
   | loop _ _ _ _ _ _=>simp [ct.eH] at hmo
 refine ⟨⟨.FC ?_ ?_ ?_,fun b l2 h=>hs.jP b l2 h,by simpa using hs.size,hs.IU⟩,fun _ _=>rfl,⟨rfl,rfl,rfl,Nat.le_of_eq dT.symm,fun k hk hn=>hold k (fun e=>hn ⟨r,_,l,hg,Lx,kK,e.symm⟩)⟩,aC _,Nat.min_le_left _ _,fun x hx hxl=>?_,?_⟩
 ·intro x o jE hd
  rw [hB] at jE;split at jE
  ·rename_i e; subst e; simp at jE; subst jE
   refine ⟨l,kK,ok.eH,OH,?_⟩;show (w.heap.setIfInBounds l.cb (.stringIter ⟨⟨s⟩⟩ UX))[l.cb]? = _;rw [Array.getElem?_setIfInBounds_self_of_lt bm]
  ·rename_i e
   obtain ⟨l2,yS,jr⟩:=hs.rel.obj jE hd;exact ⟨l2,yS,jr.dR (Ren.le_refl _) (hold _ (Sg x o l2 e jE hd yS jr)) (Nat.le_of_eq dT.symm)⟩
 ·have Pc:∀ x o,(A.put r (.iter s UX)).get x=some o->o.eH=true->∃ o',A.get x=some o'/\o'.eH=true/\o'.lM=o.lM:=by
   intro x o hx hm;rw [hB] at hx;split at hx
   ·rename_i e; subst e; simp at hx; subst hx; exact ⟨_,hg,rfl,rfl⟩
   ·exact ⟨o,hx,hm,rfl⟩
  intro b1 b2 o1 o2 l1 l2 cD g1 g2 m1 m2 r1 r2 C4;obtain ⟨p1,q1,n1,k1⟩:=Pc _ _ g1 m1;obtain ⟨p2,q2,n2,k2⟩:=Pc _ _ g2 m2;rw [<- k1,<- k2];exact hs.rel.apart b1 b2 p1 p2 l1 l2 cD q1 q2 n1 n2 r1 r2 C4
 ·intro x o aP f jE hk
  rw [hB] at jE;split at jE
  ·rename_i e; subst e; simp at jE; subst jE; simp [ct.lM] at hk
  ·exact hs.rel.cX x o aP f jE hk
 ·rw [St.aaB] at hxl
  have:Nat.min A.low r<=r:=Nat.min_le_right _ _;rw [hB,aa (by omega)]
 ·rintro k hk ⟨x,o,l2,jE,hm,yS,rfl⟩
  rw [hB] at jE;split at jE
  ·rename_i e; subst e
   rw [kK] at yS; simp at yS; subst yS;exact ⟨x,_,l,hg,Lx,kK,rfl⟩
  ·exact ⟨x,o,l2,jE,hm,yS,rfl⟩
theorem ak8 {t:TypeId} {x:Operand} (ho:o.op = .range t x):gC P o (WV P t x):=by
 unfold WV;split
 ·rename_i hu
  intro ρ ev cF obj mk he hf;simp only [List.map] at hf;unfold ajL at hf;split at hf
  ·rename_i s e
   simp at e;have hx:=he x (by simp);rw [e] at hx;have hx:=hx.rA;simp at hf;obtain ⟨rfl,rfl⟩:=hf;refine ⟨.stringIter s 0,fun n=>.pointer (some ⟨n,0,none⟩),?_,fun w=>?_,fun aF n cb h=>VR.Cg (a:=⟨n,0,none⟩) rfl h⟩
   ·show Obj.stringIter s 0 = .stringIter ⟨⟨s.data.toList⟩⟩ 0
    rfl
   ·simp [execOp,ho,Instr.range,bq hu,hx]
  ·simp at hf
 ·trivial
theorem Mo {w:World} {r:Nat} {s:ByteArray} {pos:Nat} (hb:w.heap[r]? = some (.stringIter s pos)):(getObj r).run P w = .ok (.stringIter s pos) w:=by
 simp [getObj,Sem.run,hb]
theorem Xc {w:World} {r:Nat} {s:ByteArray} {pos:Nat} (o:Obj) (hb:w.heap[r]? = some (.stringIter s pos)):(setObj r o).run P w = .ok () { w with heap:=w.heap.setIfInBounds r o }:=by
 simp [setObj,Sem.run,hb]
theorem amn {it:Operand} {b:Bool} (ho:o.op = .next it b):gC P o (cond b (.act aib [it]) .bad):=by
 cases b with
 | false=>trivial
 | true=>
  rw [aj];intro ρ A B base w ev cF v hs he hf;simp only [List.map] at hf;unfold aib at hf;split at hf
  ·rename_i a e
   simp at e;have hx:=he it (by simp);rw [e] at hx;obtain ⟨Gv,l,hl,hx⟩:=hx.ig;cases ha0:Nat.beq a.off 0 with
   | false=>rw [ha0] at hf; simp at hf
   | true=>
    rw [ha0,aj] at hf;have ha0:=aL ha0;split at hf
    ·rename_i s pos hg
     obtain ⟨l2,k7,ok⟩:=hs.rel.iter _ _ _ hg;rw [hl] at k7; simp at k7; subst k7;obtain ⟨OH,qV⟩:=ok.lN;have dT:(⟨⟨s⟩⟩:ByteArray).size=s.length:=rfl;rw [OH,ha0] at hx;cases bm:Nat.blt pos s.length with
     | true=>
      rw [bm,aj] at hf;rw [bI] at bm;split at hf;rename_i c width aqd;simp at hf;obtain ⟨rfl,rfl⟩:=hf;refine ⟨ρ,.tuple #[.bool true,.int .i64 (Int.ofNat pos),.int .i32 c],.value _,_,?_,rfl,VR.of_flat rfl,ac6 (UX:=pos+width) hs hg hl⟩;simp [execOp,ho,Instr.next,hx,Mo qV,dT,bm,aqd,Xc _ qV,goInt]
     | false=>
      rw [bm,aH] at hf;have hge : ¬ pos < s.length:=fun h=>by rw [<- bI] at h; rw [h] at bm; simp at bm
      simp at hf;obtain ⟨rfl,rfl⟩:=hf;refine ⟨ρ,.tuple #[.bool false],.value _,w,?_,rfl,VR.of_flat rfl,.refl hs⟩;simp [execOp,ho,Instr.next,hx,Mo qV,dT,hge]
    ·simp at hf
  ·simp at hf
theorem rB (P:Program) (o:Oper):gC P o (compile P o.op):=by
 cases ho:o.op with
 | move x=>exact amd ho
 | assign x=>exact aie ho
 | pick c a b=>exact ame ho
 | alloc t=>exact akX ho
 | box t x=>exact an1 ho
 | build t parts=>exact ak2 ho
 | buildSlice t len parts=>exact aaI ho
 | load t a=>exact amf ho
 | store t a x=>exact akY ho
 | nilCheck x=>exact aeC ho
 | binOp op t x y yt=>exact an2 ho
 | unOp op t x=>exact apt ho
 | convert src dst x=>exact amm ho
 | makeFunc fn first cap=>exact aeD ho
 | fieldAddr s x f=>exact ac1 ho
 | field t x f=>exact akZ ho
 | indexAddr t x ix=>exact ac2 ho
 | index t x ix=>exact ak0 ho
 | extract t i=>exact af1 ho
 | slice t x lo hi mx=>exact ok_slice ho
 | makeSlice t l c=>exact ac4 ho
 | makeInterface t x=>exact ak4 ho
 | range t x=>exact ak8 ho
 | next it b=>exact amn ho
 | makeMap t r=>exact af4 ho
 | lookup t x ix ok=>exact ail ho
 | mapUpdate t m k x=>exact Sm (.inl ho)
 | insert t m k x=>exact Sm (.inr ho)
 | call c=>
  show gC P o (Dd P c);unfold Dd;split
  ·rename_i f hf; exact amh ho hf
  ·rename_i b hb
   obtain ⟨callee,args,argTypes⟩:=c;simp only at hb;subst hb;unfold Ks;split
   ·exact an5 ho
   ·exact an3 ho
   ·exact an4 ho
   ·exact aik ho
   ·exact amk ho
   ·exact aim ho
   ·exact ak7 ho
   ·trivial
  ·trivial
 | _=>trivial
end
end Go.aG
end
section
namespace Go.aG
noncomputable section
open Go
abbrev Fr (r:Option Nat):Fence:={ Fence.wide with round:=r }
def Ren.res (ρ:Ren) (n:Nat):Ren:=fun b=>if b < n then ρ b else none
theorem Ren.Z6 {ρ:Ren} {n b:Nat} (h:b < n):ρ.res n b=ρ b:=by unfold Ren.res; rw [aD h]
theorem Th.under {ρ:Ren} {n:Nat} {fn C3:Fn} (hu:aeA n fn=true) (h:Th ρ fn C3):Th (ρ.res n) fn C3:=by
 cases fn with
 | yield r=>
  obtain ⟨l,h1,h2⟩:=h;simp only [aeA] at hu;rw [bI] at hu;exact ⟨l,by rw [Ren.Z6 hu]; exact h1,h2⟩
 | _=>exact h
mutual
theorem VR.under {ρ:Ren} {n:Nat} : ∀ {v v' : Value},aG.under n v=true->VR ρ v v'->VR (ρ.res n) v v'
 | .bool b,v,_,hv=>by simpa [VR] using hv
 | .int k n,v,_,hv=>by simpa [VR] using hv
 | .float k x,v,_,hv=>by simpa [VR] using hv
 | .complex k x y,v,_,hv=>by simpa [VR] using hv
 | .string s,v,_,hv=>by simpa [VR] using hv
 | .pointer none,v,_,hv=>by simpa [VR] using hv
 | .pointer (some a),v,hu,hv=>by
  simp only [aG.under] at hu;rw [bI] at hu;simp only [VR] at hv ⊢;rw [Ren.Z6 hu];exact hv
 | .slice none n c,v,_,hv=>by simpa [VR] using hv
 | .slice (some a) n c,v,hu,hv=>by
  simp only [aG.under] at hu;rw [bI] at hu;simp only [VR] at hv ⊢;rw [Ren.Z6 hu];exact hv
 | .map none,v,_,hv=>by simpa [VR] using hv
 | .map (some r),v,hu,hv=>by
  simp only [aG.under] at hu;rw [bI] at hu;simp only [VR] at hv ⊢;rw [Ren.Z6 hu];exact hv
 | .chan _,_,_,_=>by simp [VR]
 | .func fn f c,v,hu,hv=>by
  simp only [aG.under,ao] at hu;simp only [VR] at hv ⊢;obtain ⟨f',c',h2,h3,C3,h4,h5⟩:=hv;exact ⟨f',c',va.under hu.1.2 h2,va.under hu.2 h3,C3,Th.under hu.1.1 h4,h5⟩
 | .nilFunc,v,_,hv=>by simpa [VR] using hv
 | .iface t x,v,hu,hv=>by
  simp only [aG.under] at hu;simp only [VR] at hv ⊢;obtain ⟨x',h2,h3⟩:=hv;exact ⟨x',VR.under hu h2,h3⟩
 | .nilIface,v,_,hv=>by simpa [VR] using hv
 | .agg cs,v,hu,hv=>by
  simp only [aG.under] at hu;simp only [VR] at hv ⊢;obtain ⟨x',h2,h3⟩:=hv;exact ⟨x',va.under hu h2,h3⟩
 | .tuple cs,v,hu,hv=>by
  simp only [aG.under] at hu;simp only [VR] at hv ⊢;obtain ⟨x',h2,h3⟩:=hv;exact ⟨x',va.under hu h2,h3⟩
theorem va.under {ρ:Ren} {n:Nat} : ∀ {v v' : Array Value},aG.Rd n v=true->va ρ v v'->va (ρ.res n) v v'
 | ⟨l⟩,a,hu,hv=>by simp only [aG.Rd] at hu; simp only [va] at hv ⊢; exact dB.under hu hv
theorem dB.under {ρ:Ren} {n:Nat} : ∀ {v v' : List Value},aG.Z4 n v=true->dB ρ v v'->dB (ρ.res n) v v'
 | [],l,_,hv=>by simpa [dB] using hv
 | x::xs,l,hu,hv=>by
  simp only [aG.Z4,ao] at hu;simp only [dB] at hv ⊢;obtain ⟨y,ys,e,h1,h2⟩:=hv;exact ⟨y,ys,e,VR.under hu.1 h1,dB.under hu.2 h2⟩
end
theorem Nt {acc:List Nat} {j:Nat} : ∀ {es:List Edge},Nat.testBit (wJ acc es) j=true->∃ e∈es,binds e=true/\(j=e.on\/oM acc e.on j=true)
 | [],h=>by simp [wJ] at h
 | e::es,h=>by
  simp only [wJ] at h;cases hb:binds e with
  | false=>
   rw [hb,aH] at h;obtain ⟨e',h1,h2⟩:=Nt h;exact ⟨e',by simp [h1],h2⟩
  | true=>
   rw [hb,aj] at h;have e1:∀ a b:Nat,Nat.lor a b=a ||| b:=fun _ _=>rfl;have e2:Nat.shiftLeft 1 e.on=1 <<< e.on:=rfl;rw [e1,e1,e2,Nat.testBit_or,Nat.testBit_or,ve,ve] at h;rcases h with (h | h) | h
   ·refine ⟨e,by simp,hb,.inl ?_⟩
    rw [Nat.one_shiftLeft,Nat.testBit_two_pow] at h;exact (Q7 h).symm
   ·exact ⟨e,by simp,hb,.inr h⟩
   ·obtain ⟨e',h1,h2⟩:=Nt h
    exact ⟨e',by simp [h1],h2⟩
theorem YG:∀ (os:List Oper) (acc:List Nat),∃ r,dG acc os=acc++r/\r.length=os.length
 | [],acc=>⟨[],by simp [dG]⟩
 | o::os,acc=>by
  obtain ⟨r,h1,h2⟩:=YG os (acc++[wJ acc o.after.toList]);exact ⟨wJ acc o.after.toList::r,by simp [dG,h1],by simp [h2]⟩
theorem adA:∀ (os:List Oper) (acc:List Nat) (i j:Nat) (o:Oper),os[i]? = some o->(∀ e∈o.after.toList,binds e=true->e.on < acc.length+i)->
  oM (dG acc os) (acc.length+i) j=true->∃ e∈o.after.toList,binds e=true/\(j=e.on\/oM (dG acc os) e.on j=true)
 | [],acc,i,j,o,ho,_,_=>by simp at ho
 | o0::os,acc,0,j,o,ho,hf,h=>by
  simp at ho;subst ho;obtain ⟨r,h1,_⟩:=YG os (acc++[wJ acc o0.after.toList]);have e0:dG acc (o0::os)=acc++[wJ acc o0.after.toList]++r:=by simp only [dG]; exact h1
  rw [e0] at h ⊢;have e1:(acc++[wJ acc o0.after.toList]++r).getD (acc.length+0) 0=wJ acc o0.after.toList:=by simp [List.getD]
  unfold oM at h;rw [e1] at h;obtain ⟨e,h2,h3,h4⟩:=Nt h;refine ⟨e,h2,h3,h4.imp id fun h5=>?_⟩;have bm:=hf e h2 h3;unfold oM at h5 ⊢;have:(acc++[wJ acc o0.after.toList]++r).getD e.on 0=acc.getD e.on 0:=by
   simp only [List.getD,List.append_assoc];rw [qS (by simpa using bm)]
  rw [this];exact h5
 | o0::os,acc,i+1,j,o,ho,hf,h=>by
  have hlen:(acc++[wJ acc o0.after.toList]).length+i=acc.length+(i+1):=by simp; omega
  have:=adA os (acc++[wJ acc o0.after.toList]) i j o (by simpa using ho) (by rw [hlen]; exact hf) (by rw [hlen]; exact h);simpa only [dG] using this
structure wO (P:Program) (all:List Oper):Prop where
 back:∀ i o,all[i]? = some o->∀ e∈o.after.toList,binds e=true->e.on < i
 apart:∀ i j x y,all[i]? = some y->all[j]? = some x->j < i->Gu P all x y=true->oM (dG [] all) i j=true
theorem Sn {P:Program} {all:List Oper} {b:List Nat} {i:Nat} {y:Oper} : ∀ (xs:List Oper) (k:Nat),Mf P all b i y xs k=true->∀ (j:Nat) (x:Oper),xs[j]? = some x->k+j < i->Gu P all x y=true->oM b i (k+j)=true
 | [],k,_,j,x,hx,_,_=>by simp at hx
 | x0::xs,k,h,0,x,hx,bm,hc=>by
  simp at hx;subst hx;simp only [Mf,ao,ve,ma] at h;rcases h.1 with (h1 | h1) | h1
  ·have:=dX h1; omega
  ·rw [hc] at h1; simp at h1
  ·exact h1
 | x0::xs,k,h,j+1,x,hx,bm,hc=>by
  simp only [Mf,ao] at h;have:=Sn xs (k+1) h.2 j x (by simpa using hx) (by omega) hc;rwa [show k+1+j=k+(j+1) by omega] at this
theorem Ci {P:Program} {all:List Oper} {b:List Nat} : ∀ (os:List Oper) (k:Nat),Bg P all b os k=true->∀ (i:Nat) (o:Oper),os[i]? = some o->
  (∀ e∈o.after.toList,binds e=true->e.on < k+i)/\Mf P all b (k+i) o all 0=true
 | [],k,_,i,o,ho=>by simp at ho
 | o0::os,k,h,0,o,ho=>by
  simp at ho;subst ho;simp only [Bg,ao,fk] at h;refine ⟨fun e he hb=>?_,h.1.2⟩;have:=h.1.1 e he;rw [hb] at this;simp at this;exact this
 | o0::os,k,h,i+1,o,ho=>by
  simp only [Bg,ao] at h;have:=Ci os (k+1) h.2 i o (by simpa using ho);rwa [show k+1+i=k+(i+1) by omega] at this
theorem GA {P:Program} {all:List Oper} (h:Mg P all=true):wO P all:=by
 unfold Mg at h;refine ⟨fun i o ho=>?_,fun i j x y hy hx bm hc=>?_⟩
 ·have:=(Ci all 0 h i o ho).1
  simpa using this
 ·have:=Sn all 0 (Ci all 0 h i y hy).2 j x hx (by simpa using bm) hc
  simpa using this
def vg (all:List Oper) (S:Nat->Bool):Prop:=∀ i j,S i=true->oM (dG [] all) i j=true->S j=true
def zH (all:List Oper) (S:Nat->Bool) (i:Nat):Prop:=∀ o,all[i]? = some o->∀ e∈o.after.toList,binds e=true->S e.on=true
theorem vg.ready {P:Program} {all:List Oper} (hf:wO P all) {S:Nat->Bool} (hc:vg all S) {i:Nat} {o:Oper} (ho:all[i]? = some o) (hr:zH all S i):∀ j,oM (dG [] all) i j=true->S j=true:=by
 intro j hj;obtain ⟨e,h1,h2,h3⟩:=adA all [] i j o ho (by simpa using hf.back i o ho) (by simpa using hj);have hs:=hr o ho e h1 h2;rcases h3 with rfl | h3
 ·exact hs
 ·exact hc _ _ hs h3
def cP (S:Nat->Bool) (i:Nat):Nat->Bool:=fun j=>S j||Nat.beq j i
theorem vg.insert {P:Program} {all:List Oper} (hf:wO P all) {S:Nat->Bool} (hc:vg all S) {i:Nat} {o:Oper} (ho:all[i]? = some o) (hr:zH all S i):vg all (cP S i):=by
 intro a b h1 h2;simp only [cP,ve] at h1 ⊢;rcases h1 with h1 | h1
 ·exact .inl (hc a b h1 h2)
 ·have:=aL h1
  subst this;exact .inl (hc.ready hf ho hr b h2)
theorem adB (e:Edge):Region.binds .any e=binds e:=by
 unfold Region.binds binds;cases e.ground <;> rfl
theorem YH {all:List Oper} {cX:Array Bool} {i:Nat} (h:i∈Region.ready .any ⟨all⟩ cX):i < all.length/\cX.getD i true=false/\zH all (fun j=>cX.getD j false) i:=by
 unfold Region.ready at h;rw [List.mem_filter,HM] at h;obtain ⟨h1,h2⟩:=h;simp only [ao,ma] at h2;refine ⟨by simpa using h1,h2.1,fun o ho e he hb=>?_⟩;have e1:(⟨all⟩:Array Oper)[i]? = some o:=by simpa using ho
 rw [e1] at h2;simp only [Option.map_some,dI] at h2;have:=Array.all_eq_true'.1 h2.2 e (by simpa using he);rw [adB,hb] at this;simpa using this
theorem ain {P:Program} {all:List Oper} (hf:wO P all) {cX:Array Bool} (hl:cX.size=all.length) (h:Region.ready .any ⟨all⟩ cX = []):∀ i,i < all.length->cX.getD i false=true:=by
 intro i
 induction i using Nat.strongRecOn with
 | _ i ih=>
  intro hi;cases hc:cX.getD i false with
  | true=>rfl
  | false=>
   exfalso;obtain ⟨o,ho⟩:∃ o,all[i]? = some o:=⟨_,cJ hi⟩
   have hm:i∈Region.ready .any ⟨all⟩ cX:=by
    unfold Region.ready;rw [List.mem_filter,HM];refine ⟨by simpa using hi,?_⟩;have e1:(⟨all⟩:Array Oper)[i]? = some o:=by simpa using ho
    rw [e1];have e2:cX.getD i true=false:=by
     have:i < cX.size:=by omega
     simpa [kY,this] using hc
    simp only [e2,HO,BN,Option.map_some,dI];rw [Array.all_eq_true'];intro e he;cases hb:binds e with
    | false=>rw [adB,hb]; rfl
    | true=>
     have bm:=hf.back i o ho e (by simpa using he) hb;rw [ih e.on bm (by omega)];simp
   rw [h] at hm;simp at hm
theorem count_set:∀ (l:List Bool) (i:Nat),l[i]? = some false->((l.set i true).filter (!·)).length+1=(l.filter (!·)).length
 | [],i,h=>by simp at h
 | x::l,0,h=>by
  simp at h;subst h;simp
 | x::l,i+1,h=>by
  have:=count_set l i (by simpa using h);cases x <;> simp at this ⊢ <;> omega
theorem HU {P:Program} {all:List Oper} (hf:wO P all) {Q:Exit->Act->World->Prop} (I:(Nat->Bool)->Act->World->Prop) (hI:∀ S S' a w,(∀ i,i < all.length->S i=S' i)->I S a w->I S' a w)
  (step:∀ S a w i o,I S a w->vg all S->all[i]? = some o->S i=false->zH all S i->(∀ j,S j=true->j < all.length)->wpOp P ⟨all⟩ Q i (I (cP S i)) a w)
  (fin:∀ S a w,(∀ i,i < all.length->S i=true)->I S a w->Q .normal a w) :
  ∀ (fuel:Nat) (cX:Array Bool) (a:Act) (w:World),cX.size=all.length->(cX.toList.filter (!·)).length=fuel->vg all (fun j=>cX.getD j false)->I (fun j=>cX.getD j false) a w->wpAny P .any ⟨all⟩ Q fuel cX a w
 | 0,cX,a,w,hs,hn,hc,h=>by
  have qM:∀ i,i < all.length->cX.getD i false=true:=by
   intro i hi;have:i < cX.size:=by omega
   cases hb:cX.getD i false with
   | true=>rfl
   | false=>
    exfalso;have hg:cX[i] = false:=by simpa [kY,this] using hb
    have hm:cX[i]∈cX.toList.filter (!·):=by
     rw [List.mem_filter];exact ⟨by simp,by simp [hg]⟩
    rw [qR.1 hn] at hm;simp at hm
  refine ⟨?_,fin _ a w qM h⟩;cases hr:Region.ready .any ⟨all⟩ cX with
  | nil=>rfl
  | cons i r=>
   have:=YH (all:=all) (cX:=cX) (i:=i) (by rw [hr]; simp);have h1:=qM i this.1;have h2:cX.getD i true=true:=by
    have bm:i < cX.size:=by omega
    simpa [kY,bm] using h1
   rw [h2] at this;simp at this
 | fuel+1,cX,a,w,hs,hn,hc,h=>by
  refine ⟨fun hr=>fin _ a w (ain hf hs hr) h,fun i hi=>?_⟩;obtain ⟨bm,hl,vd⟩:=YH hi;obtain ⟨o,ho⟩:∃ o,all[i]? = some o:=⟨_,cJ bm⟩
  have UY:i < cX.size:=by omega
  have sA:cX.getD i false=false:=by simpa [kY,UY] using hl
  have OI:∀ j,j < all.length->cP (fun j=>cX.getD j false) i j=(cX.setIfInBounds i true).getD j false:=by
   intro j hj;by_cases e:j=i
   ·subst e
    simp [cP,kY,UY]
   ·have:Nat.beq j i=false:=by
     cases hb:Nat.beq j i with
     | false=>rfl
     | true=>exact absurd (aL hb) e
    simp [cP,this,kY,Array.getElem?_setIfInBounds_ne (Ne.symm e)]
  refine wpOp_mono (fun a' w' h'=>?_) (step _ a w i o h hc ho sA vd (fun j hj=>by
   rcases Nat.lt_or_ge j all.length with h1 | h1
   ·exact h1
   ·have:cX.getD j false=false:=by
     rw [kY,Array.getElem?_eq_none (by omega)];rfl
    rw [this] at hj; simp at hj))
  refine HU hf I hI step fin fuel _ a' w' (by simpa using hs) ?_ ?_ (hI _ _ a' w' OI h')
  ·rw [Array.toList_setIfInBounds]
   have:=count_set cX.toList i (by simpa [kY,UY] using sA);omega
  ·intro x y hx hy
   have hb:∀ z,(cX.setIfInBounds i true).getD z false=true↔cP (fun j=>cX.getD j false) i z=true:=by
    intro z;rcases Nat.lt_or_ge z all.length with h1 | h1
    ·rw [OI z h1]
    ·have e1:(cX.setIfInBounds i true).getD z false=false:=by
      rw [kY,Array.getElem?_eq_none (by simp; omega)];rfl
     have e2:cX.getD z false=false:=by
      rw [kY,Array.getElem?_eq_none (by omega)];rfl
     have e3:Nat.beq z i=false:=by
      cases hb:Nat.beq z i with
      | false=>rfl
      | true=>have:=aL hb; omega
     simp [cP,e1,e2,e3]
   rw [hb] at hx ⊢;exact hc.insert hf ho vd x y hx hy
def apv (all:List Oper) (i:Nat):Option Tmp:=(all[i]?).bind (·.dst)
end
end Go.aG
end
section
namespace Go.aG
noncomputable section
open Go
def Quiet (A0:St) (R:List Rec):Prop:=∀ r∈R,r.nx=A0.next/\(r.did = .val\/∃ f vs,r.did = .read f vs)
def lS (R:List Rec) (S:Nat->Bool):Option Nat:=amb (R.filter fun r=>S r.i)
def UZ (A0:St) (R:List Rec) (S:Nat->Bool):St:=apr A0 R (lS R S)
def writer (all:List Oper) (R:List Rec) (S:Nat->Bool) (x:Nat):Option Rec:=R.find? fun r=>S r.i&&(apv all r.i==some x)
def valOf (all:List Oper) (t0:Tm) (R:List Rec) (S:Nat->Bool) (x:Nat):Value:=
 match writer all R S x with
 | some r=>r.v
 | none=>(t0.get x).getD undef
def aqe (all:List Oper) (A0:St) (R:List Rec) (S:Nat->Bool) (x:Nat):Nat:=
 match writer all R S x with
 | some r=>r.nx
 | none=>A0.next
structure Inv (all:List Oper) (A0:St) (t0:Tm) (R:List Rec) (N:Nat) (d0:List Deferred) (base:Nat) (Xd:Ren) (w0:World) (S:Nat->Bool) (a:Act) (w:World) (ρ:Ren):Prop where
 size:a.tmps.size=N
 defers:a.defers=d0
 tm:∀ x,VR (ρ.res (aqe all A0 R S x)) (valOf all t0 R S x) (a.tmps.getD x undef)
 core:jb base Xd A0 w0 (ρ.res (UZ A0 R S).next) (UZ A0 R S) w
 news:∀ r∈R,S r.i=true->∀ id o,r.did = .make id o->ama (dG [] all) (lS R S) r.i=false->
  ∃ c cb,ρ id=some (aaD o cb)/\aaE (ρ.res r.nx) o c/\w.heap[cb]? = some c/\w0.heap.size<=cb/\¬ Img (ρ.res (UZ A0 R S).next) (UZ A0 R S) cb
 newsApart:∀ r∈R,∀ s∈R,S r.i=true->S s.i=true->∀ id o id' o',r.did = .make id o->s.did = .make id' o'->ama (dG [] all) (lS R S) r.i=false->ama (dG [] all) (lS R S) s.i=false->
  r.i≠s.i->∀ l l',ρ id=some l->ρ id' = some l'->l.cb≠l'.cb
 unborn:∀ r∈R,S r.i=false->∀ id o,r.did = .make id o->ρ id=none
 jP:∀ bl l,ρ bl=some l->bl < (UZ A0 R S).next\/∃ r∈R,S r.i=true/\∃ o,r.did = .make bl o
section
variable {P:Program} {call:WW} {all:List Oper} {A0:St} {t0:Tm} {R:List Rec} {N:Nat} {d0:List Deferred} {base:Nat} {Xd:Ren} {w0:World}
theorem kH {x:Nat} : ∀ {xs:List Operand},Operand.tmp x∈xs->x∈tW xs
 | [],h=>by simp at h
 | .tmp t::xs,h=>by
  rcases de.1 h with h | h
  ·simp at h; subst h; simp [tW]
  ·simp [tW,kH h]
 | .const _::xs,h=>by
  rcases de.1 h with h | h
  ·simp at h
  ·simpa [tW] using kH h
 | .global _::xs,h=>by
  rcases de.1 h with h | h
  ·simp at h
  ·simpa [tW] using kH h
 | .func _::xs,h=>by
  rcases de.1 h with h | h
  ·simp at h
  ·simpa [tW] using kH h
end
end
end Go.aG
end
section
namespace Go.aG
noncomputable section
open Go
theorem vu.dR {ρ aF:Ren} {A:St} {base:Nat} {w w' : World} (hs:vu ρ A base w) (hle:ρ.le aF) (aqf:∀ b l,aF b=some l->b < A.next) (hw:∀ k,k < w.heap.size->w'.heap[k]? = w.heap[k]?) (dT:w.heap.size<=w'.heap.size):vu aF A base w':=by
 have Xe:∀ b o l,A.get b=some o->o≠.dead->aF b=some l->ρ b=some l:=by
  intro b o l hg hd hr;obtain ⟨l',h1,_⟩:=hs.rel.obj hg hd;have:=hle _ _ h1;rw [hr] at this; simp at this; subst this;exact h1
 refine ⟨.FC (fun b o hg hd=>?_) ?_ hs.rel.cX,aqf,hD hs.size dT,hs.IU.mono hle⟩
 ·obtain ⟨l,h1,h2⟩:=hs.rel.obj hg hd
  exact ⟨l,hle _ _ h1,h2.dR hle (hw _ (h2.lt hd)) dT⟩
 ·intro b1 b2 o1 o2 l1 l2 cD g1 g2 m1 m2 r1 r2 C4
  exact hs.rel.apart b1 b2 o1 o2 l1 l2 cD g1 g2 m1 m2 (Xe b1 o1 l1 g1 (by intro e; subst e; simp [ct.eH] at m1) r1) (Xe b2 o2 l2 g2 (by intro e; subst e; simp [ct.eH] at m2) r2) C4
section
variable {P:Program} {call:WW} {all:List Oper} {A0:St} {t0:Tm} {R:List Rec} {N:Nat} {d0:List Deferred} {base:Nat} {Xd:Ren} {w0:World}
end
end
end Go.aG
end
section
namespace Go.aG
noncomputable section
open Go
theorem VR.undef {ρ:Ren} : VR ρ undef undef:=VR.of_flat (by simp [Go.undef,flat,Na,yU])
section
variable {P:Program} {call:WW} {all:List Oper} {A0:St} {t0:Tm} {R:List Rec} {N:Nat} {d0:List Deferred} {base:Nat} {Xd:Ren} {w0:World}
end
end
end Go.aG
end
section
namespace Go.aG
noncomputable section
open Go
variable {P:Program} {call:WW} {all:List Oper} {A0:St}
end
end Go.aG
end
section
namespace Go.aG
noncomputable section
open Go
theorem put_defers (a:Act) (dst:Option Tmp) (v:Value):(a.put dst v).defers=a.defers:=by cases dst <;> rfl
def ah.out:ah->Exit
 | .normal=>.normal
 | .exit id=>.exit id
 | .goto l=>.goto l
 | .ret=>.ret
def mark (D:Nat):Deferred:={ target:=.collected D,args:=#[] }
section
variable {P:Program} {b:Frame} {a:Act} {k:List Item} {cs:List Frame} {w:World}
end
def Z7 (a:Act):ResultVar->Sem Value
 | .tmp t=>pure (a.tmps.getD t undef)
 | .cell ad ty=>do loadVar ty (<- asAddr (a.tmps.getD ad undef))
theorem YI (fn:Func) (a:Act):results fn a.tmps=(do let vs <- fn.results.mapM (Z7 a); pure (if h:vs.size=1 then vs[0] else .tuple vs)):=by
 unfold results;congr 1
theorem mq {n m:Nat} (h:n<=m):∀ (c:Code),codeOk n c=true->codeOk m c=true
 | .region id ops d,hc=>by
  simp only [codeOk,fk] at hc ⊢;intro o ho;have:=hc o ho;unfold Ll at this ⊢;split at this
  ·rename_i d e
   rw [bI] at this ⊢;omega
  ·rfl
 | .seq a b,hc=>by simp only [codeOk,ao] at hc ⊢; exact ⟨mq h a hc.1,mq h b hc.2⟩
 | .cond _ a b,hc=>by simp only [codeOk,ao] at hc ⊢; exact ⟨mq h a hc.1,mq h b hc.2⟩
 | .block _ a,hc=>mq h a hc
 | .loop a,hc=>mq h a hc
 | .rangeFunc _ ps a b,hc=>by
  simp only [codeOk,ao,fk,bI] at hc ⊢;exact ⟨fun p hp=>fa (hc.1 p hp) h,mq h a hc.2.1,mq h b hc.2.2⟩
 | .scope a,hc=>mq h a hc
 | .skip,_ | .exit _,_ | .label _,_ | .goto _,_ | .ret,_ | .refuse _,_=>rfl
def IY (gl:List (Nat×List Value×Nat)) (b:Nat):Option Loc:=if b < gB then some (match gl.find? (fun x=>Nat.beq x.1 b) with | some x=>⟨b,0,x.2.1.length,x.2.2⟩ | none=>⟨b,0,0,0⟩) else none
theorem ac7 (gl:List (Nat×List Value×Nat)):afY (IY gl):=fun g hg=>by
 unfold IY;rw [aD hg];split <;> exact ⟨_,rfl,rfl,rfl⟩
theorem aaR:∀ (gl:List (Nat×List Value×Nat)) (b:Nat),(WX gl).get b=match gl.find? (fun x=>Nat.beq x.1 b) with | some x=>some (.row x.2.1 x.2.2 false none) | none=>none
 | [],b=>by simp [WX]
 | (g,cs,e)::gl,b=>by
  simp only [WX,Trie.oX,List.find?_cons];cases hb:Nat.beq g b with
  | true=>simp [aL hb]
  | false=>rw [aa (fun e=>by subst e; simp at hb)]; exact aaR gl b
def an6 (w:World) (gl:List (Nat×List Value×Nat)):Prop:=∀ x∈gl,x.1 < gB/\x.1 < w.heap.size/\x.2.1.all (fun v=>flat v&&scalar v)=true/\∀ i v,x.2.1[i]? = some v->w.cell? ⟨x.1,i,none⟩=some v
theorem vu.af5 {w:World} {gl:List (Nat×List Value×Nat)} (h:an6 w gl):vu (IY gl) (St.IU gl) w.heap.size w:=by
 have hg:∀ b o,(St.IU gl).get b=some o->∃ x∈gl,x.1=b/\gl.find? (fun x=>Nat.beq x.1 b)=some x/\o = .row x.2.1 x.2.2 false none:=by
  intro b o e;have e:(WX gl).get b=some o:=e;rw [aaR] at e;split at e
  ·rename_i x hx
   simp at e;have:=List.find?_some hx;exact ⟨x,List.mem_of_find?_eq_some hx,aL this,hx,e.symm⟩
  ·simp at e
 refine ⟨⟨fun b cs bp own bN e=>?_,fun b es e=>?_,fun b s pos e=>?_,fun b st ex t ps c d e=>?_,fun b1 b2 o1 o2 l1 l2 _ e1 _ m=>?_,fun b o aP f e k=>?_⟩,fun b l e=>?_,aC _,ac7 gl⟩
 ·obtain ⟨x,hx,rfl,hf,he⟩:=hg _ _ e
  simp at he;obtain ⟨rfl,rfl,rfl,rfl⟩:=he;obtain ⟨h1,h2,h3,h4⟩:=h x hx;refine ⟨⟨x.1,0,x.2.1.length,x.2.2⟩,by unfold IY; rw [aD h1,hf],⟨fun i v hi=>?_,fun _=>h2,fun h=>by simp at h,fun h=>by simp at h,by simp,fun h=>by simp at h,rfl,h2,fun h=>by simp at h⟩⟩;have:=fk.1 h3 v (gu hi);simp only [ao] at this;exact ⟨v,by simpa using h4 i v hi,VR.of_flat this.1,this.2⟩
 ·obtain ⟨x,_,_,_,he⟩:=hg _ _ e; simp at he
 ·obtain ⟨x,_,_,_,he⟩:=hg _ _ e; simp at he
 ·obtain ⟨x,_,_,_,he⟩:=hg _ _ e; simp at he
 ·obtain ⟨x,_,_,_,he⟩:=hg _ _ e1; subst he; simp [ct.eH] at m
 ·obtain ⟨x,_,_,_,he⟩:=hg _ _ e; subst he; simp [ct.lM] at k
 ·unfold IY at e
  split at e
  ·rename_i hb; exact hb
  ·simp at e
theorem vu.empty (w:World):vu (IY []) St.empty w.heap.size w:=vu.af5 (gl:=[]) (fun _ h=>by simp at h)
end
end Go.aG
end
section
namespace Go.K
open Go Go.aG
noncomputable section
inductive Mk where
 | any
 | exact
 | aP (b:Nat)
inductive KV where
 | int (k:IntKind) (n:Int)
 | bool (b:Bool)
 | str (s:ByteArray)
 | agg (cs:List KV)
 | kL (vs:List KV)
 | ts (T:TypeId) (m:Mk) (n:Nat) (es:List KV) (acc:Nat->KV)
 | tp (T Tc:TypeId) (i k:Nat) (es:List KV) (acc:Nat->KV)
 | al (T:TypeId) (b o n:Nat)
 | ap (T Tc:TypeId) (b i k:Nat)
 | ptr (b off:Nat)
 | sl (b off len cap:Nat)
 | Hl
 | ky
 | Dk
 | map (b:Nat)
 | fn (f:Fn) (first cap:List KV)
 | IZ
 | iface (t:TypeId) (v:KV)
 | I0
 | bh
instance:Inhabited KV:=⟨.bh⟩
inductive hO where
 | row (cs:List KV) (bp:Nat)
 | map (es:List (KV×KV))
 | aP (top sz:Nat)
 | arr (v:KV)
 | iG (v:KV)
 | dead
structure ae where
 heap:Trie hO
 next:Nat
def ae.empty:ae:=⟨.leaf,0⟩
def ae.get (A:ae) (b:Nat):Option hO:=A.heap.get b
def ae.new (A:ae) (o:hO):ae:=⟨A.heap.set o A.next,Nat.succ A.next⟩
def ae.put (A:ae) (b:Nat) (o:hO):ae:=⟨A.heap.set o b,A.next⟩
abbrev bf:=Trie KV
def iJ {α:Type} : List (Nat×α)->Trie α
 | []=>.leaf
 | p::ps=>(iJ ps).set p.2 p.1
def KV.cells:KV->List KV
 | .agg cs=>cs
 | v=>[v]
def one:KV->Bool
 | .agg _ | .kL _ | .bh=>false
 | _=>true
def tZ:KV:=.kL []
inductive KR (α:Type) where
 | no
 | ok (v:α)
 | jQ (c:Bool) (v:α)
 | br (c:Bool) (x y:KR α)
def KR.run {α R:Type} (r:KR α) (k:α->Option R):Option R:=
 KR.rec (motive:=fun _=>Option R) none (fun v=>k v) (fun c v=>Bool.rec (motive:=fun _=>Option R) none (k v) c) (fun c _ _ rx ry=>Bool.rec (motive:=fun _=>Option R) ry rx c) r
def KR.map {α β:Type} (f:α->β):KR α->KR β
 | .no=>.no
 | .ok v=>.ok (f v)
 | .jQ c v=>.jQ c (f v)
 | .br c x y=>.br c (x.map f) (y.map f)
def KR.of {α:Type} : Option α->KR α
 | some v=>.ok v
 | none=>.no
inductive CK where
 | int (k:IntKind)
 | bool
 | str
 | slice (t:TypeId)
 | other
structure Lay where
 agg:Bool
 ks:List CK
def di {α:Type} (l:List α):Nat->List α
 | 0=>[]
 | n+1=>l++di l n
def PD (f:TypeId->Option Lay):List Field->Nat->Option (List CK)
 | [],_=>some []
 | fd::fs,off=>cond (Nat.beq fd.offset off) ((f fd.type).bind fun l=>(PD f fs (off+l.ks.length)).map fun r=>l.ks++r) none
def lay (P:Program):Nat->TypeId->Option Lay
 | 0,_=>none
 | n+1,t=>match P.underlying t with
  | some (.int k)=>some ⟨false,[.int k]⟩
  | some .bool=>some ⟨false,[.bool]⟩
  | some .string=>some ⟨false,[.str]⟩
  | some (.slice e)=>some ⟨false,[.slice e]⟩
  | some (.struct fs)=>(PD (lay P n) fs.toList 0).map fun ks=>⟨true,ks⟩
  | some (.array len e)=>(lay P n e).map fun l=>⟨true,di l.ks len⟩
  | some _=>some ⟨false,[.other]⟩
  | none=>none
def aQ (P:Program) (t:TypeId):Lay:=(lay P 12 t).getD ⟨false,[]⟩
def kindOk:CK->KV->Bool
 | .int k,.int k' _=>decide (k=k')
 | .bool,.bool _=>true
 | .str,.str _=>true
 | .slice t,.ts t' .any _ _ _=>Nat.beq t t'
 | _,_=>false
def aE:List CK->List KV->Bool
 | [],[]=>true
 | k::ks,v::vs=>kindOk k v&&aE ks vs
 | _,_=>false
def cv (l:Lay):KV->Bool
 | .agg cs=>l.agg&&aE l.ks cs
 | .kL _=>false
 | v=>!l.agg&&aE l.ks [v]
def dJ (l:Lay):List KV->Bool
 | []=>true
 | e::es=>cv l e&&dJ l es
def aq:KV->Int
 | .int _ n=>n
 | _=>0
def eL:KV->Bool
 | .bool b=>b
 | _=>false
def strOf:KV->ByteArray
 | .str s=>s
 | _=>ByteArray.empty
def aqg:KV->List KV
 | .ts _ _ _ es _=>es
 | _=>[]
def lenOf:KV->Nat
 | .ts _ _ n _ _=>n
 | _=>0
def AI:KV->Nat->KV
 | .ts _ _ _ _ acc=>acc
 | _=>fun _=>.bh
def leaf (c:CK) (v:KV):KV:=
 CK.rec (motive:=fun _=>KV) (fun k=>.int k (aq v)) (.bool (eL v)) (.str (strOf v)) (fun t=>.ts t .any (lenOf v) (aqg v) (AI v)) v c
def leaves (e:KV):List CK->Nat->List KV
 | [],_=>[]
 | c::cs,k=>leaf c (e.cells.getD k .bh)::leaves e cs (Nat.succ k)
def Pe (agg:Bool) (cs:List KV):KV:=Bool.rec (motive:=fun _=>KV) (cs.headD .bh) (.agg cs) agg
def Nu:List CK->Bool
 | []=>true
 | .other::_=>false
 | _::cs=>Nu cs
mutual
def fE:Value->KV
 | .bool b=>.bool b
 | .int k n=>.int k n
 | .string s=>.str s
 | .pointer none=>.Hl
 | .slice none 0 0=>.ky
 | .map none=>.Dk
 | .nilFunc=>.IZ
 | .nilIface=>.I0
 | .agg cs=>.agg (ofA cs)
 | .tuple cs=>.kL (ofA cs)
 | _=>.bh
def ofA:Array Value->List KV
 | ⟨l⟩=>ofL l
def ofL:List Value->List KV
 | []=>[]
 | v::vs=>fE v::ofL vs
end
abbrev FP:=List KV->KR KV
abbrev FR:=ae->List KV->KR KV
abbrev FA:=ae->List KV->KR (KV×ae)
inductive ss where
 | pure (f:FP) (xs:List Operand)
 | read (f:FR) (xs:List Operand)
 | act (f:FA) (xs:List Operand)
 | look (f:FP) (xs:List Operand)
 | EI (g:FuncId) (f:List KV->KR KV) (xs:List Operand)
 | I1 (g:FuncId) (f:List KV->KR KV) (xs:List Operand)
 | call (f:Operand) (args:List Operand)
 | bad
def aeJ:FP
 | [x]=>.ok x
 | _=>.no
def aeK:FP
 | [.bool b]=>.br b (.ok (.bool true)) (.ok (.bool false))
 | [x]=>.ok x
 | _=>.no
def aio:FP
 | [.bool t,.bool a,.bool b]=>.ok (.bool (cond t a b))
 | [.bool t,a,b]=>.ok (cond t a b)
 | _=>.no
def gJ:List KV->Bool
 | []=>true
 | v::vs=>one v&&gJ vs
def yX {α:Type} : Nat->List α->Option (List α)
 | 0,_=>some []
 | _+1,[]=>none
 | n+1,x::xs=>(yX n xs).map (x::·)
def EJ {α:Type} : Nat->List α->List α
 | 0,l=>l
 | _+1,[]=>[]
 | n+1,_::xs=>EJ n xs
def k8 {α:Type} : Nat->List α->List α->Option (List α)
 | 0,l,[]=>some l
 | 0,[],_::_=>none
 | 0,_::l,v::vs=>(k8 0 l vs).map (v::·)
 | _+1,[],[]=>some []
 | _+1,[],_::_=>none
 | n+1,x::l,vs=>(k8 n l vs).map (x::·)
def YJ (n:Nat) (z:List KV):FA:=fun A _=>.ok (.ptr A.next 0,A.new (.row z n))
def rJ (P:Program) (t:TypeId):ss:=
 match yp P t with
 | some z=>cond (flat z&&z.cells.toList.all scalar&&gJ (fE z).cells) (.act (YJ (oY P t) (fE z).cells) []) .bad
 | none=>.bad
def Et (n:Nat):FA:=fun A xs=>
 match xs with
 | [v]=>cond (gJ v.cells) (.ok (.ptr A.next 0,A.new (.row v.cells n))) .no
 | _=>.no
def Xf (place:Nat->Option (Nat×Nat)):List KV->List (Nat×KV)->Option (List KV)
 | cells,[]=>some cells
 | cells,(i,v)::rest=>
  match place i with
  | some (off,size)=>cond (Nat.beq v.cells.length size&&Nat.ble 1 size) ((k8 off cells v.cells).bind fun cs=>Xf place cs rest) none
  | none=>none
def AD:List Nat->List KV->List (Nat×KV)
 | i::is,v::vs=>(i,v)::AD is vs
 | _,_=>[]
def yK:KV->Bool
 | .bh=>false
 | _=>true
def Rh (place:Nat->Option (Nat×Nat)) (z:List KV) (is:List Nat):FP:=fun vs=>
 match Xf place z (AD is vs) with
 | some cs=>cond (vs.all yK) (.ok (.agg cs)) .no
 | none=>.no
def wP (P:Program) (t:TypeId) (is:List Nat) (xs:List Operand):ss:=
 match yp P t,P.underlying t with
 | some z,some (.struct fields)=>
  match placesOf P fields.toList with
  | some l=>cond (flat z&&gJ (fE z).cells) (.pure (Rh (UF l) (fE z).cells is) xs) .bad
  | none=>.bad
 | some z,some (.array _ e)=>
  match size? P e with
  | some n=>cond (flat z&&gJ (fE z).cells) (.pure (Rh (CL n) (fE z).cells is) xs) .bad
  | none=>.bad
 | _,_=>.bad
def qN:Nat->KV:=fun _=>.bh
def cY (es:List KV):Nat->KV:=fun i=>es.getD i .bh
def nV (c:CK) (v:KV):KV:=
 match c,v with
 | .slice t,.ky=>.ts t .any 0 [] qN
 | .slice t,.ts t' _ n es acc=>cond (Nat.beq t t') (.ts t .any n es acc) .bh
 | c,v=>cond (kindOk c v) v .bh
def Dl:List CK->List KV->List KV
 | c::cs,v::vs=>nV c v::Dl cs vs
 | _,_=>[]
def dN (l:Lay) (v:KV):KV:=
 match v with
 | .agg cs=>cond (l.agg&&Nat.beq cs.length l.ks.length) (.agg (Dl l.ks cs)) .bh
 | v=>cond l.agg .bh (match l.ks with
  | [c]=>nV c v
  | _=>.bh)
def setAt (es:List KV) (i:Nat) (v:KV):List KV:=
 match i,es with
 | 0,_::es=>v::es
 | n+1,e::es=>e::setAt es n v
 | _,[]=>[]
def GB (es:List KV):List (Nat×KV)->List KV
 | []=>es
 | (i,v)::rest=>GB (setAt es i v) rest
def PE (l:Lay) (e:TypeId) (z:KV) (len:Nat) (is:List Nat):FP:=fun vs=>
 let es:=GB (di [z] len) ((AD is vs).map fun p=>(p.1,dN l p.2))
 cond (vs.all yK&&dJ l (vs.map (dN l))&&dJ l es) (.ok (.ts e .exact len es (cY es))) .no
def Tl (l:Lay) (e:TypeId) (z:KV) (len:Nat) (is:List Nat):FA:=fun A vs=>
 let es:=GB (di [z] len) ((AD is vs).map fun p=>(p.1,dN l p.2))
 cond (vs.all yK&&dJ l (vs.map (dN l))&&dJ l es) (.ok (.al e A.next 0 len,A.new (.arr (.ts e .any len es (cY es))))) .no
def EK (n:Nat):List Nat->Bool
 | []=>true
 | i::is=>Nat.blt i n&&EK n is
def Tn (n:Nat) (z:List KV) (len:Nat) (is:List Nat):FA:=fun A vs=>
 match Xf (CL n) (di z len) (AD is vs) with
 | some cs=>cond (vs.all yK&&gJ cs) (.ok (.sl A.next 0 len len,A.new (.row cs n))) .no
 | none=>.no
def la (P:Program) (mt:TypeId->Bool) (t:TypeId) (len:Nat) (is:List Nat) (xs:List Operand):ss:=
 match P.underlying t with
 | some (.slice e)=>
  match P.info? e,yp P e with
  | some i,some z=>cond (Nat.ble (len * i.size) 16777216&&Nat.beq z.cells.size i.size&&Nat.ble 1 i.size&&flat z&&Nat.beq (aQ P e).ks.length i.size&&EK len is)
    (cond (Nu (aQ P e).ks) (cond (mt (e+3000000)) (.act (Tl (aQ P e) e (dN (aQ P e) (fE z)) len is) xs) (.look (PE (aQ P e) e (dN (aQ P e) (fE z)) len is) xs)) (cond (gJ (fE z).cells) (.act (Tn i.size (fE z).cells len is) xs) .bad)) .bad
  | _,_=>.bad
 | _=>.bad
def rowAt (A:ae) (b:Nat):Option (List KV):=
 match A.get b with
 | some (.row cs _)=>some cs
 | _=>none
def Ly (A:ae) (b:Nat):Option KV:=
 match A.get b with
 | some (.arr v)=>some v
 | some (.iG v)=>some v
 | _=>none
def Z8 (P:Program) (t Tc:TypeId):Bool:=Nat.beq Tc t&&Nu (aQ P t).ks&&decide (UE P t=some (aQ P t).agg)&&decide (size? P t=some (aQ P t).ks.length)&&((aQ P t).agg||Nat.beq (aQ P t).ks.length 1)
def putCells (P:Program) (T:TypeId) (k:Nat) (e:KV) (vs:List KV):Option KV:=(k8 k (leaves e (aQ P T).ks 0) vs).map fun cs=>Pe (aQ P T).agg cs
def bR (acc:Nat->KV) (i:Nat) (v:KV):Nat->KV:=fun j=>cond (Nat.beq j i) v (acc j)
def ajN (T:TypeId) (n i:Nat) (es:List KV) (acc:Nat->KV) (e:KV):KV:=.ts T .any n (setAt es i e) (bR acc i e)
def AJ (P:Program) (t:TypeId):FR:=fun A xs=>
 match xs with
 | [.ptr b off]=>
  match UE P t,size? P t with
  | some ag,some n=>match (rowAt A b).bind fun cs=>yX n (EJ off cs) with
   | some l=>cond ag (.ok (.agg l)) (match l with | [v]=>.ok v | _=>.no)
   | none=>.no
  | _,_=>.no
 | [.tp _ Tc i k _ acc]=>
  cond (Z8 P t Tc) (.ok (Pe (aQ P t).agg (leaves (acc i) (aQ P t).ks k))) .no
 | [.ap T Tc b i k]=>match Ly A b with
  | some (.ts T' _ _ _ acc)=>cond (Nat.beq T T'&&Z8 P t Tc) (.ok (Pe (aQ P t).agg (leaves (acc i) (aQ P t).ks k))) .no
  | _=>.no
 | _=>.no
def U0 (P:Program) (t:TypeId):FA:=fun A xs=>
 match xs with
 | [.ptr b off,v]=>
  cond (decide (some v.cells.length=size? P t)&&gJ v.cells)
   (match A.get b with
   | some (.row cs bp)=>match k8 off cs v.cells with
    | some bP=>.ok (tZ,A.put b (.row bP bp))
    | none=>.no
   | _=>.no) .no
 | [.ap T Tc b i k,v]=>
  match A.get b with
  | some (.arr (.ts T' _ n es acc))=>
   cond (Nat.beq T T'&&Nat.beq Tc t&&cv (aQ P t) (dN (aQ P t) v)&&decide (size? P t=some (aQ P t).ks.length))
    (match putCells P T k (acc i) (dN (aQ P t) v).cells with
    | some e=>.ok (tZ,A.put b (.arr (ajN T n i es acc e)))
    | none=>.no) .no
  | _=>.no
 | _=>.no
def aaS:FP
 | [.ptr b off]=>.ok (.ptr b off)
 | [.tp T Tc i k es acc]=>.ok (.tp T Tc i k es acc)
 | [.ap T Tc b i k]=>.ok (.ap T Tc b i k)
 | [.fn (.func f) first cap]=>.ok (.fn (.func f) first cap)
 | _=>.no
abbrev Dm (k:IntKind) (a b:Int):Nat:=(BitVec.ofInt k.bits a &&& BitVec.ofInt k.bits b).toNat
abbrev bOr (k:IntKind) (a b:Int):Nat:=(BitVec.ofInt k.bits a ||| BitVec.ofInt k.bits b).toNat
abbrev aqh (k:IntKind) (a b:Int):Nat:=(BitVec.ofInt k.bits a ^^^ BitVec.ofInt k.bits b).toNat
abbrev amo (k:IntKind) (a b:Int):Nat:=(BitVec.ofInt k.bits a &&& ~~~ BitVec.ofInt k.bits b).toNat
def opI (op:BinOp) (k:IntKind) (a b:Int):KR KV:=
 match op with
 | .add=>.ok (.int k (k.wrap (a+b)))
 | .sub=>.ok (.int k (k.wrap (a - b)))
 | .mul=>.ok (.int k (k.wrap (a * b)))
 | .eql=>.ok (.bool (a==b))
 | .neq=>.ok (.bool (a != b))
 | .lss=>.ok (.bool (decide (a < b)))
 | .leq=>.ok (.bool (decide (a<=b)))
 | .gtr=>.ok (.bool (decide (a > b)))
 | .geq=>.ok (.bool (decide (a >= b)))
 | .quo=>.jQ (!(decide (b=0))) (.int k (k.wrap (a.tdiv b)))
 | .rem=>.jQ (!(decide (b=0))) (.int k (a.tmod b))
 | .and=>.ok (.int k (k.wrap (Dm k a b)))
 | .or=>.ok (.int k (k.wrap (bOr k a b)))
 | .xor=>.ok (.int k (k.wrap (aqh k a b)))
 | .andNot=>.ok (.int k (k.wrap (amo k a b)))
 | _=>.no
def aqi (op:BinOp) (k:IntKind) (a b:Int):KR KV:=
 match op with
 | .shl=>.jQ (!(decide (b < 0))) (.int k (k.wrap (a * 2 ^ (min b.toNat k.bits))))
 | .shr=>.jQ (!(decide (b < 0))) (.int k (a.fdiv (2 ^ (min b.toNat k.bits))))
 | _=>.no
def af6:BinOp->Bool
 | .shl | .shr=>true
 | _=>false
def eqK:KV->KV->Option Bool
 | .int k a,.int k' b=>cond (decide (k=k')) (some (a==b)) none
 | .bool a,.bool b=>some (a==b)
 | .str a,.str b=>some (a==b)
 | _,_=>none
def wF:List KV->List KV->Option Bool
 | [],[]=>some true
 | x::xs,y::ys=>match eqK x y,wF xs ys with
  | some a,some b=>some (a&&b)
  | _,_=>none
 | _,_=>none
def Hm (P:Program):Nat->TypeId->Bool
 | 0,_=>false
 | n+1,t=>(match P.info? t,lay P (n+1) t with
   | some i,some l=>Nat.beq i.size l.ks.length
   | _,_=>false)&&match P.underlying t with
  | some (.int _) | some .bool | some .string=>true
  | some (.struct fs) => !(P.stoodInHeld t) && fs.toList.all fun f => !(f.name == "_") && Hm P n f.type
  | some (.array _ e)=>Hm P n e
  | _=>false
def ajO (P:Program) (t:TypeId) (x y:KV):Option Bool:=
 match x,y with
 | .agg xs,.agg ys=>cond ((aQ P t).agg&&Hm P 12 t&&!(P.eqGuardType P.depth t)&&aE (aQ P t).ks xs&&aE (aQ P t).ks ys) (wF xs ys) none
 | .bool a,.bool b=>match P.underlying t with
  | some .bool=>some (a==b)
  | _=>none
 | .ky,.ky=>match P.underlying t with
  | some (.slice _)=>some true
  | _=>none
 | .ts _ _ n _ _,.ky=>match P.underlying t with
  | some (.slice _)=>cond (Nat.beq n 0) none (some false)
  | _=>none
 | .ky,.ts _ _ n _ _=>match P.underlying t with
  | some (.slice _)=>cond (Nat.beq n 0) none (some false)
  | _=>none
 | .Hl,.Hl=>match P.underlying t with
  | some (.pointer _)=>some true
  | _=>none
 | .ptr _ _,.Hl=>match P.underlying t with
  | some (.pointer _)=>some false
  | _=>none
 | .Hl,.ptr _ _=>match P.underlying t with
  | some (.pointer _)=>some false
  | _=>none
 | _,_=>none
def ajP (P:Program) (t:TypeId):Bool:=match P.underlying t with
 | some (.slice _)=>true
 | _=>false
def amp (P:Program) (op:BinOp) (t:TypeId):FP
 | [.int j a,.int k b]=>cond (af6 op) (aqi op j a b) (cond (decide (j=k)) (opI op j a b) .no)
 | [.str a,.str b]=>match op with
  | .eql=>.ok (.bool (a.toList==b.toList))
  | .neq=>.ok (.bool !(a.toList==b.toList))
  | .lss=>.ok (.bool (Op.bytesLess a.toList b.toList))
  | .add=>.jQ (Nat.ble (a.size+b.size) 9223372036854775807) (.str (a++b))
  | _=>.no
 | [.ts _ _ n _ _,.ky]=>match op with
  | .eql=>cond (ajP P t) (.jQ (Nat.blt 0 n) (.bool false)) .no
  | .neq=>cond (ajP P t) (.jQ (Nat.blt 0 n) (.bool true)) .no
  | _=>.no
 | [x,y]=>match op,ajO P t x y with
  | .eql,some b=>.ok (.bool b)
  | .neq,some b=>.ok (.bool !b)
  | _,_=>.no
 | _=>.no
def kUn (op:UnOp):FP
 | [.bool b]=>match op with
  | .not=>.ok (.bool !b)
  | _=>.no
 | [.int k n]=>match op with
  | .neg=>.ok (.int k (k.wrap (0 - n)))
  | .xor=>.ok (.int k (k.wrap (BitVec.ofInt k.bits (if k.signed then -1 else k.max) ^^^ BitVec.ofInt k.bits n).toNat))
  | _=>.no
 | _=>.no
def ajQ (k:IntKind):FP
 | [.int _ n]=>.ok (.int k (k.wrap n))
 | _=>.no
def ajR:FP
 | [.str s]=>.ok (.str s)
 | _=>.no
def byteOf:KV->UInt8
 | .int _ n=>UInt8.ofNat n.toNat
 | _=>0
def ajS:KV->Bool
 | .int .u8 n=>decide (0<=n)&&decide (n < 256)
 | _=>false
def Nv:FP
 | [.ky]=>.ok (.str ⟨⟨[]⟩⟩)
 | [.ts _ _ _ es _]=>.jQ (es.all ajS) (.str ⟨⟨es.map byteOf⟩⟩)
 | _=>.no
def Tp (e:TypeId):FP
 | [.str s]=>.ok (.ts e .any s.size (s.data.toList.map fun b=>.int .u8 b.toNat) (fun i=>.int .u8 (s.data.toList.getD i 0).toNat))
 | _=>.no
def qW (P:Program) (src dst:TypeId) (x:Operand):ss:=
 match P.underlying src,P.underlying dst with
 | some (.int _),some (.int k)=>.pure (ajQ k) [x]
 | some .string,some .string=>.pure ajR [x]
 | some (.slice e),some .string=>cond (isByte P e) (.read (fun _=>Nv) [x]) .bad
 | some .string,some (.slice e)=>cond (isByte P e) (.look (Tp e) [x]) .bad
 | _,_=>.bad
def Nw (f:Fn) (k:Nat):FP:=fun vs=>
 match yX k vs with
 | some first=>.ok (.fn f first (EJ k vs))
 | none=>.no
def YK (s:TypeId) (off:Nat) (ft:TypeId) (ua:Bool):FP
 | [.ptr b o]=>.ok (.ptr b (o+off))
 | [.tp T Tc i k es acc]=>cond (Nat.beq Tc s&&ua) (.ok (.tp T ft i (k+off) es acc)) .no
 | [.ap T Tc b i k]=>cond (Nat.beq Tc s&&ua) (.ok (.ap T ft b i (k+off))) .no
 | _=>.no
def amq:CK->CK->Bool
 | .int a,.int b=>decide (a=b)
 | .bool,.bool=>true
 | .str,.str=>true
 | .slice a,.slice b=>Nat.beq a b
 | .other,.other=>true
 | _,_=>false
def EL:List CK->List CK->Bool
 | [],[]=>true
 | a::arD,b::bs=>amq a b&&EL arD bs
 | _,_=>false
def Z9 (P:Program) (s:TypeId) (off:Nat) (ft:TypeId):Bool:=
 match yX (aQ P ft).ks.length (EJ off (aQ P s).ks) with
 | some l=>EL l (aQ P ft).ks
 | none=>false
def mr (P:Program) (s:TypeId) (x:Operand) (f:Nat):ss:=
 match zD P s f with
 | some fd=>match size? P fd.type with
  | some (_+1)=>.pure (YK s fd.offset fd.type (Z9 P s fd.offset fd.type)) [x]
  | _=>.bad
 | none=>.bad
def Xg (P:Program) (t:TypeId) (cs:List KV) (off:Nat):Option KV:=
 match UE P t with
 | some true=>(size? P t).bind fun n=>(yX n (EJ off cs)).map fun l=>.agg l
 | some false=>(EJ off cs).head?
 | none=>none
def ajT (P:Program) (fd:Field):FP
 | [.agg cs]=>.of (Xg P fd.type cs fd.offset)
 | _=>.no
def wQ (P:Program) (t:TypeId) (x:Operand) (f:Nat):ss:=
 match zD P t f with
 | some fd=>.pure (ajT P fd) [x]
 | none=>.bad
def inR (i:Int) (n:Nat):Bool:=decide (0<=i)&&decide (i < (n:Int))
def ajU {α:Type} (i:Int) (f:Nat->KR α) (m:Nat):Nat->KR α:=Nat.rec (motive:=fun _=>Nat->KR α) (fun _=>.no) (fun _ ih j=>.br (decide (i=(j:Int))) (f j) (ih (Nat.succ j))) m
def aaT (P:Program) (t:TypeId) (len n:Nat) (e:TypeId):FP
 | [.ptr b o,.int _ i]=>cond (Nat.ble len 8) (ajU i (fun j=>.ok (.ptr b (o+j * n))) len 0) (.jQ (inR i len) (.ptr b (o+i.toNat * n)))
 | [.tp T Tc j k es acc,.int _ i]=>cond (Nat.beq Tc t&&EL (aQ P t).ks (di (aQ P e).ks len)&&Nat.beq (aQ P e).ks.length n) (.jQ (inR i len) (.tp T e j (k+i.toNat * n) es acc)) .no
 | [.ap T Tc b j k,.int _ i]=>cond (Nat.beq Tc t&&EL (aQ P t).ks (di (aQ P e).ks len)&&Nat.beq (aQ P e).ks.length n) (.jQ (inR i len) (.ap T e b j (k+i.toNat * n))) .no
 | _=>.no
def adC (e n:Nat) (ua:Bool):FP
 | [.sl b o len _,.int _ i]=>.jQ (inR i len) (.ptr b (o+i.toNat * n))
 | [.ts T _ m es acc,.int _ i]=>cond (Nat.beq T e&&ua) (.jQ (inR i m) (.tp T T i.toNat 0 es acc)) .no
 | [.al T b o m,.int _ i]=>cond (Nat.beq T e&&ua) (.jQ (inR i m) (.ap T T b (o+i.toNat) 0)) .no
 | _=>.no
def mu (P:Program) (t:TypeId) (x ix:Operand):ss:=
 match P.underlying t with
 | some (.array len e)=>match size? P e with
  | some n=>.pure (aaT P t len n e) [x,ix]
  | none=>.bad
 | some (.slice e)=>match size? P e with
  | some n=>.pure (adC e n (Nat.beq (aQ P e).ks.length n)) [x,ix]
  | none=>.bad
 | _=>.bad
def Tq (P:Program) (len n:Nat) (e:TypeId):FP
 | [.agg cs,.int _ i]=>cond (Nat.ble len 8) (ajU i (fun j=>.of (Xg P e cs (j * n))) len 0) (match Xg P e cs (i.toNat * n) with
  | some v=>.jQ (inR i len) v
  | none=>.no)
 | _=>.no
def aaU:FP
 | [.str s,.int _ i]=>.jQ (inR i s.size) (.int .u8 ((s.data.toList.getD i.toNat 0).toNat))
 | _=>.no
def wR (P:Program) (t:TypeId) (x ix:Operand):ss:=
 match P.underlying t with
 | some (.array len e)=>match size? P e with
  | some n=>.pure (Tq P len n e) [x,ix]
  | none=>.bad
 | some .string=>.pure aaU [x,ix]
 | _=>.bad
def adD {α:Type} : Nat->List α->Option α
 | _,[]=>none
 | 0,x::_=>some x
 | n+1,_::xs=>adD n xs
def adE (i:Nat):FP
 | [.kL vs]=>.of (adD i vs)
 | _=>.no
def ajV:FP
 | [.ts _ _ n _ _]=>.ok (.int .i64 (n:Int))
 | [.sl _ _ n _]=>.ok (.int .i64 (n:Int))
 | [.al _ _ _ n]=>.ok (.int .i64 (n:Int))
 | [.ky]=>.ok (.int .i64 0)
 | _=>.no
def af7:FP
 | [.str s]=>.ok (.int .i64 (s.size:Int))
 | _=>.no
def aaV (P:Program) (argTypes:List TypeId) (args:List Operand):ss:=
 match argTypes with
 | [t]=>match P.underlying t with
  | some (.slice _)=>.pure ajV args
  | some .string=>.pure af7 args
  | _=>.bad
 | _=>.bad
def Mp (mx:Bool):FP
 | [.int j a,.int k b]=>cond (decide (j=k)) (.ok (.int j (cond mx (max a b) (min a b)))) .no
 | [.int j a,.int k b,.int l c]=>cond (decide (j=k)&&decide (j=l)) (.ok (.int j (cond mx (max (max a b) c) (min (min a b) c)))) .no
 | _=>.no
def Sp (len:Nat) (lo hi:Bool):List KV->Option (Int×Int)
 | []=>cond (lo||hi) none (some (0,len))
 | [.int _ x]=>cond (lo&&!hi) (some (x,len)) (cond (!lo&&hi) (some (0,x)) none)
 | [.int _ x,.int _ y]=>cond (lo&&hi) (some (x,y)) none
 | _=>none
def Xh (P:Program) (n:Nat) (lo hi:Bool):FR:=fun A xs=>
 match xs with
 | .ts T _ m es acc::r=>match Sp m lo hi r with
  | some (x,y)=>cond (Nat.beq (aQ P T).ks.length n) (.jQ (decide (0<=x)&&decide (x<=y)&&decide (y<=(m:Int))) (.ts T .any (y.toNat - x.toNat) ((es.drop x.toNat).take (y.toNat - x.toNat)) (fun i=>acc (x.toNat+i)))) .no
  | none=>.no
 | .sl b o len cap::r=>match A.get b with
  | some (.row _ bp)=>match Sp len lo hi r with
   | some (x,y)=>cond (Nat.beq bp n) (.jQ (decide (0<=x)&&decide (x<=y)&&decide (y<=(len:Int))&&decide (len<=cap)) (.sl b (o+x.toNat * n) (y.toNat - x.toNat) (cap - x.toNat))) .no
   | none=>.no
  | _=>.no
 | .al T b o m::r=>match Ly A b with
  | some (.ts T' _ _ _ _)=>match Sp m lo hi r with
   | some (x,y)=>cond (Nat.beq (aQ P T).ks.length n&&Nat.beq T T') (.jQ (decide (0<=x)&&decide (x<=y)&&decide (y<=(m:Int))) (.al T b (o+x.toNat) (y.toNat - x.toNat))) .no
   | none=>.no
  | _=>.no
 | _=>.no
def Xi (P:Program) (n:Nat) (lo hi:Bool):FA:=fun A xs=>
 match xs with
 | .al T b o m::r=>match A.get b with
  | some (.arr (.ts T' _ _ es acc))=>match Sp m lo hi r with
   | some (x,y)=>cond (Nat.beq (aQ P T).ks.length n&&Nat.beq T T'&&Nat.beq o 0&&decide (x=0)) (.jQ (decide (0<=y)&&decide (y<=(m:Int))) (.al T A.next 0 y.toNat,(A.put b .dead).new (.arr (.ts T .any y.toNat (es.take y.toNat) acc)))) .no
   | none=>.no
  | _=>.no
 | _=>.no
def Tr (len n:Nat) (lo hi:Bool):FR:=fun A xs=>
 match xs with
 | .ptr b o::r=>match A.get b with
  | some (.row cs bp)=>match Sp len lo hi r with
   | some (x,y)=>cond (Nat.beq bp n&&Nat.ble (o+len * n) cs.length) (.jQ (decide (0<=x)&&decide (x<=y)&&decide (y<=(len:Int))) (.sl b (o+x.toNat * n) (y.toNat - x.toNat) (len - x.toNat))) .no
   | none=>.no
  | _=>.no
 | _=>.no
def Ts (lo hi:Bool):FP
 | .str s::r=>match Sp s.size lo hi r with
  | some (x,y)=>.jQ (decide (0<=x)&&decide (x<=y)&&decide (y<=(s.size:Int))) (.str ⟨⟨(s.data.toList.drop x.toNat).take (y.toNat - x.toNat)⟩⟩)
  | none=>.no
 | _=>.no
def wS (P:Program) (mt:TypeId->Bool) (t:TypeId) (x:Operand) (lo hi mx:Option Operand):ss:=
 match P.underlying t with
 | some (.slice e)=>match size? P e with
  | some n=>cond (Nat.ble 1 n&&mx.isNone) (cond (mt (e+4000000)) (.act (Xi P n lo.isSome hi.isSome) (x::(eY lo++eY hi))) (.read (Xh P n lo.isSome hi.isSome) (x::(eY lo++eY hi)))) .bad
  | none=>.bad
 | some (.array len e)=>match size? P e with
  | some n=>cond (Nat.ble 1 n&&mx.isNone) (.read (Tr len n lo.isSome hi.isSome) (x::(eY lo++eY hi))) .bad
  | none=>.bad
 | some .string=>cond mx.isNone (.pure (Ts lo.isSome hi.isSome) (x::(eY lo++eY hi))) .bad
 | _=>.bad
def dP (b n m:Nat):Bool:=Nat.ble ((n+m) * b) 140737488355328&&Nat.ble (n+m) 17592186044416
def ak (top n:Nat):Bool:=Nat.beq top n
def ax (n:Nat) (f g:Nat->KV):Nat->KV:=fun i=>cond (Nat.blt i n) (f i) (g (i - n))
def U1 (e sz b n:Nat) (base:List KV) (ab:Nat->KV) (A:ae) (f m:Nat) (new:List KV) (an:Nat->KV) (more:Bool):KR (KV×ae):=
 .jQ (more&&dP b n m)
  (.ts e (.aP f) (n+m) (base++new) (ax n ab an),A.put f (.aP (n+m) sz))
def PF (e sz b:Nat):FA:=fun A xs=>
 match xs with
 | [.ky,.ts e' _ m new an]=>cond (Nat.beq e e') (U1 e sz b 0 [] qN (A.new (.aP 0 sz)) A.next m new an true) .no
 | [.ts e1 .exact n es ab,.ts e' _ m new an]=>cond (Nat.beq e e'&&Nat.beq e e1) (U1 e sz b n es ab (A.new (.aP 0 sz)) A.next m new an (Nat.blt 0 m)) .no
 | [.ts e1 (.aP f) n es ab,.ts e' _ m new an]=>match A.get f with
  | some (.aP top sz')=>cond (Nat.beq e e'&&Nat.beq e e1&&Nat.beq sz' sz) (U1 e sz b n es ab A f m new an (ak top n)) .no
  | _=>.no
 | _=>.no
def adF (o:Nat) (acc:Nat->KV):Nat->KV:=
 match o with
 | 0=>acc
 | o+1=>fun i=>acc (o+1+i)
theorem aeL (o:Nat) (acc:Nat->KV):adF o acc=fun i=>acc (o+i):=by
 cases o with
 | zero=>funext i; show acc i=acc (0+i); rw [bd]
 | succ o=>rfl
def aeM (A:ae) (T b o n:Nat):Option KV:=
 match Ly A b with
 | some (.ts T' _ _ es acc)=>cond (Nat.beq T T') (some (.ts T .any n ((es.drop o).take n) (adF o acc))) none
 | _=>none
def PH (A:ae) (v:KV):Option KV:=
 match v with
 | .al T b o n=>aeM A T b o n
 | .ts T m n es acc=>some (.ts T m n es acc)
 | _=>none
def ajW (b n m:Nat):Bool:=Nat.ble ((n+m) * b) 140737488355328&&Nat.ble (n+m) 17592186044416
def aaa (e b n:Nat) (base:List KV) (ab:Nat->KV) (A:ae) (m:Nat) (new:List KV) (an:Nat->KV) (more:Bool):KR (KV×ae):=
 .jQ (more&&ajW b n m) (.al e A.next 0 (n+m),A.new (.arr (.ts e .any (n+m) (base++new) (ax n ab an))))
def Iy (e b:Nat):FA:=fun A xs=>
 match xs with
 | [.ky,.ts e' _ m new an]=>cond (Nat.beq e e') (aaa e b 0 [] qN A m new an true) .no
 | [.al e1 f o n,.ts e' _ m new an]=>match A.get f with
  | some (.arr (.ts e2 _ _ es acc))=>cond (Nat.beq e e'&&Nat.beq e e1&&Nat.beq e e2) (aaa e b n (es.take n) acc (A.put f .dead) m new an (Nat.beq o 0)) .no
  | _=>.no
 | _=>.no
def amr:KV->Bool
 | .al _ _ _ _=>true
 | _=>false
def Mq (e sz b:Nat) (mt:Bool):FA:=fun A xs=>
 match xs with
 | [x,y]=>match PH A y with
  | some y'=>cond (amr x) (Iy e b A [x,y']) (cond mt (Iy e b A [x,y']) (PF e sz b A [x,y']))
  | none=>.no
 | _=>.no
def Kx (P:Program) (mt:TypeId->Bool) (argTypes:List TypeId) (args:List Operand):ss:=
 match argTypes with
 | [t,u]=>
  match P.underlying t,P.underlying u with
  | some (.slice e),some (.slice _)=>
   match P.info? e with
   | some i=>match i.zero with
    | some z=>cond (Nat.ble 1 i.size&&Nat.beq z.cells.size i.size&&Nat.beq (aQ P e).ks.length i.size) (.act (Mq e i.size i.bytes (mt e)) args) .bad
    | none=>.bad
   | none=>.bad
  | _,_=>.bad
 | _=>.bad
def PI (n b:Nat) (z:List KV):FA:=fun A xs=>
 match xs with
 | [.int _ l,.int _ c]=>.jQ (decide (0<=l)&&decide (l<=c)&&Nat.ble (b * c.toNat) 281474976710656) (.sl A.next 0 l.toNat c.toNat,A.new (.row (di z c.toNat) n))
 | _=>.no
def aaW (A:ae) (v:KV):KV×ae:=
 match v with
 | .al T b o n=>match A.get b with
  | some (.arr (.ts T' m N es acc))=>cond (Nat.beq T T') (.ts T .any n ((es.drop o).take n) (fun i=>acc (o+i)),A.put b (.iG (.ts T' m N es acc))) (.bh,A)
  | some (.iG (.ts T' _ _ es acc))=>cond (Nat.beq T T') (.ts T .any n ((es.drop o).take n) (fun i=>acc (o+i)),A) (.bh,A)
  | _=>(.bh,A)
 | v=>(v,A)
def Xj (A:ae):List KV->List KV×ae
 | []=>([],A)
 | v::vs=>((aaW A v).1::(Xj (aaW A v).2 vs).1,(Xj (aaW A v).2 vs).2)
def adG (A:ae) (v:KV):KV×ae:=
 match v with
 | .agg cs=>(.agg (Xj A cs).1,(Xj A cs).2)
 | v=>aaW A v
def AE (A:ae):List KV->List KV×ae
 | []=>([],A)
 | v::vs=>((adG A v).1::(AE (adG A v).2 vs).1,(AE (adG A v).2 vs).2)
def Xk (T b:Nat) (z:KV):FA:=fun A xs=>
 match xs with
 | [.int _ l,.int _ c]=>.jQ (decide (0<=l)&&decide (l<=c)&&Nat.ble (b * c.toNat) 281474976710656) (.al T A.next 0 l.toNat,A.new (.arr (.ts T .any c.toNat (di [z] c.toNat) (fun _=>z))))
 | _=>.no
def aeN (T b:Nat) (z:KV):FP:=fun xs=>
 match xs with
 | [.int _ l,.int _ c]=>.jQ (decide (0<=l)&&decide (l<=c)&&Nat.ble (b * c.toNat) 281474976710656) (.ts T .any l.toNat (di [z] l.toNat) (fun _=>z))
 | _=>.no
def yY (P:Program) (mt:TypeId->Bool) (t:TypeId) (l c:Operand):ss:=
 match P.underlying t with
 | some (.slice e)=>
  match P.info? e with
  | some i=>match i.zero with
   | some z=>cond (mt (e+1000000)) (cond (Nat.ble 1 i.size&&Nat.ble 1 i.bytes&&Nat.beq z.cells.size i.size&&flat z&&z.cells.toList.all scalar&&Nat.beq (aQ P e).ks.length i.size&&cv (aQ P e) (dN (aQ P e) (fE z))) (.look (aeN e i.bytes (dN (aQ P e) (fE z))) [l,c]) .bad) <| cond (mt e) (cond (Nat.ble 1 i.size&&Nat.ble 1 i.bytes&&Nat.beq z.cells.size i.size&&flat z&&z.cells.toList.all scalar&&Nat.beq (aQ P e).ks.length i.size&&cv (aQ P e) (dN (aQ P e) (fE z))) (.act (Xk e i.bytes (dN (aQ P e) (fE z))) [l,c]) .bad) <| cond (Nat.ble 1 i.size&&Nat.ble 1 i.bytes&&Nat.beq z.cells.size i.size&&flat z&&z.cells.toList.all scalar&&gJ (fE z).cells) (.act (PI i.size i.bytes (fE z).cells) [l,c]) .bad
   | none=>.bad
  | none=>.bad
 | _=>.bad
def Dn (es:List KV) (o:Nat) (new:List KV):List KV:=es.take o++new++es.drop (o+new.length)
def aB (o k:Nat) (f g:Nat->KV):Nat->KV:=fun i=>cond (Nat.blt i o) (f i) (cond (Nat.blt i (o+k)) (g (i - o)) (f i))
def aip (e:Nat):FA:=fun A xs=>
 match xs with
 | [.al e1 b o n,y]=>match PH A y,A.get b with
  | some (.ts e' _ m new an),some (.arr (.ts e2 _ N es acc))=>cond (Nat.beq e e'&&Nat.beq e e1&&Nat.beq e e2)
    (.ok (.int .i64 (Nat.min m n:Nat),A.put b (.arr (.ts e .any N (Dn es o (new.take (Nat.min m n))) (aB o (Nat.min m n) acc an))))) .no
  | _,_=>.no
 | _=>.no
def Ri (P:Program) (argTypes:List TypeId) (args:List Operand):ss:=
 match argTypes with
 | [t,u]=>
  match P.underlying t,P.underlying u with
  | some (.slice e),some (.slice _)=>match size? P e with
   | some n=>cond (Nat.ble 1 n&&Nat.beq (aQ P e).ks.length n) (.act (aip e) args) .bad
   | none=>.bad
  | _,_=>.bad
 | _=>.bad
def Dp (P:Program) (mt:TypeId->Bool) (b:Builtin) (argTypes:List TypeId) (args:List Operand):ss:=
 match b with
 | .len=>aaV P argTypes args
 | .min=>.pure (Mp false) args
 | .max=>.pure (Mp true) args
 | .append=>Kx P mt argTypes args
 | .copy=>Ri P argTypes args
 | _=>.bad
inductive wG where
 | no
 | out (e:ah) (t:bf) (A:ae)
 | br (c:Bool) (x y:wG)
 | once
inductive yq where
 | no
 | out (v:KV) (A:ae)
 | br (c:Bool) (x y:yq)
structure af8 where
 ac:FuncId->Option (List KV->ae->yq)
 mt:TypeId->Bool
 fz:Bool
 eg:Bool
def af8.none:af8:=⟨fun _=>.none,fun _=>false,false,false⟩
structure dF where
 pc:FuncId->Option (List KV->KR KV)
 lp:FuncId->Nat->Option (bf->ae->wG)
 x:af8
def dF.none:dF:=⟨fun _=>.none,fun _ _=>.none,.none⟩
def gV (P:Program) (f:KV->KV) (t:TypeId) (e:KV):KV:=Pe (aQ P t).agg ((leaves e (aQ P t).ks 0).map f)
def b8 (P:Program) (d:Nat):KV->KV:=Nat.rec (motive:=fun _=>KV->KV) (fun v=>v) (fun _ ih v=>match v with
 | .ts t _ n _ acc=>.ts t .any n ((List.range n).map fun i=>gV P ih t (acc i)) (fun i=>gV P ih t (acc i))
 | v=>v) d
def du:Nat:=6
def U2 (P:Program) (t:TypeId) (v:KV):KV:=cond (cv (aQ P t) (dN (aQ P t) v)) (gV P (b8 P du) t (dN (aQ P t) v)) .bh
def normArgs (P:Program):List TypeId->List KV->List KV
 | t::ts,v::vs=>U2 P t v::normArgs P ts vs
 | _,_=>[]
def bT (P:Program) (g:FuncId):List TypeId:=match P.funcs.toList[g]? with
 | some fn=>fn.params.toList
 | none=>[]
def dF.af9 (cfg:dF) (g:FuncId):Bool:=cfg.x.fz||cfg.x.mt (2000000+g)
def lO (P:Program) (cfg:dF) (c:Call):ss:=
 match c.callee with
 | .value (.func g)=>match cfg.pc g with
  | some F=>cond (cfg.af9 g) (.I1 g (fun vs=>cond (Nat.beq vs.length (bT P g).length) (F (normArgs P (bT P g) vs)) .no) c.args.toList)
    (.EI g (fun vs=>cond (Nat.beq vs.length (bT P g).length) (F (normArgs P (bT P g) vs)) .no) c.args.toList)
  | none=>.call (.func g) c.args.toList
 | .value f=>.call f c.args.toList
 | .builtin b=>Dp P cfg.x.mt b c.argTypes.toList c.args.toList
 | .invoke _ _=>.bad
def Bj:Fn->Bool
 | .yield _=>true
 | _=>false
def bw (P:Program) (cfg:dF):Op->ss
 | .move x=>.pure aeJ [x]
 | .assign x=>.pure (cond cfg.x.eg aeK aeJ) [x]
 | .pick c a b=>.pure aio [c,a,b]
 | .alloc t=>rJ P t
 | .box t x=>.act (Et (oY P t)) [x]
 | .build t parts=>wP P t (parts.toList.map (·.1)) (parts.toList.map (·.2))
 | .buildSlice t len parts=>la P cfg.x.mt t len (parts.toList.map (·.1)) (parts.toList.map (·.2))
 | .load t a=>.read (AJ P t) [a]
 | .store t a x=>.act (U0 P t) [a,x]
 | .nilCheck x=>.pure aaS [x]
 | .binOp op t x y _=>.pure (amp P op t) [x,y]
 | .unOp op _ x=>.pure (kUn op) [x]
 | .convert src dst x=>qW P src dst x
 | .makeFunc fn first cap=>cond (Bj fn) .bad (.pure (Nw fn first.size) (first.toList++cap.toList))
 | .fieldAddr s x f=>mr P s x f
 | .field t x f=>wQ P t x f
 | .indexAddr t x ix=>mu P t x ix
 | .index t x ix=>wR P t x ix
 | .extract t ix=>.pure (adE ix) [t]
 | .slice t x lo hi mx=>wS P cfg.x.mt t x lo hi mx
 | .makeSlice t l c=>yY P cfg.x.mt t l c
 | .call c=>lO P cfg c
 | _=>.bad
def gD (t:bf):Operand->KV
 | .tmp i=>(t.get i).getD .bh
 | .const v=>cond (flat v) (fE v) .bh
 | .global _=>.bh
 | .func f=>.fn (.func f) [] []
def j3 (t:bf):List Operand->List KV
 | []=>[]
 | x::xs=>gD t x::j3 t xs
def qO (t:bf) (dst:Option Tmp) (v:KV):bf:=
 match dst with
 | some d=>t.set v d
 | none=>t
def yZ (args:List KV):KV->Option (FuncId×List KV)
 | .fn (.func g) first cap=>some (g,first++args++cap)
 | _=>none
inductive BK where
 | bool (b:Bool)
 | kL
 | no
def yr:KV->BK
 | .bool b=>.bool b
 | .kL _=>.kL
 | _=>.no
section
variable {R:Type}
abbrev kz (R:Type):=FuncId->List KV->ae->(KV->ae->Option R)->Option R
def Ky (aR:kz R) (t:bf) (A:ae) (k:KV->ae->Option R) (ins:ss):Option R:=
 ss.rec (motive:=fun _=>Option R)
  (fun f xs=>(f (j3 t xs)).run fun v=>k v A)
  (fun f xs=>(f A (j3 t xs)).run fun v=>k v A)
  (fun f xs=>(f A (j3 t xs)).run fun p=>k p.1 p.2)
  (fun f xs=>(f (j3 t xs)).run fun v=>k v A)
  (fun _ f xs=>(f (j3 t xs)).run fun v=>k v A)
  (fun _ f xs=>(f (AE A (j3 t xs)).1).run fun v=>k v (AE A (j3 t xs)).2)
  (fun f args=>Option.rec (motive:=fun _=>Option R) none (fun p=>aR p.1 p.2 A k) (yZ (j3 t args) (gD t f)))
  none ins
def aga (t:bf) (d:Option Tmp) (want:Bool) (yes no:bf->Option R):Option R:=
 Option.rec (motive:=fun _=>Option R) none (fun d=>BK.rec (motive:=fun _=>Option R)
  (fun b=>Bool.rec (motive:=fun _=>Option R)
   (Bool.rec (motive:=fun _=>Option R) (yes (t.set (.bool false) d)) (no (t.set (.bool false) d)) want)
   (Bool.rec (motive:=fun _=>Option R) (no (t.set (.bool true) d)) (yes (t.set (.bool true) d)) want) b)
  (no t) none (yr ((t.get d).getD .bh))) d
def AK (P:Program) (cfg:dF) (aR:kz R) (all:List Oper) (o:Oper) (k:bf->ae->Option R) (t:bf) (A:ae):Option R:=
 Option.rec (motive:=fun _=>Option R) (Ky aR t A (fun v A=>k (qO t o.dst v) A) (bw P cfg o.op))
  (fun g=>aga t ((all[g.1]?).bind (·.dst)) g.2 (fun t=>Ky aR t A (fun v A=>k (qO t o.dst v) A) (bw P cfg o.op)) (fun t=>k (qO t o.dst tZ) A)) o.guard
def YL (P:Program) (cfg:dF) (aR:kz R) (all:List Oper) (k:bf->ae->Option R) (os:List Oper):bf->ae->Option R:=
 List.rec (motive:=fun _=>bf->ae->Option R) k (fun o _ ih=>AK P cfg aR all o ih) os
abbrev KE (R:Type):=ah->bf->ae->Option R
def aeO (t:bf) (c:Operand) (f g:bf->Option R):Option R:=
 match c with
 | .tmp d=>BK.rec (motive:=fun _=>Option R) (fun b=>Bool.rec (motive:=fun _=>Option R) (g (t.set (.bool false) d)) (f (t.set (.bool true) d)) b) none none (yr ((t.get d).getD .bh))
 | c=>BK.rec (motive:=fun _=>Option R) (fun b=>Bool.rec (motive:=fun _=>Option R) (g t) (f t) b) none none (yr (gD t c))
def cG (i:ss):Nat:=ss.rec (motive:=fun _=>Nat) (fun _ _=>0) (fun _ _=>1) (fun _ _=>3) (fun _ _=>0) (fun _ _ _=>0) (fun _ _ _=>3) (fun _ _=>9) 9 i
def U3:ss->List Operand
 | .pure _ xs=>xs
 | .read _ xs=>xs
 | .act _ xs=>xs
 | .look _ xs=>xs
 | .EI _ _ xs=>xs
 | .I1 _ _ xs=>xs
 | .call f xs=>f::xs
 | .bad=>[]
def nZ (P:Program) (cfg:dF) (all:List Oper) (o:Oper):List Tmp:=Iw all o++tW (U3 (bw P cfg o.op))
def wT (P:Program) (cfg:dF) (all:List Oper) (x y:Oper):Bool:=Pu x.dst (nZ P cfg all y)||Pu y.dst (nZ P cfg all x)||UJ x.dst y.dst
def Lz (P:Program) (cfg:dF) (all:List Oper) (x y:Oper):Bool:=
 wT P cfg all x y||(Nat.ble 3 (cG (bw P cfg x.op))&&!(Nat.beq (cG (bw P cfg y.op)) 0))||(Nat.ble 3 (cG (bw P cfg y.op))&&!(Nat.beq (cG (bw P cfg x.op)) 0))
def Rj:Op->Bool
 | .alloc _=>true
 | .box _ _=>true
 | .call c=>match c.callee with
  | .builtin .append=>true
  | _=>false
 | _=>false
def U4:Op->Option Operand
 | .store _ a _=>some a
 | _=>none
def HV:Op->Option Operand
 | .load _ a=>some a
 | _=>none
def uJ (i:Nat) (x:Operand):List Oper->Nat->Bool
 | [],_=>true
 | o::os,j=>(Nat.blt j i||!(Pu o.dst (tW [x])))&&uJ i x os (Nat.succ j)
def Nx (i:Nat) (x:Option Operand) (all:List Oper):Bool:=
 match x with
 | some x=>uJ i x all 0
 | none=>true
def Ny (x y:Oper):Option (Option Operand×Operand):=
 match HV y.op with
 | some a=>cond (Rj x.op) (some (none,a)) (match U4 x.op with
  | some a2=>some (some a2,a)
  | none=>none)
 | none=>none
def YM (all:List Oper) (j:Nat) (x:Oper) (i:Nat) (y:Oper):Option (Option Operand×Operand):=
 match Ny x y with
 | some p=>cond (uJ i p.2 all 0&&Nx j p.1 all) (some p) none
 | none=>match Ny y x with
  | some p=>cond (uJ j p.2 all 0&&Nx i p.1 all) (some p) none
  | none=>none
def Mr (t:bf) (nx:Nat) (p:Option Operand×Operand):Bool:=
 match gD t p.2 with
 | .tp _ _ _ _ _ _=>true
 | .ptr b _=>Nat.blt b nx&&(match p.1 with
  | some a2=>(match gD t a2 with
   | .ptr b2 _=>!(Nat.beq b b2)
   | .ap _ _ _ _ _=>true
   | _=>false)
  | none=>true)
 | _=>false
def Tt (t:bf) (nx:Nat) (l:List (Option Operand×Operand)):Bool:=List.rec (motive:=fun _=>Bool) true (fun p _ ih=>Bool.rec false ih (Mr t nx p)) l
def F1 (P:Program) (cfg:dF) (all:List Oper) (b:List Nat) (i:Nat) (y:Oper):List Oper->Nat->List (Option Operand×Operand)
 | [],_=>[]
 | x::xs,j=>cond (Nat.ble i j||!Lz P cfg all x y||oM b i j) (F1 P cfg all b i y xs (Nat.succ j)) (match YM all j x i y with
  | some p=>p::F1 P cfg all b i y xs (Nat.succ j)
  | none=>F1 P cfg all b i y xs (Nat.succ j))
def Xl (P:Program) (cfg:dF) (all:List Oper) (b:List Nat):List Oper->Nat->List (Option Operand×Operand)
 | [],_=>[]
 | o::os,i=>F1 P cfg all b i o all 0++Xl P cfg all b os (Nat.succ i)
def Tu (P:Program) (cfg:dF) (all:List Oper):Bool:=all.all fun o=>!(Nat.ble 3 (cG (bw P cfg o.op)))||Rj o.op||(U4 o.op).isSome
def LB (P:Program) (cfg:dF) (all:List Oper):List (Option Operand×Operand):=Xl P cfg all (dG [] all) all 0
def Rl (P:Program) (cfg:dF) (all:List Oper) (b:List Nat) (i:Nat) (y:Oper):List Oper->Nat->Bool
 | [],_=>true
 | x::xs,j=>(Nat.ble i j||!Lz P cfg all x y||oM b i j||(!wT P cfg all x y&&(YM all j x i y).isSome))&&Rl P cfg all b i y xs (Nat.succ j)
def Ms (P:Program) (cfg:dF) (all:List Oper) (b:List Nat):List Oper->Nat->Bool
 | [],_=>true
 | o::os,i=>Rl P cfg all b i o all 0&&Ms P cfg all b os (Nat.succ i)
def agb (P:Program) (cfg:dF) (all:List Oper):Bool:=Mg P all&&all.all (fun o=>Nat.ble (cG (bw P cfg o.op)) 3)&&Ms P cfg all (dG [] all) all 0&&((LB P cfg all).isEmpty||Tu P cfg all)
def fQ (o:Oper):Option (TypeId×Tmp):=
 match o.op,o.guard,o.dst with
 | .alloc T,none,some d=>some (T,d)
 | _,_,_=>none
def zI (d:Tmp):List Oper->Bool
 | []=>false
 | o::os=>(match fQ o with
  | some (_,e)=>Nat.beq d e
  | none=>false)||zI d os
def vy (all:List Oper) (o:Oper):Option (TypeId×Tmp×Operand):=
 match o.op,o.guard,o.dst with
 | .store T (.tmp d) x,none,none=>cond (zI d all) (some (T,d,x)) none
 | _,_,_=>none
def sB (all:List Oper) (o:Oper):Bool:=(fQ o).isSome||(vy all o).isSome
def vz (all:List Oper) (d:Tmp):List Oper->Option (TypeId×Operand)
 | []=>none
 | o::os=>match vy all o with
  | some (T,e,x)=>cond (Nat.beq d e) (some (T,x)) (vz all d os)
  | none=>vz all d os
def Mt (i:Nat) (d:Tmp):List Oper->Nat->Bool
 | [],_=>true
 | o::os,j=>(Nat.beq j i||!(Pu o.dst [d]))&&Mt i d os (Nat.succ j)
def EM (all:List Oper) (i:Nat) (d:Tmp):List Oper->Nat->Bool
 | [],_=>true
 | o::os,j=>(Nat.beq j i||(match vy all o with
  | some (_,e,_)=>!(Nat.beq d e)
  | none=>true))&&EM all i d os (Nat.succ j)
def PJ (all:List Oper):List Oper->Nat->Bool
 | [],_=>true
 | o::os,i=>(match fQ o with
  | some (_,d)=>Mt i d all 0
  | none=>true)&&(match vy all o with
  | some (_,d,x)=>uJ i x all 0&&EM all i d all 0&&zI d (all.take i)&&!(Pu (some d) (tW [x]))
  | none=>true)&&PJ all os (Nat.succ i)
def Iz (P:Program) (cfg:dF) (all:List Oper) (b:List Nat) (i:Nat) (y:Oper):List Oper->Nat->Bool
 | [],_=>true
 | x::xs,j=>(Nat.ble i j||!wT P cfg all x y||oM b i j)&&Iz P cfg all b i y xs (Nat.succ j)
def CM (P:Program) (cfg:dF) (all:List Oper) (b:List Nat):List Oper->Nat->Bool
 | [],_=>true
 | o::os,i=>Iz P cfg all b i o all 0&&CM P cfg all b os (Nat.succ i)
def Mu (o:Oper):Option (Operand×List Operand):=
 match o.op,o.guard with
 | .call c,none=>match c.callee with
  | .value (.tmp d)=>some (.tmp d,c.args.toList)
  | _=>none
 | _,_=>none
def HW (P:Program) (cfg:dF) (t:bf) (p:Operand×List Operand):ss:=
 match gD t p.1 with
 | .fn (.func g) [] []=>match cfg.pc g with
  | some F=>.EI g (fun vs=>cond (Nat.beq vs.length (bT P g).length) (F (normArgs P (bT P g) vs)) .no) p.2
  | none=>.bad
 | _=>.bad
def U5 (P:Program) (cfg:dF) (all:List Oper):Bool:=Mg P all&&all.all (fun o=>sB all o||Nat.ble (cG (bw P cfg o.op)) 1||(Mu o).isSome)&&CM P cfg all (dG [] all) all 0&&PJ all all 0
def aiq (P:Program) (cfg:dF) (aR:kz R) (all:List Oper) (o:Oper) (k:bf->ae->Option R) (t:bf) (A:ae):Option R:=
 Bool.rec (motive:=fun _=>Option R) (Option.rec (motive:=fun _=>Option R) (AK P cfg aR all o k t A) (fun p=>Ky aR t A (fun v A=>k (qO t o.dst v) A) (HW P cfg t p)) (Mu o)) (k (qO t o.dst .bh) A) (sB all o)
def aaX (P:Program) (cfg:dF) (aR:kz R) (all:List Oper) (k:bf->ae->Option R) (os:List Oper):bf->ae->Option R:=
 List.rec (motive:=fun _=>bf->ae->Option R) k (fun o _ ih=>aiq P cfg aR all o ih) os
def zJ (P:Program) (all:List Oper) (t:bf) (T:TypeId) (d:Tmp):Option (List KV):=
 match yp P T with
 | some z=>cond (flat z&&z.cells.toList.all scalar&&gJ (fE z).cells&&decide (some (fE z).cells.length=size? P T)) (match vz all d all with
  | some (T',x)=>cond (Nat.beq T T'&&decide (some (gD t x).cells.length=size? P T)&&gJ (gD t x).cells) (some (gD t x).cells) none
  | none=>some (fE z).cells) none
 | none=>none
def YN (P:Program) (all:List Oper) (t0:bf) (k:bf->ae->Option R) (os:List Oper):bf->ae->Option R:=
 List.rec (motive:=fun _=>bf->ae->Option R) k (fun o _ ih t A=>Option.rec (motive:=fun _=>Option R) (ih t A) (fun p=>
  Option.rec (motive:=fun _=>Option R) none (fun cs=>ih (t.set (.ptr A.next 0) p.2) (A.new (.row cs (oY P p.1)))) (zJ P all t0 p.1 p.2)) (fQ o)) os
def xB (P:Program) (cfg:dF) (o:Oper):Bool:=
 match bw P cfg o.op with
 | .call _ _=>true
 | _=>false
def adH (P:Program) (cfg:dF):List Oper->Nat->Option Nat
 | [],_=>none
 | o::os,i=>cond (xB P cfg o) (some i) (adH P cfg os (Nat.succ i))
def aab (q:Oper) (j:Nat) (all:List Oper):Bool:=
 match q.guard,HV q.op with
 | none,some a=>uJ j a all 0
 | _,_=>false
def Mv (P:Program) (cfg:dF) (b:List Nat) (i:Nat) (h:Bool) (all:List Oper):List Oper->Nat->Bool
 | [],_=>true
 | q::os,j=>cond (Nat.beq j i) true (cond (Nat.blt j i) (cond (Nat.beq (cG (bw P cfg q.op)) 0) true (cond (oM b i j) true (h&&aab q j all))) (oM b j i))&&Mv P cfg b i h all os (Nat.succ j)
def Mw (P:Program) (cfg:dF) (b:List Nat) (all:List Oper):List Oper->Nat->Bool
 | [],_=>true
 | o::os,i=>cond (Nat.ble (cG (bw P cfg o.op)) 1) true (Mv P cfg b i (xB P cfg o) all all 0)&&Mw P cfg b all os (Nat.succ i)
def Tv (hs:List Nat) (A:ae):Option ae:=
 List.rec (motive:=fun _=>Option ae) (some A) (fun b _ ih=>Option.rec (motive:=fun _=>Option ae) none (fun A'=>match A'.get b with
  | some (.row _ _)=>some (A'.put b (.map []))
  | some (.map [])=>some A'
  | _=>none) ih) hs
def y4 (hs:List Nat) (A A' : ae):ae:=
 List.rec (motive:=fun _=>ae) A' (fun b _ ih=>match A.get b with
  | some o=>ih.put b o
  | none=>ih) hs
def Rm (P:Program) (cfg:dF) (b:List Nat) (i:Nat) (t:bf):List Oper->Nat->Option (List Nat)
 | [],_=>some []
 | q::os,j=>match Rm P cfg b i t os (Nat.succ j) with
  | none=>none
  | some l=>cond (Nat.blt j i&&!(Nat.beq (cG (bw P cfg q.op)) 0)&&!(oM b i j)) (match HV q.op with
   | some a=>match gD t a with
    | .ptr c _=>some (c::l)
    | .tp _ _ _ _ _ _=>some l
    | _=>none
   | none=>none) (some l)
def U6 (hs:List Nat) (aR:kz R):kz R:=fun f vs A k=>match Tv hs A with
 | some Ah=>aR f vs Ah (fun v A'=>k v (y4 hs A A'))
 | none=>none
def PK (P:Program) (cfg:dF) (aR:kz R) (all:List Oper) (i:Nat) (o:Oper) (k:bf->ae->Option R) (t:bf) (A:ae):Option R:=
 Bool.rec (motive:=fun _=>Option R) (AK P cfg aR all o k t A) (Option.rec (motive:=fun _=>Option R) none (fun hs=>AK P cfg (U6 hs aR) all o k t A) (Rm P cfg (dG [] all) i t all 0)) (xB P cfg o)
def Bk (P:Program) (cfg:dF) (aR:kz R) (all:List Oper) (k:bf->ae->Option R) (os:List Oper):Nat->bf->ae->Option R:=
 List.rec (motive:=fun _=>Nat->bf->ae->Option R) (fun _=>k) (fun o _ ih i=>PK P cfg aR all i o (ih (Nat.succ i))) os
def Nz (P:Program) (cfg:dF) (all:List Oper):Bool:=
 match adH P cfg all 0 with
 | some _=>Mg P all&&CM P cfg all (dG [] all) all 0&&Mw P cfg (dG [] all) all all 0
 | none=>false
def aaY (P:Program) (cfg:dF) (aR:kz R) (ops:List Oper) (draw:Bool) (k:bf->ae->Option R):bf->ae->Option R:=
 Bool.rec (motive:=fun _=>bf->ae->Option R) (YL P cfg aR ops k ops) (Bool.rec (motive:=fun _=>bf->ae->Option R)
  (Bool.rec (motive:=fun _=>bf->ae->Option R)
   (Bool.rec (motive:=fun _=>bf->ae->Option R) (fun _ _=>none) (aaX P cfg aR ops (fun t A=>YN P ops t k ops t A) ops) (U5 P cfg ops))
   (Bk P cfg aR ops k ops 0) (Nz P cfg ops))
  (fun t A=>YL P cfg aR ops (fun t' A'=>Bool.rec (motive:=fun _=>Option R) none (k t' A') (Tt t' A.next (LB P cfg ops))) ops t A) (agb P cfg ops)) draw
def Tw (k:KE R) (f:bf->ae->Option R):KE R:=fun e t A=>ah.rec (motive:=fun _=>Option R) (f t A) (fun i=>k (.exit i) t A) (fun l=>k (.goto l) t A) (k .ret t A) e
def ajX (id:Nat) (k:KE R):KE R:=fun e t A=>ah.rec (motive:=fun _=>Option R) (k .normal t A) (fun i=>Bool.rec (motive:=fun _=>Option R) (k (.exit i) t A) (k .normal t A) (Nat.beq i id)) (fun l=>k (.goto l) t A) (k .ret t A) e
def aaZ (k:KE R):KE R:=fun e t A=>ah.rec (motive:=fun _=>Option R) (k .normal t A) (fun i=>k (.exit i) t A) (fun _=>none) (k .ret t A) e
def Xm (g:KE R->bf->ae->Option R) (k:KE R) (L:Nat):bf->ae->Option R:=
 Nat.rec (motive:=fun _=>bf->ae->Option R) (fun _ _=>none) (fun _ ih=>g (Tw k ih)) L
def yq.run (k:KV->ae->Option R) (x:yq):Option R:=yq.rec (motive:=fun _=>Option R) none (fun v A=>k v A) (fun c _ _ rx ry=>Bool.rec (motive:=fun _=>Option R) ry rx c) x
def wG.run (k:KE R) (x:wG):Option R:=wG.rec (motive:=fun _=>Option R) none (fun e t A=>k e t A) (fun c _ _ rx ry=>Bool.rec (motive:=fun _=>Option R) ry rx c) none x
def Tx (F:bf->ae->wG) (k:KE R) (t:bf) (A:ae):Option R:=(F t A).run k
def PL:Nat:=999983
def Kz:Code->Option Nat
 | .seq (.label l) _=>some l
 | .seq _ b=>Kz b
 | _=>none
def Xn (k:KE R):KE R:=fun e t A=>ah.rec (motive:=fun _=>Option R) none (fun i=>Bool.rec (motive:=fun _=>Option R) (k (.exit i) t A) (k .normal t A) (Nat.beq i PL)) (fun _=>none) (k .ret t A) e
def aeP (ol:Option Nat) (F:bf->ae->wG) (k:KE R):KE R:=fun e t A=>ah.rec (motive:=fun _=>Option R) (k .normal t A) (fun i=>k (.exit i) t A)
 (fun l'=>Option.rec (motive:=fun _=>Option R) none (fun l=>Bool.rec (motive:=fun _=>Option R) none (wG.run (Xn k) (F t A)) (Nat.beq l' l)) ol) (k .ret t A) e
def aeQ (x:wG):Bool:=wG.rec (motive:=fun _=>Bool) false (fun _ _ _=>false) (fun _ _ _ _ _=>false) true x
def Xo (g:KE R->bf->ae->Option R) (F:bf->ae->wG) (k:KE R) (L:Nat):bf->ae->Option R:=
 Nat.rec (motive:=fun _=>bf->ae->Option R) (fun t A=>Tx F k t A) (fun _ ih t A=>Bool.rec (motive:=fun _=>Option R) (Tx F k t A) (g (Tw k ih) t A) (aeQ (F t A))) L
def gx:Nat:=1000000000000000000000
def o3 (P:Program) (cfg:dF) (aR:kz R) (L:Nat) (f:FuncId) (c:Code):Nat->KE R->bf->ae->Option R:=
 Code.rec (motive:=fun _=>Nat->KE R->bf->ae->Option R) (fun _ k t A=>k .normal t A)
  (fun _ ops d _ k=>aaY P cfg aR ops.toList d (fun t A=>k .normal t A))
  (fun _ _ a b p k=>a (2 * p) (Tw k fun t A=>b (2 * p+1) k t A))
  (fun c _ _ a b p k t A=>aeO t c (fun t=>a (2 * p) k t A) (fun t=>b (2 * p+1) k t A))
  (fun id _ g p k=>g (2 * p) (ajX id k))
  (fun _ g p k=>Option.rec (motive:=fun _=>bf->ae->Option R) (Xm (g (2 * p)) k L) (fun F=>Xo (g (2 * p)) F k L) (cfg.lp f p))
  (fun _ _ _ _ _ _ _ _ _ _=>none) (fun id _ k t A=>k (.exit id) t A) (fun c g p k=>Option.rec (motive:=fun _=>bf->ae->Option R) (g (2 * p) (aaZ k)) (fun F=>g (2 * p) (aeP (Kz c) F k)) (cfg.lp f p)) (fun _ _ k t A=>k .normal t A) (fun l _ k t A=>k (.goto l) t A) (fun _ k t A=>k .ret t A) (fun _ _ _ _ _=>none) c
def o4:List KV->Nat->bf->bf
 | [],_,t=>t
 | v::vs,i,t=>o4 vs (Nat.succ i) (t.set v i)
def Mx (P:Program) (A:ae) (t:bf):List ResultVar->Option (List KV)
 | []=>some []
 | .tmp x::rs=>(Mx P A t rs).map (gD t (.tmp x)::·)
 | .cell a ty::rs=>match AJ P ty A [gD t (.tmp a)] with
  | .ok v=>(Mx P A t rs).map (v::·)
  | _=>none
def I2:List KV->KV
 | [v]=>v
 | vs=>.kL vs
def agc (P:Program) (fn:Func) (k:List KV->ae->Option R):KE R:=fun e t A=>
 ah.rec (motive:=fun _=>Option R) (Option.rec (motive:=fun _=>Option R) none (fun vs=>k vs A) (Mx P A t fn.results.toList)) (fun _=>none) (fun _=>none) (Option.rec (motive:=fun _=>Option R) none (fun vs=>k vs A) (Mx P A t fn.results.toList)) e
def Xp (P:Program) (cfg:dF) (aR:kz R) (L:Nat) (f:FuncId) (args:List KV) (A:ae) (k:List KV->ae->Option R):Option R:=
 match P.funcs.toList[f]? with
 | some fn=>match fn.body with
  | some c=>o3 P cfg aR L f c 1 (agc P fn k) (o4 args 0 .leaf) A
  | none=>none
 | none=>none
def HX (P:Program) (cfg:dF) (L:Nat) (n:Nat):kz R:=
 Nat.rec (motive:=fun _=>kz R) (fun _ _ _ _=>none) (fun _ ih f args A k=>
  Bool.rec (motive:=fun _=>Option R) none (Option.rec (motive:=fun _=>Option R) (Xp P cfg ih L f args A fun vs B=>k (I2 vs) B) (fun F=>yq.run k (F args A)) (cfg.x.ac f)) (Nat.blt f yB)) n
end
def zL (P:Program):List TypeId->List KV->List KV
 | t::ts,v::vs=>U2 P t v::zL P ts vs
 | _,_=>[]
def vA (P:Program) (g:FuncId):List TypeId:=match P.funcs.toList[g]? with
 | some fn=>fn.resultTypes.toList
 | none=>[]
def EN (P:Program) (cfg:dF) (L n:Nat) (f:FuncId) (args:List KV):Option KV:=
 Xp P cfg (HX P cfg L n) L f args .empty fun vs A=>Bool.rec (motive:=fun _=>Option KV) none (some (I2 (zL P (vA P f) (AE A vs).1))) (Nat.beq vs.length (vA P f).length)
end
end Go.K
end
