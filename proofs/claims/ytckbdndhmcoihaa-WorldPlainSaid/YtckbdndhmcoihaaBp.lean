/- Part of the proof of WorldPlain: the machine, shown to be the model's, and plain models. No conditions. -/
import Derived.Test.YtckbdndhmcoihaaAp
import Derived.Laws.Slices
import Derived.Laws.MakeOwn
import Derived.Laws.AppendOwn
import Derived.MapKept
import Derived.Laws.IdiomStrings
import Derived.OrdersIn
import Derived.LoopNIn
import Derived.RangeFuncRecord
import Derived.Scope
set_option linter.unusedSimpArgs false
set_option linter.unusedVariables false
section
namespace Go.aI
open Go
section
variable {P:Program} {o:Oper}
theorem ja {ρ:Ren} {y y' : Nat} {v v' : Value} {r:Nat} (hv:VR ρ v v') (h:X0 y v=some r) (hy:y<=y') :
  r<=y/\∀ code w,(Instr.sliceBound v' y' code).run P w = .ok r w:=by
 unfold X0 at h;split at h
 ·rename_i k i
  obtain ⟨rfl,bj⟩:=CL h;have:=hv.cj;subst this;have hle:r<=y:=by omega
  refine ⟨hle,fun code w=>?_⟩;have:=run_sliceBound (P:=P) w k (r:Int) y' code (by omega) (by omega);simpa using this
 ·simp at h
theorem Jz {ρ:Ren} {ev cF:Operand->Value} {lo hi mx:Option Operand} {len cap Zc l h m:Nat} (he:zX ρ ev cF (eW lo++eW hi++eW mx))
  (hb:v8 len cap lo.isSome hi.isSome mx.isSome ((eW lo++eW hi++eW mx).map ev)=some (l,h,m)) (hc:cap<=Zc) (GV:len<=cap) :
  l<=h/\h<=m/\m<=cap/\m<=(cond mx.isSome m Zc)/\(cond mx.isSome m Zc)<=Zc/\(mx.isSome=false->m=cap)/\∀ b w,(Instr.sliceBounds b len Zc (lo.map cF) (hi.map cF) (mx.map cF)).run P w = .ok (l,h,cond mx.isSome m Zc) w:=by
 cases lo with
 | none=>
  cases hi with
  | none=>
   cases mx with
   | none=>
    simp [eW,v8] at hb;obtain ⟨rfl,rfl,rfl⟩:=hb;exact ⟨by omega,GV,aB _,hc,aB _,fun _=>rfl,fun b w=>by simp [Instr.sliceBounds]⟩
   | some x=>simp [eW,v8] at hb
  | some y=>
   cases mx with
   | none=>
    simp only [eW,Option.isSome,List.nil_append,yd,List.map,v8,ck] at hb;obtain ⟨r,hr,hb⟩:=hb;simp at hb;obtain ⟨rfl,rfl,rfl⟩:=hb;obtain ⟨h1,h2⟩:=ja (P:=P) (he y (by simp [eW])) hr hc;exact ⟨by omega,h1,aB _,hc,aB _,fun _=>rfl,fun b w=>by simp [Instr.sliceBounds,h2]⟩
   | some z=>
    simp only [eW,Option.isSome,List.nil_append,List.map,List.cons_append,v8,cE,ck] at hb;obtain ⟨r,hr,q,hq,hb⟩:=hb;simp at hb;obtain ⟨rfl,rfl,rfl⟩:=hb;obtain ⟨h1,h2⟩:=ja (P:=P) (he z (by simp [eW])) hr hc;obtain ⟨h3,h4⟩:=ja (P:=P) (he y (by simp [eW])) hq (aB _);exact ⟨by omega,h3,h1,aB _,by simp; omega,fun h=>by simp at h,fun b w=>by simp [Instr.sliceBounds,h2,h4]⟩
 | some x=>
  cases hi with
  | none=>
   cases mx with
   | none=>
    simp only [eW,Option.isSome,yd,List.map,v8,ck] at hb;obtain ⟨r,hr,hb⟩:=hb;simp at hb;obtain ⟨rfl,rfl,rfl⟩:=hb;obtain ⟨h1,h2⟩:=ja (P:=P) (he x (by simp [eW])) hr (aB _);exact ⟨h1,GV,aB _,hc,aB _,fun _=>rfl,fun b w=>by simp [Instr.sliceBounds,h2]⟩
   | some x=>simp [eW,v8] at hb
  | some y=>
   cases mx with
   | none=>
    simp only [eW,Option.isSome,yd,List.map,List.cons_append,List.nil_append,v8,cE,ck] at hb;obtain ⟨r,hr,q,hq,hb⟩:=hb;simp at hb;obtain ⟨rfl,rfl,rfl⟩:=hb;obtain ⟨h1,h2⟩:=ja (P:=P) (he y (by simp [eW])) hr hc;obtain ⟨h3,h4⟩:=ja (P:=P) (he x (by simp [eW])) hq (aB _);exact ⟨h3,h1,aB _,hc,aB _,fun _=>rfl,fun b w=>by simp [Instr.sliceBounds,h2,h4]⟩
   | some z=>
    simp only [eW,Option.isSome,List.map,List.cons_append,List.nil_append,v8,cE,ck] at hb;obtain ⟨r,hr,q,hq,s,hs,hb⟩:=hb;simp at hb;obtain ⟨rfl,rfl,rfl⟩:=hb;obtain ⟨h1,h2⟩:=ja (P:=P) (he z (by simp [eW])) hr hc;obtain ⟨h3,h4⟩:=ja (P:=P) (he y (by simp [eW])) hq (aB _);obtain ⟨h5,h6⟩:=ja (P:=P) (he x (by simp [eW])) hs (aB _);exact ⟨h5,h3,h1,aB _,by simp; omega,fun h=>by simp at h,fun b w=>by simp [Instr.sliceBounds,h2,h4,h6]⟩
theorem Zd {A:St} {b n:Nat} (h:CE A b n=true):∃ cs own bL,A.get b=some (.row cs n own bL):=by
 unfold CE at h;split at h
 ·rename_i cs bm own bL hg
  have:=aK h;subst this;exact ⟨cs,own,bL,hg⟩
 ·simp at h
theorem ok_slice {t:TypeId} {x:Operand} {lo hi mx:Option Operand} (ho:o.op = .slice t x lo hi mx):gp P o (K5 P t x lo hi mx):=by
 unfold K5;split
 ·rename_i e hu
  split
  ·rename_i n hn
   cases Gs:Nat.ble 1 n with
   | false=>exact True.intro
   | true=>
    rw [aj];have Gs:1<=n:=dT Gs;intro ρ A base w ev cF v hs he hf;have hx:=he x (by simp);have hsl:P.underlying t=some (.slice (P.elem t))->True:=fun _=>trivial;simp only [List.map,va] at hf;split at hf
    ·rename_i len cap vs e1
     simp only [List.cons.injEq] at e1;obtain ⟨e1,e2⟩:=e1;rw [e1] at hx;have hx:=hx.fV;subst e2;obtain ⟨⟨l,h,m⟩,hb,rfl⟩:=ck.1 hf;by_cases GV:len<=cap
     ·obtain ⟨h1,h2,h3,h4,h5,h6,h7⟩:=Jz (P:=P) he.tail hb (aB _) GV
      have hm:cond mx.isSome m cap=m:=by cases hmx:mx.isSome <;> simp; exact (h6 hmx).symm
      refine ⟨.slice none (h - l) (m - l),by simp [VR],?_⟩;simp [execOp,ho,Instr.sliceAt,Instr.slice,bo hu,hx,h7,hm,oZ hn]
     ·
      have key:∀ b w,(Instr.sliceBounds b len cap (lo.map cF) (hi.map cF) (mx.map cF)).run P w = .ok (l,h,m) w:=by
       intro b w;have aiq:cap<=len:=by omega
       cases lo with
       | none=>
        cases hi with
        | none=>
         cases mx with
         | none=>simp [eW,v8] at hb; obtain ⟨rfl,rfl,rfl⟩:=hb; simp [Instr.sliceBounds]
         | some x=>simp [eW,v8] at hb
        | some y=>
         cases mx with
         | none=>
          simp only [eW,Option.isSome,List.nil_append,yd,List.map,v8,ck] at hb;obtain ⟨r,hr,hb⟩:=hb;simp at hb;obtain ⟨rfl,rfl,rfl⟩:=hb;have:=(ja (P:=P) (he y (by simp [eW])) hr (aB _)).2;simp [Instr.sliceBounds,this]
         | some z=>
          simp only [eW,Option.isSome,List.nil_append,List.map,List.cons_append,v8,cE,ck] at hb;obtain ⟨r,hr,q,hq,hb⟩:=hb;simp at hb;obtain ⟨rfl,rfl,rfl⟩:=hb;have h2:=(ja (P:=P) (he z (by simp [eW])) hr (aB _)).2;have h4:=(ja (P:=P) (he y (by simp [eW])) hq (aB _)).2;simp [Instr.sliceBounds,h2,h4]
       | some x'=>
        cases hi with
        | none=>
         cases mx with
         | none=>
          simp only [eW,Option.isSome,yd,List.map,v8,ck] at hb;obtain ⟨r,hr,hb⟩:=hb;simp at hb;obtain ⟨rfl,rfl,rfl⟩:=hb;have:=(ja (P:=P) (he x' (by simp [eW])) hr (aB _)).2;simp [Instr.sliceBounds,this]
         | some x=>simp [eW,v8] at hb
        | some y=>
         cases mx with
         | none=>
          simp only [eW,Option.isSome,yd,List.map,List.cons_append,List.nil_append,v8,cE,ck] at hb;obtain ⟨r,hr,q,hq,hb⟩:=hb;simp at hb;obtain ⟨rfl,rfl,rfl⟩:=hb;have h2:=(ja (P:=P) (he y (by simp [eW])) hr (aB _)).2;have h4:=(ja (P:=P) (he x' (by simp [eW])) hq (aB _)).2;simp [Instr.sliceBounds,h2,h4]
         | some z=>
          simp only [eW,Option.isSome,List.map,List.cons_append,List.nil_append,v8,cE,ck] at hb;obtain ⟨r,hr,q,hq,s,N4,hb⟩:=hb;simp at hb;obtain ⟨rfl,rfl,rfl⟩:=hb;have h2:=(ja (P:=P) (he z (by simp [eW])) hr (aB _)).2;have h4:=(ja (P:=P) (he y (by simp [eW])) hq (aB _)).2;have h6:=(ja (P:=P) (he x' (by simp [eW])) N4 (aB _)).2;simp [Instr.sliceBounds,h2,h4,h6]
      refine ⟨.slice none (h - l) (m - l),by simp [VR],?_⟩;simp [execOp,ho,Instr.sliceAt,Instr.slice,bo hu,hx,key,oZ hn]
    ·rename_i a len cap vs e1
     simp only [List.cons.injEq] at e1;obtain ⟨e1,e2⟩:=e1;rw [e1] at hx;subst e2;obtain ⟨FJ,GV,lc,a',c',hl,vf,Kj,mG,h'⟩:=hx.lE;cases hg:(cL a&&CE A a.block n) with
     | false=>rw [hg] at hf; simp at hf
     | true=>
      rw [hg,aj] at hf;obtain ⟨_,Tn⟩:=Bool.and_eq_true_iff.1 hg;obtain ⟨cs,own,bL,fk⟩:=Zd Tn;obtain ⟨l2,kV,ok⟩:=hs.row _ _ _ _ _ fk;rw [hl] at kV; simp at kV; subst kV;have hez:lc.bm=n:=ok.bm;obtain ⟨⟨l,h,m⟩,hb,rfl⟩:=ck.1 hf;obtain ⟨h1,h2,h3,h4,h5,h6,h7⟩:=Jz (P:=P) he.tail hb vf GV;generalize Om:cond mx.isSome m c' = m' at h4 h5 h7;refine ⟨.slice (some (if m' = l then a' else a'.add (l * n))) (h - l) (m' - l),?_,?_⟩
      ·simp only [VR]
       refine ⟨trivial,by omega,lc,_,m' - l,hl,by omega,fun cI=>?_,?_,rfl⟩
       ·rw [aa (by omega),Kj (by omega),kJ]
        simp only [GM]
       ·rw [hez]
        rw [hez] at mG;have e5:l * n+(m' - l) * n=m' * n:=by rw [<- Nat.add_mul]; congr 1; omega
        have e6:m' * n<=c' * n:=Nat.mul_le_mul_right _ h5;omega
      ·simp only [execOp,ho,Instr.sliceAt,Instr.slice,Sem.run_bind,bo hu,ig,h',h7,oZ hn]
       by_cases Vo:m' = l <;> simp [Vo]
    ·simp at hf
  ·trivial
 ·rename_i len e hu
  split
  ·rename_i n hn
   cases Gs:Nat.ble 1 n with
   | false=>exact True.intro
   | true=>
    rw [aj];intro ρ A base w ev cF v hs he hf;have hx:=he x (by simp);simp only [List.map,Mh] at hf;split at hf
    ·rename_i a vs e1
     simp only [List.cons.injEq] at e1;obtain ⟨e1,e2⟩:=e1;rw [e1] at hx;subst e2;obtain ⟨FJ,lc,hl,h'⟩:=hx.hO;cases hg:(cL a&&CE A a.block n&&Nat.ble (a.off+len * n) (rowLen A a.block)) with
     | false=>rw [hg] at hf; simp at hf
     | true=>
      rw [hg,aj] at hf;simp only [ao] at hg;obtain ⟨⟨_,Tn⟩,hlen⟩:=hg;obtain ⟨cs,own,bL,fk⟩:=Zd Tn;obtain ⟨l2,kV,ok⟩:=hs.row _ _ _ _ _ fk;rw [hl] at kV; simp at kV; subst kV;have hez:lc.bm=n:=ok.bm;have hlen:=dT hlen;have Ou:rowLen A a.block=cs.length:=by unfold rowLen; rw [fk]
      rw [Ou] at hlen;have hft:=ok.fits;obtain ⟨⟨l,h,m⟩,hb,rfl⟩:=ck.1 hf;obtain ⟨h1,h2,h3,h4,h5,h6,h7⟩:=Jz (P:=P) he.tail hb (aB _) (aB _);have hm:cond mx.isSome m len=m:=by cases hmx:mx.isSome <;> simp; exact (h6 hmx).symm
      rw [hm] at h7;refine ⟨.slice (some (if m=l then ⟨lc.cb,lc.dv+a.off,none⟩ else (⟨lc.cb,lc.dv+a.off,none⟩:Addr).add (l * n))) (h - l) (m - l),?_,?_⟩
      ·simp only [VR]
       refine ⟨trivial,by omega,lc,_,m - l,hl,aB _,fun cI=>?_,?_,rfl⟩
       ·rw [aa (by omega),kJ]
        simp only [GM]
       ·rw [hez]
        have e5:l * n+(m - l) * n=m * n:=by rw [<- Nat.add_mul]; congr 1; omega
        have e6:m * n<=len * n:=Nat.mul_le_mul_right _ h3;omega
      ·simp only [execOp,ho,Instr.sliceAt,Sem.run_bind,bo hu,ig,h',Instr.sureAddr,Sem.run_pure,h7,oZ hn]
    ·simp at hf
  ·trivial
 ·rename_i hu
  cases hmx:mx with
  | some z=>exact True.intro
  | none=>
   show gp P o (.pure (HH lo.isSome hi.isSome) (x::(eW lo++eW hi)));intro ρ ev cF v he hf;have hx:=he x (by simp);simp only [List.map,HH] at hf;split at hf
   ·rename_i s vs e1
    simp only [List.cons.injEq] at e1;obtain ⟨e1,e2⟩:=e1;rw [e1] at hx;have hx:=hx.qZ;subst e2;obtain ⟨⟨l,h,m⟩,hb,rfl⟩:=ck.1 hf;have Kl:zX ρ ev cF (eW lo++eW hi++eW (none:Option Operand)):=by simpa [eW] using he.tail
    obtain ⟨h1,h2,h3,h4,h5,h6,h7⟩:=Jz (P:=P) (mx:=none) Kl (by simpa [eW] using hb) (aB _) (aB _);simp only [Option.isSome_none,aG,Option.map_none] at h7;refine ⟨.string (s.extract l h),?_,fun w=>?_⟩
    ·have e:(⟨⟨(s.data.toList.drop l).take (h - l)⟩⟩:ByteArray)=s.extract l h:=by
      apply ByteArray.ext;apply Array.ext';simp [ByteArray.data_extract,List.extract_eq_take_drop]
     rw [e];simp [VR]
    ·simp [execOp,ho,Instr.sliceAt,Instr.slice,bo hu,hx,hmx,h7]
   ·simp at hf
 ·trivial
theorem abF {t:TypeId} {l c:Operand} (ho:o.op = .makeSlice t l c):gp P o (AA P t l c):=by
 unfold AA;split
 ·rename_i e hu
  split
  ·rename_i i hi
   split
   ·rename_i z hz
    cases hc:(Nat.ble 1 i.size&&Nat.ble 1 i.bytes&&Nat.beq z.cells.size i.size&&flat z&&z.cells.toList.all scalar) with
    | false=>exact True.intro
    | true=>
     rw [aj];simp only [ao] at hc;obtain ⟨⟨⟨⟨h1,h2⟩,h3⟩,h4⟩,h5⟩:=hc;have hn:1<=i.size:=dT h1;have hb:1<=i.bytes:=dT h2;have hzs:z.cells.size=i.size:=aK h3;rw [fe] at h5;intro ρ ev cF obj mk he hf;simp only [List.map,E8] at hf;split at hf
     ·rename_i k1 l0 k2 c0 e1
      simp only [List.cons.injEq,and_true] at e1;cases hk:(Nat.ble l0 c0&&Nat.ble (i.bytes * c0) 281474976710656) with
      | false=>rw [hk] at hf; simp at hf
      | true=>
       rw [hk,aj] at hf;obtain ⟨tN,Vm⟩:=Bool.and_eq_true_iff.1 hk;have hle:l0<=c0:=dT tN;have X3:i.bytes * c0<=281474976710656:=dT Vm;simp only [bN,du] at hf;obtain ⟨rfl,rfl⟩:=hf;have hl:=he l (by simp);have vf:=he c (by simp);rw [e1.1] at hl;rw [e1.2] at vf;have hl:=hl.cj;have vf:=vf.cj;have e2:madeCells z.cells (c0 * i.size)=⟨fw z.cells.toList c0⟩:=by
        unfold madeCells;rw [<- hzs];exact RV z.cells c0 (by omega)
       have hc0:c0<=i.bytes * c0:=Nat.le_mul_of_pos_left _ hb;have aoL:∀ (z:List Value) (k:Nat),(fw z k).length=k * z.length:=by
        intro z k
        induction k with
        | zero=>simp [fw]
        | succ k ih=>simp [fw,ih,Nat.succ_mul,Nat.add_comm]
       have aoM:∀ (z:List Value) (k:Nat) (v:Value),v∈fw z k->v∈z:=by
        intro z k v
        induction k with
        | zero=>simp [fw]
        | succ k ih=>simp only [fw,jJ]; exact fun h=>h.elim id ih
       refine ⟨.cells ⟨fw z.cells.toList c0⟩ e,fun b=>.slice (some ⟨b,0,none⟩) l0 c0,⟨_,e,rfl,dA.repeat (Jy h4) c0,fun v hv=>h5 v (aoM _ _ _ hv)⟩,fun w=>?_,fun aF n cb kE=>?_⟩
       ·have hr:=run_make (P:=P) w t e i z hu hi hz k1 k2 (l0:Int) (c0:Int) (by omega) (by omega) (by rw [<- Int.natCast_mul]; exact Int.ofNat_le.2 X3) (by omega)
        have uN:cF l = .int k1 (l0:Int):=hl;have hc' : cF c = .int k2 (c0:Int):=vf;simp only [Cz,e2] at hr;simp [execOp,ho,uN,hc',hr]
       ·simp only [VR]
        refine ⟨trivial,hle,_,⟨cb,0,none⟩,c0,kE,aB _,fun _=>rfl,?_,rfl⟩;show 0+0+c0 * i.size<=(fw z.cells.toList c0).length;rw [aoL];simp [hzs]
     ·simp at hf
   ·trivial
  ·trivial
 ·trivial
theorem ajK {t:TypeId} {x:Operand} (ho:o.op = .makeInterface t x):gp P o (Vf P t x):=by
 unfold Vf;split
 ·trivial
 ·rename_i d hu hd
  intro ρ ev cF v he hf;simp [aio] at hf;subst hf;refine ⟨.iface t (cF x),by simp only [VR]; exact ⟨_,he x (by simp),rfl⟩,fun w=>?_⟩;simp only [execOp,ho,Instr.makeInterface,Sem.run_bind,bo hd,ig];cases d <;> first | rfl | exact absurd rfl (hu _)
 ·trivial
theorem Tp {ρ:Ren} {s:List Value->Sem Value} {vs b6:List Value} {v:Value} (hv:dA ρ vs b6) (h:Mg P s vs=some v):VR ρ v v/\∀ w,(s b6).run P w = .ok v w:=by
 unfold Mg at h;cases hf:yv vs with
 | false=>rw [hf] at h; simp at h
 | true=>
  rw [hf,aj] at h;obtain ⟨u,hu,h⟩:=cE.1 h;cases hfu:flat u with
  | false=>rw [hfu] at h; simp at h
  | true=>
   rw [hfu] at h;simp at h;subst h;rw [dA.qw hf hv];exact ⟨VR.of_flat hfu,fun w=>fE hu w⟩
theorem amE {argTypes:Array TypeId} {args:Array Operand} (ho:o.op = .call ⟨.builtin .min,args,argTypes⟩):gp P o (.pure (Mg P fun vs=>Builtin.min_ #[] 0 ⟨vs⟩) args.toList):=by
 intro ρ ev cF v he hf;obtain ⟨h1,h2⟩:=Tp he.map hf;refine ⟨v,h1,fun w=>?_⟩;have h3:=h2 w;simp only [Builtin.min_] at h3;simp only [execOp,ho,resolve,Sem.run_bind,Sem.run_pure,ig,invoke,builtin,Builtin.min_,oH];simp only [h3,ig]
theorem amF {argTypes:Array TypeId} {args:Array Operand} (ho:o.op = .call ⟨.builtin .max,args,argTypes⟩):gp P o (.pure (Mg P fun vs=>Builtin.max_ #[] 0 ⟨vs⟩) args.toList):=by
 intro ρ ev cF v he hf;obtain ⟨h1,h2⟩:=Tp he.map hf;refine ⟨v,h1,fun w=>?_⟩;have h3:=h2 w;simp only [Builtin.max_] at h3;simp only [execOp,ho,resolve,Sem.run_bind,Sem.run_pure,ig,invoke,builtin,Builtin.max_,oH];simp only [h3,ig]
theorem WZ {ρ:Ren} {x x' : Value} {k:Nat} (hx:VR ρ x x') (h:WV x=some k):Builtin.lenOf x' = Sem.pure k:=by
 unfold WV at h;split at h
 ·obtain ⟨a',c',rfl⟩:=Zb hx
  simp at h; subst h; rfl
 ·have:=hx.qZ
  subst this;simp at h; subst h; rfl
 ·simp at h
theorem EO {ρ:Ren} {A:St} {base:Nat} {w:World} {n k:Nat} {x x' : Value} {new:List Value} (hs:Rel ρ A.get A.members base w) (hx:VR ρ x x') (h:za A n k x=some new)
  (hk:∀ m,WV x=some m->k<=m) (hn:1<=n):∃ cB,dA ρ new cB/\(∀ v∈new,scalar v=true)/\new.length=k * n/\(Builtin.firstCells n k x').run P w = .ok cB.toArray w:=by
 unfold za at h;split at h
 ·rename_i a len cap
  obtain ⟨FJ,GV,lc,a',c',hl,vf,Kj,mG,rfl⟩:=hx.lE;have hkl:=hk len rfl;obtain ⟨bM,h1,h2,h3,h4⟩:=zc (P:=P) hs h hl;refine ⟨bM,h1,h3,h2,?_⟩;simp only [Builtin.firstCells];by_cases hc:c' = 0
  ·have wV:k=0:=by omega
   subst wV;have yf:new = []:=by rw [Nat.zero_mul] at h2; exact List.eq_nil_of_length_eq_zero h2
   subst yf;rw [h1.bX,Nat.zero_mul];exact run_loadCells_list w a' [] (by simp)
  ·rw [Kj hc]; exact h4
 ·rename_i len cap
  have:=hx.fV;subst this;cases hb:Nat.beq k 0 with
  | false=>rw [hb] at h; simp at h
  | true=>
   rw [hb] at h;simp at h;subst h;have wV:=aK hb;subst wV;exact ⟨[],.nil,by simp,by simp,run_firstCells_none w n 0 len cap⟩
 ·rename_i s
  have:=hx.qZ;subst this;cases hb:Nat.beq n 1 with
  | false=>rw [hb] at h; simp at h
  | true=>
   rw [hb] at h;simp at h;have Ze:=aK hb;subst Ze;have qx:=hk s.size rfl;have dP:s.data.size=s.size:=rfl;have fl:∀ l:List UInt8,dA ρ (l.map fun b=>Value.int .u8 b.toNat) (l.map fun b=>Value.int .u8 b.toNat):=by
    intro l
    induction l with
    | nil=>exact .nil
    | cons x l ih=>exact .cons (by simp [VR]) ih
   subst h;refine ⟨((s.data.toList.take k).map fun b=>.int .u8 b.toNat),by simpa using fl (s.data.toList.take k),?_,?_,?_⟩
   ·intro v hv
    obtain ⟨b,_,rfl⟩:=GL.1 (by first | exact hv | exact List.mem_of_mem_take hv);rfl
   ·simp; omega
   ·simp only [Builtin.firstCells]
    rw [Sem.run_pure];congr 1;apply Array.ext';simp [ByteArray.data_extract,List.extract_eq_take_drop]
 ·simp at h
theorem ze (t u ty e:TypeId) (i:TypeInfo) (ht:P.underlying t=some (.slice e)) (hi:P.info? e=some i) (hu:Mi P u=true) (base:Option Addr) (dw qX:Nat) (x:Value) (n:Nat) (news:List Value)
  (hlen:Builtin.lenOf x=Sem.pure n) (w:World) (wm:(Builtin.firstCells i.size n x).run P w = .ok news.toArray w) (FL:dw+n<=qX) :
  (Builtin.append_ #[t,u] ty #[.slice base dw qX,x]).run P w=(((match base with | some a=>storeCells (a.add (dw * i.size)) news | none=>pure ():Sem Unit).run P w).andThen fun _ w=>.ok (.slice base (dw+n) qX) w):=by
 have hk:(∃ e',P.underlying u=some (.slice e'))\/P.underlying u=some .string:=by
  unfold Mi at hu;split at hu
  ·rename_i e' h; exact .inl ⟨_,h⟩
  ·rename_i h; exact .inr h
  ·simp at hu
 rcases hk with ⟨e',hk⟩ | hk <;> cases base <;> simp [Builtin.append_,bo ht,bo hk,sizeOf,typeInfo,hi,hlen,FL,wm]
theorem Vp (t u ty e:TypeId) (i:TypeInfo) (z:Value) (ht:P.underlying t=some (.slice e)) (hi:P.info? e=some i) (hz:i.zero=some z) (hu:Mi P u=true) (base:Option Addr) (dw qX:Nat)
  (x:Value) (n:Nat) (W0 news:List Value) (hlen:Builtin.lenOf x=Sem.pure n) (w:World) (hold:(Builtin.firstCells i.size dw (.slice base dw qX)).run P w.drew = .ok W0.toArray w.drew)
  (wm:(Builtin.firstCells i.size n x).run P w.drew = .ok news.toArray w.drew) (hg:qX < dw+n) (h63:dw+n<=17592186044416) (mG:Builtin.nextslicecap (dw+n) qX * i.bytes<=281474976710656) :
  (Builtin.append_ #[t,u] ty #[.slice base dw qX,x]).run P w =
   .ok (.slice (some ⟨w.heap.size,0,none⟩) (dw+n) (grownCap w (dw+n) qX e))
    (w.drew.alloc (.cells ((W0++news).toArray++Builtin.zeroCells z.cells (grownCap w (dw+n) qX e - (dw+n))) e)):=by
 have hk:(∃ e',P.underlying u=some (.slice e'))\/P.underlying u=some .string:=by
  unfold Mi at hu;split at hu
  ·rename_i e' h; exact .inl ⟨_,h⟩
  ·rename_i h; exact .inr h
  ·simp at hu
 have hn : ¬ (dw+n<=qX):=by omega
 have aoN : ¬ (9223372036854775807 < ((dw:Int)+(n:Int))):=by omega
 have aoO : ¬ (281474976710656 < Builtin.nextslicecap (dw+n) qX * i.bytes):=by omega
 rcases hk with ⟨e',hk⟩ | hk <;>
  (simp [Builtin.append_,bo ht,bo hk,sizeOf,typeInfo,zeroValue,hi,hz,hlen,hn,aoN,aoO,Question.forced,wm,hold,newRow,grownCap]
   congr 2;apply Array.ext';simp [List.append_assoc])
theorem Zf {ρ:Ren} {A:St} {base:Nat} {w:World} (hs:vc ρ A base w) (b lo hi:Nat) (L:List Nat):iX base ρ A w ρ (A.kill b lo hi L) w:=by
 obtain ⟨Zg,kV⟩:=Lc b lo hi L A;have N3:∀ x o,(A.kill b lo hi L).get x=some o->o≠.dead->A.get x=some o:=by
  intro x o hx hd;rw [D2] at hx;split at hx
  ·simp at hx; exact absurd hx.symm hd
  ·exact hx
 have hm:∀ o:ct,o.eC=true->o≠.dead:=by intro o h e; subst e; simp [ct.eC] at h
 refine ⟨⟨.EN (fun x o hx hd=>hs.rel.obj (N3 x o hx hd) hd) (fun b1 b2 o1 o2 l1 l2 cI g1 g2 m1 m2=>hs.rel.apart b1 b2 o1 o2 l1 l2 cI (N3 _ _ g1 (hm _ m1)) (N3 _ _ g2 (hm _ m2)) m1 m2) (fun x o aO f hx hk=>?_),fun x l h=>?_,hs.size,hs.HK⟩,
  fun _ _=>rfl,.refl _ _ _,by simp,Zg,fun x _ hx=>?_,fun k _ h=>?_⟩
 ·rw [Kd]; exact hs.rel.cY x o aO f (N3 x o hx (by intro e; subst e; simp [ct.lG] at hk)) hk
 ·rw [Mn]; exact hs.jM x l h
 ·cases Classical.em ((A.kill b lo hi L).get x=A.get x) with
  | inl h=>exact h
  | inr h=>have:=kV x h; omega
 ·obtain ⟨x,o,l,hx,Om,hr,e⟩:=h
  exact ⟨x,o,l,N3 x o hx (hm _ Om),Om,hr,e⟩
theorem Le (A:St) (aO f:Nat) (cs:List Value) (n x:Nat):(A.grow aO f cs n).get x=if x=A.next then some (.row cs n true (some (aO,f))) else A.get x:=by
 simp [St.grow]
theorem AH (A:St) (aO f:Nat) (cs:List Value) (n g:Nat):(A.grow aO f cs n).members g=if g=aO then A.next::A.members aO else A.members g:=by
 simp only [St.grow,St.EK,St.jm]
theorem Zh {ρ:Ren} {A:St} {base:Nat} {w:World} {cs bM:List Value} {c:Array Value} {n aO f:Nat} (T:TypeId) (hs:vc ρ A base w) (hc:dA ρ cs bM) (h1:∀ v∈cs,scalar v=true)
  (Zi:∀ (j:Nat) (v:Value),bM[j]? = some v->c[j]? = some v) (dP:cs.length<=c.size) :
  iX base ρ A w (ρ.set A.next ⟨w.heap.size,0,c.size,n⟩) (A.grow aO f cs n) (w.alloc (.cells c T)):=by
 refine HO (o:=.row cs n true (some (aO,f))) hs (fun x=>Le _ _ _ _ _ _) (fun g x h=>?_) (fun g f' h=>?_) (by simp [St.grow]) (by simp [St.grow]) (fun x hx _=>by rw [Le,aa (by omega)]) rfl ?_
 ·rw [AH]; split
  ·rename_i e; subst e; simp [h]
  ·exact h
 ·simp [ct.lG] at h; rw [AH,h.1]; simp
 ·refine ⟨fun i v hi=>?_,fun h=>by simp at h,fun _=>hs.size,fun _ j hj=>?_,by simpa using dP,fun _ h=>by simp at h,rfl,by simp,fun _ _ j=>by simp only; rw [World.frozen?_alloc_new]⟩
  ·obtain ⟨v',h2,h3⟩:=hc.get hi
   refine ⟨v',?_,h3.mono (hs.EM _),h1 v (gi hi)⟩;rw [ba,World.cell?_alloc_new];exact Zi i v' h2
  ·simp only at hj ⊢
   rw [World.cell?_alloc_new,World.frozen?_alloc_new];refine ⟨?_,rfl⟩;rw [Array.getElem?_eq_getElem (by omega)];rfl
theorem adj {ρ:Ren} {A:St} {base:Nat} {w:World} {b gT s bm aO f:Nat} {cs eS uK new cB:List Value} {l:Loc}
  (hs:vc ρ A base w) (hg:A.get b=some (.row cs bm true (some (aO,f)))) (kE:ρ b=some l)
  (hold:dA ρ eS uK) (ho1:∀ v∈eS,scalar v=true) (hol:eS.length=s) (FM:∀ j v',uK[j]? = some v'->w.cell? ⟨l.cb,l.dv+gT+j,none⟩=some v')
  (yf:dA ρ new cB) (Ze:∀ v∈new,scalar v=true) (mG:l.dv+gT+s+new.length<=l.CH) :
  iX base ρ A w (ρ.set A.next ⟨l.cb,l.dv+gT,l.CH,bm⟩) ((A.kill A.next (f+(gT+s)) (f+(gT+s)+new.length) (A.members aO)).grow aO (f+gT) (eS++new) bm) (w.setCells l.cb (l.dv+gT+s) cB):=by
 obtain ⟨l',uN,ok⟩:=hs.rel.row _ _ _ _ _ hg;rw [kE] at uN; simp at uN; subst uN;have N1:cB.length=new.length:=yf.length;have hovl:uK.length=s:=by rw [hold.length,hol]
 have Km:b < A.next:=hs.jM b l kE;have P6:ct.eC (.row cs bm true (some (aO,f)))=true:=rfl;have hB:∀ x,((A.kill A.next (f+(gT+s)) (f+(gT+s)+new.length) (A.members aO)).grow aO (f+gT) (eS++new) bm).get x =
   if x=A.next then some (.row (eS++new) bm true (some (aO,f+gT))) else (A.kill A.next (f+(gT+s)) (f+(gT+s)+new.length) (A.members aO)).get x:=by
  intro x; rw [Le,Mn]
 have hBm:∀ g,((A.kill A.next (f+(gT+s)) (f+(gT+s)+new.length) (A.members aO)).grow aO (f+gT) (eS++new) bm).members g=if g=aO then A.next::A.members aO else A.members g:=by
  intro g; rw [AH,Mn,Kd]
 have hBn:((A.kill A.next (f+(gT+s)) (f+(gT+s)+new.length) (A.members aO)).grow aO (f+gT) (eS++new) bm).next=A.next+1:=by
  simp [St.grow]
 have hkl:=Lc A.next (f+(gT+s)) (f+(gT+s)+new.length) (A.members aO) A;have hBl:((A.kill A.next (f+(gT+s)) (f+(gT+s)+new.length) (A.members aO)).grow aO (f+gT) (eS++new) bm).low=(A.kill A.next (f+(gT+s)) (f+(gT+s)+new.length) (A.members aO)).low:=rfl;have hAK:∀ x,x≠A.next->(A.kill A.next (f+(gT+s)) (f+(gT+s)+new.length) (A.members aO)).get x=if x∈A.members aO/\rB (A.get x) (f+(gT+s)) (f+(gT+s)+new.length)=true then some .dead else A.get x:=by
  intro x hx; rw [D2]; simp [hx]
 generalize ((A.kill A.next (f+(gT+s)) (f+(gT+s)+new.length) (A.members aO)).grow aO (f+gT) (eS++new) bm)=B at hB hBm hBn hBl;generalize (A.kill A.next (f+(gT+s)) (f+(gT+s)+new.length) (A.members aO))=K at hB hBl hkl hAK;have hle:=hs.EM (⟨l.cb,l.dv+gT,l.CH,bm⟩:Loc);have oY:∀ x o,x≠A.next->B.get x=some o->o≠.dead->A.get x=some o/\(x∈A.members aO->rB (some o) (f+(gT+s)) (f+(gT+s)+new.length)=false):=by
  intro x o hx ho hd;rw [hB,aa hx,hAK x hx] at ho;split at ho
  ·simp at ho; exact absurd ho.symm hd
  ·rename_i hc
   refine ⟨ho,fun hm=>?_⟩;rw [<- ho];cases gZ:rB (A.get x) (f+(gT+s)) (f+(gT+s)+new.length) with
   | false=>rfl
   | true=>exact absurd ⟨hm,gZ⟩ hc
 have qJ:∀ x:Addr,(x.block=l.cb->x.spot=none->x.off < l.dv+gT+s\/l.dv+gT+s+cB.length<=x.off)->(w.setCells l.cb (l.dv+gT+s) cB).cell? x=w.cell? x:=
  fun x h=>World.cell?_setCells_out _ _ _ _ _ h
 have Y3:∀ x,((w.setCells l.cb (l.dv+gT+s) cB).cell? x).isSome=(w.cell? x).isSome:=fun x=>D3 _ _ _ _ _;have hfr:∀ x,(w.setCells l.cb (l.dv+gT+s) cB).frozen? x=w.frozen? x:=fun x=>World.frozen?_setCells _ _ _ _ _;have dP:(w.setCells l.cb (l.dv+gT+s) cB).heap.size=w.heap.size:=HL _ _ _ _;have hmd:∀ o:ct,o.eC=true->o≠.dead:=by intro o h e; subst e; simp [ct.eC] at h
 have vg:∀ x o l2,A.get x=some o->o.eC=true->ρ x=some l2->l2.cb=l.cb->∃ f2,o.lG=some (aO,f2)/\l2.dv+f=l.dv+f2:=by
  intro x o l2 hx hm hr Ct;by_cases Tl:x=b
  ·subst Tl
   rw [hg] at hx; simp at hx; subst hx;rw [kE] at hr; simp at hr; subst hr;exact ⟨f,rfl,rfl⟩
  ·obtain ⟨g,f1,f2,e1,e2,e3⟩:=hs.rel.apart x b _ _ l2 l Tl hx hg hm P6 hr kE Ct
   simp [ct.lG] at e2;obtain ⟨rfl,rfl⟩:=e2;exact ⟨f1,e1,e3⟩
 have Q1:∀ x kl e2 Jw tM l2,x≠A.next->B.get x=some (.row kl e2 Jw tM)->ρ x=some l2->r5 ρ base w l2 kl e2 Jw tM->∀ i,i < kl.length->
   (w.setCells l.cb (l.dv+gT+s) cB).cell? ⟨l2.cb,l2.dv+i,none⟩=w.cell? ⟨l2.cb,l2.dv+i,none⟩:=by
  intro x kl e2 Jw tM l2 hx jz akP jn i hi;refine qJ _ (fun hbl _=>?_);simp only at hbl ⊢;obtain ⟨hA,gZ⟩:=oY x _ hx jz (by simp);cases Jw with
  | false=>have h3:=jn.wX rfl; have h4:=ok.eC rfl; omega
  | true=>
   obtain ⟨f2,e1,e3⟩:=vg x _ l2 hA rfl akP hbl;simp only [ct.lG] at e1;subst e1;have hm:=hs.rel.cY x _ aO f2 hA rfl;have:=Tk rfl (gZ hm);rw [N1];omega
 refine ⟨⟨.EN ?_ ?_ ?_,?_,?_,hs.HK.mono (hs.EM _)⟩,?_,⟨(wj _ _ _ _).1,(wj _ _ _ _).2.1,(wj _ _ _ _).2.2,Nat.le_of_eq dP.symm,?_⟩,?_,?_,?_,?_⟩
 ·intro x o jz hd
  by_cases hx:x=A.next
  ·subst hx
   rw [hB,aE rfl] at jz;simp at jz;subst jz;refine ⟨_,Ren.fH _ _ _,fun i v hi=>?_,fun h=>by simp at h,fun _=>ok.eC rfl,fun _ j hj=>?_,?_,fun _ h=>by simp at h,rfl,by rw [dP]; exact ok.lH,fun _ h2 j=>by rw [hfr]; exact ok.mark rfl (by rw [ok.bm]; exact h2) j⟩
   ·have qy:dA ρ (eS++new) (uK++cB):=hold.append yf
    obtain ⟨v',h2,h3⟩:=qy.get hi;refine ⟨v',?_,h3.mono hle,?_⟩
    ·rw [List.getElem?_append] at h2
     split at h2
     ·rename_i bj
      rw [qJ _ (fun _ _=>by simp only; omega)];exact FM i v' h2
     ·rename_i hge
      have bj:i - uK.length < cB.length:=(cH.1 h2).1;have:=World.cell?_setCells_in l.cb cB (l.dv+gT+s) w (fun j hj=>(ok.there rfl (l.dv+gT+s+j) (by rw [N1] at hj; omega)).1) (i - uK.length) bj;have e:l.dv+gT+s+(i - uK.length)=l.dv+gT+i:=by omega
      rw [e] at this;rw [cK bj] at h2;exact this.trans h2
    ·rcases jJ.1 (gi hi) with h | h
     ·exact ho1 v h
     ·exact Ze v h
   ·rw [Y3,hfr]; exact ok.there rfl j hj
   ·simp only [kx,hol]; omega
  ·obtain ⟨hA,gZ⟩:=oY x o hx jz hd
   obtain ⟨l2,yr,jn⟩:=hs.rel.obj hA hd;refine ⟨l2,hle _ _ yr,?_⟩;cases o with
   | row kl e2 Jw tM=>
    have jn:r5 ρ base w l2 kl e2 Jw tM:=jn;refine ⟨fun i v hi=>?_,jn.wX,jn.eC,fun h j hj=>?_,jn.fits,jn.ends,jn.bm,by rw [dP]; exact jn.lH,fun h1 h2 j=>by rw [hfr]; exact jn.mark h1 h2 j⟩
    ·obtain ⟨v',h3,h4,h5⟩:=jn.cells i v hi
     exact ⟨v',by rw [Q1 x _ _ _ _ l2 hx jz yr jn i (cH.1 hi).1]; exact h3,h4.mono hle,h5⟩
    ·rw [Y3,hfr]; exact jn.there h j hj
   | map es=>
    have jn:Y1 ρ base w l2 es:=jn;obtain ⟨bh,clock,h3,h4⟩:=jn.lH;refine ⟨jn.eC,bh,clock,?_,h4.mono hle⟩;rw [mf]
    ·exact h3
    ·intro e
     obtain ⟨_,e1,_⟩:=vg x _ l2 hA rfl yr e;simp [ct.lG] at e1
   | iter st pos=>
    have jn:Th base w l2 st pos:=jn;refine ⟨jn.eC,jn.lH.1,?_⟩;rw [mf]
    ·exact jn.lH.2
    ·intro e
     obtain ⟨_,e1,_⟩:=vg x _ l2 hA rfl yr e;simp [ct.lG] at e1
   | dead=>exact absurd rfl hd
   | loop st0 e0 t0 ps0 a0 c0=>
    have jn:Ti ρ base w l2 st0 e0 t0 ps0 a0 c0:=jn;obtain ⟨fn,tmps,D,N,h3,h4⟩:=jn.lH;refine ⟨jn.eC,fn,tmps,D,N,?_,h4.mono hle⟩;rw [mf]
    ·exact h3
    ·intro e
     obtain ⟨_,e1,_⟩:=vg x _ l2 hA rfl yr e;simp [ct.lG] at e1
 ·intro b1 b2 o1 o2 l1 l2 cI g1 g2 m1 m2 r1 r2 Ct
  by_cases e1:b1=A.next
  ·have e2:b2≠A.next:=fun e=>cI (e1.trans e.symm)
   subst e1;rw [hB,aE rfl] at g1;simp at g1; subst g1;rw [Ren.fH] at r1; simp at r1; subst r1;rw [Ren.eD _ _ e2] at r2;obtain ⟨hA,_⟩:=oY b2 o2 e2 g2 (hmd _ m2);obtain ⟨f2,k1,k2⟩:=vg b2 o2 l2 hA m2 r2 Ct.symm;exact ⟨aO,f+gT,f2,rfl,k1,by simp only; omega⟩
  ·rw [Ren.eD _ _ e1] at r1
   obtain ⟨hA1,_⟩:=oY b1 o1 e1 g1 (hmd _ m1);by_cases e2:b2=A.next
   ·subst e2
    rw [hB,aE rfl] at g2;simp at g2; subst g2;rw [Ren.fH] at r2; simp at r2; subst r2;obtain ⟨f2,k1,k2⟩:=vg b1 o1 l1 hA1 m1 r1 Ct;exact ⟨aO,f2,f+gT,k1,rfl,by simp only; omega⟩
   ·rw [Ren.eD _ _ e2] at r2
    obtain ⟨hA2,_⟩:=oY b2 o2 e2 g2 (hmd _ m2);exact hs.rel.apart b1 b2 o1 o2 l1 l2 cI hA1 hA2 m1 m2 r1 r2 Ct
 ·intro x o g fx hx hk
  rw [hBm];by_cases e:x=A.next
  ·subst e
   rw [hB,aE rfl] at hx;simp at hx; subst hx;simp [ct.lG] at hk;rw [aE hk.1.symm];simp
  ·have:=hs.rel.cY x o g fx (oY x o e hx (by intro e; subst e; simp [ct.lG] at hk)).1 hk
   split
   ·rename_i e2; subst e2; simp [this]
   ·exact this
 ·intro x l2 h
  rw [hBn];by_cases e:x=A.next
  ·omega
  ·rw [Ren.eD _ _ e] at h; have:=hs.jM x l2 h; omega
 ·rw [dP]; exact hs.size
 ·intro x hx; exact Ren.eD _ _ (by omega)
 ·intro k hk hn
  exact mf _ (fun e=>hn ⟨b,_,l,hg,rfl,kE,e.symm⟩) _ _ _
 ·omega
 ·rw [hBl]; exact hkl.1
 ·intro x hx hxl
  rw [hB,aa (by omega)];cases Classical.em (K.get x=A.get x) with
  | inl h=>exact h
  | inr h=>have:=hkl.2 x h; omega
 ·rintro k hk ⟨x,o,l2,hx,hm,hr,rfl⟩
  by_cases e:x=A.next
  ·subst e
   rw [Ren.fH] at hr; simp at hr; subst hr;exact ⟨b,_,l,hg,rfl,kE,rfl⟩
  ·rw [Ren.eD _ _ e] at hr
   exact ⟨x,o,l2,(oY x o e hx (hmd _ hm)).1,hm,hr,rfl⟩
theorem ajL {a:Addr} (h:cL a=true):a.spot=none:=by
 unfold cL at h;simpa using h
theorem X4 (w:World) (a:Addr) (n:Nat) (cs:List Value) (h:∀ j,j < n->(w.cell? (a.add j)).isSome=true) (hr:(loadCells a n).run P w = .ok cs.toArray w) (j:Nat) (v:Value) (hj:cs[j]? = some v) :
  w.cell? (a.add j)=some v:=by
 have h1:=run_loadCells (P:=P) w a n (fun j=>(w.cell? (a.add j)).getD undef) (fun j hj=>by
  have:=h j hj;cases hc:w.cell? (a.add j) with
  | none=>rw [hc] at this; simp at this
  | some u=>rfl)
 rw [hr] at h1;simp only [Result.ok.injEq,and_true] at h1;have h2:cs=(List.range n).map fun j=>(w.cell? (a.add j)).getD undef:=by
  have:=congrArg Array.toList h1;simpa using this
 rw [h2,oW] at hj;cases hq:(List.range n)[j]? with
 | none=>rw [hq] at hj; simp at hj
 | some m=>
  rw [hq] at hj;have bj:j < n:=by have:=(cH.1 hq).1; simpa using this
  have hm:m=j:=by rw [List.getElem?_range bj] at hq; simpa using hq.symm
  subst hm;simp at hj;have:=h m bj;cases hc:w.cell? (a.add m) with
  | none=>rw [hc] at this; simp at this
  | some u=>rw [hc] at hj; simpa using hj
theorem aeG (z:Array Value) (n:Nat):(Builtin.zeroCells z n).size=n * z.size:=size_zeroCells z n
theorem Zj {ρ:Ren} {A B:St} {base:Nat} {w:World} {t u ty e:TypeId} {i:TypeInfo} {z s x s' x' v:Value} (ht:P.underlying t=some (.slice e)) (hi:P.info? e=some i) (hz:i.zero=some z) (hu:Mi P u=true)
  (hn:1<=i.size) (hzs:z.cells.size=i.size) (Ov:vc ρ A base w) (hsv:VR ρ s s') (Zk:VR ρ x x') (hf:j8 i.size i.bytes A [s,x] = some (v,B)) :
  ∃ aF v' w',(Builtin.append_ #[t,u] ty #[s',x']).run P w = .ok v' w'/\VR aF v v'/\iX base ρ A w aF B w':=by
 unfold j8 at hf;split at hf
 ·rename_i bs dw qX x0 e0
  simp at e0;obtain ⟨rfl,rfl⟩:=e0;obtain ⟨k,hk,hf⟩:=cE.1 hf;have hlen:=WZ Zk hk;have hkk:∀ m,WV x=some m->k<=m:=fun m h=>by rw [hk] at h; simp at h; omega
  cases FL:Nat.ble (dw+k) qX with
  | true=>
   rw [FL,aj] at hf;have FL:=dT FL;obtain ⟨new,yf,hf⟩:=cE.1 hf;obtain ⟨cB,h1,h2,h3,h4⟩:=EO (P:=P) Ov.rel Zk yf hkk hn;cases bs with
   | none=>
    simp at hf;obtain ⟨rfl,rfl⟩:=hf;have:=hsv.fV;subst this;have hr:=ze (P:=P) t u ty e i ht hi hu none dw qX x' k cB hlen w h4 FL;exact ⟨ρ,_,w,by rw [hr]; rfl,by simp [VR],.refl Ov⟩
   | some a=>
    simp only at hf;cases hpa:cL a with
    | false=>rw [hpa] at hf; simp at hf
    | true=>
     rw [hpa,aj] at hf;cases wV:Nat.beq k 0 with
     | true=>
      rw [wV,aj] at hf;simp at hf;obtain ⟨rfl,rfl⟩:=hf;have wV:=aK wV;obtain ⟨FJ,GV,lc,a',c',hl,vf,Kj,mG,rfl⟩:=hsv.lE;have hr:=ze (P:=P) t u ty e i ht hi hu (some a') dw c' x' k cB hlen w h4 (by omega);have Lf:cB = []:=List.eq_nil_of_length_eq_zero (by rw [h1.length,h3,wV,Nat.zero_mul]);refine ⟨ρ,.slice (some a') (dw+k) c',w,?_,?_,.refl Ov⟩
      ·rw [hr,Lf]
       rfl
      ·simp only [VR]
       exact ⟨FJ,by omega,lc,a',c',hl,vf,Kj,mG,rfl⟩
     | false=>
     rw [wV,aG] at hf;obtain ⟨B',gZ,hf⟩:=ck.1 hf;simp at hf;obtain ⟨rfl,rfl⟩:=hf;obtain ⟨FJ,GV,lc,a',c',hl,vf,Kj,mG,rfl⟩:=hsv.lE;have hr:=ze (P:=P) t u ty e i ht hi hu (some a') dw c' x' k cB hlen w h4 (by omega);obtain ⟨w',h5,h6⟩:=EL (P:=P) (a:=⟨a.block,a.off+dw * i.size,none⟩) Ov gZ hl h1;have lC:(storeCells (a'.add (dw * i.size)) cB).run P w = .ok () w':=by
      by_cases hc:c' = 0
      ·have:cB = []:=by
        apply List.eq_nil_of_length_eq_zero;rw [h1.length,h3];have:k=0:=by omega
        subst this; omega
       subst this;exact h5
      ·rw [Kj hc,kJ]
       simp only at h5;rw [GM];exact h5
     refine ⟨ρ,.slice (some a') (dw+k) c',w',?_,?_,h6⟩
     ·rw [hr]
      simp only [lC,ig]
     ·simp only [VR]
      exact ⟨FJ,FL,lc,a',c',hl,vf,Kj,mG,rfl⟩
  | false=>
   rw [FL,aG] at hf;have FL:qX < dw+k:=by
    have : ¬ (dw+k<=qX):=fun h=>by rw [Nat.ble_eq_true_of_le h] at FL; simp at FL
    omega
   cases hc:(Nat.ble ((dw+k) * i.bytes) 140737488355328&&Nat.ble (dw+k) 17592186044416&&xA A i.size qX bs) with
   | false=>rw [hc] at hf; simp at hf
   | true=>
    rw [hc,aj] at hf;simp only [ao] at hc;obtain ⟨⟨FK,wk⟩,hex⟩:=hc;have FK:=dT FK;have wk:=dT wk;have adk:(dw+k) * i.bytes<=140737488355328:=FK;obtain ⟨new,yf,hf⟩:=cE.1 hf;obtain ⟨cB,h1,h2,h3,h4⟩:=EO (P:=P) Ov.rel Zk yf hkk hn;have hdr:=iX.drew (w:=w) Ov;obtain ⟨akV,g1,g2,g3,g4⟩:=EO (P:=P) hdr.fT.rel Zk yf hkk hn;have akW:∀ (bs' : Option Addr) (c' : Nat) (W0 Vq:List Value) (aO f:Nat) (K:St),K=A\/(∃ x lo hi L,K=A.kill x lo hi L)->dA ρ W0 Vq->(∀ v∈W0,scalar v=true)->W0.length=dw * i.size->
      (Builtin.firstCells i.size dw (.slice bs' dw c')).run P w.drew = .ok Vq.toArray w.drew->c' < dw+k->
      ∃ aF v' w',(Builtin.append_ #[t,u] ty #[.slice bs' dw c',x']).run P w = .ok v' w'/\VR aF (.slice (some ⟨A.next,0,none⟩) (dw+k) (dw+k)) v'/\iX base ρ A w aF (K.grow aO f (W0++new) i.size) w':=by
     intro bs' c' W0 Vq aO f K hK ho ho1 hol lC bj;have hr:=Vp (P:=P) t u ty e i z ht hi hz hu bs' dw c' x' k Vq akV hlen w lC g4 bj wk (growslice_fits bj adk);have hge:=grownCap_ge w (dw+k) c' e;have hkg:iX base ρ A w ρ K w.drew:=by
      rcases hK with rfl | ⟨x,lo,hi,L,rfl⟩
      ·exact hdr
      ·exact (Zf Ov x lo hi L).trans (iX.drew (Zf Ov x lo hi L).fT)
     have hKn:K.next=A.next:=by
      rcases hK with rfl | ⟨x,lo,hi,L,rfl⟩
      ·rfl
      ·simp
     have Mp:((Vq++akV).toArray++Builtin.zeroCells z.cells (grownCap w (dw+k) c' e - (dw+k))).size=grownCap w (dw+k) c' e * i.size:=by
      rw [Array.size_append,aeG,hzs,List.size_toArray,kx,ho.length,g1.length,hol,g3];rw [<- Nat.add_mul,<- Nat.add_mul];congr 1; omega
     have HM:=Zh (w:=w.drew) (n:=i.size) (aO:=aO) (f:=f) (c:=(Vq++akV).toArray++Builtin.zeroCells z.cells (grownCap w (dw+k) c' e - (dw+k))) e hkg.fT (ho.append g1)
      (fun v hv=>(jJ.1 hv).elim (ho1 v) (g2 v)) (fun j v hj=>by
       rw [Array.getElem?_append_left (by have:=(cH.1 hj).1; simpa using this)];simpa using hj) (by
       rw [Mp,kx,hol,g3,<- Nat.add_mul];exact Nat.mul_le_mul_right _ hge)
     refine ⟨_,_,_,hr,?_,hkg.trans HM⟩;simp only [VR];refine ⟨trivial,aB _,_,⟨w.heap.size,0,none⟩,grownCap w (dw+k) c' e,by rw [hKn]; exact Ren.fH _ _ _,hge,fun _=>rfl,?_,rfl⟩;rw [Mp];show 0+0+grownCap w (dw+k) c' e * i.size<=grownCap w (dw+k) c' e * i.size;omega
    unfold HI at hf;cases bs with
    | none=>
     simp only at hf;cases hs0:Nat.beq dw 0 with
     | false=>rw [hs0] at hf; simp at hf
     | true=>
      rw [hs0,aj] at hf;simp at hf;obtain ⟨rfl,rfl⟩:=hf;have hs0:=aK hs0;have:=hsv.fV;subst this;have Mq:Builtin.firstCells i.size dw (.slice none dw qX)=pure #[]:=rfl;exact akW none qX [] [] A.next 0 A (.inl rfl) .nil (by simp) (by rw [hs0]; simp) (by rw [Mq]; rfl) FL
    | some a=>
     simp only at hf;cases hpa:cL a with
     | false=>rw [hpa] at hf; simp at hf
     | true=>
      rw [hpa,aj] at hf;have FJ:=ajL hpa;obtain ⟨_,GV,lc,a',c',hl,vf,Kj,mG,rfl⟩:=hsv.lE;obtain ⟨eS,hold,hf⟩:=cE.1 hf;obtain ⟨uK,q1,q2,q3,q4⟩:=zc (P:=P) hdr.fT.rel hold hl;have lC:(Builtin.firstCells i.size dw (.slice (some a') dw c')).run P w.drew = .ok uK.toArray w.drew:=by
       simp only [Builtin.firstCells];by_cases hc:c' = 0
       ·have hs0:dw=0:=by omega
        subst hs0;have Lf:eS = []:=by rw [Nat.zero_mul] at q2; exact List.eq_nil_of_length_eq_zero q2
        subst Lf;rw [q1.bX,Nat.zero_mul];exact run_loadCells_list w.drew a' [] (by simp)
       ·rw [Kj hc]; exact q4
      split at hf
      ·rename_i cs bm own bL hg
       cases hez:Nat.beq bm i.size with
       | false=>rw [hez] at hf; simp at hf
       | true=>
        rw [hez,aj] at hf;have hez:=aK hez;subst hez;obtain ⟨l2,kV,ok⟩:=Ov.rel.row _ _ _ _ _ hg;rw [hl] at kV; simp at kV; subst kV;have hle:lc.bm=i.size:=ok.bm;cases bL with
        | none=>
         simp only at hf;cases own with
         | false=>simp at hf
         | true=>
          simp at hf;obtain ⟨rfl,rfl⟩:=hf;have hxe:a.off+qX * i.size=cs.length:=by
           unfold xA at hex;simp only [hg] at hex;exact aK hex
          have hends:=ok.ends rfl rfl;have hc' : c' < dw+k:=by
           have h9:c' * i.size<=qX * i.size:=by rw [hle] at mG; omega
           have:=Nat.le_of_mul_le_mul_right h9 (by omega);omega
          exact akW (some a') c' eS uK A.next 0 A (.inl rfl) q1 q3 q2 lC hc'
        | some p=>
         obtain ⟨aO,f⟩:=p;simp only at hf;cases own with
         | false=>simp at hf
         | true=>
          simp at hf;obtain ⟨rfl,rfl⟩:=hf;by_cases hc' : c' < dw+k
          ·exact akW (some a') c' eS uK aO (f+a.off) _ (.inr ⟨_,_,_,_,rfl⟩) q1 q3 q2 lC hc'
          ·
           have cI:c'≠0:=by omega
           have ha:=Kj cI;subst ha;have hr:=ze (P:=P) t u ty e i ht hi hu (some ⟨lc.cb,lc.dv+a.off,none⟩) dw c' x' k cB hlen w h4 (by omega);have ve:lc.dv+a.off+dw * i.size+new.length<=lc.CH:=by
            rw [h3];rw [hle] at mG;have h9:(dw+k) * i.size<=c' * i.size:=Nat.mul_le_mul_right _ (by omega);rw [Nat.add_mul] at h9;omega
           have N1:cB.length=new.length:=h1.length;obtain ⟨aeH,p1,p2,p3,p4⟩:=zc (P:=P) Ov.rel hold hl;have FM:∀ (j:Nat) (v' : Value),aeH[j]? = some v'->w.cell? ⟨lc.cb,lc.dv+a.off+j,none⟩=some v':=by
            intro j v' hj;have bj:j < dw * i.size:=by have:=(cH.1 hj).1; rw [p1.length,p2] at this; exact this
            have qJ:=(ok.there rfl (lc.dv+a.off+j) (by omega)).1;have:=X4 (P:=P) w ⟨lc.cb,lc.dv+a.off,none⟩ (dw * i.size) aeH (fun j hj=>by rw [kJ]; exact (ok.there rfl (lc.dv+a.off+j) (by omega)).1) p4 j v' hj;rwa [kJ] at this
           have HM:=adj (w:=w) (gT:=a.off) (s:=dw * i.size) Ov hg hl p1 p3 p2 FM h1 h2 ve;have gZ:(storeCells ((⟨lc.cb,lc.dv+a.off,none⟩:Addr).add (dw * i.size)) cB).run P w = .ok () (w.setCells lc.cb (lc.dv+a.off+dw * i.size) cB):=by
            rw [kJ];exact run_storeCells_cells (P:=P) lc.cb (lc.dv+a.off+dw * i.size) cB 0 w (fun j hj=>(ok.there rfl _ (by rw [N1] at hj; omega)).1) (fun j hj=>(ok.there rfl _ (by rw [N1] at hj; omega)).2) (fun v CJ=>by
             obtain ⟨j,hj⟩:=List.getElem?_of_mem CJ;have bj:j < new.length:=by rw [<- N1]; exact (cH.1 hj).1
             obtain ⟨u,hu⟩:∃ u,new[j]? = some u:=⟨new[j],cK bj⟩
             obtain ⟨v2,h7,h8⟩:=h1.get hu;rw [hj] at h7; simp at h7; subst h7;exact h8.scalar (h2 u (gi hu)))
           refine ⟨_,.slice (some ⟨lc.cb,lc.dv+a.off,none⟩) (dw+k) c',_,by rw [hr]; simp only [gZ,ig],?_,HM⟩;simp only [VR];refine ⟨trivial,aB _,_,_,c',Ren.fH _ _ _,by omega,fun _=>rfl,?_,rfl⟩;show lc.dv+a.off+0+c' * i.size<=lc.CH;rw [hle] at mG;omega
      ·simp at hf
 ·simp at hf
theorem ajM {argTypes:Array TypeId} {t u:TypeId} (h:argTypes.toList = [t,u]):argTypes = #[t,u]:=by
 apply Array.ext';simpa using h
theorem ag1 {argTypes:Array TypeId} {args:Array Operand} (ho:o.op = .call ⟨.builtin .append,args,argTypes⟩):gp P o (Mj P argTypes.toList args.toList):=by
 unfold Mj;split
 ·rename_i t u uO
  split
  ·rename_i e ht
   split
   ·rename_i i hi
    split
    ·rename_i z hz
     cases hc:(Nat.ble 1 i.size&&Nat.beq z.cells.size i.size&&Mi P u) with
     | false=>exact True.intro
     | true=>
      rw [aj];simp only [ao] at hc;obtain ⟨⟨h1,h2⟩,h3⟩:=hc;intro ρ A B base w ev cF v hs he hf;have hf0:=hf;unfold j8 at hf0;split at hf0
      ·rename_i bs dw qX x e1
       have hm:=he.map;rw [e1] at hm hf;obtain ⟨s',r1,e2,hsv,hm⟩:=hm.cons_inv;obtain ⟨x',r2,e3,Zk,hm⟩:=hm.cons_inv;have:=hm.bX;subst this e3;obtain ⟨aF,v',w',h4,h5,h6⟩:=Zj (ty:=o.type) ht hi hz h3 (dT h1) (aK h2) hs hsv Zk hf;refine ⟨aF,v',.value v',w',?_,rfl,h5,h6⟩;have e4:args.map cF = #[s',x']:=by apply Array.ext'; simpa using e2
       have e5:=ajM uO;subst e5;simp only [execOp,ho,Sem.run_bind,resolve,Sem.run_pure,ig,invoke,builtin,e4,h4]
      ·simp at hf0
    ·trivial
   ·trivial
  ·trivial
 ·trivial
theorem akX {argTypes:Array TypeId} {args:Array Operand} (ho:o.op = .call ⟨.builtin .copy,args,argTypes⟩):gp P o (Tf P argTypes.toList args.toList):=by
 unfold Tf;split
 ·rename_i t rest uO
  have Nz:argTypes[0]? = some t:=by rw [<- Array.getElem?_toList,uO]; rfl
  split
  ·rename_i e ht
   split
   ·rename_i n hn
    cases Gs:Nat.ble 1 n with
    | false=>exact True.intro
    | true=>
     rw [aj];have Gs:1<=n:=dT Gs;intro ρ A B base w ev cF v hs he hf;unfold YX at hf;split at hf
     ·rename_i bs Te dCap x e1
      have hm:=he.map;rw [e1] at hm;obtain ⟨s',r1,e2,hsv,hm⟩:=hm.cons_inv;obtain ⟨x',r2,e3,Zk,hm⟩:=hm.cons_inv;have:=hm.bX;subst this e3;have e4:args.map cF = #[s',x']:=by apply Array.ext'; simpa using e2
      obtain ⟨k,hk,hf⟩:=cE.1 hf;have hlen:=WZ Zk hk;obtain ⟨new,yf,hf⟩:=cE.1 hf;obtain ⟨cB,h1,h2,h3,h4⟩:=EO (P:=P) hs.rel Zk yf (fun m h=>by rw [hk] at h; simp at h; subst h; exact Nat.min_le_left _ _) Gs;cases bs with
      | none=>
       simp at hf;obtain ⟨rfl,rfl⟩:=hf;have:=hsv.fV;subst this;refine ⟨ρ,goInt (Nat.min k Te),.value (goInt (Nat.min k Te)),w,?_,rfl,VR.of_flat rfl,.refl hs⟩;simp [execOp,ho,resolve,invoke,builtin,e4,Builtin.copy_,Nz,bo ht,hlen,oZ hn,h4]
      | some a=>
       simp only at hf;obtain ⟨B',gZ,hf⟩:=ck.1 hf;simp at hf;obtain ⟨rfl,rfl⟩:=hf;obtain ⟨FJ,GV,lc,a',c',hl,vf,Kj,mG,rfl⟩:=hsv.lE;obtain ⟨w',h5,h6⟩:=EL (P:=P) hs gZ hl h1;have lC:(storeCells a' cB).run P w = .ok () w':=by
        by_cases hc:c' = 0
        ·have:cB = []:=by
          apply List.eq_nil_of_length_eq_zero;rw [h1.length,h3];have:Te=0:=by omega
          subst this; simp
         subst this;exact h5
        ·rw [Kj hc]; exact h5
       refine ⟨ρ,goInt (Nat.min k Te),.value (goInt (Nat.min k Te)),w',?_,rfl,VR.of_flat rfl,h6⟩;simp [execOp,ho,resolve,invoke,builtin,e4,Builtin.copy_,Nz,bo ht,hlen,oZ hn,h4,lC]
     ·simp at hf
   ·trivial
  ·trivial
 ·trivial
end
end Go.aI
end
section
namespace Go.aI
open Go
section
variable {P:Program} {o:Oper}
theorem CM {ρ:Ren} {A:St} {base:Nat} {w:World} {r:Nat} {es o9:List (Value×Value)} {Fb:Array MapEntry} {EP:Nat} {l:Loc} (hs:vc ρ A base w) (hg:A.get r=some (.map es)) (kE:ρ r=some l)
  (hm:hJ ρ o9 Fb.toList):iX base ρ A w ρ (A.put r (.map o9)) { w with heap:=w.heap.setIfInBounds l.cb (.map Fb EP) }:=by
 obtain ⟨l',uN,ok⟩:=hs.rel.map _ _ hg;rw [kE] at uN; simp at uN; subst uN;obtain ⟨bh,clock,qK,_⟩:=ok.lH;have bj:l.cb < w.heap.size:=(rS.1 qK).1;have Ko:ct.eC (.map es)=true:=rfl;have hold:∀ k,k≠l.cb->(w.heap.setIfInBounds l.cb (.map Fb EP))[k]? = w.heap[k]?:=fun k hk=>by
  rw [Array.getElem?_setIfInBounds_ne (Ne.symm hk)]
 have dP:(w.heap.setIfInBounds l.cb (.map Fb EP)).size=w.heap.size:=by simp
 have hB:∀ x,(A.put r (.map o9)).get x=if x=r then some (.map o9) else A.get x:=fun x=>St.bB _ _ _ _;have hmd:∀ o:ct,o.eC=true->o≠.dead:=by intro o h e; subst e; simp [ct.eC] at h
 have Q1:∀ x o l2,x≠r->A.get x=some o->o≠.dead->ρ x=some l2->Kf ρ base w l2 o->l2.cb≠l.cb:=by
  intro x o l2 hx jz hd yr jn e;cases Zl:o.eC with
  | true=>
   obtain ⟨_,_,_,_,e1,_⟩:=hs.rel.apart x r o _ l2 l hx jz hg Zl Ko yr kE e;simp [ct.lG] at e1
  | false=>
   cases o with
   | row cs bm own bL=>
    have jn:r5 ρ base w l2 cs bm own bL:=jn;have h1:own=false:=Zl;have:=jn.wX h1;have:=ok.eC;omega
   | map _=>simp [ct.eC] at Zl
   | iter _ _=>simp [ct.eC] at Zl
   | dead=>exact hd rfl
   | loop _ _ _ _ _ _=>simp [ct.eC] at Zl
 refine ⟨⟨.EN ?_ ?_ ?_,fun b l2 h=>hs.jM b l2 h,by simpa using hs.size,hs.HK⟩,fun _ _=>rfl,⟨rfl,rfl,rfl,Nat.le_of_eq dP.symm,fun k hk hn=>hold k (fun e=>hn ⟨r,_,l,hg,Ko,kE,e.symm⟩)⟩,aB _,Nat.min_le_left _ _,fun x hx hxl=>?_,?_⟩
 ·intro x o jz hd
  rw [hB] at jz;split at jz
  ·rename_i e; subst e; simp at jz; subst jz
   refine ⟨l,kE,ok.eC,Fb,EP,?_,hm⟩;show (w.heap.setIfInBounds l.cb (.map Fb EP))[l.cb]? = _;rw [Array.getElem?_setIfInBounds_self_of_lt bj]
  ·rename_i e
   obtain ⟨l2,yr,jn⟩:=hs.rel.obj jz hd;exact ⟨l2,yr,jn.dL (Ren.le_refl _) (hold _ (Q1 x o l2 e jz hd yr jn)) (Nat.le_of_eq dP.symm)⟩
 ·have N3:∀ x o,(A.put r (.map o9)).get x=some o->o.eC=true->∃ o',A.get x=some o'/\o'.eC=true/\o'.lG=o.lG:=by
   intro x o hx hm;rw [hB] at hx;split at hx
   ·rename_i e; subst e; simp at hx; subst hx; exact ⟨_,hg,rfl,rfl⟩
   ·exact ⟨o,hx,hm,rfl⟩
  intro b1 b2 o1 o2 l1 l2 cI g1 g2 m1 m2 r1 r2 Ct;obtain ⟨p1,q1,n1,k1⟩:=N3 _ _ g1 m1;obtain ⟨p2,q2,n2,k2⟩:=N3 _ _ g2 m2;rw [<- k1,<- k2];exact hs.rel.apart b1 b2 p1 p2 l1 l2 cI q1 q2 n1 n2 r1 r2 Ct
 ·intro x o aO f jz hk
  rw [hB] at jz;split at jz
  ·rename_i e; subst e; simp at jz; subst jz; simp [ct.lG] at hk
  ·exact hs.rel.cY x o aO f jz hk
 ·rw [St.Y2] at hxl
  have:Nat.min A.low r<=r:=Nat.min_le_right _ _;rw [hB,aa (by omega)]
 ·rintro k hk ⟨x,o,l2,jz,hm,yr,rfl⟩
  rw [hB] at jz;split at jz
  ·rename_i e; subst e
   rw [kE] at yr; simp at yr; subst yr;exact ⟨x,_,l,hg,Ko,kE,rfl⟩
  ·exact ⟨x,o,l2,jz,hm,yr,rfl⟩
theorem hJ.length {ρ:Ren} : ∀ {es:List (Value×Value)} {l:List MapEntry},hJ ρ es l->l.length=es.length
 | [],l,h=>by simp only [hJ] at h; subst h; rfl
 | (k,v)::es,l,h=>by
  simp only [hJ] at h;obtain ⟨e,r,rfl,_,_,h⟩:=h;simp [hJ.length h]
theorem hJ.get {ρ:Ren} : ∀ {es:List (Value×Value)} {l:List MapEntry},hJ ρ es l->∀ (i:Nat) (k v:Value),es[i]? = some (k,v)->∃ e,l[i]? = some e/\VR ρ k e.key/\VR ρ v e.val
 | [],l,h,i,k,v,hi=>by simp at hi
 | (k,v)::es,l,h,i,k',v',hi=>by
  simp only [hJ] at h;obtain ⟨e,r,rfl,h1,h2,h⟩:=h;cases i with
  | zero=>simp at hi; obtain ⟨rfl,rfl⟩:=hi; exact ⟨e,rfl,h1,h2⟩
  | succ i=>simp at hi; simpa using hJ.get h i k' v' hi
theorem hJ.append {ρ:Ren} : ∀ {es:List (Value×Value)} {l:List MapEntry} {k v:Value} {e:MapEntry},hJ ρ es l->VR ρ k e.key->VR ρ v e.val->hJ ρ (es++[(k,v)]) (l++[e])
 | [],l,k,v,e,h,h1,h2=>by
  simp only [hJ] at h; subst h;simp only [List.nil_append,hJ];exact ⟨e,[],rfl,h1,h2,rfl⟩
 | (k0,v0)::es,l,k,v,e,h,h1,h2=>by
  simp only [hJ] at h;obtain ⟨e0,r,rfl,h3,h4,h⟩:=h;simp only [List.cons_append,hJ];exact ⟨e0,r++[e],rfl,h3,h4,hJ.append h h1 h2⟩
theorem hJ.modify {ρ:Ren} : ∀ {es:List (Value×Value)} {l:List MapEntry} {k v:Value} (f:MapEntry->MapEntry) (i:Nat),hJ ρ es l->(∀ e,VR ρ k (f e).key/\VR ρ v (f e).val)->hJ ρ (es.set i (k,v)) (l.modify i f)
 | [],l,k,v,f,i,h,_=>by simp only [hJ] at h; subst h; simp [hJ]
 | (k0,v0)::es,l,k,v,f,i,h,hf=>by
  simp only [hJ] at h;obtain ⟨e0,r,rfl,h3,h4,h⟩:=h;cases i with
  | zero=>simp only [List.set_cons_zero,List.modify_zero_cons,hJ]; exact ⟨_,r,rfl,(hf e0).1,(hf e0).2,h⟩
  | succ i=>simp only [List.set_cons_succ,List.modify_succ_cons,hJ]; exact ⟨e0,_,rfl,h3,h4,hJ.modify f i h hf⟩
theorem hJ.erase {ρ:Ren} : ∀ {es:List (Value×Value)} {l:List MapEntry} (i:Nat),hJ ρ es l->hJ ρ (es.eraseIdx i) (l.eraseIdx i)
 | [],l,i,h=>by simp only [hJ] at h; subst h; simp [hJ]
 | (k0,v0)::es,l,i,h=>by
  simp only [hJ] at h;obtain ⟨e0,r,rfl,h3,h4,h⟩:=h;cases i with
  | zero=>simpa using h
  | succ i=>simp only [List.eraseIdx_cons_succ,hJ]; exact ⟨e0,_,rfl,h3,h4,hJ.erase i h⟩
def FR (ρ:Ren):Option (Nat×Value)->Option (Nat×Value)->Prop
 | none,r=>r=none
 | some (i,v),r=>∃ v',r=some (i,v')/\VR ρ v v'
theorem Tq {ρ:Ren} (d:TypeDesc) (k:Value):∀ (es:List (Value×Value)) (l:List MapEntry) (i:Nat),hJ ρ es l->xB es=true->
  (D1 d k es i=none->Instr.findNow d k l i=none)/\∀ r,D1 d k es i=some r->∃ r',Instr.findNow d k l i=some r'/\FR ρ r r'
 | [],l,i,h,_=>by
  simp only [hJ] at h; subst h;exact ⟨fun h=>by simp [D1] at h,fun r hr=>by simp [D1] at hr; subst hr; exact ⟨none,rfl,rfl⟩⟩
 | (k0,v0)::es,l,i,h,hf=>by
  simp only [hJ] at h;obtain ⟨e0,r0,rfl,h3,h4,h⟩:=h;simp only [xB,ao] at hf;have hk:e0.key=k0:=h3.qw hf.1;have ih:=Tq d k es r0 (i+1) h hf.2;simp only [D1,Instr.findNow,hk];cases hsn:Instr.sameNow d k k0 with
  | none=>exact ⟨fun _=>rfl,fun r hr=>by simp at hr⟩
  | some b=>
   cases b with
   | true=>exact ⟨fun h=>by simp at h,fun r hr=>by simp at hr; subst hr; exact ⟨_,rfl,_,rfl,h4⟩⟩
   | false=>exact ih
theorem Tr {ρ:Ren} (kt:TypeId) (k:Value):∀ (es:List (Value×Value)) (l:List MapEntry) (i:Nat),hJ ρ es l->xB es=true->
  ∀ r,K6 P kt k es i=some r->∃ r',(∀ w,(Instr.findAsking kt k l i).run P w = .ok r' w)/\FR ρ r r'
 | [],l,i,h,_=>by
  simp only [hJ] at h; subst h;intro r hr;simp [K6] at hr; subst hr; exact ⟨none,fun w=>rfl,rfl⟩
 | (k0,v0)::es,l,i,h,hf=>by
  simp only [hJ] at h;obtain ⟨e0,r0,rfl,h3,h4,h⟩:=h;simp only [xB,ao] at hf;have hk:e0.key=k0:=h3.qw hf.1;intro r hr;simp only [K6] at hr;split at hr
  ·rename_i he
   simp at hr; subst hr;refine ⟨some (i,e0.val),fun w=>?_,_,rfl,h4⟩;simp [Instr.findAsking,hk,fE he w]
  ·rename_i he
   obtain ⟨r',h5,h6⟩:=Tr kt k es r0 (i+1) h hf.2 r hr;refine ⟨r',fun w=>?_,h6⟩;simp only [Instr.findAsking,hk,Sem.run_bind,fE he w,ig];exact h5 w
  ·simp at hr
theorem Mr {ρ:Ren} {kt:TypeId} {d:TypeDesc} {k:Value} {es:List (Value×Value)} {l:List MapEntry} {r:Option (Nat×Value)} (hd:P.underlying kt=some d) (h:hJ ρ es l) (hf:xB es=true) (hr:YY P kt d k es=some r) :
  ∃ r',(∀ w,(Instr.findKey kt k l).run P w = .ok r' w)/\FR ρ r r':=by
 have hn:=Tq d k es l 0 h hf;unfold YY at hr;split at hr
 ·rename_i q hq
  simp at hr; subst hr;obtain ⟨r',h1,h2⟩:=hn.2 _ hq;refine ⟨r',fun w=>?_,h2⟩;simp only [Instr.findKey,Sem.run_bind,bo hd,ig,h1];rfl
 ·rename_i hq
  have h1:=hn.1 hq;obtain ⟨r',h2,h3⟩:=Tr kt k es l 0 h hf r hr;refine ⟨r',fun w=>?_,h3⟩;simp only [Instr.findKey,Sem.run_bind,bo hd,ig,h1];exact h2 w
theorem GW {ρ:Ren} {kt:TypeId} {b:Bool} {k k' : Value} {es:List (Value×Value)} (h:Kb P kt b k es=true) (hk:VR ρ k k'):k' = k/\flat k=true/\xB es=true/\∀ w,(Instr.checkKey b 10000 kt k).run P w = .ok () w:=by
 unfold Kb at h;simp only [ao] at h;obtain ⟨⟨h1,h2⟩,h3⟩:=h;cases hp:cP P (Instr.checkKey b 10000 kt k) with
 | none=>rw [hp] at h3; simp at h3
 | some u=>exact ⟨hk.qw h1,h1,h2,fun w=>fE hp w⟩
theorem hJ.isEmpty {ρ:Ren} {es:List (Value×Value)} {l:Array MapEntry} (h:hJ ρ es l.toList):l.isEmpty=es.isEmpty:=by
 have:=h.length;cases es with
 | nil=>simp at this; simpa using this
 | cons e es=>simp at this; simp; intro h; rw [h] at this; simp at this
theorem VR.Ow {ρ:Ren} {r:Nat} {v:Value} (h:VR ρ (.map (some r)) v):∃ l,ρ r=some l/\v = .map (some l.cb):=by simpa only [VR] using h
theorem VR.GX {ρ:Ren} {v:Value} (h:VR ρ (.map none) v):v = .map none:=by simpa only [VR] using h
theorem VR.ab5 {ρ:Ren} {ok b:Bool} {v v' : Value} (h:VR ρ v v'):VR ρ (ab5 ok v b) (if ok then .tuple #[v',.bool b] else v'):=by
 cases ok with
 | true=>exact VR.mkTuple (.cons h (.cons (VR.of_flat rfl) .nil))
 | false=>exact h
theorem aeI {t:TypeId} {r:Option Operand} (ho:o.op = .makeMap t r):gp P o (Oj P t r):=by
 unfold Oj;split
 ·rename_i kt et hu
  intro ρ ev cF obj mk he hf;have fI:obj = .map []/\mk=fun n=>.map (some n):=by
   unfold Vg at hf;split at hf
   ·simp at hf; exact ⟨hf.1.symm,hf.2.symm⟩
   ·simp at hf; exact ⟨hf.1.symm,hf.2.symm⟩
   ·simp at hf
  obtain ⟨rfl,rfl⟩:=fI;refine ⟨.map #[] 0,fun n=>.map (some n),rfl,fun w=>?_,fun aF n cb h=>by simp only [VR]; exact ⟨_,h,rfl⟩⟩;cases r with
  | none=>simp [execOp,ho,Instr.makeMap]
  | some x=>
   have hx:=he x (by simp [eW]);unfold Vg at hf;simp only [eW,List.map] at hf;split at hf
   ·rename_i e; simp at e
   ·rename_i k n e
    simp at e;rw [e] at hx;simp [execOp,ho,Instr.makeMap,hx.cj,bo hu,asInt,asIntOf]
   ·simp at hf
 ·trivial
theorem Lg {ρ:Ren} {kt et:TypeId} {d:TypeDesc} {z v k k' : Value} {ok:Bool} {es:List (Value×Value)} {l:Array MapEntry} (hd:P.underlying kt=some d) (hz:xR P et=some z) (hzf:flat z=true)
  (hm:hJ ρ es l.toList) (hk:VR ρ k k') (h:Ml P kt d z ok k es=some v) :
  ∃ v',VR ρ v v'/\∀ w,(do
   Instr.checkKey l.isEmpty 10000 kt k'
   let (v,b) <- match <- Instr.findKey kt k' l.toList with
    | some (_,v)=>pure (v,true)
    | none=>pure (<- zeroValue et,false)
   pure (if ok then Value.tuple #[v,.bool b] else v):Sem Value).run P w = .ok v' w:=by
 unfold Ml at h;cases hc:Kb P kt es.isEmpty k es with
 | false=>rw [hc] at h; simp at h
 | true=>
  rw [hc,aj] at h;obtain ⟨rfl,_,hkf,Vl⟩:=GW hc hk;obtain ⟨r,hr,rfl⟩:=ck.1 h;obtain ⟨r',h1,h2⟩:=Mr hd hm hkf hr;rw [hm.isEmpty];cases r with
  | none=>
   have h2:r' = none:=h2;subst h2;refine ⟨_,VR.ab5 (VR.of_flat hzf),fun w=>?_⟩;simp [Vl,h1,P7 hz]
  | some p=>
   obtain ⟨i,u⟩:=p;obtain ⟨u',rfl,h3⟩:=h2;refine ⟨_,VR.ab5 h3,fun w=>?_⟩;simp [Vl,h1]
theorem ag2 {t:TypeId} {x ix:Operand} {ok:Bool} (ho:o.op = .lookup t x ix ok):gp P o (RQ P t x ix ok):=by
 unfold RQ;split
 ·rename_i kt et hu
  split
  ·rename_i d z hd hz
   cases hzf:flat z with
   | false=>exact True.intro
   | true=>
    rw [aj];intro ρ A base w ev cF v hs he hf;have hx:=he x (by simp);have hk:=he ix (by simp);simp only [List.map] at hf;unfold aey at hf;split at hf
    ·rename_i k e
     simp at e;obtain ⟨e1,e2⟩:=e;rw [e1] at hx;have hx:=hx.GX;rw [<- e2] at hf;obtain ⟨v',h1,h2⟩:=Lg (ρ:=ρ) (l:=#[]) hd hz hzf (by simp [hJ]) hk hf;refine ⟨v',h1,?_⟩;have h2:=h2 w;simp only [execOp,ho,Instr.lookup,Sem.run_bind,bo hu,ig,hx,Sem.run_pure] at h2 ⊢;exact congrArg (fun r:Result Value=>r.andThen fun a w'=>Result.ok (Next.value a) w') h2
    ·rename_i r k e
     simp at e;obtain ⟨e1,e2⟩:=e;rw [e1] at hx;rw [<- e2] at hf;obtain ⟨lc,hl,hx⟩:=hx.Ow;split at hf
     ·rename_i es hg
      obtain ⟨l2,kV,jn⟩:=hs.map _ _ hg;rw [hl] at kV; simp at kV; subst kV;obtain ⟨bh,clock,qK,hm⟩:=jn.lH;obtain ⟨v',h1,h2⟩:=Lg (l:=bh) hd hz hzf hm hk hf;refine ⟨v',h1,?_⟩;have h2:=h2 w;simp only [execOp,ho,Instr.lookup,Sem.run_bind,bo hu,ig,hx,MapKept.run_getObj_map qK,Sem.run_pure] at h2 ⊢;exact congrArg (fun r:Result Value=>r.andThen fun a w'=>Result.ok (Next.value a) w') h2
     ·simp at hf
    ·simp at hf
  ·trivial
 ·trivial
theorem Ts {ρ:Ren} {A B:St} {base:Nat} {w:World} {t kt et:TypeId} {d:TypeDesc} {m k x m' k' x' v:Value} (hu:P.underlying t=some (.map kt et)) (hd:P.underlying kt=some d) (hs:vc ρ A base w)
  (hm:VR ρ m m') (hk:VR ρ k k') (hx:VR ρ x x') (h:Oi P kt d A [m,k,x] = some (v,B)):v=undef/\∃ w',(Instr.mapUpdate t m' k' x').run P w = .ok () w'/\iX base ρ A w ρ B w':=by
 unfold Oi at h;split at h
 ·rename_i r k0 x0 e
  simp at e;obtain ⟨rfl,rfl,rfl⟩:=e;obtain ⟨lc,hl,rfl⟩:=hm.Ow;split at h
  ·rename_i es hg
   obtain ⟨l2,kV,jn⟩:=hs.rel.map _ _ hg;rw [hl] at kV; simp at kV; subst kV;obtain ⟨bh,clock,qK,Vr⟩:=jn.lH;cases hc:Kb P kt false k es with
   | false=>rw [hc] at h; simp at h
   | true=>
    rw [hc,aj] at h;obtain ⟨rfl,hkf0,hkf,Vl⟩:=GW hc hk;obtain ⟨q,hq,h⟩:=cE.1 h;obtain ⟨r',h1,h2⟩:=Mr hd Vr hkf hq;cases q with
    | none=>
     have h2:r' = none:=h2;subst h2;simp at h;obtain ⟨rfl,rfl⟩:=h;refine ⟨rfl,_,?_,CM (Fb:=bh.push { key:=k',val:=x',born:=clock }) (EP:=clock+1) hs hg hl (by rw [Array.toList_push]; exact Vr.append hk hx)⟩;simp [Instr.mapUpdate,bo hu,MapKept.run_getObj_map qK,Vl,h1,MapKept.run_setObj_map _ qK]
    | some p=>
     obtain ⟨i,u⟩:=p;obtain ⟨u',rfl,h3⟩:=h2;simp only at h;cases hsb:Instr.sameBits 10000 (ac9 es i k') k' with
     | false=>rw [hsb] at h; simp at h
     | true=>
      rw [hsb] at h;simp at h;obtain ⟨rfl,rfl⟩:=h;have hold:((bh[i]?).map (·.key)).getD k' = ac9 es i k':=by
       unfold ac9;cases hi:es[i]? with
       | none=>
        have:bh[i]? = none:=by
         rw [Array.getElem?_eq_none_iff];have:=Yo.1 hi;rw [<- Array.length_toList,Vr.length]; exact this
        rw [this]; rfl
       | some p=>
        obtain ⟨k1,v1⟩:=p;obtain ⟨e,h5,h6,h7⟩:=Vr.get i k1 v1 hi;have h5' : bh[i]? = some e:=by simpa using h5
        have tN:flat k1=true:=by
         have key:∀ (es:List (Value×Value)) (i:Nat),xB es=true->es[i]? = some (k1,v1)->flat k1=true:=by
          intro es
          induction es with
          | nil=>intro i _ h; simp at h
          | cons e es ih=>
           intro i hk h;simp only [xB,ao] at hk;cases i with
           | zero=>simp at h; subst h; exact hk.1
           | succ i=>exact ih i hk.2 (by simpa using h)
         exact key es i hkf hi
        rw [h5'];simp only [Option.map_some,fv];exact h6.qw tN
      refine ⟨rfl,_,?_,CM (Fb:=bh.modify i fun e=>{ e with key:=k',val:=x' }) (EP:=clock) hs hg hl (by rw [Array.toList_modify]; exact Vr.modify _ i fun e=>⟨hk,hx⟩)⟩;simp [Instr.mapUpdate,bo hu,MapKept.run_getObj_map qK,Vl,h1,hold,Instr.keyThatStays,hsb,MapKept.run_setObj_map _ qK]
  ·simp at h
 ·simp at h
theorem Q6 {t:TypeId} {m k x:Operand} (ho:o.op = .mapUpdate t m k x\/o.op = .insert t m k x):gp P o (EI P t m k x):=by
 unfold EI;split
 ·rename_i kt et hu
  split
  ·rename_i d hd
   intro ρ A B base w ev cF v hs he hf;simp only [List.map] at hf;obtain ⟨rfl,w',h1,h2⟩:=Ts hu hd hs (he m (by simp)) (he k (by simp)) (he x (by simp)) hf;refine ⟨ρ,undef,.skip,w',?_,rfl,VR.of_flat (by simp [undef,flat,Ma,yv]),h2⟩;rcases ho with ho | ho <;> simp [execOp,ho,h1]
  ·trivial
 ·trivial
theorem yx:flat ki=true:=rfl
theorem ag3 {argTypes:Array TypeId} {args:Array Operand} (ho:o.op = .call ⟨.builtin .delete,args,argTypes⟩):gp P o (RR P argTypes.toList args.toList):=by
 unfold RR;split
 ·rename_i t rest uO
  have Nz:argTypes[0]? = some t:=by rw [<- Array.getElem?_toList,uO]; rfl
  split
  ·rename_i kt et hu
   split
   ·rename_i d hd
    intro ρ A B base w ev cF v hs he hf;have hm:=he.map;unfold aez at hf;split at hf
    ·rename_i k e1
     rw [e1] at hm;obtain ⟨m',r1,e2,Zm,hm⟩:=hm.cons_inv;obtain ⟨k',r2,e3,hkv,hm⟩:=hm.cons_inv;have:=hm.bX;subst this e3;have e4:args.map cF = #[m',k']:=by apply Array.ext'; simpa using e2
     have:=Zm.GX;subst this;cases hc:Kb P kt true k [] with
     | false=>rw [hc] at hf; simp at hf
     | true=>
      rw [hc] at hf;simp at hf;obtain ⟨rfl,rfl⟩:=hf;obtain ⟨rfl,_,hkf,Vl⟩:=GW hc hkv;refine ⟨ρ,ki,.value ki,w,?_,rfl,VR.of_flat yx,.refl hs⟩;simp [execOp,ho,resolve,invoke,builtin,e4,Builtin.delete_,Nz,bo hu,Vl,ki]
    ·rename_i r k e1
     rw [e1] at hm;obtain ⟨m',r1,e2,Zm,hm⟩:=hm.cons_inv;obtain ⟨k',r2,e3,hkv,hm⟩:=hm.cons_inv;have:=hm.bX;subst this e3;have e4:args.map cF = #[m',k']:=by apply Array.ext'; simpa using e2
     obtain ⟨lc,hl,rfl⟩:=Zm.Ow;split at hf
     ·rename_i es hg
      obtain ⟨l2,kV,jn⟩:=hs.rel.map _ _ hg;rw [hl] at kV; simp at kV; subst kV;obtain ⟨bh,clock,qK,Vr⟩:=jn.lH;cases hc:Kb P kt es.isEmpty k es with
      | false=>rw [hc] at hf; simp at hf
      | true=>
       rw [hc,aj] at hf;obtain ⟨rfl,_,hkf,Vl⟩:=GW hc hkv;obtain ⟨q,hq,Lh⟩:=ck.1 hf;obtain ⟨r',h1,h2⟩:=Mr hd Vr hkf hq;rw [<- Vr.isEmpty] at Vl;cases q with
       | none=>
        have h2:r' = none:=h2;subst h2;simp at Lh;obtain ⟨rfl,rfl⟩:=Lh;refine ⟨ρ,ki,.value ki,_,?_,rfl,VR.of_flat yx,CM (Fb:=bh) (EP:=clock) hs hg hl Vr⟩;simp [execOp,ho,resolve,invoke,builtin,e4,Builtin.delete_,Nz,bo hu,MapKept.run_getObj_map qK,Vl,h1,MapKept.run_setObj_map _ qK,ki]
       | some p=>
        obtain ⟨i,u⟩:=p;obtain ⟨u',rfl,h3⟩:=h2;simp at Lh;obtain ⟨rfl,rfl⟩:=Lh;refine ⟨ρ,ki,.value ki,_,?_,rfl,VR.of_flat yx,CM (Fb:=bh.eraseIdxIfInBounds i) (EP:=clock) hs hg hl (by rw [Array.toList_eraseIdxIfInBounds]; exact Vr.erase i)⟩;simp [execOp,ho,resolve,invoke,builtin,e4,Builtin.delete_,Nz,bo hu,MapKept.run_getObj_map qK,Vl,h1,MapKept.run_setObj_map _ qK,ki]
     ·simp at hf
    ·simp at hf
   ·trivial
  ·trivial
 ·trivial
theorem ajN {argTypes:Array TypeId} {args:Array Operand} (ho:o.op = .call ⟨.builtin .clear,args,argTypes⟩):gp P o (Vh P argTypes.toList args.toList):=by
 unfold Vh;split
 ·rename_i t uO
  have Nz:argTypes[0]? = some t:=by rw [<- Array.getElem?_toList,uO]; rfl
  split
  ·rename_i kt et hu
   intro ρ A B base w ev cF v hs he hf;have hm:=he.map;unfold YZ at hf;split at hf
   ·rename_i e1
    simp at hf;obtain ⟨rfl,rfl⟩:=hf;rw [e1] at hm;obtain ⟨m',r1,e2,Zm,hm⟩:=hm.cons_inv;have:=hm.bX;subst this;have e4:args.map cF = #[m']:=by apply Array.ext'; simpa using e2
    have:=Zm.GX;subst this;refine ⟨ρ,ki,.value ki,w,?_,rfl,VR.of_flat yx,.refl hs⟩;simp [execOp,ho,resolve,invoke,builtin,e4,Builtin.clear_,Nz,bo hu,ki]
   ·rename_i r e1
    rw [e1] at hm;obtain ⟨m',r1,e2,Zm,hm⟩:=hm.cons_inv;have:=hm.bX;subst this;have e4:args.map cF = #[m']:=by apply Array.ext'; simpa using e2
    obtain ⟨lc,hl,rfl⟩:=Zm.Ow;split at hf
    ·rename_i es hg
     simp at hf;obtain ⟨rfl,rfl⟩:=hf;obtain ⟨l2,kV,jn⟩:=hs.rel.map _ _ hg;rw [hl] at kV; simp at kV; subst kV;obtain ⟨bh,clock,qK,Vr⟩:=jn.lH;refine ⟨ρ,ki,.value ki,_,?_,rfl,VR.of_flat yx,CM (Fb:=#[]) (EP:=clock) hs hg hl rfl⟩;simp [execOp,ho,resolve,invoke,builtin,e4,Builtin.clear_,Nz,bo hu,MapKept.run_getObj_map qK,MapKept.run_setObj_map _ qK,ki]
    ·simp at hf
   ·simp at hf
  ·rename_i e hu
   split
   ·rename_i z hz
    cases hzc:(flat z&&Nat.ble 1 z.cells.size) with
    | false=>exact True.intro
    | true=>
     rw [aj];obtain ⟨Kh,Cu⟩:=Bool.and_eq_true_iff.1 hzc;have Cu:=dT Cu;intro ρ A B base w ev cF v hs he hf;have hm:=he.map;unfold ab6 at hf;split at hf
     ·rename_i n c e1
      simp at hf;obtain ⟨rfl,rfl⟩:=hf;rw [e1] at hm;obtain ⟨m',r1,e2,Zm,hm⟩:=hm.cons_inv;have:=hm.bX;subst this;have e4:args.map cF = #[m']:=by apply Array.ext'; simpa using e2
      have:=Zm.fV;subst this;refine ⟨ρ,ki,.value ki,w,?_,rfl,VR.of_flat yx,.refl hs⟩;simp [execOp,ho,resolve,invoke,builtin,e4,Builtin.clear_,Nz,bo hu,ki]
     ·rename_i a n c e1
      rw [e1] at hm;obtain ⟨m',r1,e2,Zm,hm⟩:=hm.cons_inv;have:=hm.bX;subst this;have e4:args.map cF = #[m']:=by apply Array.ext'; simpa using e2
      obtain ⟨FJ,GV,lc,a',c',hl,vf,Kj,mG,rfl⟩:=Zm.lE;cases hn:Nat.beq n 0 with
      | true=>
       rw [hn] at hf;simp at hf;obtain ⟨rfl,rfl⟩:=hf;have:=aK hn;subst this;refine ⟨ρ,ki,.value ki,w,?_,rfl,VR.of_flat yx,.refl hs⟩;simp [execOp,ho,resolve,invoke,builtin,e4,Builtin.clear_,Nz,bo hu,ki]
      | false=>
       rw [hn,aG] at hf;have hn0:=Nat.ne_of_beq_eq_false hn;obtain ⟨B',gZ,hf⟩:=ck.1 hf;simp at hf;obtain ⟨rfl,rfl⟩:=hf;obtain ⟨w',h5,h6⟩:=EL (P:=P) hs gZ hl ((Jy Kh).repeat n);have:=Kj (by omega);subst this;have e5:Builtin.zeroCells z.cells n=⟨fw z.cells.toList n⟩:=RV z.cells n Cu;refine ⟨ρ,ki,.value ki,w',?_,rfl,VR.of_flat yx,h6⟩;obtain ⟨m,rfl⟩:=Nat.exists_eq_succ_of_ne_zero hn0;simp [execOp,ho,resolve,invoke,builtin,e4,Builtin.clear_,Nz,bo hu,P7 hz,e5,h5,ki]
     ·simp at hf
   ·trivial
  ·trivial
 ·trivial
theorem amG {argTypes:Array TypeId} {args:Array Operand} (ho:o.op = .call ⟨.builtin .len,args,argTypes⟩):gp P o (Ys P argTypes.toList args.toList):=by
 unfold Ys;split
 ·rename_i t et
  have uO:argTypes[0]? = some t:=by rw [<- Array.getElem?_toList,et]; rfl
  split
  ·rename_i e hu; exact ajJ ho uO hu
  ·rename_i hu; exact ag0 ho uO hu
  ·rename_i kt et' hu
   intro ρ A base w ev cF v hs he hf;have hm:=he.map;unfold aeA at hf;split at hf
   ·rename_i e1
    rw [e1] at hm;obtain ⟨y,ys,e2,h1,h2⟩:=hm.cons_inv;have:=h2.bX;subst this;simp at hf; subst hf;have:=h1.GX;subst this;refine ⟨_,VR.of_flat rfl,?_⟩;have e3:(args.map cF)[0]? = some (.map none):=by rw [oH,e2]; rfl
    simp [execOp,ho,resolve,invoke,builtin,Builtin.len_,uO,e3,bo hu,goInt]
   ·rename_i r e1
    rw [e1] at hm;obtain ⟨y,ys,e2,h1,h2⟩:=hm.cons_inv;have:=h2.bX;subst this;obtain ⟨lc,hl,rfl⟩:=h1.Ow;split at hf
    ·rename_i es hg
     simp at hf; subst hf;obtain ⟨l2,kV,jn⟩:=hs.map _ _ hg;rw [hl] at kV; simp at kV; subst kV;obtain ⟨bh,clock,qK,Vr⟩:=jn.lH;refine ⟨_,VR.of_flat rfl,?_⟩;have e3:(args.map cF)[0]? = some (.map (some lc.cb)):=by rw [oH,e2]; rfl
     have dP:bh.size=es.length:=by rw [<- Array.length_toList,Vr.length]
     simp [execOp,ho,resolve,invoke,builtin,Builtin.len_,uO,e3,bo hu,goInt,MapKept.run_getObj_map qK,dP]
    ·simp at hf
   ·simp at hf
  ·trivial
 ·trivial
end
end Go.aI
end
section
namespace Go.aI
open Go
section
variable {P:Program} {o:Oper}
theorem adl {l:List UInt8} : ∀ {cs:List Value},Ju cs=some l->cs=kH l:=by
 intro cs
 induction cs generalizing l with
 | nil=>intro h; simp [Ju] at h; subst h; rfl
 | cons c cs ih=>
  intro h;cases c with
  | int k n=>
   cases k <;> cases n <;> simp only [Ju] at h <;> try (simp at h; done)
   rename_i m;cases hb:Nat.blt m 256 with
   | false=>rw [hb] at h; simp at h
   | true=>
    rw [hb,aj] at h;obtain ⟨r,hr,rfl⟩:=ck.1 h;rw [bG] at hb;rw [ih hr];simp only [kH,List.map_cons,List.cons.injEq,and_true];have:(UInt8.ofNat m).toNat=m:=by simp; omega
    rw [this];rfl
  | _=>simp [Ju] at h
theorem abG {ρ:Ren} (l:List UInt8):dA ρ (kH l) (kH l):=by
 induction l with
 | nil=>exact .nil
 | cons x l ih=>exact .cons (by simp [VR]) ih
theorem Ox:∀ (l:List UInt8),yv (kH l)=true
 | []=>rfl
 | x::l=>by show (true&&yv (kH l))=true; rw [Ox l]; rfl
theorem Zn {e:TypeId} (h:isByte P e=true):P.underlying e=some (.int .u8):=by
 unfold isByte at h;split at h
 ·rename_i h'; exact h'
 ·simp at h
theorem X5 {ρ:Ren} {A:St} {base:Nat} {w:World} {cs bM:List Value} {c:Array Value} {n aO f:Nat} {fr:Nat×Nat} (T:TypeId) (Ze:n=1) (hs:vc ρ A base w) (hc:dA ρ cs bM) (h1:∀ v∈cs,scalar v=true)
  (Zi:∀ (j:Nat) (v:Value),bM[j]? = some v->c[j]? = some v) (dP:cs.length<=c.size) (hfr:c.size<=fr.1) :
  iX base ρ A w (ρ.set A.next ⟨w.heap.size,0,c.size,n⟩) (A.grow aO f cs n) (w.alloc (.cells c T fr)):=by
 refine HO (o:=.row cs n true (some (aO,f))) hs (fun x=>Le _ _ _ _ _ _) (fun g x h=>?_) (fun g f' h=>?_) (by simp [St.grow]) (by simp [St.grow]) (fun x hx _=>by rw [Le,aa (by omega)]) rfl ?_
 ·rw [AH]; split
  ·rename_i e; subst e; simp [h]
  ·exact h
 ·simp [ct.lG] at h; rw [AH,h.1]; simp
 ·refine ⟨fun i v hi=>?_,fun h=>by simp at h,fun _=>hs.size,fun _ j hj=>?_,by simpa using dP,fun _ h=>by simp at h,rfl,by simp,fun _ h=>absurd Ze h⟩
  ·obtain ⟨v',h2,h3⟩:=hc.get hi
   refine ⟨v',?_,h3.mono (hs.EM _),h1 v (gi hi)⟩;rw [ba,World.cell?_alloc_mark];exact Zi i v' h2
  ·simp only at hj ⊢
   rw [World.cell?_alloc_mark];refine ⟨?_,?_⟩
   ·rw [Array.getElem?_eq_getElem (by omega)]
    rfl
   ·have:(w.alloc (.cells c T fr)).heap[w.heap.size]? = some (.cells c T fr):=by
     show (w.heap.push (.cells c T fr))[w.heap.size]? = _;simp
    simp only [World.frozen?,this];have Ab : ¬ (fr.1<=j):=by omega
    simp [Ab]
theorem Vs {ρ:Ren} {A:St} {base:Nat} {w:World} {src dst e:TypeId} {x x' v:Value} (hs:Rel ρ A.get A.members base w) (h1:P.underlying src=some (.slice e)) (h2:P.underlying dst=some .string) (he:P.underlying e=some (.int .u8))
  (hx:VR ρ x x') (h:HJ A [x] = some v):VR ρ v v/\(convert src dst x').run P w = .ok v w:=by
 unfold HJ at h;split at h
 ·rename_i n c e1
  simp at e1; subst e1;simp at h; subst h;have:=hx.fV;subst this;refine ⟨VR.of_flat rfl,?_⟩;rw [run_convert_bytes_string w src dst e none n c h1 he h2];rfl
 ·rename_i a n c e1
  simp at e1; subst e1;obtain ⟨l,hl,rfl⟩:=ck.1 h;obtain ⟨cs,Ki,hb⟩:=cE.1 hl;have:=adl hb;subst this;obtain ⟨FJ,GV,lc,a',c',kE,vf,Kj,mG,rfl⟩:=hx.lE;obtain ⟨bM,q1,q2,q3,q4⟩:=zc (P:=P) hs Ki kE;have akY:bM=kH l:=q1.qw (Ox l);subst akY;have hlen:l.length=n:=by simpa [kH] using q2
  refine ⟨VR.of_flat rfl,?_⟩;rw [run_convert_bytes_string w src dst e (some a') n c' h1 he h2];have FN:(loadCells a' n).run P w = .ok (kH l).toArray w:=by
   by_cases hc:c' = 0
   ·have hn0:n=0:=by omega
    subst hn0;have:l = []:=List.eq_nil_of_length_eq_zero hlen;subst this;exact run_loadCells_list w a' [] (by simp)
   ·rw [Kj hc]; exact q4
  have wk:kH l=(l.map (fun b=>(b.toNat:Int))).map (Value.int .u8):=by simp [kH]
  rw [wk] at FN;rw [run_bytesToString w a' n c' _ FN,foldl_push_byteCells];have Zo:ByteArray.empty.data = #[]:=rfl;rw [Zo];simp
 ·simp at h
theorem Vt {ρ:Ren} {A B:St} {base:Nat} {w:World} {src dst e:TypeId} {x x' v:Value} (hs:vc ρ A base w) (h1:P.underlying src=some .string) (h2:P.underlying dst=some (.slice e)) (he:P.underlying e=some (.int .u8))
  (hx:VR ρ x x') (h:Mm A [x] = some (v,B)):∃ aF v' w',(convert src dst x').run P w = .ok v' w'/\VR aF v v'/\iX base ρ A w aF B w':=by
 unfold Mm at h;split at h
 ·rename_i s e1
  simp at e1; subst e1;simp at h;obtain ⟨rfl,rfl⟩:=h;have:=hx.qZ;subst this;have hr:=run_bytes_of_string (P:=P) w src dst e s h1 h2 he;have hge:=grownCap_ge w s.size 0 e;have hds:s.data.size=s.size:=rfl;have Mp:(bytesRow s (grownCap w s.size 0 e)).size=grownCap w s.size 0 e:=by
   unfold bytesRow;simp [hds];omega
  have hdr:=iX.drew (w:=w) hs;have HM:=X5 (w:=w.drew) (n:=1) (aO:=A.next) (f:=0) (c:=bytesRow s (grownCap w s.size 0 e)) (fr:=((bytesRow s (grownCap w s.size 0 e)).size,(bytesRow s (grownCap w s.size 0 e)).size+1)) e rfl hdr.fT
   (abG s.data.toList) (fun v hv=>by
    obtain ⟨b,_,rfl⟩:=GL.1 hv;rfl) (fun j v hj=>by
    unfold bytesRow;have bj:j < s.data.size:=by
     have:=(cH.1 hj).1;simpa [kH] using this
    rw [Array.getElem?_append_left (by simpa using bj)];simpa [kH] using hj) (by rw [Mp]; simp [kH,hds]; exact hge) (aB _)
  refine ⟨_,_,_,hr,?_,hdr.trans HM⟩;simp only [VR];refine ⟨trivial,aB _,_,⟨w.heap.size,0,none⟩,grownCap w s.size 0 e,Ren.fH _ _ _,hge,fun _=>rfl,?_,rfl⟩;rw [Mp];show 0+0+grownCap w s.size 0 e * 1<=grownCap w s.size 0 e;omega
 ·simp at h
theorem akZ {src dst:TypeId} {x:Operand} (ho:o.op = .convert src dst x):gp P o (E9 P src dst x):=by
 unfold E9;split
 ·rename_i e h1 h2
  cases hb:isByte P e with
  | false=>exact True.intro
  | true=>
   rw [aj];intro ρ A base w ev cF v hs he hf;obtain ⟨h3,h4⟩:=Vs hs h1 h2 (Zn hb) (he x (by simp)) hf;exact ⟨v,h3,by simp [execOp,ho,h4]⟩
 ·rename_i e h1 h2
  cases hb:isByte P e with
  | false=>exact True.intro
  | true=>
   rw [aj];intro ρ A B base w ev cF v hs he hf;obtain ⟨aF,v',w',h3,h4,h5⟩:=Vt hs h1 h2 (Zn hb) (he x (by simp)) hf;exact ⟨aF,v',.value v',w',by simp [execOp,ho,h3],rfl,h4,h5⟩
 ·rename_i h1 h2
  intro ρ ev cF v he hf;simp only [List.map] at hf;unfold Y0 at hf;split at hf
  ·rename_i s e
   simp at e hf;subst hf;have hx:=he x (by simp);rw [e] at hx;refine ⟨_,VR.of_flat rfl,fun w=>?_⟩;simp [execOp,ho,convert,bo h1,bo h2,hx.qZ]
  ·simp at hf
 ·exact aeE ho
theorem abH {ρ:Ren} {A:St} {base:Nat} {w:World} {r:Nat} {s:List UInt8} {pos Tt:Nat} {l:Loc} (hs:vc ρ A base w) (hg:A.get r=some (.iter s pos)) (kE:ρ r=some l) :
  iX base ρ A w ρ (A.put r (.iter s Tt)) { w with heap:=w.heap.setIfInBounds l.cb (.stringIter ⟨⟨s⟩⟩ Tt) }:=by
 obtain ⟨l',uN,ok⟩:=hs.rel.iter _ _ _ hg;rw [kE] at uN; simp at uN; subst uN;obtain ⟨NA,qK⟩:=ok.lH;have bj:l.cb < w.heap.size:=(rS.1 qK).1;have Ko:ct.eC (.iter s pos)=true:=rfl;have hold:∀ k,k≠l.cb->(w.heap.setIfInBounds l.cb (.stringIter ⟨⟨s⟩⟩ Tt))[k]? = w.heap[k]?:=fun k hk=>by
  rw [Array.getElem?_setIfInBounds_ne (Ne.symm hk)]
 have dP:(w.heap.setIfInBounds l.cb (.stringIter ⟨⟨s⟩⟩ Tt)).size=w.heap.size:=by simp
 have hB:∀ x,(A.put r (.iter s Tt)).get x=if x=r then some (.iter s Tt) else A.get x:=fun x=>St.bB _ _ _ _;have hmd:∀ o:ct,o.eC=true->o≠.dead:=by intro o h e; subst e; simp [ct.eC] at h
 have Q1:∀ x o l2,x≠r->A.get x=some o->o≠.dead->ρ x=some l2->Kf ρ base w l2 o->l2.cb≠l.cb:=by
  intro x o l2 hx jz hd yr jn e;cases Zl:o.eC with
  | true=>
   obtain ⟨_,_,_,_,e1,_⟩:=hs.rel.apart x r o _ l2 l hx jz hg Zl Ko yr kE e;simp [ct.lG] at e1
  | false=>
   cases o with
   | row cs bm own bL=>
    have jn:r5 ρ base w l2 cs bm own bL:=jn;have h1:own=false:=Zl;have:=jn.wX h1;have:=ok.eC;omega
   | map _=>simp [ct.eC] at Zl
   | iter _ _=>simp [ct.eC] at Zl
   | dead=>exact hd rfl
   | loop _ _ _ _ _ _=>simp [ct.eC] at Zl
 refine ⟨⟨.EN ?_ ?_ ?_,fun b l2 h=>hs.jM b l2 h,by simpa using hs.size,hs.HK⟩,fun _ _=>rfl,⟨rfl,rfl,rfl,Nat.le_of_eq dP.symm,fun k hk hn=>hold k (fun e=>hn ⟨r,_,l,hg,Ko,kE,e.symm⟩)⟩,aB _,Nat.min_le_left _ _,fun x hx hxl=>?_,?_⟩
 ·intro x o jz hd
  rw [hB] at jz;split at jz
  ·rename_i e; subst e; simp at jz; subst jz
   refine ⟨l,kE,ok.eC,NA,?_⟩;show (w.heap.setIfInBounds l.cb (.stringIter ⟨⟨s⟩⟩ Tt))[l.cb]? = _;rw [Array.getElem?_setIfInBounds_self_of_lt bj]
  ·rename_i e
   obtain ⟨l2,yr,jn⟩:=hs.rel.obj jz hd;exact ⟨l2,yr,jn.dL (Ren.le_refl _) (hold _ (Q1 x o l2 e jz hd yr jn)) (Nat.le_of_eq dP.symm)⟩
 ·have N3:∀ x o,(A.put r (.iter s Tt)).get x=some o->o.eC=true->∃ o',A.get x=some o'/\o'.eC=true/\o'.lG=o.lG:=by
   intro x o hx hm;rw [hB] at hx;split at hx
   ·rename_i e; subst e; simp at hx; subst hx; exact ⟨_,hg,rfl,rfl⟩
   ·exact ⟨o,hx,hm,rfl⟩
  intro b1 b2 o1 o2 l1 l2 cI g1 g2 m1 m2 r1 r2 Ct;obtain ⟨p1,q1,n1,k1⟩:=N3 _ _ g1 m1;obtain ⟨p2,q2,n2,k2⟩:=N3 _ _ g2 m2;rw [<- k1,<- k2];exact hs.rel.apart b1 b2 p1 p2 l1 l2 cI q1 q2 n1 n2 r1 r2 Ct
 ·intro x o aO f jz hk
  rw [hB] at jz;split at jz
  ·rename_i e; subst e; simp at jz; subst jz; simp [ct.lG] at hk
  ·exact hs.rel.cY x o aO f jz hk
 ·rw [St.Y2] at hxl
  have:Nat.min A.low r<=r:=Nat.min_le_right _ _;rw [hB,aa (by omega)]
 ·rintro k hk ⟨x,o,l2,jz,hm,yr,rfl⟩
  rw [hB] at jz;split at jz
  ·rename_i e; subst e
   rw [kE] at yr; simp at yr; subst yr;exact ⟨x,_,l,hg,Ko,kE,rfl⟩
  ·exact ⟨x,o,l2,jz,hm,yr,rfl⟩
theorem ajO {t:TypeId} {x:Operand} (ho:o.op = .range t x):gp P o (Vi P t x):=by
 unfold Vi;split
 ·rename_i hu
  intro ρ ev cF obj mk he hf;simp only [List.map] at hf;unfold aip at hf;split at hf
  ·rename_i s e
   simp at e;have hx:=he x (by simp);rw [e] at hx;have hx:=hx.qZ;simp at hf;obtain ⟨rfl,rfl⟩:=hf;refine ⟨.stringIter s 0,fun n=>.pointer (some ⟨n,0,none⟩),?_,fun w=>?_,fun aF n cb h=>VR.BH (a:=⟨n,0,none⟩) rfl h⟩
   ·show Obj.stringIter s 0 = .stringIter ⟨⟨s.data.toList⟩⟩ 0
    rfl
   ·simp [execOp,ho,Instr.range,bo hu,hx]
  ·simp at hf
 ·trivial
theorem Li {w:World} {r:Nat} {s:ByteArray} {pos:Nat} (hb:w.heap[r]? = some (.stringIter s pos)):(getObj r).run P w = .ok (.stringIter s pos) w:=by
 simp [getObj,Sem.run,hb]
theorem Vu {w:World} {r:Nat} {s:ByteArray} {pos:Nat} (o:Obj) (hb:w.heap[r]? = some (.stringIter s pos)):(setObj r o).run P w = .ok () { w with heap:=w.heap.setIfInBounds r o }:=by
 simp [setObj,Sem.run,hb]
theorem ak0 {it:Operand} {b:Bool} (ho:o.op = .next it b):gp P o (cond b (.act agT [it]) .bad):=by
 cases b with
 | false=>trivial
 | true=>
  rw [aj];intro ρ A B base w ev cF v hs he hf;simp only [List.map] at hf;unfold agT at hf;split at hf
  ·rename_i a e
   simp at e;have hx:=he it (by simp);rw [e] at hx;obtain ⟨FJ,l,hl,hx⟩:=hx.hO;cases ha0:Nat.beq a.off 0 with
   | false=>rw [ha0] at hf; simp at hf
   | true=>
    rw [ha0,aj] at hf;have ha0:=aK ha0;split at hf
    ·rename_i s pos hg
     obtain ⟨l2,kV,ok⟩:=hs.rel.iter _ _ _ hg;rw [hl] at kV; simp at kV; subst kV;obtain ⟨NA,qK⟩:=ok.lH;have dP:(⟨⟨s⟩⟩:ByteArray).size=s.length:=rfl;rw [NA,ha0] at hx;cases bj:Nat.blt pos s.length with
     | true=>
      rw [bj,aj] at hf;rw [bG] at bj;split at hf;rename_i c width aoP;simp at hf;obtain ⟨rfl,rfl⟩:=hf;refine ⟨ρ,.tuple #[.bool true,.int .i64 (Int.ofNat pos),.int .i32 c],.value _,_,?_,rfl,VR.of_flat rfl,abH (Tt:=pos+width) hs hg hl⟩;simp [execOp,ho,Instr.next,hx,Li qK,dP,bj,aoP,Vu _ qK,goInt]
     | false=>
      rw [bj,aG] at hf;have hge : ¬ pos < s.length:=fun h=>by rw [<- bG] at h; rw [h] at bj; simp at bj
      simp at hf;obtain ⟨rfl,rfl⟩:=hf;refine ⟨ρ,.tuple #[.bool false],.value _,w,?_,rfl,VR.of_flat rfl,.refl hs⟩;simp [execOp,ho,Instr.next,hx,Li qK,dP,hge]
    ·simp at hf
  ·simp at hf
theorem ra (P:Program) (o:Oper):gp P o (compile P o.op):=by
 cases ho:o.op with
 | move x=>exact akQ ho
 | assign x=>exact agW ho
 | pick c a b=>exact akR ho
 | alloc t=>exact ajD ho
 | box t x=>exact amC ho
 | build t parts=>exact ajI ho
 | buildSlice t len parts=>exact Za ho
 | load t a=>exact akS ho
 | store t a x=>exact ajE ho
 | nilCheck x=>exact adf ho
 | binOp op t x y yt=>exact amD ho
 | unOp op t x=>exact an6 ho
 | convert src dst x=>exact akZ ho
 | makeFunc fn first cap=>exact adg ho
 | fieldAddr s x f=>exact abC ho
 | field t x f=>exact ajF ho
 | indexAddr t x ix=>exact abD ho
 | index t x ix=>exact ajG ho
 | extract t i=>exact aeF ho
 | slice t x lo hi mx=>exact ok_slice ho
 | makeSlice t l c=>exact abF ho
 | makeInterface t x=>exact ajK ho
 | range t x=>exact ajO ho
 | next it b=>exact ak0 ho
 | makeMap t r=>exact aeI ho
 | lookup t x ix ok=>exact ag2 ho
 | mapUpdate t m k x=>exact Q6 (.inl ho)
 | insert t m k x=>exact Q6 (.inr ho)
 | call c=>
  show gp P o (CF P c);unfold CF;split
  ·rename_i f hf; exact akU ho hf
  ·rename_i b hb
   obtain ⟨callee,args,argTypes⟩:=c;simp only at hb;subst hb;unfold Jv;split
   ·exact amG ho
   ·exact amE ho
   ·exact amF ho
   ·exact ag1 ho
   ·exact akX ho
   ·exact ag3 ho
   ·exact ajN ho
   ·trivial
  ·trivial
 | _=>trivial
end
end Go.aI
end
section
namespace Go.aI
noncomputable section
open Go
abbrev Fr (r:Option Nat):Fence:={ Fence.wide with round:=r }
def Ren.res (ρ:Ren) (n:Nat):Ren:=fun b=>if b < n then ρ b else none
theorem Ren.Yv {ρ:Ren} {n b:Nat} (h:b < n):ρ.res n b=ρ b:=by unfold Ren.res; rw [aE h]
theorem RS.under {ρ:Ren} {n:Nat} {fn Cs:Fn} (hu:adb n fn=true) (h:RS ρ fn Cs):RS (ρ.res n) fn Cs:=by
 cases fn with
 | yield r=>
  obtain ⟨l,h1,h2⟩:=h;simp only [adb] at hu;rw [bG] at hu;exact ⟨l,by rw [Ren.Yv hu]; exact h1,h2⟩
 | _=>exact h
mutual
theorem VR.under {ρ:Ren} {n:Nat} : ∀ {v v' : Value},aI.under n v=true->VR ρ v v'->VR (ρ.res n) v v'
 | .bool b,v,_,hv=>by simpa [VR] using hv
 | .int k n,v,_,hv=>by simpa [VR] using hv
 | .float k x,v,_,hv=>by simpa [VR] using hv
 | .complex k x y,v,_,hv=>by simpa [VR] using hv
 | .string s,v,_,hv=>by simpa [VR] using hv
 | .pointer none,v,_,hv=>by simpa [VR] using hv
 | .pointer (some a),v,hu,hv=>by
  simp only [aI.under] at hu;rw [bG] at hu;simp only [VR] at hv ⊢;rw [Ren.Yv hu];exact hv
 | .slice none n c,v,_,hv=>by simpa [VR] using hv
 | .slice (some a) n c,v,hu,hv=>by
  simp only [aI.under] at hu;rw [bG] at hu;simp only [VR] at hv ⊢;rw [Ren.Yv hu];exact hv
 | .map none,v,_,hv=>by simpa [VR] using hv
 | .map (some r),v,hu,hv=>by
  simp only [aI.under] at hu;rw [bG] at hu;simp only [VR] at hv ⊢;rw [Ren.Yv hu];exact hv
 | .chan _,_,_,_=>by simp [VR]
 | .func fn f c,v,hu,hv=>by
  simp only [aI.under,ao] at hu;simp only [VR] at hv ⊢;obtain ⟨f',c',h2,h3,Cs,h4,h5⟩:=hv;exact ⟨f',c',uM.under hu.1.2 h2,uM.under hu.2 h3,Cs,RS.under hu.1.1 h4,h5⟩
 | .nilFunc,v,_,hv=>by simpa [VR] using hv
 | .iface t x,v,hu,hv=>by
  simp only [aI.under] at hu;simp only [VR] at hv ⊢;obtain ⟨x',h2,h3⟩:=hv;exact ⟨x',VR.under hu h2,h3⟩
 | .nilIface,v,_,hv=>by simpa [VR] using hv
 | .agg cs,v,hu,hv=>by
  simp only [aI.under] at hu;simp only [VR] at hv ⊢;obtain ⟨x',h2,h3⟩:=hv;exact ⟨x',uM.under hu h2,h3⟩
 | .tuple cs,v,hu,hv=>by
  simp only [aI.under] at hu;simp only [VR] at hv ⊢;obtain ⟨x',h2,h3⟩:=hv;exact ⟨x',uM.under hu h2,h3⟩
theorem uM.under {ρ:Ren} {n:Nat} : ∀ {v v' : Array Value},aI.P4 n v=true->uM ρ v v'->uM (ρ.res n) v v'
 | ⟨l⟩,a,hu,hv=>by simp only [aI.P4] at hu; simp only [uM] at hv ⊢; exact dA.under hu hv
theorem dA.under {ρ:Ren} {n:Nat} : ∀ {v v' : List Value},aI.Yt n v=true->dA ρ v v'->dA (ρ.res n) v v'
 | [],l,_,hv=>by simpa [dA] using hv
 | x::xs,l,hu,hv=>by
  simp only [aI.Yt,ao] at hu;simp only [dA] at hv ⊢;obtain ⟨y,ys,e,h1,h2⟩:=hv;exact ⟨y,ys,e,VR.under hu.1 h1,dA.under hu.2 h2⟩
end
theorem Ms {acc:List Nat} {j:Nat} : ∀ {es:List Edge},Nat.testBit (wh acc es) j=true->∃ e∈es,binds e=true/\(j=e.on\/ov acc e.on j=true)
 | [],h=>by simp [wh] at h
 | e::es,h=>by
  simp only [wh] at h;cases hb:binds e with
  | false=>
   rw [hb,aG] at h;obtain ⟨e',h1,h2⟩:=Ms h;exact ⟨e',by simp [h1],h2⟩
  | true=>
   rw [hb,aj] at h;have e1:∀ a b:Nat,Nat.lor a b=a ||| b:=fun _ _=>rfl;have e2:Nat.shiftLeft 1 e.on=1 <<< e.on:=rfl;rw [e1,e1,e2,Nat.testBit_or,Nat.testBit_or,uR,uR] at h;rcases h with (h | h) | h
   ·refine ⟨e,by simp,hb,.inl ?_⟩
    rw [Nat.one_shiftLeft,Nat.testBit_two_pow] at h;exact (PY h).symm
   ·exact ⟨e,by simp,hb,.inr h⟩
   ·obtain ⟨e',h1,h2⟩:=Ms h
    exact ⟨e',by simp [h1],h2⟩
theorem W6:∀ (os:List Oper) (acc:List Nat),∃ r,dE acc os=acc++r/\r.length=os.length
 | [],acc=>⟨[],by simp [dE]⟩
 | o::os,acc=>by
  obtain ⟨r,h1,h2⟩:=W6 os (acc++[wh acc o.after.toList]);exact ⟨wh acc o.after.toList::r,by simp [dE,h1],by simp [h2]⟩
theorem ab8:∀ (os:List Oper) (acc:List Nat) (i j:Nat) (o:Oper),os[i]? = some o->(∀ e∈o.after.toList,binds e=true->e.on < acc.length+i)->
  ov (dE acc os) (acc.length+i) j=true->∃ e∈o.after.toList,binds e=true/\(j=e.on\/ov (dE acc os) e.on j=true)
 | [],acc,i,j,o,ho,_,_=>by simp at ho
 | o0::os,acc,0,j,o,ho,hf,h=>by
  simp at ho;subst ho;obtain ⟨r,h1,_⟩:=W6 os (acc++[wh acc o0.after.toList]);have e0:dE acc (o0::os)=acc++[wh acc o0.after.toList]++r:=by simp only [dE]; exact h1
  rw [e0] at h ⊢;have e1:(acc++[wh acc o0.after.toList]++r).getD (acc.length+0) 0=wh acc o0.after.toList:=by simp [List.getD]
  unfold ov at h;rw [e1] at h;obtain ⟨e,h2,h3,h4⟩:=Ms h;refine ⟨e,h2,h3,h4.imp id fun h5=>?_⟩;have bj:=hf e h2 h3;unfold ov at h5 ⊢;have:(acc++[wh acc o0.after.toList]++r).getD e.on 0=acc.getD e.on 0:=by
   simp only [List.getD,List.append_assoc];rw [qH (by simpa using bj)]
  rw [this];exact h5
 | o0::os,acc,i+1,j,o,ho,hf,h=>by
  have hlen:(acc++[wh acc o0.after.toList]).length+i=acc.length+(i+1):=by simp; omega
  have:=ab8 os (acc++[wh acc o0.after.toList]) i j o (by simpa using ho) (by rw [hlen]; exact hf) (by rw [hlen]; exact h);simpa only [dE] using this
structure wo (P:Program) (all:List Oper):Prop where
 back:∀ i o,all[i]? = some o->∀ e∈o.after.toList,binds e=true->e.on < i
 apart:∀ i j x y,all[i]? = some y->all[j]? = some x->j < i->FH P all x y=true->ov (dE [] all) i j=true
theorem Q7 {P:Program} {all:List Oper} {b:List Nat} {i:Nat} {y:Oper} : ∀ (xs:List Oper) (k:Nat),K9 P all b i y xs k=true->∀ (j:Nat) (x:Oper),xs[j]? = some x->k+j < i->FH P all x y=true->ov b i (k+j)=true
 | [],k,_,j,x,hx,_,_=>by simp at hx
 | x0::xs,k,h,0,x,hx,bj,hc=>by
  simp at hx;subst hx;simp only [K9,ao,uR,lU] at h;rcases h.1 with (h1 | h1) | h1
  ·have:=dT h1; omega
  ·rw [hc] at h1; simp at h1
  ·exact h1
 | x0::xs,k,h,j+1,x,hx,bj,hc=>by
  simp only [K9,ao] at h;have:=Q7 xs (k+1) h.2 j x (by simpa using hx) (by omega) hc;rwa [show k+1+j=k+(j+1) by omega] at this
theorem BL {P:Program} {all:List Oper} {b:List Nat} : ∀ (os:List Oper) (k:Nat),AE P all b os k=true->∀ (i:Nat) (o:Oper),os[i]? = some o->
  (∀ e∈o.after.toList,binds e=true->e.on < k+i)/\K9 P all b (k+i) o all 0=true
 | [],k,_,i,o,ho=>by simp at ho
 | o0::os,k,h,0,o,ho=>by
  simp at ho;subst ho;simp only [AE,ao,fe] at h;refine ⟨fun e he hb=>?_,h.1.2⟩;have:=h.1.1 e he;rw [hb] at this;simp at this;exact this
 | o0::os,k,h,i+1,o,ho=>by
  simp only [AE,ao] at h;have:=BL os (k+1) h.2 i o (by simpa using ho);rwa [show k+1+i=k+(i+1) by omega] at this
theorem FO {P:Program} {all:List Oper} (h:Lb P all=true):wo P all:=by
 unfold Lb at h;refine ⟨fun i o ho=>?_,fun i j x y hy hx bj hc=>?_⟩
 ·have:=(BL all 0 h i o ho).1
  simpa using this
 ·have:=Q7 all 0 (BL all 0 h i y hy).2 j x hx (by simpa using bj) hc
  simpa using this
def uT (all:List Oper) (S:Nat->Bool):Prop:=∀ i j,S i=true->ov (dE [] all) i j=true->S j=true
def zf (all:List Oper) (S:Nat->Bool) (i:Nat):Prop:=∀ o,all[i]? = some o->∀ e∈o.after.toList,binds e=true->S e.on=true
theorem uT.ready {P:Program} {all:List Oper} (hf:wo P all) {S:Nat->Bool} (hc:uT all S) {i:Nat} {o:Oper} (ho:all[i]? = some o) (hr:zf all S i):∀ j,ov (dE [] all) i j=true->S j=true:=by
 intro j hj;obtain ⟨e,h1,h2,h3⟩:=ab8 all [] i j o ho (by simpa using hf.back i o ho) (by simpa using hj);have hs:=hr o ho e h1 h2;rcases h3 with rfl | h3
 ·exact hs
 ·exact hc _ _ hs h3
def cQ (S:Nat->Bool) (i:Nat):Nat->Bool:=fun j=>S j||Nat.beq j i
theorem uT.insert {P:Program} {all:List Oper} (hf:wo P all) {S:Nat->Bool} (hc:uT all S) {i:Nat} {o:Oper} (ho:all[i]? = some o) (hr:zf all S i):uT all (cQ S i):=by
 intro a b h1 h2;simp only [cQ,uR] at h1 ⊢;rcases h1 with h1 | h1
 ·exact .inl (hc a b h1 h2)
 ·have:=aK h1
  subst this;exact .inl (hc.ready hf ho hr b h2)
theorem ab9 (e:Edge):Region.binds .any e=binds e:=by
 unfold Region.binds binds;cases e.ground <;> rfl
theorem W7 {all:List Oper} {cY:Array Bool} {i:Nat} (h:i∈Region.ready .any ⟨all⟩ cY):i < all.length/\cY.getD i true=false/\zf all (fun j=>cY.getD j false) i:=by
 unfold Region.ready at h;rw [List.mem_filter,GP] at h;obtain ⟨h1,h2⟩:=h;simp only [ao,lU] at h2;refine ⟨by simpa using h1,h2.1,fun o ho e he hb=>?_⟩;have e1:(⟨all⟩:Array Oper)[i]? = some o:=by simpa using ho
 rw [e1] at h2;simp only [Option.map_some,fv] at h2;have:=Array.all_eq_true'.1 h2.2 e (by simpa using he);rw [ab9,hb] at this;simpa using this
theorem ag4 {P:Program} {all:List Oper} (hf:wo P all) {cY:Array Bool} (hl:cY.size=all.length) (h:Region.ready .any ⟨all⟩ cY = []):∀ i,i < all.length->cY.getD i false=true:=by
 intro i
 induction i using Nat.strongRecOn with
 | _ i ih=>
  intro hi;cases hc:cY.getD i false with
  | true=>rfl
  | false=>
   exfalso;obtain ⟨o,ho⟩:∃ o,all[i]? = some o:=⟨_,cK hi⟩
   have hm:i∈Region.ready .any ⟨all⟩ cY:=by
    unfold Region.ready;rw [List.mem_filter,GP];refine ⟨by simpa using hi,?_⟩;have e1:(⟨all⟩:Array Oper)[i]? = some o:=by simpa using ho
    rw [e1];have e2:cY.getD i true=false:=by
     have:i < cY.size:=by omega
     simpa [kT,this] using hc
    simp only [e2,GQ,CA,Option.map_some,fv];rw [Array.all_eq_true'];intro e he;cases hb:binds e with
    | false=>rw [ab9,hb]; rfl
    | true=>
     have bj:=hf.back i o ho e (by simpa using he) hb;rw [ih e.on bj (by omega)];simp
   rw [h] at hm;simp at hm
theorem count_set:∀ (l:List Bool) (i:Nat),l[i]? = some false->((l.set i true).filter (!·)).length+1=(l.filter (!·)).length
 | [],i,h=>by simp at h
 | x::l,0,h=>by
  simp at h;subst h;simp
 | x::l,i+1,h=>by
  have:=count_set l i (by simpa using h);cases x <;> simp at this ⊢ <;> omega
theorem GY {P:Program} {all:List Oper} (hf:wo P all) {Q:Exit->Act->World->Prop} (I:(Nat->Bool)->Act->World->Prop) (hI:∀ S S' a w,(∀ i,i < all.length->S i=S' i)->I S a w->I S' a w)
  (step:∀ S a w i o,I S a w->uT all S->all[i]? = some o->S i=false->zf all S i->(∀ j,S j=true->j < all.length)->wpOp P ⟨all⟩ Q i (I (cQ S i)) a w)
  (fin:∀ S a w,(∀ i,i < all.length->S i=true)->I S a w->Q .normal a w) :
  ∀ (fuel:Nat) (cY:Array Bool) (a:Act) (w:World),cY.size=all.length->(cY.toList.filter (!·)).length=fuel->uT all (fun j=>cY.getD j false)->I (fun j=>cY.getD j false) a w->wpAny P .any ⟨all⟩ Q fuel cY a w
 | 0,cY,a,w,hs,hn,hc,h=>by
  have qy:∀ i,i < all.length->cY.getD i false=true:=by
   intro i hi;have:i < cY.size:=by omega
   cases hb:cY.getD i false with
   | true=>rfl
   | false=>
    exfalso;have hg:cY[i] = false:=by simpa [kT,this] using hb
    have hm:cY[i]∈cY.toList.filter (!·):=by
     rw [List.mem_filter];exact ⟨by simp,by simp [hg]⟩
    rw [qG.1 hn] at hm;simp at hm
  refine ⟨?_,fin _ a w qy h⟩;cases hr:Region.ready .any ⟨all⟩ cY with
  | nil=>rfl
  | cons i r=>
   have:=W7 (all:=all) (cY:=cY) (i:=i) (by rw [hr]; simp);have h1:=qy i this.1;have h2:cY.getD i true=true:=by
    have bj:i < cY.size:=by omega
    simpa [kT,bj] using h1
   rw [h2] at this;simp at this
 | fuel+1,cY,a,w,hs,hn,hc,h=>by
  refine ⟨fun hr=>fin _ a w (ag4 hf hs hr) h,fun i hi=>?_⟩;obtain ⟨bj,hl,uQ⟩:=W7 hi;obtain ⟨o,ho⟩:∃ o,all[i]? = some o:=⟨_,cK bj⟩
  have Tu:i < cY.size:=by omega
  have r6:cY.getD i false=false:=by simpa [kT,Tu] using hl
  have NB:∀ j,j < all.length->cQ (fun j=>cY.getD j false) i j=(cY.setIfInBounds i true).getD j false:=by
   intro j hj;by_cases e:j=i
   ·subst e
    simp [cQ,kT,Tu]
   ·have:Nat.beq j i=false:=by
     cases hb:Nat.beq j i with
     | false=>rfl
     | true=>exact absurd (aK hb) e
    simp [cQ,this,kT,Array.getElem?_setIfInBounds_ne (Ne.symm e)]
  refine wpOp_mono (fun a' w' h'=>?_) (step _ a w i o h hc ho r6 uQ (fun j hj=>by
   rcases Nat.lt_or_ge j all.length with h1 | h1
   ·exact h1
   ·have:cY.getD j false=false:=by
     rw [kT,Array.getElem?_eq_none (by omega)];rfl
    rw [this] at hj; simp at hj))
  refine GY hf I hI step fin fuel _ a' w' (by simpa using hs) ?_ ?_ (hI _ _ a' w' NB h')
  ·rw [Array.toList_setIfInBounds]
   have:=count_set cY.toList i (by simpa [kT,Tu] using r6);omega
  ·intro x y hx hy
   have hb:∀ z,(cY.setIfInBounds i true).getD z false=true↔cQ (fun j=>cY.getD j false) i z=true:=by
    intro z;rcases Nat.lt_or_ge z all.length with h1 | h1
    ·rw [NB z h1]
    ·have e1:(cY.setIfInBounds i true).getD z false=false:=by
      rw [kT,Array.getElem?_eq_none (by simp; omega)];rfl
     have e2:cY.getD z false=false:=by
      rw [kT,Array.getElem?_eq_none (by omega)];rfl
     have e3:Nat.beq z i=false:=by
      cases hb:Nat.beq z i with
      | false=>rfl
      | true=>have:=aK hb; omega
     simp [cQ,e1,e2,e3]
   rw [hb] at hx ⊢;exact hc.insert hf ho uQ x y hx hy
def an8 (all:List Oper) (i:Nat):Option Tmp:=(all[i]?).bind (·.dst)
end
end Go.aI
end
section
namespace Go.aI
noncomputable section
open Go
def Quiet (A0:St) (R:List Rec):Prop:=∀ r∈R,r.nx=A0.next/\(r.did = .val\/∃ f vs,r.did = .read f vs)
def lS (R:List Rec) (S:Nat->Bool):Option Nat:=akO (R.filter fun r=>S r.i)
def Tv (A0:St) (R:List Rec) (S:Nat->Bool):St:=an4 A0 R (lS R S)
def writer (all:List Oper) (R:List Rec) (S:Nat->Bool) (x:Nat):Option Rec:=R.find? fun r=>S r.i&&(an8 all r.i==some x)
def valOf (all:List Oper) (t0:Tm) (R:List Rec) (S:Nat->Bool) (x:Nat):Value:=
 match writer all R S x with
 | some r=>r.v
 | none=>(t0.get x).getD undef
def aoQ (all:List Oper) (A0:St) (R:List Rec) (S:Nat->Bool) (x:Nat):Nat:=
 match writer all R S x with
 | some r=>r.nx
 | none=>A0.next
structure Inv (all:List Oper) (A0:St) (t0:Tm) (R:List Rec) (N:Nat) (d0:List Deferred) (base:Nat) (Vv:Ren) (w0:World) (S:Nat->Bool) (a:Act) (w:World) (ρ:Ren):Prop where
 size:a.tmps.size=N
 defers:a.defers=d0
 tm:∀ x,VR (ρ.res (aoQ all A0 R S x)) (valOf all t0 R S x) (a.tmps.getD x undef)
 core:iX base Vv A0 w0 (ρ.res (Tv A0 R S).next) (Tv A0 R S) w
 news:∀ r∈R,S r.i=true->∀ id o,r.did = .make id o->akN (dE [] all) (lS R S) r.i=false->
  ∃ c cb,ρ id=some (Y4 o cb)/\Y5 (ρ.res r.nx) o c/\w.heap[cb]? = some c/\w0.heap.size<=cb/\¬ Img (ρ.res (Tv A0 R S).next) (Tv A0 R S) cb
 newsApart:∀ r∈R,∀ s∈R,S r.i=true->S s.i=true->∀ id o id' o',r.did = .make id o->s.did = .make id' o'->akN (dE [] all) (lS R S) r.i=false->akN (dE [] all) (lS R S) s.i=false->
  r.i≠s.i->∀ l l',ρ id=some l->ρ id' = some l'->l.cb≠l'.cb
 unborn:∀ r∈R,S r.i=false->∀ id o,r.did = .make id o->ρ id=none
 jM:∀ bl l,ρ bl=some l->bl < (Tv A0 R S).next\/∃ r∈R,S r.i=true/\∃ o,r.did = .make bl o
section
variable {P:Program} {call:Vj} {all:List Oper} {A0:St} {t0:Tm} {R:List Rec} {N:Nat} {d0:List Deferred} {base:Nat} {Vv:Ren} {w0:World}
theorem kz {x:Nat} : ∀ {xs:List Operand},Operand.tmp x∈xs->x∈tL xs
 | [],h=>by simp at h
 | .tmp t::xs,h=>by
  rcases de.1 h with h | h
  ·simp at h; subst h; simp [tL]
  ·simp [tL,kz h]
 | .const _::xs,h=>by
  rcases de.1 h with h | h
  ·simp at h
  ·simpa [tL] using kz h
 | .global _::xs,h=>by
  rcases de.1 h with h | h
  ·simp at h
  ·simpa [tL] using kz h
 | .func _::xs,h=>by
  rcases de.1 h with h | h
  ·simp at h
  ·simpa [tL] using kz h
end
end
end Go.aI
end
section
namespace Go.aI
noncomputable section
open Go
theorem vc.dL {ρ aF:Ren} {A:St} {base:Nat} {w w' : World} (hs:vc ρ A base w) (hle:ρ.le aF) (aoR:∀ b l,aF b=some l->b < A.next) (hw:∀ k,k < w.heap.size->w'.heap[k]? = w.heap[k]?) (dP:w.heap.size<=w'.heap.size):vc aF A base w':=by
 have Vw:∀ b o l,A.get b=some o->o≠.dead->aF b=some l->ρ b=some l:=by
  intro b o l hg hd hr;obtain ⟨l',h1,_⟩:=hs.rel.obj hg hd;have:=hle _ _ h1;rw [hr] at this; simp at this; subst this;exact h1
 refine ⟨.EN (fun b o hg hd=>?_) ?_ hs.rel.cY,aoR,gS hs.size dP,hs.HK.mono hle⟩
 ·obtain ⟨l,h1,h2⟩:=hs.rel.obj hg hd
  exact ⟨l,hle _ _ h1,h2.dL hle (hw _ (h2.lt hd)) dP⟩
 ·intro b1 b2 o1 o2 l1 l2 cI g1 g2 m1 m2 r1 r2 Ct
  exact hs.rel.apart b1 b2 o1 o2 l1 l2 cI g1 g2 m1 m2 (Vw b1 o1 l1 g1 (by intro e; subst e; simp [ct.eC] at m1) r1) (Vw b2 o2 l2 g2 (by intro e; subst e; simp [ct.eC] at m2) r2) Ct
section
variable {P:Program} {call:Vj} {all:List Oper} {A0:St} {t0:Tm} {R:List Rec} {N:Nat} {d0:List Deferred} {base:Nat} {Vv:Ren} {w0:World}
end
end
end Go.aI
end
section
namespace Go.aI
noncomputable section
open Go
theorem VR.undef {ρ:Ren} : VR ρ undef undef:=VR.of_flat (by simp [Go.undef,flat,Ma,yv])
section
variable {P:Program} {call:Vj} {all:List Oper} {A0:St} {t0:Tm} {R:List Rec} {N:Nat} {d0:List Deferred} {base:Nat} {Vv:Ren} {w0:World}
end
end
end Go.aI
end
section
namespace Go.aI
noncomputable section
open Go
variable {P:Program} {call:Vj} {all:List Oper} {A0:St}
end
end Go.aI
end
section
namespace Go.aI
noncomputable section
open Go
theorem put_defers (a:Act) (dst:Option Tmp) (v:Value):(a.put dst v).defers=a.defers:=by cases dst <;> rfl
def ah.out:ah->Exit
 | .normal=>.normal
 | .exit id=>.exit id
 | .goto l=>.goto l
 | .ret=>.ret
def mark (D:Nat):Deferred:={ target:=.collected D,args:=#[] }
section
variable {P:Program} {b:Frame} {a:Act} {k:List Item} {cs:List Frame} {w:World}
end
def Yw (a:Act):ResultVar->Sem Value
 | .tmp t=>pure (a.tmps.getD t undef)
 | .cell ad ty=>do loadVar ty (<- asAddr (a.tmps.getD ad undef))
theorem W8 (fn:Func) (a:Act):results fn a.tmps=(do let vs <- fn.results.mapM (Yw a); pure (if h:vs.size=1 then vs[0] else .tuple vs)):=by
 unfold results;congr 1
theorem mg {n m:Nat} (h:n<=m):∀ (c:Code),codeOk n c=true->codeOk m c=true
 | .region id ops d,hc=>by
  simp only [codeOk,fe] at hc ⊢;intro o ho;have:=hc o ho;unfold Kc at this ⊢;split at this
  ·rename_i d e
   rw [bG] at this ⊢;omega
  ·rfl
 | .seq a b,hc=>by simp only [codeOk,ao] at hc ⊢; exact ⟨mg h a hc.1,mg h b hc.2⟩
 | .cond _ a b,hc=>by simp only [codeOk,ao] at hc ⊢; exact ⟨mg h a hc.1,mg h b hc.2⟩
 | .block _ a,hc=>mg h a hc
 | .loop a,hc=>mg h a hc
 | .rangeFunc _ ps a b,hc=>by
  simp only [codeOk,ao,fe,bG] at hc ⊢;exact ⟨fun p hp=>eY (hc.1 p hp) h,mg h a hc.2.1,mg h b hc.2.2⟩
 | .scope a,hc=>mg h a hc
 | .skip,_ | .exit _,_ | .label _,_ | .goto _,_ | .ret,_ | .refuse _,_=>rfl
def HP (gl:List (Nat×List Value×Nat)) (b:Nat):Option Loc:=if b < gB then some (match gl.find? (fun x=>Nat.beq x.1 b) with | some x=>⟨b,0,x.2.1.length,x.2.2⟩ | none=>⟨b,0,0,0⟩) else none
theorem abI (gl:List (Nat×List Value×Nat)):aeC (HP gl):=fun g hg=>by
 unfold HP;rw [aE hg];split <;> exact ⟨_,rfl,rfl,rfl⟩
theorem Zp:∀ (gl:List (Nat×List Value×Nat)) (b:Nat),(Vk gl).get b=match gl.find? (fun x=>Nat.beq x.1 b) with | some x=>some (.row x.2.1 x.2.2 false none) | none=>none
 | [],b=>by simp [Vk]
 | (g,cs,e)::gl,b=>by
  simp only [Vk,Trie.oE,List.find?_cons];cases hb:Nat.beq g b with
  | true=>simp [aK hb]
  | false=>rw [aa (fun e=>by subst e; simp at hb)]; exact Zp gl b
def amH (w:World) (gl:List (Nat×List Value×Nat)):Prop:=∀ x∈gl,x.1 < gB/\x.1 < w.heap.size/\x.2.1.all (fun v=>flat v&&scalar v)=true/\∀ i v,x.2.1[i]? = some v->w.cell? ⟨x.1,i,none⟩=some v
theorem vc.aeJ {w:World} {gl:List (Nat×List Value×Nat)} (h:amH w gl):vc (HP gl) (St.HK gl) w.heap.size w:=by
 have hg:∀ b o,(St.HK gl).get b=some o->∃ x∈gl,x.1=b/\gl.find? (fun x=>Nat.beq x.1 b)=some x/\o = .row x.2.1 x.2.2 false none:=by
  intro b o e;have e:(Vk gl).get b=some o:=e;rw [Zp] at e;split at e
  ·rename_i x hx
   simp at e;have:=List.find?_some hx;exact ⟨x,List.mem_of_find?_eq_some hx,aK this,hx,e.symm⟩
  ·simp at e
 refine ⟨⟨fun b cs bm own bL e=>?_,fun b es e=>?_,fun b s pos e=>?_,fun b st ex t ps c d e=>?_,fun b1 b2 o1 o2 l1 l2 _ e1 _ m=>?_,fun b o aO f e k=>?_⟩,fun b l e=>?_,aB _,abI gl⟩
 ·obtain ⟨x,hx,rfl,hf,he⟩:=hg _ _ e
  simp at he;obtain ⟨rfl,rfl,rfl,rfl⟩:=he;obtain ⟨h1,h2,h3,h4⟩:=h x hx;refine ⟨⟨x.1,0,x.2.1.length,x.2.2⟩,by unfold HP; rw [aE h1,hf],⟨fun i v hi=>?_,fun _=>h2,fun h=>by simp at h,fun h=>by simp at h,by simp,fun h=>by simp at h,rfl,h2,fun h=>by simp at h⟩⟩;have:=fe.1 h3 v (gi hi);simp only [ao] at this;exact ⟨v,by simpa using h4 i v hi,VR.of_flat this.1,this.2⟩
 ·obtain ⟨x,_,_,_,he⟩:=hg _ _ e; simp at he
 ·obtain ⟨x,_,_,_,he⟩:=hg _ _ e; simp at he
 ·obtain ⟨x,_,_,_,he⟩:=hg _ _ e; simp at he
 ·obtain ⟨x,_,_,_,he⟩:=hg _ _ e1; subst he; simp [ct.eC] at m
 ·obtain ⟨x,_,_,_,he⟩:=hg _ _ e; subst he; simp [ct.lG] at k
 ·unfold HP at e
  split at e
  ·rename_i hb; exact hb
  ·simp at e
theorem vc.empty (w:World):vc (HP []) St.empty w.heap.size w:=vc.aeJ (gl:=[]) (fun _ h=>by simp at h)
end
end Go.aI
end
section
namespace Go.K
open Go Go.aI
noncomputable section
inductive Mk where
 | any
 | exact
 | aO (b:Nat)
inductive KV where
 | int (k:IntKind) (n:Int)
 | bool (b:Bool)
 | str (s:ByteArray)
 | agg (cs:List KV)
 | l8 (vs:List KV)
 | ts (T:TypeId) (m:Mk) (n:Nat) (es:List KV) (acc:Nat->KV)
 | tp (T Tc:TypeId) (i k:Nat) (es:List KV) (acc:Nat->KV)
 | al (T:TypeId) (b o n:Nat)
 | ap (T Tc:TypeId) (b i k:Nat)
 | ptr (b off:Nat)
 | sl (b off len cap:Nat)
 | Gt
 | ko
 | CN
 | map (b:Nat)
 | fn (f:Fn) (first cap:List KV)
 | HQ
 | iface (t:TypeId) (v:KV)
 | HR
 | bf
instance:Inhabited KV:=⟨.bf⟩
inductive gU where
 | row (cs:List KV) (bm:Nat)
 | map (es:List (KV×KV))
 | aO (top sz:Nat)
 | arr (v:KV)
 | iC (v:KV)
 | dead
structure ae where
 heap:Trie gU
 next:Nat
def ae.empty:ae:=⟨.leaf,0⟩
def ae.get (A:ae) (b:Nat):Option gU:=A.heap.get b
def ae.new (A:ae) (o:gU):ae:=⟨A.heap.set o A.next,Nat.succ A.next⟩
def ae.put (A:ae) (b:Nat) (o:gU):ae:=⟨A.heap.set o b,A.next⟩
abbrev bd:=Trie KV
def iH {α:Type} : List (Nat×α)->Trie α
 | []=>.leaf
 | p::ps=>(iH ps).set p.2 p.1
def KV.cells:KV->List KV
 | .agg cs=>cs
 | v=>[v]
def one:KV->Bool
 | .agg _ | .l8 _ | .bf=>false
 | _=>true
def tP:KV:=.l8 []
inductive KR (α:Type) where
 | no
 | ok (v:α)
 | jN (c:Bool) (v:α)
 | br (c:Bool) (x y:KR α)
def KR.run {α R:Type} (r:KR α) (k:α->Option R):Option R:=
 KR.rec (motive:=fun _=>Option R) none (fun v=>k v) (fun c v=>Bool.rec (motive:=fun _=>Option R) none (k v) c) (fun c _ _ rx ry=>Bool.rec (motive:=fun _=>Option R) ry rx c) r
def KR.map {α β:Type} (f:α->β):KR α->KR β
 | .no=>.no
 | .ok v=>.ok (f v)
 | .jN c v=>.jN c (f v)
 | .br c x y=>.br c (x.map f) (y.map f)
def KR.of {α:Type} : Option α->KR α
 | some v=>.ok v
 | none=>.no
inductive CK where
 | int (k:IntKind)
 | bool
 | str
 | slice (t:TypeId)
 | other
structure Lay where
 agg:Bool
 ks:List CK
def dj {α:Type} (l:List α):Nat->List α
 | 0=>[]
 | n+1=>l++dj l n
def Oy (f:TypeId->Option Lay):List Field->Nat->Option (List CK)
 | [],_=>some []
 | fd::fs,off=>cond (Nat.beq fd.offset off) ((f fd.type).bind fun l=>(Oy f fs (off+l.ks.length)).map fun r=>l.ks++r) none
def lay (P:Program):Nat->TypeId->Option Lay
 | 0,_=>none
 | n+1,t=>match P.underlying t with
  | some (.int k)=>some ⟨false,[.int k]⟩
  | some .bool=>some ⟨false,[.bool]⟩
  | some .string=>some ⟨false,[.str]⟩
  | some (.slice e)=>some ⟨false,[.slice e]⟩
  | some (.struct fs)=>(Oy (lay P n) fs.toList 0).map fun ks=>⟨true,ks⟩
  | some (.array len e)=>(lay P n e).map fun l=>⟨true,dj l.ks len⟩
  | some _=>some ⟨false,[.other]⟩
  | none=>none
def aQ (P:Program) (t:TypeId):Lay:=(lay P 12 t).getD ⟨false,[]⟩
def kindOk:CK->KV->Bool
 | .int k,.int k' _=>decide (k=k')
 | .bool,.bool _=>true
 | .str,.str _=>true
 | .slice t,.ts t' .any _ _ _=>Nat.beq t t'
 | _,_=>false
def aD:List CK->List KV->Bool
 | [],[]=>true
 | k::ks,v::vs=>kindOk k v&&aD ks vs
 | _,_=>false
def cw (l:Lay):KV->Bool
 | .agg cs=>l.agg&&aD l.ks cs
 | .l8 _=>false
 | v=>!l.agg&&aD l.ks [v]
def dH (l:Lay):List KV->Bool
 | []=>true
 | e::es=>cw l e&&dH l es
def ax:KV->Int
 | .int _ n=>n
 | _=>0
def eH:KV->Bool
 | .bool b=>b
 | _=>false
def strOf:KV->ByteArray
 | .str s=>s
 | _=>ByteArray.empty
def aoS:KV->List KV
 | .ts _ _ _ es _=>es
 | _=>[]
def lenOf:KV->Nat
 | .ts _ _ n _ _=>n
 | _=>0
def Ac:KV->Nat->KV
 | .ts _ _ _ _ acc=>acc
 | _=>fun _=>.bf
def leaf (c:CK) (v:KV):KV:=
 CK.rec (motive:=fun _=>KV) (fun k=>.int k (ax v)) (.bool (eH v)) (.str (strOf v)) (fun t=>.ts t .any (lenOf v) (aoS v) (Ac v)) v c
def leaves (e:KV):List CK->Nat->List KV
 | [],_=>[]
 | c::cs,k=>leaf c (e.cells.getD k .bf)::leaves e cs (Nat.succ k)
def N5 (agg:Bool) (cs:List KV):KV:=Bool.rec (motive:=fun _=>KV) (cs.headD .bf) (.agg cs) agg
def Mt:List CK->Bool
 | []=>true
 | .other::_=>false
 | _::cs=>Mt cs
mutual
def fy:Value->KV
 | .bool b=>.bool b
 | .int k n=>.int k n
 | .string s=>.str s
 | .pointer none=>.Gt
 | .slice none 0 0=>.ko
 | .map none=>.CN
 | .nilFunc=>.HQ
 | .nilIface=>.HR
 | .agg cs=>.agg (ofA cs)
 | .tuple cs=>.l8 (ofA cs)
 | _=>.bf
def ofA:Array Value->List KV
 | ⟨l⟩=>ofL l
def ofL:List Value->List KV
 | []=>[]
 | v::vs=>fy v::ofL vs
end
abbrev FP:=List KV->KR KV
abbrev FR:=ae->List KV->KR KV
abbrev FA:=ae->List KV->KR (KV×ae)
inductive rY where
 | pure (f:FP) (xs:List Operand)
 | read (f:FR) (xs:List Operand)
 | act (f:FA) (xs:List Operand)
 | look (f:FP) (xs:List Operand)
 | D4 (g:FuncId) (f:List KV->KR KV) (xs:List Operand)
 | HS (g:FuncId) (f:List KV->KR KV) (xs:List Operand)
 | call (f:Operand) (args:List Operand)
 | bad
def adm:FP
 | [x]=>.ok x
 | _=>.no
def adn:FP
 | [.bool b]=>.br b (.ok (.bool true)) (.ok (.bool false))
 | [x]=>.ok x
 | _=>.no
def ag5:FP
 | [.bool t,.bool a,.bool b]=>.ok (.bool (cond t a b))
 | [.bool t,a,b]=>.ok (cond t a b)
 | _=>.no
def gC:List KV->Bool
 | []=>true
 | v::vs=>one v&&gC vs
def yy {α:Type} : Nat->List α->Option (List α)
 | 0,_=>some []
 | _+1,[]=>none
 | n+1,x::xs=>(yy n xs).map (x::·)
def D5 {α:Type} : Nat->List α->List α
 | 0,l=>l
 | _+1,[]=>[]
 | n+1,_::xs=>D5 n xs
def kW {α:Type} : Nat->List α->List α->Option (List α)
 | 0,l,[]=>some l
 | 0,[],_::_=>none
 | 0,_::l,v::vs=>(kW 0 l vs).map (v::·)
 | _+1,[],[]=>some []
 | _+1,[],_::_=>none
 | n+1,x::l,vs=>(kW n l vs).map (x::·)
def W9 (n:Nat) (z:List KV):FA:=fun A _=>.ok (.ptr A.next 0,A.new (.row z n))
def rq (P:Program) (t:TypeId):rY:=
 match xR P t with
 | some z=>cond (flat z&&z.cells.toList.all scalar&&gC (fy z).cells) (.act (W9 (oG P t) (fy z).cells) []) .bad
 | none=>.bad
def HT (n:Nat):FA:=fun A xs=>
 match xs with
 | [v]=>cond (gC v.cells) (.ok (.ptr A.next 0,A.new (.row v.cells n))) .no
 | _=>.no
def Vx (place:Nat->Option (Nat×Nat)):List KV->List (Nat×KV)->Option (List KV)
 | cells,[]=>some cells
 | cells,(i,v)::rest=>
  match place i with
  | some (off,size)=>cond (Nat.beq v.cells.length size&&Nat.ble 1 size) ((kW off cells v.cells).bind fun cs=>Vx place cs rest) none
  | none=>none
def zY:List Nat->List KV->List (Nat×KV)
 | i::is,v::vs=>(i,v)::zY is vs
 | _,_=>[]
def yg:KV->Bool
 | .bf=>false
 | _=>true
def P8 (place:Nat->Option (Nat×Nat)) (z:List KV) (is:List Nat):FP:=fun vs=>
 match Vx place z (zY is vs) with
 | some cs=>cond (vs.all yg) (.ok (.agg cs)) .no
 | none=>.no
def wq (P:Program) (t:TypeId) (is:List Nat) (xs:List Operand):rY:=
 match xR P t,P.underlying t with
 | some z,some (.struct fields)=>
  match placesOf P fields.toList with
  | some l=>cond (flat z&&gC (fy z).cells) (.pure (P8 (Tb l) (fy z).cells is) xs) .bad
  | none=>.bad
 | some z,some (.array _ e)=>
  match size? P e with
  | some n=>cond (flat z&&gC (fy z).cells) (.pure (P8 (Ce n) (fy z).cells is) xs) .bad
  | none=>.bad
 | _,_=>.bad
def qz:Nat->KV:=fun _=>.bf
def cZ (es:List KV):Nat->KV:=fun i=>es.getD i .bf
def nK (c:CK) (v:KV):KV:=
 match c,v with
 | .slice t,.ko=>.ts t .any 0 [] qz
 | .slice t,.ts t' _ n es acc=>cond (Nat.beq t t') (.ts t .any n es acc) .bf
 | c,v=>cond (kindOk c v) v .bf
def CO:List CK->List KV->List KV
 | c::cs,v::vs=>nK c v::CO cs vs
 | _,_=>[]
def dJ (l:Lay) (v:KV):KV:=
 match v with
 | .agg cs=>cond (l.agg&&Nat.beq cs.length l.ks.length) (.agg (CO l.ks cs)) .bf
 | v=>cond l.agg .bf (match l.ks with
  | [c]=>nK c v
  | _=>.bf)
def setAt (es:List KV) (i:Nat) (v:KV):List KV:=
 match i,es with
 | 0,_::es=>v::es
 | n+1,e::es=>e::setAt es n v
 | _,[]=>[]
def FQ (es:List KV):List (Nat×KV)->List KV
 | []=>es
 | (i,v)::rest=>FQ (setAt es i v) rest
def Oz (l:Lay) (e:TypeId) (z:KV) (len:Nat) (is:List Nat):FP:=fun vs=>
 let es:=FQ (dj [z] len) ((zY is vs).map fun p=>(p.1,dJ l p.2))
 cond (vs.all yg&&dH l (vs.map (dJ l))&&dH l es) (.ok (.ts e .exact len es (cZ es))) .no
def RW (l:Lay) (e:TypeId) (z:KV) (len:Nat) (is:List Nat):FA:=fun A vs=>
 let es:=FQ (dj [z] len) ((zY is vs).map fun p=>(p.1,dJ l p.2))
 cond (vs.all yg&&dH l (vs.map (dJ l))&&dH l es) (.ok (.al e A.next 0 len,A.new (.arr (.ts e .any len es (cZ es))))) .no
def D6 (n:Nat):List Nat->Bool
 | []=>true
 | i::is=>Nat.blt i n&&D6 n is
def RX (n:Nat) (z:List KV) (len:Nat) (is:List Nat):FA:=fun A vs=>
 match Vx (Ce n) (dj z len) (zY is vs) with
 | some cs=>cond (vs.all yg&&gC cs) (.ok (.sl A.next 0 len len,A.new (.row cs n))) .no
 | none=>.no
def kX (P:Program) (mt:TypeId->Bool) (t:TypeId) (len:Nat) (is:List Nat) (xs:List Operand):rY:=
 match P.underlying t with
 | some (.slice e)=>
  match P.info? e,xR P e with
  | some i,some z=>cond (Nat.ble (len * i.size) 16777216&&Nat.beq z.cells.size i.size&&Nat.ble 1 i.size&&flat z&&Nat.beq (aQ P e).ks.length i.size&&D6 len is)
    (cond (Mt (aQ P e).ks) (cond (mt (e+3000000)) (.act (RW (aQ P e) e (dJ (aQ P e) (fy z)) len is) xs) (.look (Oz (aQ P e) e (dJ (aQ P e) (fy z)) len is) xs)) (cond (gC (fy z).cells) (.act (RX i.size (fy z).cells len is) xs) .bad)) .bad
  | _,_=>.bad
 | _=>.bad
def rowAt (A:ae) (b:Nat):Option (List KV):=
 match A.get b with
 | some (.row cs _)=>some cs
 | _=>none
def Kq (A:ae) (b:Nat):Option KV:=
 match A.get b with
 | some (.arr v)=>some v
 | some (.iC v)=>some v
 | _=>none
def Yx (P:Program) (t Tc:TypeId):Bool:=Nat.beq Tc t&&Mt (aQ P t).ks&&decide (Ta P t=some (aQ P t).agg)&&decide (size? P t=some (aQ P t).ks.length)&&((aQ P t).agg||Nat.beq (aQ P t).ks.length 1)
def putCells (P:Program) (T:TypeId) (k:Nat) (e:KV) (vs:List KV):Option KV:=(kW k (leaves e (aQ P T).ks 0) vs).map fun cs=>N5 (aQ P T).agg cs
def bO (acc:Nat->KV) (i:Nat) (v:KV):Nat->KV:=fun j=>cond (Nat.beq j i) v (acc j)
def air (T:TypeId) (n i:Nat) (es:List KV) (acc:Nat->KV) (e:KV):KV:=.ts T .any n (setAt es i e) (bO acc i e)
def Ad (P:Program) (t:TypeId):FR:=fun A xs=>
 match xs with
 | [.ptr b off]=>
  match Ta P t,size? P t with
  | some ag,some n=>match (rowAt A b).bind fun cs=>yy n (D5 off cs) with
   | some l=>cond ag (.ok (.agg l)) (match l with | [v]=>.ok v | _=>.no)
   | none=>.no
  | _,_=>.no
 | [.tp _ Tc i k _ acc]=>
  cond (Yx P t Tc) (.ok (N5 (aQ P t).agg (leaves (acc i) (aQ P t).ks k))) .no
 | [.ap T Tc b i k]=>match Kq A b with
  | some (.ts T' _ _ _ acc)=>cond (Nat.beq T T'&&Yx P t Tc) (.ok (N5 (aQ P t).agg (leaves (acc i) (aQ P t).ks k))) .no
  | _=>.no
 | _=>.no
def Tw (P:Program) (t:TypeId):FA:=fun A xs=>
 match xs with
 | [.ptr b off,v]=>
  cond (decide (some v.cells.length=size? P t)&&gC v.cells)
   (match A.get b with
   | some (.row cs bm)=>match kW off cs v.cells with
    | some bM=>.ok (tP,A.put b (.row bM bm))
    | none=>.no
   | _=>.no) .no
 | [.ap T Tc b i k,v]=>
  match A.get b with
  | some (.arr (.ts T' _ n es acc))=>
   cond (Nat.beq T T'&&Nat.beq Tc t&&cw (aQ P t) (dJ (aQ P t) v)&&decide (size? P t=some (aQ P t).ks.length))
    (match putCells P T k (acc i) (dJ (aQ P t) v).cells with
    | some e=>.ok (tP,A.put b (.arr (air T n i es acc e)))
    | none=>.no) .no
  | _=>.no
 | _=>.no
def Zq:FP
 | [.ptr b off]=>.ok (.ptr b off)
 | [.tp T Tc i k es acc]=>.ok (.tp T Tc i k es acc)
 | [.ap T Tc b i k]=>.ok (.ap T Tc b i k)
 | [.fn (.func f) first cap]=>.ok (.fn (.func f) first cap)
 | _=>.no
abbrev Fe (k:IntKind) (a b:Int):Nat:=(BitVec.ofInt k.bits a &&& BitVec.ofInt k.bits b).toNat
abbrev bOr (k:IntKind) (a b:Int):Nat:=(BitVec.ofInt k.bits a ||| BitVec.ofInt k.bits b).toNat
abbrev aoT (k:IntKind) (a b:Int):Nat:=(BitVec.ofInt k.bits a ^^^ BitVec.ofInt k.bits b).toNat
abbrev ak1 (k:IntKind) (a b:Int):Nat:=(BitVec.ofInt k.bits a &&& ~~~ BitVec.ofInt k.bits b).toNat
def opI (op:BinOp) (k:IntKind) (a b:Int):KR KV:=
 match op with
 | .add=>.ok (.int k (k.wrap (a+b)))
 | .sub=>.ok (.int k (k.wrap (a - b)))
 | .mul=>.ok (.int k (k.wrap (a * b)))
 | .eql=>.ok (.bool (a==b))
 | .neq=>.ok (.bool (a != b))
 | .lss=>.ok (.bool (decide (a < b)))
 | .leq=>.ok (.bool (decide (a<=b)))
 | .gtr=>.ok (.bool (decide (a > b)))
 | .geq=>.ok (.bool (decide (a >= b)))
 | .quo=>.jN (!(decide (b=0))) (.int k (k.wrap (a.tdiv b)))
 | .rem=>.jN (!(decide (b=0))) (.int k (a.tmod b))
 | .and=>.ok (.int k (k.wrap (Fe k a b)))
 | .or=>.ok (.int k (k.wrap (bOr k a b)))
 | .xor=>.ok (.int k (k.wrap (aoT k a b)))
 | .andNot=>.ok (.int k (k.wrap (ak1 k a b)))
 | _=>.no
def aoU (op:BinOp) (k:IntKind) (a b:Int):KR KV:=
 match op with
 | .shl=>.jN (!(decide (b < 0))) (.int k (k.wrap (a * 2 ^ (min b.toNat k.bits))))
 | .shr=>.jN (!(decide (b < 0))) (.int k (a.fdiv (2 ^ (min b.toNat k.bits))))
 | _=>.no
def aeK:BinOp->Bool
 | .shl | .shr=>true
 | _=>false
def eqK:KV->KV->Option Bool
 | .int k a,.int k' b=>cond (decide (k=k')) (some (a==b)) none
 | .bool a,.bool b=>some (a==b)
 | .str a,.str b=>some (a==b)
 | _,_=>none
def wa:List KV->List KV->Option Bool
 | [],[]=>some true
 | x::xs,y::ys=>match eqK x y,wa xs ys with
  | some a,some b=>some (a&&b)
  | _,_=>none
 | _,_=>none
def Gu (P:Program):Nat->TypeId->Bool
 | 0,_=>false
 | n+1,t=>(match P.info? t,lay P (n+1) t with
   | some i,some l=>Nat.beq i.size l.ks.length
   | _,_=>false)&&match P.underlying t with
  | some (.int _) | some .bool | some .string=>true
  | some (.struct fs) => !(P.stoodInHeld t) && fs.toList.all fun f => !(f.name == "_") && Gu P n f.type
  | some (.array _ e)=>Gu P n e
  | _=>false
def ais (P:Program) (t:TypeId) (x y:KV):Option Bool:=
 match x,y with
 | .agg xs,.agg ys=>cond ((aQ P t).agg&&Gu P 12 t&&!(P.eqGuardType P.depth t)&&aD (aQ P t).ks xs&&aD (aQ P t).ks ys) (wa xs ys) none
 | .bool a,.bool b=>match P.underlying t with
  | some .bool=>some (a==b)
  | _=>none
 | .ko,.ko=>match P.underlying t with
  | some (.slice _)=>some true
  | _=>none
 | .ts _ _ n _ _,.ko=>match P.underlying t with
  | some (.slice _)=>cond (Nat.beq n 0) none (some false)
  | _=>none
 | .ko,.ts _ _ n _ _=>match P.underlying t with
  | some (.slice _)=>cond (Nat.beq n 0) none (some false)
  | _=>none
 | .Gt,.Gt=>match P.underlying t with
  | some (.pointer _)=>some true
  | _=>none
 | .ptr _ _,.Gt=>match P.underlying t with
  | some (.pointer _)=>some false
  | _=>none
 | .Gt,.ptr _ _=>match P.underlying t with
  | some (.pointer _)=>some false
  | _=>none
 | _,_=>none
def ait (P:Program) (t:TypeId):Bool:=match P.underlying t with
 | some (.slice _)=>true
 | _=>false
def ak2 (P:Program) (op:BinOp) (t:TypeId):FP
 | [.int j a,.int k b]=>cond (aeK op) (aoU op j a b) (cond (decide (j=k)) (opI op j a b) .no)
 | [.str a,.str b]=>match op with
  | .eql=>.ok (.bool (a.toList==b.toList))
  | .neq=>.ok (.bool !(a.toList==b.toList))
  | .lss=>.ok (.bool (Op.bytesLess a.toList b.toList))
  | .add=>.jN (Nat.ble (a.size+b.size) 9223372036854775807) (.str (a++b))
  | _=>.no
 | [.ts _ _ n _ _,.ko]=>match op with
  | .eql=>cond (ait P t) (.jN (Nat.blt 0 n) (.bool false)) .no
  | .neq=>cond (ait P t) (.jN (Nat.blt 0 n) (.bool true)) .no
  | _=>.no
 | [x,y]=>match op,ais P t x y with
  | .eql,some b=>.ok (.bool b)
  | .neq,some b=>.ok (.bool !b)
  | _,_=>.no
 | _=>.no
def kUn (op:UnOp):FP
 | [.bool b]=>match op with
  | .not=>.ok (.bool !b)
  | _=>.no
 | [.int k n]=>match op with
  | .neg=>.ok (.int k (k.wrap (0 - n)))
  | .xor=>.ok (.int k (k.wrap (BitVec.ofInt k.bits (if k.signed then -1 else k.max) ^^^ BitVec.ofInt k.bits n).toNat))
  | _=>.no
 | _=>.no
def aiu (k:IntKind):FP
 | [.int _ n]=>.ok (.int k (k.wrap n))
 | _=>.no
def aiv:FP
 | [.str s]=>.ok (.str s)
 | _=>.no
def byteOf:KV->UInt8
 | .int _ n=>UInt8.ofNat n.toNat
 | _=>0
def aiw:KV->Bool
 | .int .u8 n=>decide (0<=n)&&decide (n < 256)
 | _=>false
def Mu:FP
 | [.ko]=>.ok (.str ⟨⟨[]⟩⟩)
 | [.ts _ _ _ es _]=>.jN (es.all aiw) (.str ⟨⟨es.map byteOf⟩⟩)
 | _=>.no
def RY (e:TypeId):FP
 | [.str s]=>.ok (.ts e .any s.size (s.data.toList.map fun b=>.int .u8 b.toNat) (fun i=>.int .u8 (s.data.toList.getD i 0).toNat))
 | _=>.no
def qL (P:Program) (src dst:TypeId) (x:Operand):rY:=
 match P.underlying src,P.underlying dst with
 | some (.int _),some (.int k)=>.pure (aiu k) [x]
 | some .string,some .string=>.pure aiv [x]
 | some (.slice e),some .string=>cond (isByte P e) (.read (fun _=>Mu) [x]) .bad
 | some .string,some (.slice e)=>cond (isByte P e) (.look (RY e) [x]) .bad
 | _,_=>.bad
def Mv (f:Fn) (k:Nat):FP:=fun vs=>
 match yy k vs with
 | some first=>.ok (.fn f first (D5 k vs))
 | none=>.no
def Xa (s:TypeId) (off:Nat) (ft:TypeId) (tQ:Bool):FP
 | [.ptr b o]=>.ok (.ptr b (o+off))
 | [.tp T Tc i k es acc]=>cond (Nat.beq Tc s&&tQ) (.ok (.tp T ft i (k+off) es acc)) .no
 | [.ap T Tc b i k]=>cond (Nat.beq Tc s&&tQ) (.ok (.ap T ft b i (k+off))) .no
 | _=>.no
def ak3:CK->CK->Bool
 | .int a,.int b=>decide (a=b)
 | .bool,.bool=>true
 | .str,.str=>true
 | .slice a,.slice b=>Nat.beq a b
 | .other,.other=>true
 | _,_=>false
def D7:List CK->List CK->Bool
 | [],[]=>true
 | a::aqd,b::bs=>ak3 a b&&D7 aqd bs
 | _,_=>false
def Yy (P:Program) (s:TypeId) (off:Nat) (ft:TypeId):Bool:=
 match yy (aQ P ft).ks.length (D5 off (aQ P s).ks) with
 | some l=>D7 l (aQ P ft).ks
 | none=>false
def mh (P:Program) (s:TypeId) (x:Operand) (f:Nat):rY:=
 match zb P s f with
 | some fd=>match size? P fd.type with
  | some (_+1)=>.pure (Xa s fd.offset fd.type (Yy P s fd.offset fd.type)) [x]
  | _=>.bad
 | none=>.bad
def Vy (P:Program) (t:TypeId) (cs:List KV) (off:Nat):Option KV:=
 match Ta P t with
 | some true=>(size? P t).bind fun n=>(yy n (D5 off cs)).map fun l=>.agg l
 | some false=>(D5 off cs).head?
 | none=>none
def aix (P:Program) (fd:Field):FP
 | [.agg cs]=>.of (Vy P fd.type cs fd.offset)
 | _=>.no
def wu (P:Program) (t:TypeId) (x:Operand) (f:Nat):rY:=
 match zb P t f with
 | some fd=>.pure (aix P fd) [x]
 | none=>.bad
def Zr (i:Int) (n:Nat):Bool:=decide (0<=i)&&decide (i < (n:Int))
def aiy {α:Type} (i:Int) (f:Nat->KR α) (m:Nat):Nat->KR α:=Nat.rec (motive:=fun _=>Nat->KR α) (fun _=>.no) (fun _ ih j=>.br (decide (i=(j:Int))) (f j) (ih (Nat.succ j))) m
def Zs (P:Program) (t:TypeId) (len n:Nat) (e:TypeId):FP
 | [.ptr b o,.int _ i]=>cond (Nat.ble len 8) (aiy i (fun j=>.ok (.ptr b (o+j * n))) len 0) (.jN (Zr i len) (.ptr b (o+i.toNat * n)))
 | [.tp T Tc j k es acc,.int _ i]=>cond (Nat.beq Tc t&&D7 (aQ P t).ks (dj (aQ P e).ks len)&&Nat.beq (aQ P e).ks.length n) (.jN (Zr i len) (.tp T e j (k+i.toNat * n) es acc)) .no
 | [.ap T Tc b j k,.int _ i]=>cond (Nat.beq Tc t&&D7 (aQ P t).ks (dj (aQ P e).ks len)&&Nat.beq (aQ P e).ks.length n) (.jN (Zr i len) (.ap T e b j (k+i.toNat * n))) .no
 | _=>.no
def aca (e n:Nat) (tQ:Bool):FP
 | [.sl b o len _,.int _ i]=>.jN (Zr i len) (.ptr b (o+i.toNat * n))
 | [.ts T _ m es acc,.int _ i]=>cond (Nat.beq T e&&tQ) (.jN (Zr i m) (.tp T T i.toNat 0 es acc)) .no
 | [.al T b o m,.int _ i]=>cond (Nat.beq T e&&tQ) (.jN (Zr i m) (.ap T T b (o+i.toNat) 0)) .no
 | _=>.no
def mi (P:Program) (t:TypeId) (x ix:Operand):rY:=
 match P.underlying t with
 | some (.array len e)=>match size? P e with
  | some n=>.pure (Zs P t len n e) [x,ix]
  | none=>.bad
 | some (.slice e)=>match size? P e with
  | some n=>.pure (aca e n (Nat.beq (aQ P e).ks.length n)) [x,ix]
  | none=>.bad
 | _=>.bad
def RZ (P:Program) (len n:Nat) (e:TypeId):FP
 | [.agg cs,.int _ i]=>cond (Nat.ble len 8) (aiy i (fun j=>.of (Vy P e cs (j * n))) len 0) (match Vy P e cs (i.toNat * n) with
  | some v=>.jN (Zr i len) v
  | none=>.no)
 | _=>.no
def Zt:FP
 | [.str s,.int _ i]=>.jN (Zr i s.size) (.int .u8 ((s.data.toList.getD i.toNat 0).toNat))
 | _=>.no
def wx (P:Program) (t:TypeId) (x ix:Operand):rY:=
 match P.underlying t with
 | some (.array len e)=>match size? P e with
  | some n=>.pure (RZ P len n e) [x,ix]
  | none=>.bad
 | some .string=>.pure Zt [x,ix]
 | _=>.bad
def acb {α:Type} : Nat->List α->Option α
 | _,[]=>none
 | 0,x::_=>some x
 | n+1,_::xs=>acb n xs
def acd (i:Nat):FP
 | [.l8 vs]=>.of (acb i vs)
 | _=>.no
def aiz:FP
 | [.ts _ _ n _ _]=>.ok (.int .i64 (n:Int))
 | [.sl _ _ n _]=>.ok (.int .i64 (n:Int))
 | [.al _ _ _ n]=>.ok (.int .i64 (n:Int))
 | [.ko]=>.ok (.int .i64 0)
 | _=>.no
def aeL:FP
 | [.str s]=>.ok (.int .i64 (s.size:Int))
 | _=>.no
def Zu (P:Program) (argTypes:List TypeId) (args:List Operand):rY:=
 match argTypes with
 | [t]=>match P.underlying t with
  | some (.slice _)=>.pure aiz args
  | some .string=>.pure aeL args
  | _=>.bad
 | _=>.bad
def Lj (mx:Bool):FP
 | [.int j a,.int k b]=>cond (decide (j=k)) (.ok (.int j (cond mx (max a b) (min a b)))) .no
 | [.int j a,.int k b,.int l c]=>cond (decide (j=k)&&decide (j=l)) (.ok (.int j (cond mx (max (max a b) c) (min (min a b) c)))) .no
 | _=>.no
def Q8 (len:Nat) (lo hi:Bool):List KV->Option (Int×Int)
 | []=>cond (lo||hi) none (some (0,len))
 | [.int _ x]=>cond (lo&&!hi) (some (x,len)) (cond (!lo&&hi) (some (0,x)) none)
 | [.int _ x,.int _ y]=>cond (lo&&hi) (some (x,y)) none
 | _=>none
def Vz (P:Program) (n:Nat) (lo hi:Bool):FR:=fun A xs=>
 match xs with
 | .ts T _ m es acc::r=>match Q8 m lo hi r with
  | some (x,y)=>cond (Nat.beq (aQ P T).ks.length n) (.jN (decide (0<=x)&&decide (x<=y)&&decide (y<=(m:Int))) (.ts T .any (y.toNat - x.toNat) ((es.drop x.toNat).take (y.toNat - x.toNat)) (fun i=>acc (x.toNat+i)))) .no
  | none=>.no
 | .sl b o len cap::r=>match A.get b with
  | some (.row _ bm)=>match Q8 len lo hi r with
   | some (x,y)=>cond (Nat.beq bm n) (.jN (decide (0<=x)&&decide (x<=y)&&decide (y<=(len:Int))&&decide (len<=cap)) (.sl b (o+x.toNat * n) (y.toNat - x.toNat) (cap - x.toNat))) .no
   | none=>.no
  | _=>.no
 | .al T b o m::r=>match Kq A b with
  | some (.ts T' _ _ _ _)=>match Q8 m lo hi r with
   | some (x,y)=>cond (Nat.beq (aQ P T).ks.length n&&Nat.beq T T') (.jN (decide (0<=x)&&decide (x<=y)&&decide (y<=(m:Int))) (.al T b (o+x.toNat) (y.toNat - x.toNat))) .no
   | none=>.no
  | _=>.no
 | _=>.no
def VA (P:Program) (n:Nat) (lo hi:Bool):FA:=fun A xs=>
 match xs with
 | .al T b o m::r=>match A.get b with
  | some (.arr (.ts T' _ _ es acc))=>match Q8 m lo hi r with
   | some (x,y)=>cond (Nat.beq (aQ P T).ks.length n&&Nat.beq T T'&&Nat.beq o 0&&decide (x=0)) (.jN (decide (0<=y)&&decide (y<=(m:Int))) (.al T A.next 0 y.toNat,(A.put b .dead).new (.arr (.ts T .any y.toNat (es.take y.toNat) acc)))) .no
   | none=>.no
  | _=>.no
 | _=>.no
def R0 (len n:Nat) (lo hi:Bool):FR:=fun A xs=>
 match xs with
 | .ptr b o::r=>match A.get b with
  | some (.row cs bm)=>match Q8 len lo hi r with
   | some (x,y)=>cond (Nat.beq bm n&&Nat.ble (o+len * n) cs.length) (.jN (decide (0<=x)&&decide (x<=y)&&decide (y<=(len:Int))) (.sl b (o+x.toNat * n) (y.toNat - x.toNat) (len - x.toNat))) .no
   | none=>.no
  | _=>.no
 | _=>.no
def R1 (lo hi:Bool):FP
 | .str s::r=>match Q8 s.size lo hi r with
  | some (x,y)=>.jN (decide (0<=x)&&decide (x<=y)&&decide (y<=(s.size:Int))) (.str ⟨⟨(s.data.toList.drop x.toNat).take (y.toNat - x.toNat)⟩⟩)
  | none=>.no
 | _=>.no
def wy (P:Program) (mt:TypeId->Bool) (t:TypeId) (x:Operand) (lo hi mx:Option Operand):rY:=
 match P.underlying t with
 | some (.slice e)=>match size? P e with
  | some n=>cond (Nat.ble 1 n&&mx.isNone) (cond (mt (e+4000000)) (.act (VA P n lo.isSome hi.isSome) (x::(eW lo++eW hi))) (.read (Vz P n lo.isSome hi.isSome) (x::(eW lo++eW hi)))) .bad
  | none=>.bad
 | some (.array len e)=>match size? P e with
  | some n=>cond (Nat.ble 1 n&&mx.isNone) (.read (R0 len n lo.isSome hi.isSome) (x::(eW lo++eW hi))) .bad
  | none=>.bad
 | some .string=>cond mx.isNone (.pure (R1 lo.isSome hi.isSome) (x::(eW lo++eW hi))) .bad
 | _=>.bad
def dQ (b n m:Nat):Bool:=Nat.ble ((n+m) * b) 140737488355328&&Nat.ble (n+m) 17592186044416
def ai (top n:Nat):Bool:=Nat.beq top n
def av (n:Nat) (f g:Nat->KV):Nat->KV:=fun i=>cond (Nat.blt i n) (f i) (g (i - n))
def Tx (e sz b n:Nat) (base:List KV) (ab:Nat->KV) (A:ae) (f m:Nat) (new:List KV) (an:Nat->KV) (more:Bool):KR (KV×ae):=
 .jN (more&&dQ b n m)
  (.ts e (.aO f) (n+m) (base++new) (av n ab an),A.put f (.aO (n+m) sz))
def OA (e sz b:Nat):FA:=fun A xs=>
 match xs with
 | [.ko,.ts e' _ m new an]=>cond (Nat.beq e e') (Tx e sz b 0 [] qz (A.new (.aO 0 sz)) A.next m new an true) .no
 | [.ts e1 .exact n es ab,.ts e' _ m new an]=>cond (Nat.beq e e'&&Nat.beq e e1) (Tx e sz b n es ab (A.new (.aO 0 sz)) A.next m new an (Nat.blt 0 m)) .no
 | [.ts e1 (.aO f) n es ab,.ts e' _ m new an]=>match A.get f with
  | some (.aO top sz')=>cond (Nat.beq e e'&&Nat.beq e e1&&Nat.beq sz' sz) (Tx e sz b n es ab A f m new an (ai top n)) .no
  | _=>.no
 | _=>.no
def ace (o:Nat) (acc:Nat->KV):Nat->KV:=
 match o with
 | 0=>acc
 | o+1=>fun i=>acc (o+1+i)
theorem ado (o:Nat) (acc:Nat->KV):ace o acc=fun i=>acc (o+i):=by
 cases o with
 | zero=>funext i; show acc i=acc (0+i); rw [ba]
 | succ o=>rfl
def adp (A:ae) (T b o n:Nat):Option KV:=
 match Kq A b with
 | some (.ts T' _ _ es acc)=>cond (Nat.beq T T') (some (.ts T .any n ((es.drop o).take n) (ace o acc))) none
 | _=>none
def OB (A:ae) (v:KV):Option KV:=
 match v with
 | .al T b o n=>adp A T b o n
 | .ts T m n es acc=>some (.ts T m n es acc)
 | _=>none
def aiA (b n m:Nat):Bool:=Nat.ble ((n+m) * b) 140737488355328&&Nat.ble (n+m) 17592186044416
def Yz (e b n:Nat) (base:List KV) (ab:Nat->KV) (A:ae) (m:Nat) (new:List KV) (an:Nat->KV) (more:Bool):KR (KV×ae):=
 .jN (more&&aiA b n m) (.al e A.next 0 (n+m),A.new (.arr (.ts e .any (n+m) (base++new) (av n ab an))))
def Ht (e b:Nat):FA:=fun A xs=>
 match xs with
 | [.ko,.ts e' _ m new an]=>cond (Nat.beq e e') (Yz e b 0 [] qz A m new an true) .no
 | [.al e1 f o n,.ts e' _ m new an]=>match A.get f with
  | some (.arr (.ts e2 _ _ es acc))=>cond (Nat.beq e e'&&Nat.beq e e1&&Nat.beq e e2) (Yz e b n (es.take n) acc (A.put f .dead) m new an (Nat.beq o 0)) .no
  | _=>.no
 | _=>.no
def ak4:KV->Bool
 | .al _ _ _ _=>true
 | _=>false
def Ll (e sz b:Nat) (mt:Bool):FA:=fun A xs=>
 match xs with
 | [x,y]=>match OB A y with
  | some y'=>cond (ak4 x) (Ht e b A [x,y']) (cond mt (Ht e b A [x,y']) (OA e sz b A [x,y']))
  | none=>.no
 | _=>.no
def JA (P:Program) (mt:TypeId->Bool) (argTypes:List TypeId) (args:List Operand):rY:=
 match argTypes with
 | [t,u]=>
  match P.underlying t,P.underlying u with
  | some (.slice e),some (.slice _)=>
   match P.info? e with
   | some i=>match i.zero with
    | some z=>cond (Nat.ble 1 i.size&&Nat.beq z.cells.size i.size&&Nat.beq (aQ P e).ks.length i.size) (.act (Ll e i.size i.bytes (mt e)) args) .bad
    | none=>.bad
   | none=>.bad
  | _,_=>.bad
 | _=>.bad
def OC (n b:Nat) (z:List KV):FA:=fun A xs=>
 match xs with
 | [.int _ l,.int _ c]=>.jN (decide (0<=l)&&decide (l<=c)&&Nat.ble (b * c.toNat) 281474976710656) (.sl A.next 0 l.toNat c.toNat,A.new (.row (dj z c.toNat) n))
 | _=>.no
def Zv (A:ae) (v:KV):KV×ae:=
 match v with
 | .al T b o n=>match A.get b with
  | some (.arr (.ts T' m N es acc))=>cond (Nat.beq T T') (.ts T .any n ((es.drop o).take n) (fun i=>acc (o+i)),A.put b (.iC (.ts T' m N es acc))) (.bf,A)
  | some (.iC (.ts T' _ _ es acc))=>cond (Nat.beq T T') (.ts T .any n ((es.drop o).take n) (fun i=>acc (o+i)),A) (.bf,A)
  | _=>(.bf,A)
 | v=>(v,A)
def VB (A:ae):List KV->List KV×ae
 | []=>([],A)
 | v::vs=>((Zv A v).1::(VB (Zv A v).2 vs).1,(VB (Zv A v).2 vs).2)
def acf (A:ae) (v:KV):KV×ae:=
 match v with
 | .agg cs=>(.agg (VB A cs).1,(VB A cs).2)
 | v=>Zv A v
def zZ (A:ae):List KV->List KV×ae
 | []=>([],A)
 | v::vs=>((acf A v).1::(zZ (acf A v).2 vs).1,(zZ (acf A v).2 vs).2)
def VE (T b:Nat) (z:KV):FA:=fun A xs=>
 match xs with
 | [.int _ l,.int _ c]=>.jN (decide (0<=l)&&decide (l<=c)&&Nat.ble (b * c.toNat) 281474976710656) (.al T A.next 0 l.toNat,A.new (.arr (.ts T .any c.toNat (dj [z] c.toNat) (fun _=>z))))
 | _=>.no
def adq (T b:Nat) (z:KV):FP:=fun xs=>
 match xs with
 | [.int _ l,.int _ c]=>.jN (decide (0<=l)&&decide (l<=c)&&Nat.ble (b * c.toNat) 281474976710656) (.ts T .any l.toNat (dj [z] l.toNat) (fun _=>z))
 | _=>.no
def yz (P:Program) (mt:TypeId->Bool) (t:TypeId) (l c:Operand):rY:=
 match P.underlying t with
 | some (.slice e)=>
  match P.info? e with
  | some i=>match i.zero with
   | some z=>cond (mt (e+1000000)) (cond (Nat.ble 1 i.size&&Nat.ble 1 i.bytes&&Nat.beq z.cells.size i.size&&flat z&&z.cells.toList.all scalar&&Nat.beq (aQ P e).ks.length i.size&&cw (aQ P e) (dJ (aQ P e) (fy z))) (.look (adq e i.bytes (dJ (aQ P e) (fy z))) [l,c]) .bad) <| cond (mt e) (cond (Nat.ble 1 i.size&&Nat.ble 1 i.bytes&&Nat.beq z.cells.size i.size&&flat z&&z.cells.toList.all scalar&&Nat.beq (aQ P e).ks.length i.size&&cw (aQ P e) (dJ (aQ P e) (fy z))) (.act (VE e i.bytes (dJ (aQ P e) (fy z))) [l,c]) .bad) <| cond (Nat.ble 1 i.size&&Nat.ble 1 i.bytes&&Nat.beq z.cells.size i.size&&flat z&&z.cells.toList.all scalar&&gC (fy z).cells) (.act (OC i.size i.bytes (fy z).cells) [l,c]) .bad
   | none=>.bad
  | none=>.bad
 | _=>.bad
def CP (es:List KV) (o:Nat) (new:List KV):List KV:=es.take o++new++es.drop (o+new.length)
def aA (o k:Nat) (f g:Nat->KV):Nat->KV:=fun i=>cond (Nat.blt i o) (f i) (cond (Nat.blt i (o+k)) (g (i - o)) (f i))
def ag6 (e:Nat):FA:=fun A xs=>
 match xs with
 | [.al e1 b o n,y]=>match OB A y,A.get b with
  | some (.ts e' _ m new an),some (.arr (.ts e2 _ N es acc))=>cond (Nat.beq e e'&&Nat.beq e e1&&Nat.beq e e2)
    (.ok (.int .i64 (Nat.min m n:Nat),A.put b (.arr (.ts e .any N (CP es o (new.take (Nat.min m n))) (aA o (Nat.min m n) acc an))))) .no
  | _,_=>.no
 | _=>.no
def P9 (P:Program) (argTypes:List TypeId) (args:List Operand):rY:=
 match argTypes with
 | [t,u]=>
  match P.underlying t,P.underlying u with
  | some (.slice e),some (.slice _)=>match size? P e with
   | some n=>cond (Nat.ble 1 n&&Nat.beq (aQ P e).ks.length n) (.act (ag6 e) args) .bad
   | none=>.bad
  | _,_=>.bad
 | _=>.bad
def CQ (P:Program) (mt:TypeId->Bool) (b:Builtin) (argTypes:List TypeId) (args:List Operand):rY:=
 match b with
 | .len=>Zu P argTypes args
 | .min=>.pure (Lj false) args
 | .max=>.pure (Lj true) args
 | .append=>JA P mt argTypes args
 | .copy=>P9 P argTypes args
 | _=>.bad
inductive wb where
 | no
 | out (e:ah) (t:bd) (A:ae)
 | br (c:Bool) (x y:wb)
 | once
inductive xS where
 | no
 | out (v:KV) (A:ae)
 | br (c:Bool) (x y:xS)
structure aeM where
 ac:FuncId->Option (List KV->ae->xS)
 mt:TypeId->Bool
 fz:Bool
 eg:Bool
def aeM.none:aeM:=⟨fun _=>.none,fun _=>false,false,false⟩
structure dD where
 pc:FuncId->Option (List KV->KR KV)
 lp:FuncId->Nat->Option (bd->ae->wb)
 x:aeM
def dD.none:dD:=⟨fun _=>.none,fun _ _=>.none,.none⟩
def ik (P:Program) (f:KV->KV) (t:TypeId) (e:KV):KV:=N5 (aQ P t).agg ((leaves e (aQ P t).ks 0).map f)
def ca (P:Program) (d:Nat):KV->KV:=Nat.rec (motive:=fun _=>KV->KV) (fun v=>v) (fun _ ih v=>match v with
 | .ts t _ n _ acc=>.ts t .any n ((List.range n).map fun i=>ik P ih t (acc i)) (fun i=>ik P ih t (acc i))
 | v=>v) d
def dB:Nat:=6
def Ty (P:Program) (t:TypeId) (v:KV):KV:=cond (cw (aQ P t) (dJ (aQ P t) v)) (ik P (ca P dB) t (dJ (aQ P t) v)) .bf
def normArgs (P:Program):List TypeId->List KV->List KV
 | t::ts,v::vs=>Ty P t v::normArgs P ts vs
 | _,_=>[]
def bS (P:Program) (g:FuncId):List TypeId:=match P.funcs.toList[g]? with
 | some fn=>fn.params.toList
 | none=>[]
def dD.aeN (cfg:dD) (g:FuncId):Bool:=cfg.x.fz||cfg.x.mt (2000000+g)
def lI (P:Program) (cfg:dD) (c:Call):rY:=
 match c.callee with
 | .value (.func g)=>match cfg.pc g with
  | some F=>cond (cfg.aeN g) (.HS g (fun vs=>cond (Nat.beq vs.length (bS P g).length) (F (normArgs P (bS P g) vs)) .no) c.args.toList)
    (.D4 g (fun vs=>cond (Nat.beq vs.length (bS P g).length) (F (normArgs P (bS P g) vs)) .no) c.args.toList)
  | none=>.call (.func g) c.args.toList
 | .value f=>.call f c.args.toList
 | .builtin b=>CQ P cfg.x.mt b c.argTypes.toList c.args.toList
 | .invoke _ _=>.bad
def AI:Fn->Bool
 | .yield _=>true
 | _=>false
def bw (P:Program) (cfg:dD):Op->rY
 | .move x=>.pure adm [x]
 | .assign x=>.pure (cond cfg.x.eg adn adm) [x]
 | .pick c a b=>.pure ag5 [c,a,b]
 | .alloc t=>rq P t
 | .box t x=>.act (HT (oG P t)) [x]
 | .build t parts=>wq P t (parts.toList.map (·.1)) (parts.toList.map (·.2))
 | .buildSlice t len parts=>kX P cfg.x.mt t len (parts.toList.map (·.1)) (parts.toList.map (·.2))
 | .load t a=>.read (Ad P t) [a]
 | .store t a x=>.act (Tw P t) [a,x]
 | .nilCheck x=>.pure Zq [x]
 | .binOp op t x y _=>.pure (ak2 P op t) [x,y]
 | .unOp op _ x=>.pure (kUn op) [x]
 | .convert src dst x=>qL P src dst x
 | .makeFunc fn first cap=>cond (AI fn) .bad (.pure (Mv fn first.size) (first.toList++cap.toList))
 | .fieldAddr s x f=>mh P s x f
 | .field t x f=>wu P t x f
 | .indexAddr t x ix=>mi P t x ix
 | .index t x ix=>wx P t x ix
 | .extract t ix=>.pure (acd ix) [t]
 | .slice t x lo hi mx=>wy P cfg.x.mt t x lo hi mx
 | .makeSlice t l c=>yz P cfg.x.mt t l c
 | .call c=>lI P cfg c
 | _=>.bad
def gq (t:bd):Operand->KV
 | .tmp i=>(t.get i).getD .bf
 | .const v=>cond (flat v) (fy v) .bf
 | .global _=>.bf
 | .func f=>.fn (.func f) [] []
def jY (t:bd):List Operand->List KV
 | []=>[]
 | x::xs=>gq t x::jY t xs
def qA (t:bd) (dst:Option Tmp) (v:KV):bd:=
 match dst with
 | some d=>t.set v d
 | none=>t
def yA (args:List KV):KV->Option (FuncId×List KV)
 | .fn (.func g) first cap=>some (g,first++args++cap)
 | _=>none
inductive BK where
 | bool (b:Bool)
 | l8
 | no
def xT:KV->BK
 | .bool b=>.bool b
 | .l8 _=>.l8
 | _=>.no
section
variable {R:Type}
abbrev kq (R:Type):=FuncId->List KV->ae->(KV->ae->Option R)->Option R
def JB (aR:kq R) (t:bd) (A:ae) (k:KV->ae->Option R) (ins:rY):Option R:=
 rY.rec (motive:=fun _=>Option R)
  (fun f xs=>(f (jY t xs)).run fun v=>k v A)
  (fun f xs=>(f A (jY t xs)).run fun v=>k v A)
  (fun f xs=>(f A (jY t xs)).run fun p=>k p.1 p.2)
  (fun f xs=>(f (jY t xs)).run fun v=>k v A)
  (fun _ f xs=>(f (jY t xs)).run fun v=>k v A)
  (fun _ f xs=>(f (zZ A (jY t xs)).1).run fun v=>k v (zZ A (jY t xs)).2)
  (fun f args=>Option.rec (motive:=fun _=>Option R) none (fun p=>aR p.1 p.2 A k) (yA (jY t args) (gq t f)))
  none ins
def aeO (t:bd) (d:Option Tmp) (want:Bool) (yes no:bd->Option R):Option R:=
 Option.rec (motive:=fun _=>Option R) none (fun d=>BK.rec (motive:=fun _=>Option R)
  (fun b=>Bool.rec (motive:=fun _=>Option R)
   (Bool.rec (motive:=fun _=>Option R) (yes (t.set (.bool false) d)) (no (t.set (.bool false) d)) want)
   (Bool.rec (motive:=fun _=>Option R) (no (t.set (.bool true) d)) (yes (t.set (.bool true) d)) want) b)
  (no t) none (xT ((t.get d).getD .bf))) d
def Ae (P:Program) (cfg:dD) (aR:kq R) (all:List Oper) (o:Oper) (k:bd->ae->Option R) (t:bd) (A:ae):Option R:=
 Option.rec (motive:=fun _=>Option R) (JB aR t A (fun v A=>k (qA t o.dst v) A) (bw P cfg o.op))
  (fun g=>aeO t ((all[g.1]?).bind (·.dst)) g.2 (fun t=>JB aR t A (fun v A=>k (qA t o.dst v) A) (bw P cfg o.op)) (fun t=>k (qA t o.dst tP) A)) o.guard
def Xb (P:Program) (cfg:dD) (aR:kq R) (all:List Oper) (k:bd->ae->Option R) (os:List Oper):bd->ae->Option R:=
 List.rec (motive:=fun _=>bd->ae->Option R) k (fun o _ ih=>Ae P cfg aR all o ih) os
abbrev KE (R:Type):=ah->bd->ae->Option R
def adr (t:bd) (c:Operand) (f g:bd->Option R):Option R:=
 match c with
 | .tmp d=>BK.rec (motive:=fun _=>Option R) (fun b=>Bool.rec (motive:=fun _=>Option R) (g (t.set (.bool false) d)) (f (t.set (.bool true) d)) b) none none (xT ((t.get d).getD .bf))
 | c=>BK.rec (motive:=fun _=>Option R) (fun b=>Bool.rec (motive:=fun _=>Option R) (g t) (f t) b) none none (xT (gq t c))
def cG (i:rY):Nat:=rY.rec (motive:=fun _=>Nat) (fun _ _=>0) (fun _ _=>1) (fun _ _=>3) (fun _ _=>0) (fun _ _ _=>0) (fun _ _ _=>3) (fun _ _=>9) 9 i
def Tz:rY->List Operand
 | .pure _ xs=>xs
 | .read _ xs=>xs
 | .act _ xs=>xs
 | .look _ xs=>xs
 | .D4 _ _ xs=>xs
 | .HS _ _ xs=>xs
 | .call f xs=>f::xs
 | .bad=>[]
def nP (P:Program) (cfg:dD) (all:List Oper) (o:Oper):List Tmp:=Hr all o++tL (Tz (bw P cfg o.op))
def wz (P:Program) (cfg:dD) (all:List Oper) (x y:Oper):Bool:=Ol x.dst (nP P cfg all y)||Ol y.dst (nP P cfg all x)||Tg x.dst y.dst
def Kr (P:Program) (cfg:dD) (all:List Oper) (x y:Oper):Bool:=
 wz P cfg all x y||(Nat.ble 3 (cG (bw P cfg x.op))&&!(Nat.beq (cG (bw P cfg y.op)) 0))||(Nat.ble 3 (cG (bw P cfg y.op))&&!(Nat.beq (cG (bw P cfg x.op)) 0))
def Qa:Op->Bool
 | .alloc _=>true
 | .box _ _=>true
 | .call c=>match c.callee with
  | .builtin .append=>true
  | _=>false
 | _=>false
def TA:Op->Option Operand
 | .store _ a _=>some a
 | _=>none
def GZ:Op->Option Operand
 | .load _ a=>some a
 | _=>none
def uy (i:Nat) (x:Operand):List Oper->Nat->Bool
 | [],_=>true
 | o::os,j=>(Nat.blt j i||!(Ol o.dst (tL [x])))&&uy i x os (Nat.succ j)
def Mw (i:Nat) (x:Option Operand) (all:List Oper):Bool:=
 match x with
 | some x=>uy i x all 0
 | none=>true
def Mx (x y:Oper):Option (Option Operand×Operand):=
 match GZ y.op with
 | some a=>cond (Qa x.op) (some (none,a)) (match TA x.op with
  | some a2=>some (some a2,a)
  | none=>none)
 | none=>none
def Xc (all:List Oper) (j:Nat) (x:Oper) (i:Nat) (y:Oper):Option (Option Operand×Operand):=
 match Mx x y with
 | some p=>cond (uy i p.2 all 0&&Mw j p.1 all) (some p) none
 | none=>match Mx y x with
  | some p=>cond (uy j p.2 all 0&&Mw i p.1 all) (some p) none
  | none=>none
def Lm (t:bd) (nx:Nat) (p:Option Operand×Operand):Bool:=
 match gq t p.2 with
 | .tp _ _ _ _ _ _=>true
 | .ptr b _=>Nat.blt b nx&&(match p.1 with
  | some a2=>(match gq t a2 with
   | .ptr b2 _=>!(Nat.beq b b2)
   | .ap _ _ _ _ _=>true
   | _=>false)
  | none=>true)
 | _=>false
def R2 (t:bd) (nx:Nat) (l:List (Option Operand×Operand)):Bool:=List.rec (motive:=fun _=>Bool) true (fun p _ ih=>Bool.rec false ih (Lm t nx p)) l
def Ff (P:Program) (cfg:dD) (all:List Oper) (b:List Nat) (i:Nat) (y:Oper):List Oper->Nat->List (Option Operand×Operand)
 | [],_=>[]
 | x::xs,j=>cond (Nat.ble i j||!Kr P cfg all x y||ov b i j) (Ff P cfg all b i y xs (Nat.succ j)) (match Xc all j x i y with
  | some p=>p::Ff P cfg all b i y xs (Nat.succ j)
  | none=>Ff P cfg all b i y xs (Nat.succ j))
def VF (P:Program) (cfg:dD) (all:List Oper) (b:List Nat):List Oper->Nat->List (Option Operand×Operand)
 | [],_=>[]
 | o::os,i=>Ff P cfg all b i o all 0++VF P cfg all b os (Nat.succ i)
def R3 (P:Program) (cfg:dD) (all:List Oper):Bool:=all.all fun o=>!(Nat.ble 3 (cG (bw P cfg o.op)))||Qa o.op||(TA o.op).isSome
def Ks (P:Program) (cfg:dD) (all:List Oper):List (Option Operand×Operand):=VF P cfg all (dE [] all) all 0
def Qb (P:Program) (cfg:dD) (all:List Oper) (b:List Nat) (i:Nat) (y:Oper):List Oper->Nat->Bool
 | [],_=>true
 | x::xs,j=>(Nat.ble i j||!Kr P cfg all x y||ov b i j||(!wz P cfg all x y&&(Xc all j x i y).isSome))&&Qb P cfg all b i y xs (Nat.succ j)
def Ln (P:Program) (cfg:dD) (all:List Oper) (b:List Nat):List Oper->Nat->Bool
 | [],_=>true
 | o::os,i=>Qb P cfg all b i o all 0&&Ln P cfg all b os (Nat.succ i)
def aeP (P:Program) (cfg:dD) (all:List Oper):Bool:=Lb P all&&all.all (fun o=>Nat.ble (cG (bw P cfg o.op)) 3)&&Ln P cfg all (dE [] all) all 0&&((Ks P cfg all).isEmpty||R3 P cfg all)
def fO (o:Oper):Option (TypeId×Tmp):=
 match o.op,o.guard,o.dst with
 | .alloc T,none,some d=>some (T,d)
 | _,_,_=>none
def zg (d:Tmp):List Oper->Bool
 | []=>false
 | o::os=>(match fO o with
  | some (_,e)=>Nat.beq d e
  | none=>false)||zg d os
def vh (all:List Oper) (o:Oper):Option (TypeId×Tmp×Operand):=
 match o.op,o.guard,o.dst with
 | .store T (.tmp d) x,none,none=>cond (zg d all) (some (T,d,x)) none
 | _,_,_=>none
def r7 (all:List Oper) (o:Oper):Bool:=(fO o).isSome||(vh all o).isSome
def vi (all:List Oper) (d:Tmp):List Oper->Option (TypeId×Operand)
 | []=>none
 | o::os=>match vh all o with
  | some (T,e,x)=>cond (Nat.beq d e) (some (T,x)) (vi all d os)
  | none=>vi all d os
def Lo (i:Nat) (d:Tmp):List Oper->Nat->Bool
 | [],_=>true
 | o::os,j=>(Nat.beq j i||!(Ol o.dst [d]))&&Lo i d os (Nat.succ j)
def D8 (all:List Oper) (i:Nat) (d:Tmp):List Oper->Nat->Bool
 | [],_=>true
 | o::os,j=>(Nat.beq j i||(match vh all o with
  | some (_,e,_)=>!(Nat.beq d e)
  | none=>true))&&D8 all i d os (Nat.succ j)
def OD (all:List Oper):List Oper->Nat->Bool
 | [],_=>true
 | o::os,i=>(match fO o with
  | some (_,d)=>Lo i d all 0
  | none=>true)&&(match vh all o with
  | some (_,d,x)=>uy i x all 0&&D8 all i d all 0&&zg d (all.take i)&&!(Ol (some d) (tL [x]))
  | none=>true)&&OD all os (Nat.succ i)
def Hu (P:Program) (cfg:dD) (all:List Oper) (b:List Nat) (i:Nat) (y:Oper):List Oper->Nat->Bool
 | [],_=>true
 | x::xs,j=>(Nat.ble i j||!wz P cfg all x y||ov b i j)&&Hu P cfg all b i y xs (Nat.succ j)
def Cf (P:Program) (cfg:dD) (all:List Oper) (b:List Nat):List Oper->Nat->Bool
 | [],_=>true
 | o::os,i=>Hu P cfg all b i o all 0&&Cf P cfg all b os (Nat.succ i)
def Lq (o:Oper):Option (Operand×List Operand):=
 match o.op,o.guard with
 | .call c,none=>match c.callee with
  | .value (.tmp d)=>some (.tmp d,c.args.toList)
  | _=>none
 | _,_=>none
def G0 (P:Program) (cfg:dD) (t:bd) (p:Operand×List Operand):rY:=
 match gq t p.1 with
 | .fn (.func g) [] []=>match cfg.pc g with
  | some F=>.D4 g (fun vs=>cond (Nat.beq vs.length (bS P g).length) (F (normArgs P (bS P g) vs)) .no) p.2
  | none=>.bad
 | _=>.bad
def TB (P:Program) (cfg:dD) (all:List Oper):Bool:=Lb P all&&all.all (fun o=>r7 all o||Nat.ble (cG (bw P cfg o.op)) 1||(Lq o).isSome)&&Cf P cfg all (dE [] all) all 0&&OD all all 0
def ag7 (P:Program) (cfg:dD) (aR:kq R) (all:List Oper) (o:Oper) (k:bd->ae->Option R) (t:bd) (A:ae):Option R:=
 Bool.rec (motive:=fun _=>Option R) (Option.rec (motive:=fun _=>Option R) (Ae P cfg aR all o k t A) (fun p=>JB aR t A (fun v A=>k (qA t o.dst v) A) (G0 P cfg t p)) (Lq o)) (k (qA t o.dst .bf) A) (r7 all o)
def Zw (P:Program) (cfg:dD) (aR:kq R) (all:List Oper) (k:bd->ae->Option R) (os:List Oper):bd->ae->Option R:=
 List.rec (motive:=fun _=>bd->ae->Option R) k (fun o _ ih=>ag7 P cfg aR all o ih) os
def zh (P:Program) (all:List Oper) (t:bd) (T:TypeId) (d:Tmp):Option (List KV):=
 match xR P T with
 | some z=>cond (flat z&&z.cells.toList.all scalar&&gC (fy z).cells&&decide (some (fy z).cells.length=size? P T)) (match vi all d all with
  | some (T',x)=>cond (Nat.beq T T'&&decide (some (gq t x).cells.length=size? P T)&&gC (gq t x).cells) (some (gq t x).cells) none
  | none=>some (fy z).cells) none
 | none=>none
def Xd (P:Program) (all:List Oper) (t0:bd) (k:bd->ae->Option R) (os:List Oper):bd->ae->Option R:=
 List.rec (motive:=fun _=>bd->ae->Option R) k (fun o _ ih t A=>Option.rec (motive:=fun _=>Option R) (ih t A) (fun p=>
  Option.rec (motive:=fun _=>Option R) none (fun cs=>ih (t.set (.ptr A.next 0) p.2) (A.new (.row cs (oG P p.1)))) (zh P all t0 p.1 p.2)) (fO o)) os
def wY (P:Program) (cfg:dD) (o:Oper):Bool:=
 match bw P cfg o.op with
 | .call _ _=>true
 | _=>false
def acg (P:Program) (cfg:dD):List Oper->Nat->Option Nat
 | [],_=>none
 | o::os,i=>cond (wY P cfg o) (some i) (acg P cfg os (Nat.succ i))
def YA (q:Oper) (j:Nat) (all:List Oper):Bool:=
 match q.guard,GZ q.op with
 | none,some a=>uy j a all 0
 | _,_=>false
def Lr (P:Program) (cfg:dD) (b:List Nat) (i:Nat) (h:Bool) (all:List Oper):List Oper->Nat->Bool
 | [],_=>true
 | q::os,j=>cond (Nat.beq j i) true (cond (Nat.blt j i) (cond (Nat.beq (cG (bw P cfg q.op)) 0) true (cond (ov b i j) true (h&&YA q j all))) (ov b j i))&&Lr P cfg b i h all os (Nat.succ j)
def Ls (P:Program) (cfg:dD) (b:List Nat) (all:List Oper):List Oper->Nat->Bool
 | [],_=>true
 | o::os,i=>cond (Nat.ble (cG (bw P cfg o.op)) 1) true (Lr P cfg b i (wY P cfg o) all all 0)&&Ls P cfg b all os (Nat.succ i)
def R4 (hs:List Nat) (A:ae):Option ae:=
 List.rec (motive:=fun _=>Option ae) (some A) (fun b _ ih=>Option.rec (motive:=fun _=>Option ae) none (fun A'=>match A'.get b with
  | some (.row _ _)=>some (A'.put b (.map []))
  | some (.map [])=>some A'
  | _=>none) ih) hs
def yC (hs:List Nat) (A A' : ae):ae:=
 List.rec (motive:=fun _=>ae) A' (fun b _ ih=>match A.get b with
  | some o=>ih.put b o
  | none=>ih) hs
def Qc (P:Program) (cfg:dD) (b:List Nat) (i:Nat) (t:bd):List Oper->Nat->Option (List Nat)
 | [],_=>some []
 | q::os,j=>match Qc P cfg b i t os (Nat.succ j) with
  | none=>none
  | some l=>cond (Nat.blt j i&&!(Nat.beq (cG (bw P cfg q.op)) 0)&&!(ov b i j)) (match GZ q.op with
   | some a=>match gq t a with
    | .ptr c _=>some (c::l)
    | .tp _ _ _ _ _ _=>some l
    | _=>none
   | none=>none) (some l)
def TC (hs:List Nat) (aR:kq R):kq R:=fun f vs A k=>match R4 hs A with
 | some Ah=>aR f vs Ah (fun v A'=>k v (yC hs A A'))
 | none=>none
def OE (P:Program) (cfg:dD) (aR:kq R) (all:List Oper) (i:Nat) (o:Oper) (k:bd->ae->Option R) (t:bd) (A:ae):Option R:=
 Bool.rec (motive:=fun _=>Option R) (Ae P cfg aR all o k t A) (Option.rec (motive:=fun _=>Option R) none (fun hs=>Ae P cfg (TC hs aR) all o k t A) (Qc P cfg (dE [] all) i t all 0)) (wY P cfg o)
def AJ (P:Program) (cfg:dD) (aR:kq R) (all:List Oper) (k:bd->ae->Option R) (os:List Oper):Nat->bd->ae->Option R:=
 List.rec (motive:=fun _=>Nat->bd->ae->Option R) (fun _=>k) (fun o _ ih i=>OE P cfg aR all i o (ih (Nat.succ i))) os
def Mz (P:Program) (cfg:dD) (all:List Oper):Bool:=
 match acg P cfg all 0 with
 | some _=>Lb P all&&Cf P cfg all (dE [] all) all 0&&Ls P cfg (dE [] all) all all 0
 | none=>false
def Zx (P:Program) (cfg:dD) (aR:kq R) (ops:List Oper) (draw:Bool) (k:bd->ae->Option R):bd->ae->Option R:=
 Bool.rec (motive:=fun _=>bd->ae->Option R) (Xb P cfg aR ops k ops) (Bool.rec (motive:=fun _=>bd->ae->Option R)
  (Bool.rec (motive:=fun _=>bd->ae->Option R)
   (Bool.rec (motive:=fun _=>bd->ae->Option R) (fun _ _=>none) (Zw P cfg aR ops (fun t A=>Xd P ops t k ops t A) ops) (TB P cfg ops))
   (AJ P cfg aR ops k ops 0) (Mz P cfg ops))
  (fun t A=>Xb P cfg aR ops (fun t' A'=>Bool.rec (motive:=fun _=>Option R) none (k t' A') (R2 t' A.next (Ks P cfg ops))) ops t A) (aeP P cfg ops)) draw
def R5 (k:KE R) (f:bd->ae->Option R):KE R:=fun e t A=>ah.rec (motive:=fun _=>Option R) (f t A) (fun i=>k (.exit i) t A) (fun l=>k (.goto l) t A) (k .ret t A) e
def aiB (id:Nat) (k:KE R):KE R:=fun e t A=>ah.rec (motive:=fun _=>Option R) (k .normal t A) (fun i=>Bool.rec (motive:=fun _=>Option R) (k (.exit i) t A) (k .normal t A) (Nat.beq i id)) (fun l=>k (.goto l) t A) (k .ret t A) e
def Zy (k:KE R):KE R:=fun e t A=>ah.rec (motive:=fun _=>Option R) (k .normal t A) (fun i=>k (.exit i) t A) (fun _=>none) (k .ret t A) e
def VG (g:KE R->bd->ae->Option R) (k:KE R) (L:Nat):bd->ae->Option R:=
 Nat.rec (motive:=fun _=>bd->ae->Option R) (fun _ _=>none) (fun _ ih=>g (R5 k ih)) L
def xS.run (k:KV->ae->Option R) (x:xS):Option R:=xS.rec (motive:=fun _=>Option R) none (fun v A=>k v A) (fun c _ _ rx ry=>Bool.rec (motive:=fun _=>Option R) ry rx c) x
def wb.run (k:KE R) (x:wb):Option R:=wb.rec (motive:=fun _=>Option R) none (fun e t A=>k e t A) (fun c _ _ rx ry=>Bool.rec (motive:=fun _=>Option R) ry rx c) none x
def R6 (F:bd->ae->wb) (k:KE R) (t:bd) (A:ae):Option R:=(F t A).run k
def OG:Nat:=999983
def JC:Code->Option Nat
 | .seq (.label l) _=>some l
 | .seq _ b=>JC b
 | _=>none
def VH (k:KE R):KE R:=fun e t A=>ah.rec (motive:=fun _=>Option R) none (fun i=>Bool.rec (motive:=fun _=>Option R) (k (.exit i) t A) (k .normal t A) (Nat.beq i OG)) (fun _=>none) (k .ret t A) e
def ads (ol:Option Nat) (F:bd->ae->wb) (k:KE R):KE R:=fun e t A=>ah.rec (motive:=fun _=>Option R) (k .normal t A) (fun i=>k (.exit i) t A)
 (fun l'=>Option.rec (motive:=fun _=>Option R) none (fun l=>Bool.rec (motive:=fun _=>Option R) none (wb.run (VH k) (F t A)) (Nat.beq l' l)) ol) (k .ret t A) e
def adt (x:wb):Bool:=wb.rec (motive:=fun _=>Bool) false (fun _ _ _=>false) (fun _ _ _ _ _=>false) true x
def VI (g:KE R->bd->ae->Option R) (F:bd->ae->wb) (k:KE R) (L:Nat):bd->ae->Option R:=
 Nat.rec (motive:=fun _=>bd->ae->Option R) (fun t A=>R6 F k t A) (fun _ ih t A=>Bool.rec (motive:=fun _=>Option R) (R6 F k t A) (g (R5 k ih) t A) (adt (F t A))) L
def gV:Nat:=1000000000000000000000
def oI (P:Program) (cfg:dD) (aR:kq R) (L:Nat) (f:FuncId) (c:Code):Nat->KE R->bd->ae->Option R:=
 Code.rec (motive:=fun _=>Nat->KE R->bd->ae->Option R) (fun _ k t A=>k .normal t A)
  (fun _ ops d _ k=>Zx P cfg aR ops.toList d (fun t A=>k .normal t A))
  (fun _ _ a b p k=>a (2 * p) (R5 k fun t A=>b (2 * p+1) k t A))
  (fun c _ _ a b p k t A=>adr t c (fun t=>a (2 * p) k t A) (fun t=>b (2 * p+1) k t A))
  (fun id _ g p k=>g (2 * p) (aiB id k))
  (fun _ g p k=>Option.rec (motive:=fun _=>bd->ae->Option R) (VG (g (2 * p)) k L) (fun F=>VI (g (2 * p)) F k L) (cfg.lp f p))
  (fun _ _ _ _ _ _ _ _ _ _=>none) (fun id _ k t A=>k (.exit id) t A) (fun c g p k=>Option.rec (motive:=fun _=>bd->ae->Option R) (g (2 * p) (Zy k)) (fun F=>g (2 * p) (ads (JC c) F k)) (cfg.lp f p)) (fun _ _ k t A=>k .normal t A) (fun l _ k t A=>k (.goto l) t A) (fun _ k t A=>k .ret t A) (fun _ _ _ _ _=>none) c
def oJ:List KV->Nat->bd->bd
 | [],_,t=>t
 | v::vs,i,t=>oJ vs (Nat.succ i) (t.set v i)
def Lt (P:Program) (A:ae) (t:bd):List ResultVar->Option (List KV)
 | []=>some []
 | .tmp x::rs=>(Lt P A t rs).map (gq t (.tmp x)::·)
 | .cell a ty::rs=>match Ad P ty A [gq t (.tmp a)] with
  | .ok v=>(Lt P A t rs).map (v::·)
  | _=>none
def HU:List KV->KV
 | [v]=>v
 | vs=>.l8 vs
def aeQ (P:Program) (fn:Func) (k:List KV->ae->Option R):KE R:=fun e t A=>
 ah.rec (motive:=fun _=>Option R) (Option.rec (motive:=fun _=>Option R) none (fun vs=>k vs A) (Lt P A t fn.results.toList)) (fun _=>none) (fun _=>none) (Option.rec (motive:=fun _=>Option R) none (fun vs=>k vs A) (Lt P A t fn.results.toList)) e
def VJ (P:Program) (cfg:dD) (aR:kq R) (L:Nat) (f:FuncId) (args:List KV) (A:ae) (k:List KV->ae->Option R):Option R:=
 match P.funcs.toList[f]? with
 | some fn=>match fn.body with
  | some c=>oI P cfg aR L f c 1 (aeQ P fn k) (oJ args 0 .leaf) A
  | none=>none
 | none=>none
def G1 (P:Program) (cfg:dD) (L:Nat) (n:Nat):kq R:=
 Nat.rec (motive:=fun _=>kq R) (fun _ _ _ _=>none) (fun _ ih f args A k=>
  Bool.rec (motive:=fun _=>Option R) none (Option.rec (motive:=fun _=>Option R) (VJ P cfg ih L f args A fun vs B=>k (HU vs) B) (fun F=>xS.run k (F args A)) (cfg.x.ac f)) (Nat.blt f yB)) n
end
def zi (P:Program):List TypeId->List KV->List KV
 | t::ts,v::vs=>Ty P t v::zi P ts vs
 | _,_=>[]
def vj (P:Program) (g:FuncId):List TypeId:=match P.funcs.toList[g]? with
 | some fn=>fn.resultTypes.toList
 | none=>[]
def FT (P:Program) (cfg:dD) (L n:Nat) (f:FuncId) (args:List KV):Option KV:=
 VJ P cfg (G1 P cfg L n) L f args .empty fun vs A=>Bool.rec (motive:=fun _=>Option KV) none (some (HU (zi P (vj P f) (zZ A vs).1))) (Nat.beq vs.length (vj P f).length)
end
end Go.K
end
