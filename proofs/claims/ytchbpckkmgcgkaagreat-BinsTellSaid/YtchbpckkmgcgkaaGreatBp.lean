/- Part of the proof of BinsTell: the machine, shown to be the model's, and plain models. No conditions. -/
import Derived.Test.YtchbpckkmgcgkaaGreatAp
import Derived.Laws.Slices
import Derived.Laws.MakeOwn
import Derived.Laws.AppendOwn
import Derived.MapKept
import Derived.Laws.IdiomStrings
import Derived.OrdersIn
import Derived.LoopNIn
import Derived.RangeFuncRecord
import Derived.Scope
set_option linter.unusedSimpArgs false
set_option linter.unusedVariables false
section
namespace Go.aB
open Go
section
variable {P:Program} {o:Oper}
theorem jS {ρ:aZ} {y y' : Nat} {v v' : Value} {r:Nat} (hv:VR ρ v v') (h:bnd y v=some r) (hy:y<=y') :
  r<=y/\∀ code w,(Instr.sliceBound v' y' code).run P w = .ok r w:=by
 unfold bnd at h;split at h
 ·rename_i k i
  obtain ⟨rfl,a8⟩:=CV h;have:=hv.dx;subst this;have hle:r<=y:=by omega
  refine ⟨hle,fun code w=>?_⟩;have:=run_sliceBound (P:=P) w k (r:Int) y' code (by omega) (by omega);simpa using this
 ·simp at h
theorem Kp {ρ:aZ} {ev cS:Operand->Value} {lo hi mx:Option Operand} {len cap aep l h m:Nat} (he:zI ρ ev cS (ga lo++ga hi++ga mx))
  (hb:vo len cap lo.isSome hi.isSome mx.isSome ((ga lo++ga hi++ga mx).map ev)=some (l,h,m)) (hc:cap<=aep) (IQ:len<=cap) :
  l<=h/\h<=m/\m<=cap/\m<=(cond mx.isSome m aep)/\(cond mx.isSome m aep)<=aep/\(mx.isSome=false->m=cap)/\∀ b w,(Instr.sliceBounds b len aep (lo.map cS) (hi.map cS) (mx.map cS)).run P w = .ok (l,h,cond mx.isSome m aep) w:=by
 cases lo with
 | none=>
  cases hi with
  | none=>
   cases mx with
   | none=>
    simp [ga,vo] at hb;obtain ⟨rfl,rfl,rfl⟩:=hb;exact ⟨by omega,IQ,aQ _,hc,aQ _,fun _=>rfl,fun b w=>by simp [Instr.sliceBounds]⟩
   | some x=>simp [ga,vo] at hb
  | some y=>
   cases mx with
   | none=>
    simp only [ga,Option.isSome,List.nil_append,lM,List.map,vo,cR] at hb;obtain ⟨r,hr,hb⟩:=hb;simp at hb;obtain ⟨rfl,rfl,rfl⟩:=hb;obtain ⟨h1,h2⟩:=jS (P:=P) (he y (by simp [ga])) hr hc;exact ⟨by omega,h1,aQ _,hc,aQ _,fun _=>rfl,fun b w=>by simp [Instr.sliceBounds,h2]⟩
   | some z=>
    simp only [ga,Option.isSome,List.nil_append,List.map,List.cons_append,vo,c9,cR] at hb;obtain ⟨r,hr,q,hq,hb⟩:=hb;simp at hb;obtain ⟨rfl,rfl,rfl⟩:=hb;obtain ⟨h1,h2⟩:=jS (P:=P) (he z (by simp [ga])) hr hc;obtain ⟨h3,h4⟩:=jS (P:=P) (he y (by simp [ga])) hq (aQ _);exact ⟨by omega,h3,h1,aQ _,by simp; omega,fun h=>by simp at h,fun b w=>by simp [Instr.sliceBounds,h2,h4]⟩
 | some x=>
  cases hi with
  | none=>
   cases mx with
   | none=>
    simp only [ga,Option.isSome,lM,List.map,vo,cR] at hb;obtain ⟨r,hr,hb⟩:=hb;simp at hb;obtain ⟨rfl,rfl,rfl⟩:=hb;obtain ⟨h1,h2⟩:=jS (P:=P) (he x (by simp [ga])) hr (aQ _);exact ⟨h1,IQ,aQ _,hc,aQ _,fun _=>rfl,fun b w=>by simp [Instr.sliceBounds,h2]⟩
   | some x=>simp [ga,vo] at hb
  | some y=>
   cases mx with
   | none=>
    simp only [ga,Option.isSome,lM,List.map,List.cons_append,List.nil_append,vo,c9,cR] at hb;obtain ⟨r,hr,q,hq,hb⟩:=hb;simp at hb;obtain ⟨rfl,rfl,rfl⟩:=hb;obtain ⟨h1,h2⟩:=jS (P:=P) (he y (by simp [ga])) hr hc;obtain ⟨h3,h4⟩:=jS (P:=P) (he x (by simp [ga])) hq (aQ _);exact ⟨h3,h1,aQ _,hc,aQ _,fun _=>rfl,fun b w=>by simp [Instr.sliceBounds,h2,h4]⟩
   | some z=>
    simp only [ga,Option.isSome,List.map,List.cons_append,List.nil_append,vo,c9,cR] at hb;obtain ⟨r,hr,q,hq,s,hs,hb⟩:=hb;simp at hb;obtain ⟨rfl,rfl,rfl⟩:=hb;obtain ⟨h1,h2⟩:=jS (P:=P) (he z (by simp [ga])) hr hc;obtain ⟨h3,h4⟩:=jS (P:=P) (he y (by simp [ga])) hq (aQ _);obtain ⟨h5,h6⟩:=jS (P:=P) (he x (by simp [ga])) hs (aQ _);exact ⟨h5,h3,h1,aQ _,by simp; omega,fun h=>by simp at h,fun b w=>by simp [Instr.sliceBounds,h2,h4,h6]⟩
theorem aeq {A:St} {b n:Nat} (h:FC A b n=true):∃ cs own cc,A.get b=some (.row cs n own cc):=by
 unfold FC at h;split at h
 ·rename_i cs bV own cc hg
  have:=bh h;subst this;exact ⟨cs,own,cc,hg⟩
 ·simp at h
theorem ok_slice {t:TypeId} {x:Operand} {lo hi mx:Option Operand} (ho:o.op = .slice t x lo hi mx):ie P o (MN P t x lo hi mx):=by
 unfold MN;split
 ·rename_i e hu
  split
  ·rename_i n hn
   cases MW:Nat.ble 1 n with
   | false=>exact True.intro
   | true=>
    rw [aj];have MW:1<=n:=fH MW;intro ρ A base w ev cS v hs he hf;have hx:=he x (by simp);have hsl:P.underlying t=some (.slice (P.elem t))->True:=fun _=>trivial;simp only [List.map,Cj] at hf;split at hf
    ·rename_i len cap vs e1
     simp only [List.cons.injEq] at e1;obtain ⟨e1,e2⟩:=e1;rw [e1] at hx;have hx:=hx.iu;subst e2;obtain ⟨⟨l,h,m⟩,hb,rfl⟩:=cR.1 hf;by_cases IQ:len<=cap
     ·obtain ⟨h1,h2,h3,h4,h5,h6,h7⟩:=Kp (P:=P) he.tail hb (aQ _) IQ
      have hm:cond mx.isSome m cap=m:=by cases hmx:mx.isSome <;> simp; exact (h6 hmx).symm
      refine ⟨.slice none (h - l) (m - l),by simp [VR],?_⟩;simp [execOp,ho,Instr.sliceAt,Instr.slice,bB hu,hx,h7,hm,pV hn]
     ·
      have key:∀ b w,(Instr.sliceBounds b len cap (lo.map cS) (hi.map cS) (mx.map cS)).run P w = .ok (l,h,m) w:=by
       intro b w;have ang:cap<=len:=by omega
       cases lo with
       | none=>
        cases hi with
        | none=>
         cases mx with
         | none=>simp [ga,vo] at hb; obtain ⟨rfl,rfl,rfl⟩:=hb; simp [Instr.sliceBounds]
         | some x=>simp [ga,vo] at hb
        | some y=>
         cases mx with
         | none=>
          simp only [ga,Option.isSome,List.nil_append,lM,List.map,vo,cR] at hb;obtain ⟨r,hr,hb⟩:=hb;simp at hb;obtain ⟨rfl,rfl,rfl⟩:=hb;have:=(jS (P:=P) (he y (by simp [ga])) hr (aQ _)).2;simp [Instr.sliceBounds,this]
         | some z=>
          simp only [ga,Option.isSome,List.nil_append,List.map,List.cons_append,vo,c9,cR] at hb;obtain ⟨r,hr,q,hq,hb⟩:=hb;simp at hb;obtain ⟨rfl,rfl,rfl⟩:=hb;have h2:=(jS (P:=P) (he z (by simp [ga])) hr (aQ _)).2;have h4:=(jS (P:=P) (he y (by simp [ga])) hq (aQ _)).2;simp [Instr.sliceBounds,h2,h4]
       | some x'=>
        cases hi with
        | none=>
         cases mx with
         | none=>
          simp only [ga,Option.isSome,lM,List.map,vo,cR] at hb;obtain ⟨r,hr,hb⟩:=hb;simp at hb;obtain ⟨rfl,rfl,rfl⟩:=hb;have:=(jS (P:=P) (he x' (by simp [ga])) hr (aQ _)).2;simp [Instr.sliceBounds,this]
         | some x=>simp [ga,vo] at hb
        | some y=>
         cases mx with
         | none=>
          simp only [ga,Option.isSome,lM,List.map,List.cons_append,List.nil_append,vo,c9,cR] at hb;obtain ⟨r,hr,q,hq,hb⟩:=hb;simp at hb;obtain ⟨rfl,rfl,rfl⟩:=hb;have h2:=(jS (P:=P) (he y (by simp [ga])) hr (aQ _)).2;have h4:=(jS (P:=P) (he x' (by simp [ga])) hq (aQ _)).2;simp [Instr.sliceBounds,h2,h4]
         | some z=>
          simp only [ga,Option.isSome,List.map,List.cons_append,List.nil_append,vo,c9,cR] at hb;obtain ⟨r,hr,q,hq,s,hs',hb⟩:=hb;simp at hb;obtain ⟨rfl,rfl,rfl⟩:=hb;have h2:=(jS (P:=P) (he z (by simp [ga])) hr (aQ _)).2;have h4:=(jS (P:=P) (he y (by simp [ga])) hq (aQ _)).2;have h6:=(jS (P:=P) (he x' (by simp [ga])) hs' (aQ _)).2;simp [Instr.sliceBounds,h2,h4,h6]
      refine ⟨.slice none (h - l) (m - l),by simp [VR],?_⟩;simp [execOp,ho,Instr.sliceAt,Instr.slice,bB hu,hx,key,pV hn]
    ·rename_i a len cap vs e1
     simp only [List.cons.injEq] at e1;obtain ⟨e1,e2⟩:=e1;rw [e1] at hx;subst e2;obtain ⟨xI,IQ,lc,a',c',hl,vk,OP,pU,h'⟩:=hx.nN;cases hg:(dj a&&FC A a.block n) with
     | false=>rw [hg] at hf; simp at hf
     | true=>
      rw [hg,aj] at hf;obtain ⟨_,XV⟩:=Bool.and_eq_true_iff.1 hg;obtain ⟨cs,own,cc,jZ⟩:=aeq XV;obtain ⟨l2,oo,ok⟩:=hs.row _ _ _ _ _ jZ;rw [hl] at oo; simp at oo; subst oo;have hez:lc.bV=n:=ok.bV;obtain ⟨⟨l,h,m⟩,hb,rfl⟩:=cR.1 hf;obtain ⟨h1,h2,h3,h4,h5,h6,h7⟩:=Kp (P:=P) he.tail hb vk IQ;generalize hm' : cond mx.isSome m c' = m' at h4 h5 h7;refine ⟨.slice (some (if m' = l then a' else a'.add (l * n))) (h - l) (m' - l),?_,?_⟩
      ·simp only [VR]
       refine ⟨trivial,by omega,lc,_,m' - l,hl,by omega,fun eF=>?_,?_,rfl⟩
       ·rw [ay (by omega),OP (by omega),mm]
        simp only [Fz]
       ·rw [hez]
        rw [hez] at pU;have e5:l * n+(m' - l) * n=m' * n:=by rw [<- Nat.add_mul]; congr 1; omega
        have e6:m' * n<=c' * n:=Nat.mul_le_mul_right _ h5;omega
      ·simp only [execOp,ho,Instr.sliceAt,Instr.slice,Sem.run_bind,bB hu,mz,h',h7,pV hn]
       by_cases hml:m' = l <;> simp [hml]
    ·simp at hf
  ·trivial
 ·rename_i len e hu
  split
  ·rename_i n hn
   cases MW:Nat.ble 1 n with
   | false=>exact True.intro
   | true=>
    rw [aj];intro ρ A base w ev cS v hs he hf;have hx:=he x (by simp);simp only [List.map,OD] at hf;split at hf
    ·rename_i a vs e1
     simp only [List.cons.injEq] at e1;obtain ⟨e1,e2⟩:=e1;rw [e1] at hx;subst e2;obtain ⟨xI,lc,hl,h'⟩:=hx.jb;cases hg:(dj a&&FC A a.block n&&Nat.ble (a.off+len * n) (XJ A a.block)) with
     | false=>rw [hg] at hf; simp at hf
     | true=>
      rw [hg,aj] at hf;simp only [aD] at hg;obtain ⟨⟨_,XV⟩,hlen⟩:=hg;obtain ⟨cs,own,cc,jZ⟩:=aeq XV;obtain ⟨l2,oo,ok⟩:=hs.row _ _ _ _ _ jZ;rw [hl] at oo; simp at oo; subst oo;have hez:lc.bV=n:=ok.bV;have hlen:=fH hlen;have HS:XJ A a.block=cs.length:=by unfold XJ; rw [jZ]
      rw [HS] at hlen;have hft:=ok.fits;obtain ⟨⟨l,h,m⟩,hb,rfl⟩:=cR.1 hf;obtain ⟨h1,h2,h3,h4,h5,h6,h7⟩:=Kp (P:=P) he.tail hb (aQ _) (aQ _);have hm:cond mx.isSome m len=m:=by cases hmx:mx.isSome <;> simp; exact (h6 hmx).symm
      rw [hm] at h7;refine ⟨.slice (some (if m=l then ⟨lc.cb,lc.eI+a.off,none⟩ else (⟨lc.cb,lc.eI+a.off,none⟩:Addr).add (l * n))) (h - l) (m - l),?_,?_⟩
      ·simp only [VR]
       refine ⟨trivial,by omega,lc,_,m - l,hl,aQ _,fun eF=>?_,?_,rfl⟩
       ·rw [ay (by omega),mm]
        simp only [Fz]
       ·rw [hez]
        have e5:l * n+(m - l) * n=m * n:=by rw [<- Nat.add_mul]; congr 1; omega
        have e6:m * n<=len * n:=Nat.mul_le_mul_right _ h3;omega
      ·simp only [execOp,ho,Instr.sliceAt,Sem.run_bind,bB hu,mz,h',Instr.sureAddr,Sem.run_pure,h7,pV hn]
    ·simp at hf
  ·trivial
 ·rename_i hu
  cases hmx:mx with
  | some z=>exact True.intro
  | none=>
   show ie P o (.pure (II lo.isSome hi.isSome) (x::(ga lo++ga hi)));intro ρ ev cS v he hf;have hx:=he x (by simp);simp only [List.map,II] at hf;split at hf
   ·rename_i s vs e1
    simp only [List.cons.injEq] at e1;obtain ⟨e1,e2⟩:=e1;rw [e1] at hx;have hx:=hx.ri;subst e2;obtain ⟨⟨l,h,m⟩,hb,rfl⟩:=cR.1 hf;have LJ:zI ρ ev cS (ga lo++ga hi++ga (none:Option Operand)):=by simpa [ga] using he.tail
    obtain ⟨h1,h2,h3,h4,h5,h6,h7⟩:=Kp (P:=P) (mx:=none) LJ (by simpa [ga] using hb) (aQ _) (aQ _);simp only [Option.isSome_none,aq,Option.map_none] at h7;refine ⟨.string (s.extract l h),?_,fun w=>?_⟩
    ·have e:(⟨⟨(s.data.toList.drop l).take (h - l)⟩⟩:ByteArray)=s.extract l h:=by
      apply ByteArray.ext;apply Array.ext';simp [ByteArray.data_extract,List.extract_eq_take_drop]
     rw [e];simp [VR]
    ·simp [execOp,ho,Instr.sliceAt,Instr.slice,bB hu,hx,hmx,h7]
   ·simp at hf
 ·trivial
theorem agI {t:TypeId} {l c:Operand} (ho:o.op = .makeSlice t l c):ie P o (Ae P t l c):=by
 unfold Ae;split
 ·rename_i e hu
  split
  ·rename_i i hi
   split
   ·rename_i z hz
    cases hc:(Nat.ble 1 i.size&&Nat.ble 1 i.bytes&&Nat.beq z.cells.size i.size&&flat z&&z.cells.toList.all scalar) with
    | false=>exact True.intro
    | true=>
     rw [aj];simp only [aD] at hc;obtain ⟨⟨⟨⟨h1,h2⟩,h3⟩,h4⟩,h5⟩:=hc;have hn:1<=i.size:=fH h1;have hb:1<=i.bytes:=fH h2;have hzs:z.cells.size=i.size:=bh h3;rw [gx] at h5;intro ρ ev cS obj mk he hf;simp only [List.map,FZ] at hf;split at hf
     ·rename_i k1 l0 k2 c0 e1
      simp only [List.cons.injEq,and_true] at e1;cases hk:(Nat.ble l0 c0&&Nat.ble (i.bytes * c0) 281474976710656) with
      | false=>rw [hk] at hf; simp at hf
      | true=>
       rw [hk,aj] at hf;obtain ⟨MX,hk2⟩:=Bool.and_eq_true_iff.1 hk;have hle:l0<=c0:=fH MX;have hbc:i.bytes * c0<=281474976710656:=fH hk2;simp only [db,fI] at hf;obtain ⟨rfl,rfl⟩:=hf;have hl:=he l (by simp);have vk:=he c (by simp);rw [e1.1] at hl;rw [e1.2] at vk;have hl:=hl.dx;have vk:=vk.dx;have e2:madeCells z.cells (c0 * i.size)=⟨gp z.cells.toList c0⟩:=by
        unfold madeCells;rw [<- hzs];exact V8 z.cells c0 (by omega)
       have hc0:c0<=i.bytes * c0:=Nat.le_mul_of_pos_left _ hb;have as7:∀ (z:List Value) (k:Nat),(gp z k).length=k * z.length:=by
        intro z k
        induction k with
        | zero=>simp [gp]
        | succ k ih=>simp [gp,ih,Nat.succ_mul,Nat.add_comm]
       have as8:∀ (z:List Value) (k:Nat) (v:Value),v∈gp z k->v∈z:=by
        intro z k v
        induction k with
        | zero=>simp [gp]
        | succ k ih=>simp only [gp,oM]; exact fun h=>h.elim id ih
       refine ⟨.cells ⟨gp z.cells.toList c0⟩ e,fun b=>.slice (some ⟨b,0,none⟩) l0 c0,⟨_,e,rfl,ej.repeat (Ko h4) c0,fun v hv=>h5 v (as8 _ _ _ hv)⟩,fun w=>?_,fun a7 n cb mC=>?_⟩
       ·have hr:=run_make (P:=P) w t e i z hu hi hz k1 k2 (l0:Int) (c0:Int) (by omega) (by omega) (by rw [<- Int.natCast_mul]; exact Int.ofNat_le.2 hbc) (by omega)
        have vB:cS l = .int k1 (l0:Int):=hl;have hc' : cS c = .int k2 (c0:Int):=vk;simp only [cm,e2] at hr;simp [execOp,ho,vB,hc',hr]
       ·simp only [VR]
        refine ⟨trivial,hle,_,⟨cb,0,none⟩,c0,mC,aQ _,fun _=>rfl,?_,rfl⟩;show 0+0+c0 * i.size<=(gp z.cells.toList c0).length;rw [as7];simp [hzs]
     ·simp at hf
   ·trivial
  ·trivial
 ·trivial
theorem aoj {t:TypeId} {x:Operand} (ho:o.op = .makeInterface t x):ie P o (Z3 P t x):=by
 unfold Z3;split
 ·trivial
 ·rename_i d hu hd
  intro ρ ev cS v he hf;simp [ane] at hf;subst hf;refine ⟨.iface t (cS x),by simp only [VR]; exact ⟨_,he x (by simp),rfl⟩,fun w=>?_⟩;simp only [execOp,ho,Instr.makeInterface,Sem.run_bind,bB hd,mz];cases d <;> first | rfl | exact absurd rfl (hu _)
 ·trivial
theorem XW {ρ:aZ} {s:List Value->Sem Value} {vs cK:List Value} {v:Value} (hv:ej ρ vs cK) (h:OC P s vs=some v):VR ρ v v/\∀ w,(s cK).run P w = .ok v w:=by
 unfold OC at h;cases hf:xP vs with
 | false=>rw [hf] at h; simp at h
 | true=>
  rw [hf,aj] at h;obtain ⟨u,hu,h⟩:=c9.1 h;cases hfu:flat u with
  | false=>rw [hfu] at h; simp at h
  | true=>
   rw [hfu] at h;simp at h;subst h;rw [ej.qI hf hv];exact ⟨VR.of_flat hfu,fun w=>ik hu w⟩
theorem arc {argTypes:Array TypeId} {args:Array Operand} (ho:o.op = .call ⟨.builtin .min,args,argTypes⟩):ie P o (.pure (OC P fun vs=>Builtin.min_ #[] 0 ⟨vs⟩) args.toList):=by
 intro ρ ev cS v he hf;obtain ⟨h1,h2⟩:=XW he.map hf;refine ⟨v,h1,fun w=>?_⟩;have h3:=h2 w;simp only [Builtin.min_] at h3;simp only [execOp,ho,resolve,Sem.run_bind,Sem.run_pure,mz,invoke,builtin,Builtin.min_,pF];simp only [h3,mz]
theorem ard {argTypes:Array TypeId} {args:Array Operand} (ho:o.op = .call ⟨.builtin .max,args,argTypes⟩):ie P o (.pure (OC P fun vs=>Builtin.max_ #[] 0 ⟨vs⟩) args.toList):=by
 intro ρ ev cS v he hf;obtain ⟨h1,h2⟩:=XW he.map hf;refine ⟨v,h1,fun w=>?_⟩;have h3:=h2 w;simp only [Builtin.max_] at h3;simp only [execOp,ho,resolve,Sem.run_bind,Sem.run_pure,mz,invoke,builtin,Builtin.max_,pF];simp only [h3,mz]
theorem abP {ρ:aZ} {x x' : Value} {k:Nat} (hx:VR ρ x x') (h:abM x=some k):Builtin.lenOf x' = Sem.pure k:=by
 unfold abM at h;split at h
 ·obtain ⟨a',c',rfl⟩:=aeo hx
  simp at h; subst h; rfl
 ·have:=hx.ri
  subst this;simp at h; subst h; rfl
 ·simp at h
theorem FH {ρ:aZ} {A:St} {base:Nat} {w:World} {n k:Nat} {x x' : Value} {new:List Value} (hs:Rel ρ A.get A.members base w) (hx:VR ρ x x') (h:yL A n k x=some new)
  (hk:∀ m,abM x=some m->k<=m) (hn:1<=n):∃ cL,ej ρ new cL/\(∀ v∈new,scalar v=true)/\new.length=k * n/\(Builtin.firstCells n k x').run P w = .ok cL.toArray w:=by
 unfold yL at h;split at h
 ·rename_i a len cap
  obtain ⟨xI,IQ,lc,a',c',hl,vk,OP,pU,rfl⟩:=hx.nN;have hkl:=hk len rfl;obtain ⟨cd,h1,h2,h3,h4⟩:=yN (P:=P) hs h hl;refine ⟨cd,h1,h3,h2,?_⟩;simp only [Builtin.firstCells];by_cases hc:c' = 0
  ·have xH:k=0:=by omega
   subst xH;have xj:new = []:=by rw [Nat.zero_mul] at h2; exact List.eq_nil_of_length_eq_zero h2
   subst xj;rw [h1.cl,Nat.zero_mul];exact run_loadCells_list w a' [] (by simp)
  ·rw [OP hc]; exact h4
 ·rename_i len cap
  have:=hx.iu;subst this;cases hb:Nat.beq k 0 with
  | false=>rw [hb] at h; simp at h
  | true=>
   rw [hb] at h;simp at h;subst h;have xH:=bh hb;subst xH;exact ⟨[],.nil,by simp,by simp,run_firstCells_none w n 0 len cap⟩
 ·rename_i s
  have:=hx.ri;subst this;cases hb:Nat.beq n 1 with
  | false=>rw [hb] at h; simp at h
  | true=>
   rw [hb] at h;simp at h;have hn1:=bh hb;subst hn1;have uw:=hk s.size rfl;have fC:s.data.size=s.size:=rfl;have fl:∀ l:List UInt8,ej ρ (l.map fun b=>Value.int .u8 b.toNat) (l.map fun b=>Value.int .u8 b.toNat):=by
    intro l
    induction l with
    | nil=>exact .nil
    | cons x l ih=>exact .cons (by simp [VR]) ih
   subst h;refine ⟨((s.data.toList.take k).map fun b=>.int .u8 b.toNat),by simpa using fl (s.data.toList.take k),?_,?_,?_⟩
   ·intro v hv
    obtain ⟨b,_,rfl⟩:=Fy.1 (by first | exact hv | exact List.mem_of_mem_take hv);rfl
   ·simp; omega
   ·simp only [Builtin.firstCells]
    rw [Sem.run_pure];congr 1;apply Array.ext';simp [ByteArray.data_extract,List.extract_eq_take_drop]
 ·simp at h
theorem yP (t u ty e:TypeId) (i:TypeInfo) (ht:P.underlying t=some (.slice e)) (hi:P.info? e=some i) (hu:OE P u=true) (base:Option Addr) (ew rh:Nat) (x:Value) (n:Nat) (news:List Value)
  (hlen:Builtin.lenOf x=Sem.pure n) (w:World) (yQ:(Builtin.firstCells i.size n x).run P w = .ok news.toArray w) (Gz:ew+n<=rh) :
  (Builtin.append_ #[t,u] ty #[.slice base ew rh,x]).run P w=(((match base with | some a=>storeCells (a.add (ew * i.size)) news | none=>pure ():Sem Unit).run P w).andThen fun _ w=>.ok (.slice base (ew+n) rh) w):=by
 have hk:(∃ e',P.underlying u=some (.slice e'))\/P.underlying u=some .string:=by
  unfold OE at hu;split at hu
  ·rename_i e' h; exact .inl ⟨_,h⟩
  ·rename_i h; exact .inr h
  ·simp at hu
 rcases hk with ⟨e',hk⟩ | hk <;> cases base <;> simp [Builtin.append_,bB ht,bB hk,sizeOf,typeInfo,hi,hlen,Gz,yQ]
theorem aab (t u ty e:TypeId) (i:TypeInfo) (z:Value) (ht:P.underlying t=some (.slice e)) (hi:P.info? e=some i) (hz:i.zero=some z) (hu:OE P u=true) (base:Option Addr) (ew rh:Nat)
  (x:Value) (n:Nat) (abQ news:List Value) (hlen:Builtin.lenOf x=Sem.pure n) (w:World) (hold:(Builtin.firstCells i.size ew (.slice base ew rh)).run P w.drew = .ok abQ.toArray w.drew)
  (yQ:(Builtin.firstCells i.size n x).run P w.drew = .ok news.toArray w.drew) (hg:rh < ew+n) (h63:ew+n<=17592186044416) (pU:Builtin.nextslicecap (ew+n) rh * i.bytes<=281474976710656) :
  (Builtin.append_ #[t,u] ty #[.slice base ew rh,x]).run P w =
   .ok (.slice (some ⟨w.heap.size,0,none⟩) (ew+n) (grownCap w (ew+n) rh e))
    (w.drew.alloc (.cells ((abQ++news).toArray++Builtin.zeroCells z.cells (grownCap w (ew+n) rh e - (ew+n))) e)):=by
 have hk:(∃ e',P.underlying u=some (.slice e'))\/P.underlying u=some .string:=by
  unfold OE at hu;split at hu
  ·rename_i e' h; exact .inl ⟨_,h⟩
  ·rename_i h; exact .inr h
  ·simp at hu
 have hn : ¬ (ew+n<=rh):=by omega
 have as9 : ¬ (9223372036854775807 < ((ew:Int)+(n:Int))):=by omega
 have ata : ¬ (281474976710656 < Builtin.nextslicecap (ew+n) rh * i.bytes):=by omega
 rcases hk with ⟨e',hk⟩ | hk <;>
  (simp [Builtin.append_,bB ht,bB hk,sizeOf,typeInfo,zeroValue,hi,hz,hlen,hn,as9,ata,Question.forced,yQ,hold,newRow,grownCap]
   congr 2;apply Array.ext';simp [Tz])
theorem aer {ρ:aZ} {A:St} {base:Nat} {w:World} (hs:xS ρ A base w) (b lo hi:Nat) (L:List Nat):nC base ρ A w ρ (A.kill b lo hi L) w:=by
 obtain ⟨hl1,oo⟩:=MU b lo hi L A;have XS:∀ x o,(A.kill b lo hi L).get x=some o->o≠.dead->A.get x=some o:=by
  intro x o hx hd;rw [El] at hx;split at hx
  ·simp at hx; exact absurd hx.symm hd
  ·exact hx
 have hm:∀ o:dc,o.fJ=true->o≠.dead:=by intro o h e; subst e; simp [dc.fJ] at h
 refine ⟨⟨.OM (fun x o hx hd=>hs.rel.obj (XS x o hx hd) hd) (fun b1 b2 o1 o2 l1 l2 eF g1 g2 m1 m2=>hs.rel.apart b1 b2 o1 o2 l1 l2 eF (XS _ _ g1 (hm _ m1)) (XS _ _ g2 (hm _ m2)) m1 m2) (fun x o bc f hx hk=>?_),fun x l h=>?_,hs.size,hs.Qj⟩,
  fun _ _=>rfl,.refl _ _ _,by simp,hl1,fun x _ hx=>?_,fun k _ h=>?_⟩
 ·rw [LF]; exact hs.rel.bJ x o bc f (XS x o hx (by intro e; subst e; simp [dc.nI] at hk)) hk
 ·rw [OK]; exact hs.mA x l h
 ·cases Classical.em ((A.kill b lo hi L).get x=A.get x) with
  | inl h=>exact h
  | inr h=>have:=oo x h; omega
 ·obtain ⟨x,o,l,hx,hm',hr,e⟩:=h
  exact ⟨x,o,l,XS x o hx (hm _ hm'),hm',hr,e⟩
theorem MZ (A:St) (bc f:Nat) (cs:List Value) (n x:Nat):(A.grow bc f cs n).get x=if x=A.next then some (.row cs n true (some (bc,f))) else A.get x:=by
 simp [St.grow]
theorem Aj (A:St) (bc f:Nat) (cs:List Value) (n g:Nat):(A.grow bc f cs n).members g=if g=bc then A.next::A.members bc else A.members g:=by
 simp only [St.grow,St.FF,St.mB]
theorem aes {ρ:aZ} {A:St} {base:Nat} {w:World} {cs cd:List Value} {c:Array Value} {n bc f:Nat} (T:TypeId) (hs:xS ρ A base w) (hc:ej ρ cs cd) (h1:∀ v∈cs,scalar v=true)
  (apj:∀ (j:Nat) (v:Value),cd[j]? = some v->c[j]? = some v) (fC:cs.length<=c.size) :
  nC base ρ A w (ρ.set A.next ⟨w.heap.size,0,c.size,n⟩) (A.grow bc f cs n) (w.alloc (.cells c T)):=by
 refine IP (o:=.row cs n true (some (bc,f))) hs (fun x=>MZ _ _ _ _ _ _) (fun g x h=>?_) (fun g f' h=>?_) (by simp [St.grow]) (by simp [St.grow]) (fun x hx _=>by rw [MZ,ay (by omega)]) rfl ?_
 ·rw [Aj]; split
  ·rename_i e; subst e; simp [h]
  ·exact h
 ·simp [dc.nI] at h; rw [Aj,h.1]; simp
 ·refine ⟨fun i v hi=>?_,fun h=>by simp at h,fun _=>hs.size,fun _ j hj=>?_,by simpa using fC,fun _ h=>by simp at h,rfl,by simp,fun _ _ j=>by simp only; rw [World.frozen?_alloc_new]⟩
  ·obtain ⟨v',h2,h3⟩:=hc.get hi
   refine ⟨v',?_,h3.mono (hs.OL _),h1 v (hQ hi)⟩;rw [bd,World.cell?_alloc_new];exact apj i v' h2
  ·simp only at hj ⊢
   rw [World.cell?_alloc_new,World.frozen?_alloc_new];refine ⟨?_,rfl⟩;rw [Array.getElem?_eq_getElem (by omega)];rfl
theorem aiq {ρ:aZ} {A:St} {base:Nat} {w:World} {b iG s bV bc f:Nat} {cs gX tV new cL:List Value} {l:Loc}
  (hs:xS ρ A base w) (hg:A.get b=some (.row cs bV true (some (bc,f)))) (mC:ρ b=some l)
  (hold:ej ρ gX tV) (ho1:∀ v∈gX,scalar v=true) (hol:gX.length=s) (Kd:∀ j v',tV[j]? = some v'->w.cell? ⟨l.cb,l.eI+iG+j,none⟩=some v')
  (xj:ej ρ new cL) (hn1:∀ v∈new,scalar v=true) (pU:l.eI+iG+s+new.length<=l.CT) :
  nC base ρ A w (ρ.set A.next ⟨l.cb,l.eI+iG,l.CT,bV⟩) ((A.kill A.next (f+(iG+s)) (f+(iG+s)+new.length) (A.members bc)).grow bc (f+iG) (gX++new) bV) (w.setCells l.cb (l.eI+iG+s) cL):=by
 obtain ⟨l',vB,ok⟩:=hs.rel.row _ _ _ _ _ hg;rw [mC] at vB; simp at vB; subst vB;have QY:cL.length=new.length:=xj.length;have hovl:tV.length=s:=by rw [hold.length,hol]
 have Ro:b < A.next:=hs.mA b l mC;have TE:dc.fJ (.row cs bV true (some (bc,f)))=true:=rfl;have hB:∀ x,((A.kill A.next (f+(iG+s)) (f+(iG+s)+new.length) (A.members bc)).grow bc (f+iG) (gX++new) bV).get x =
   if x=A.next then some (.row (gX++new) bV true (some (bc,f+iG))) else (A.kill A.next (f+(iG+s)) (f+(iG+s)+new.length) (A.members bc)).get x:=by
  intro x; rw [MZ,OK]
 have hBm:∀ g,((A.kill A.next (f+(iG+s)) (f+(iG+s)+new.length) (A.members bc)).grow bc (f+iG) (gX++new) bV).members g=if g=bc then A.next::A.members bc else A.members g:=by
  intro g; rw [Aj,OK,LF]
 have hBn:((A.kill A.next (f+(iG+s)) (f+(iG+s)+new.length) (A.members bc)).grow bc (f+iG) (gX++new) bV).next=A.next+1:=by
  simp [St.grow]
 have hkl:=MU A.next (f+(iG+s)) (f+(iG+s)+new.length) (A.members bc) A;have hBl:((A.kill A.next (f+(iG+s)) (f+(iG+s)+new.length) (A.members bc)).grow bc (f+iG) (gX++new) bV).low=(A.kill A.next (f+(iG+s)) (f+(iG+s)+new.length) (A.members bc)).low:=rfl;have hAK:∀ x,x≠A.next->(A.kill A.next (f+(iG+s)) (f+(iG+s)+new.length) (A.members bc)).get x=if x∈A.members bc/\tK (A.get x) (f+(iG+s)) (f+(iG+s)+new.length)=true then some .dead else A.get x:=by
  intro x hx; rw [El]; simp [hx]
 generalize ((A.kill A.next (f+(iG+s)) (f+(iG+s)+new.length) (A.members bc)).grow bc (f+iG) (gX++new) bV)=B at hB hBm hBn hBl;generalize (A.kill A.next (f+(iG+s)) (f+(iG+s)+new.length) (A.members bc))=K at hB hBl hkl hAK;have hle:=hs.OL (⟨l.cb,l.eI+iG,l.CT,bV⟩:Loc);have ss:∀ x o,x≠A.next->B.get x=some o->o≠.dead->A.get x=some o/\(x∈A.members bc->tK (some o) (f+(iG+s)) (f+(iG+s)+new.length)=false):=by
  intro x o hx ho hd;rw [hB,ay hx,hAK x hx] at ho;split at ho
  ·simp at ho; exact absurd ho.symm hd
  ·rename_i hc
   refine ⟨ho,fun hm=>?_⟩;rw [<- ho];cases iE:tK (A.get x) (f+(iG+s)) (f+(iG+s)+new.length) with
   | false=>rfl
   | true=>exact absurd ⟨hm,iE⟩ hc
 have qP:∀ x:Addr,(x.block=l.cb->x.spot=none->x.off < l.eI+iG+s\/l.eI+iG+s+cL.length<=x.off)->(w.setCells l.cb (l.eI+iG+s) cL).cell? x=w.cell? x:=
  fun x h=>World.cell?_setCells_out _ _ _ _ _ h
 have aeg:∀ x,((w.setCells l.cb (l.eI+iG+s) cL).cell? x).isSome=(w.cell? x).isSome:=fun x=>Em _ _ _ _ _;have hfr:∀ x,(w.setCells l.cb (l.eI+iG+s) cL).frozen? x=w.frozen? x:=fun x=>World.frozen?_setCells _ _ _ _ _;have fC:(w.setCells l.cb (l.eI+iG+s) cL).heap.size=w.heap.size:=IL _ _ _ _;have hmd:∀ o:dc,o.fJ=true->o≠.dead:=by intro o h e; subst e; simp [dc.fJ] at h
 have CY:∀ x o l2,A.get x=some o->o.fJ=true->ρ x=some l2->l2.cb=l.cb->∃ f2,o.nI=some (bc,f2)/\l2.eI+f=l.eI+f2:=by
  intro x o l2 hx hm hr V0;by_cases XT:x=b
  ·subst XT
   rw [hg] at hx; simp at hx; subst hx;rw [mC] at hr; simp at hr; subst hr;exact ⟨f,rfl,rfl⟩
  ·obtain ⟨g,f1,f2,e1,e2,e3⟩:=hs.rel.apart x b _ _ l2 l XT hx hg hm TE hr mC V0
   simp [dc.nI] at e2;obtain ⟨rfl,rfl⟩:=e2;exact ⟨f1,e1,e3⟩
 have aeh:∀ x om e2 Km ur l2,x≠A.next->B.get x=some (.row om e2 Km ur)->ρ x=some l2->OJ ρ base w l2 om e2 Km ur->∀ i,i < om.length->
   (w.setCells l.cb (l.eI+iG+s) cL).cell? ⟨l2.cb,l2.eI+i,none⟩=w.cell? ⟨l2.cb,l2.eI+i,none⟩:=by
  intro x om e2 Km ur l2 hx ki apd jY i hi;refine qP _ (fun Ul _=>?_);simp only at Ul ⊢;obtain ⟨hA,iE⟩:=ss x _ hx ki (by simp);cases Km with
  | false=>have h3:=jY.wj rfl; have h4:=ok.fJ rfl; omega
  | true=>
   obtain ⟨f2,e1,e3⟩:=CY x _ l2 hA rfl apd Ul;simp only [dc.nI] at e1;subst e1;have hm:=hs.rel.bJ x _ bc f2 hA rfl;have:=XR rfl (iE hm);rw [QY];omega
 refine ⟨⟨.OM ?_ ?_ ?_,?_,?_,hs.Qj.mono (hs.OL _)⟩,?_,⟨(vA _ _ _ _).1,(vA _ _ _ _).2.1,(vA _ _ _ _).2.2,Nat.le_of_eq fC.symm,?_⟩,?_,?_,?_,?_⟩
 ·intro x o ki hd
  by_cases hx:x=A.next
  ·subst hx
   rw [hB,aR rfl] at ki;simp at ki;subst ki;refine ⟨_,aZ.sT _ _ _,fun i v hi=>?_,fun h=>by simp at h,fun _=>ok.fJ rfl,fun _ j hj=>?_,?_,fun _ h=>by simp at h,rfl,by rw [fC]; exact ok.qJ,fun _ h2 j=>by rw [hfr]; exact ok.mark rfl (by rw [ok.bV]; exact h2) j⟩
   ·have nE:ej ρ (gX++new) (tV++cL):=hold.append xj
    obtain ⟨v',h2,h3⟩:=nE.get hi;refine ⟨v',?_,h3.mono hle,?_⟩
    ·rw [List.getElem?_append] at h2
     split at h2
     ·rename_i a8
      rw [qP _ (fun _ _=>by simp only; omega)];exact Kd i v' h2
     ·rename_i XX
      have a8:i - tV.length < cL.length:=(c8.1 h2).1;have:=World.cell?_setCells_in l.cb cL (l.eI+iG+s) w (fun j hj=>(ok.there rfl (l.eI+iG+s+j) (by rw [QY] at hj; omega)).1) (i - tV.length) a8;have e:l.eI+iG+s+(i - tV.length)=l.eI+iG+i:=by omega
      rw [e] at this;rw [dz a8] at h2;exact this.trans h2
    ·rcases oM.1 (hQ hi) with h | h
     ·exact ho1 v h
     ·exact hn1 v h
   ·rw [aeg,hfr]; exact ok.there rfl j hj
   ·simp only [ko,hol]; omega
  ·obtain ⟨hA,iE⟩:=ss x o hx ki hd
   obtain ⟨l2,xJ,jY⟩:=hs.rel.obj hA hd;refine ⟨l2,hle _ _ xJ,?_⟩;cases o with
   | row om e2 Km ur=>
    have jY:OJ ρ base w l2 om e2 Km ur:=jY;refine ⟨fun i v hi=>?_,jY.wj,jY.fJ,fun h j hj=>?_,jY.fits,jY.ends,jY.bV,by rw [fC]; exact jY.qJ,fun h1 h2 j=>by rw [hfr]; exact jY.mark h1 h2 j⟩
    ·obtain ⟨v',h3,h4,h5⟩:=jY.cells i v hi
     exact ⟨v',by rw [aeh x _ _ _ _ l2 hx ki xJ jY i (c8.1 hi).1]; exact h3,h4.mono hle,h5⟩
    ·rw [aeg,hfr]; exact jY.there h j hj
   | map es=>
    have jY:aee ρ base w l2 es:=jY;obtain ⟨bx,clock,h3,h4⟩:=jY.qJ;refine ⟨jY.fJ,bx,clock,?_,h4.mono hle⟩;rw [nJ]
    ·exact h3
    ·intro e
     obtain ⟨_,e1,_⟩:=CY x _ l2 hA rfl xJ e;simp [dc.nI] at e1
   | iter st pos=>
    have jY:XO base w l2 st pos:=jY;refine ⟨jY.fJ,jY.qJ.1,?_⟩;rw [nJ]
    ·exact jY.qJ.2
    ·intro e
     obtain ⟨_,e1,_⟩:=CY x _ l2 hA rfl xJ e;simp [dc.nI] at e1
   | dead=>exact absurd rfl hd
   | loop st0 e0 t0 ps0 a0 c0=>
    have jY:XP ρ base w l2 st0 e0 t0 ps0 a0 c0:=jY;obtain ⟨fn,tmps,D,N,h3,h4⟩:=jY.qJ;refine ⟨jY.fJ,fn,tmps,D,N,?_,h4.mono hle⟩;rw [nJ]
    ·exact h3
    ·intro e
     obtain ⟨_,e1,_⟩:=CY x _ l2 hA rfl xJ e;simp [dc.nI] at e1
 ·intro b1 b2 o1 o2 l1 l2 eF g1 g2 m1 m2 r1 r2 V0
  by_cases e1:b1=A.next
  ·have e2:b2≠A.next:=fun e=>eF (e1.trans e.symm)
   subst e1;rw [hB,aR rfl] at g1;simp at g1; subst g1;rw [aZ.sT] at r1; simp at r1; subst r1;rw [aZ.oW _ _ e2] at r2;obtain ⟨hA,_⟩:=ss b2 o2 e2 g2 (hmd _ m2);obtain ⟨f2,k1,k2⟩:=CY b2 o2 l2 hA m2 r2 V0.symm;exact ⟨bc,f+iG,f2,rfl,k1,by simp only; omega⟩
  ·rw [aZ.oW _ _ e1] at r1
   obtain ⟨hA1,_⟩:=ss b1 o1 e1 g1 (hmd _ m1);by_cases e2:b2=A.next
   ·subst e2
    rw [hB,aR rfl] at g2;simp at g2; subst g2;rw [aZ.sT] at r2; simp at r2; subst r2;obtain ⟨f2,k1,k2⟩:=CY b1 o1 l1 hA1 m1 r1 V0;exact ⟨bc,f2,f+iG,k1,rfl,by simp only; omega⟩
   ·rw [aZ.oW _ _ e2] at r2
    obtain ⟨hA2,_⟩:=ss b2 o2 e2 g2 (hmd _ m2);exact hs.rel.apart b1 b2 o1 o2 l1 l2 eF hA1 hA2 m1 m2 r1 r2 V0
 ·intro x o g fx hx hk
  rw [hBm];by_cases e:x=A.next
  ·subst e
   rw [hB,aR rfl] at hx;simp at hx; subst hx;simp [dc.nI] at hk;rw [aR hk.1.symm];simp
  ·have:=hs.rel.bJ x o g fx (ss x o e hx (by intro e; subst e; simp [dc.nI] at hk)).1 hk
   split
   ·rename_i e2; subst e2; simp [this]
   ·exact this
 ·intro x l2 h
  rw [hBn];by_cases e:x=A.next
  ·omega
  ·rw [aZ.oW _ _ e] at h; have:=hs.mA x l2 h; omega
 ·rw [fC]; exact hs.size
 ·intro x hx; exact aZ.oW _ _ (by omega)
 ·intro k hk hn
  exact nJ _ (fun e=>hn ⟨b,_,l,hg,rfl,mC,e.symm⟩) _ _ _
 ·omega
 ·rw [hBl]; exact hkl.1
 ·intro x hx hxl
  rw [hB,ay (by omega)];cases Classical.em (K.get x=A.get x) with
  | inl h=>exact h
  | inr h=>have:=hkl.2 x h; omega
 ·rintro k hk ⟨x,o,l2,hx,hm,hr,rfl⟩
  by_cases e:x=A.next
  ·subst e
   rw [aZ.sT] at hr; simp at hr; subst hr;exact ⟨b,_,l,hg,rfl,mC,rfl⟩
  ·rw [aZ.oW _ _ e] at hr
   exact ⟨x,o,l2,(ss x o e hx (hmd _ hm)).1,hm,hr,rfl⟩
theorem aok {a:Addr} (h:dj a=true):a.spot=none:=by
 unfold dj at h;simpa using h
theorem acT (w:World) (a:Addr) (n:Nat) (cs:List Value) (h:∀ j,j < n->(w.cell? (a.add j)).isSome=true) (hr:(loadCells a n).run P w = .ok cs.toArray w) (j:Nat) (v:Value) (hj:cs[j]? = some v) :
  w.cell? (a.add j)=some v:=by
 have h1:=run_loadCells (P:=P) w a n (fun j=>(w.cell? (a.add j)).getD undef) (fun j hj=>by
  have:=h j hj;cases hc:w.cell? (a.add j) with
  | none=>rw [hc] at this; simp at this
  | some u=>rfl)
 rw [hr] at h1;simp only [Result.ok.injEq,and_true] at h1;have h2:cs=(List.range n).map fun j=>(w.cell? (a.add j)).getD undef:=by
  have:=congrArg Array.toList h1;simpa using this
 rw [h2,AI] at hj;cases hq:(List.range n)[j]? with
 | none=>rw [hq] at hj; simp at hj
 | some m=>
  rw [hq] at hj;have a8:j < n:=by have:=(c8.1 hq).1; simpa using this
  have hm:m=j:=by rw [List.getElem?_range a8] at hq; simpa using hq.symm
  subst hm;simp at hj;have:=h m a8;cases hc:w.cell? (a.add m) with
  | none=>rw [hc] at this; simp at this
  | some u=>rw [hc] at hj; simpa using hj
theorem ajS (z:Array Value) (n:Nat):(Builtin.zeroCells z n).size=n * z.size:=size_zeroCells z n
theorem aet {ρ:aZ} {A B:St} {base:Nat} {w:World} {t u ty e:TypeId} {i:TypeInfo} {z s x s' x' v:Value} (ht:P.underlying t=some (.slice e)) (hi:P.info? e=some i) (hz:i.zero=some z) (hu:OE P u=true)
  (hn:1<=i.size) (hzs:z.cells.size=i.size) (Rp:xS ρ A base w) (hsv:VR ρ s s') (hxv:VR ρ x x') (hf:ly i.size i.bytes A [s,x] = some (v,B)) :
  ∃ a7 v' w',(Builtin.append_ #[t,u] ty #[s',x']).run P w = .ok v' w'/\VR a7 v v'/\nC base ρ A w a7 B w':=by
 unfold ly at hf;split at hf
 ·rename_i bs ew rh x0 e0
  simp at e0;obtain ⟨rfl,rfl⟩:=e0;obtain ⟨k,hk,hf⟩:=c9.1 hf;have hlen:=abP hxv hk;have hkk:∀ m,abM x=some m->k<=m:=fun m h=>by rw [hk] at h; simp at h; omega
  cases Gz:Nat.ble (ew+k) rh with
  | true=>
   rw [Gz,aj] at hf;have Gz:=fH Gz;obtain ⟨new,xj,hf⟩:=c9.1 hf;obtain ⟨cL,h1,h2,h3,h4⟩:=FH (P:=P) Rp.rel hxv xj hkk hn;cases bs with
   | none=>
    simp at hf;obtain ⟨rfl,rfl⟩:=hf;have:=hsv.iu;subst this;have hr:=yP (P:=P) t u ty e i ht hi hu none ew rh x' k cL hlen w h4 Gz;exact ⟨ρ,_,w,by rw [hr]; rfl,by simp [VR],.refl Rp⟩
   | some a=>
    simp only at hf;cases hpa:dj a with
    | false=>rw [hpa] at hf; simp at hf
    | true=>
     rw [hpa,aj] at hf;cases xH:Nat.beq k 0 with
     | true=>
      rw [xH,aj] at hf;simp at hf;obtain ⟨rfl,rfl⟩:=hf;have xH:=bh xH;obtain ⟨xI,IQ,lc,a',c',hl,vk,OP,pU,rfl⟩:=hsv.nN;have hr:=yP (P:=P) t u ty e i ht hi hu (some a') ew c' x' k cL hlen w h4 (by omega);have aeu:cL = []:=List.eq_nil_of_length_eq_zero (by rw [h1.length,h3,xH,Nat.zero_mul]);refine ⟨ρ,.slice (some a') (ew+k) c',w,?_,?_,.refl Rp⟩
      ·rw [hr,aeu]
       rfl
      ·simp only [VR]
       exact ⟨xI,by omega,lc,a',c',hl,vk,OP,pU,rfl⟩
     | false=>
     rw [xH,aq] at hf;obtain ⟨B',iE,hf⟩:=cR.1 hf;simp at hf;obtain ⟨rfl,rfl⟩:=hf;obtain ⟨xI,IQ,lc,a',c',hl,vk,OP,pU,rfl⟩:=hsv.nN;have hr:=yP (P:=P) t u ty e i ht hi hu (some a') ew c' x' k cL hlen w h4 (by omega);obtain ⟨w',h5,h6⟩:=FG (P:=P) (a:=⟨a.block,a.off+ew * i.size,none⟩) Rp iE hl h1;have nF:(storeCells (a'.add (ew * i.size)) cL).run P w = .ok () w':=by
      by_cases hc:c' = 0
      ·have:cL = []:=by
        apply List.eq_nil_of_length_eq_zero;rw [h1.length,h3];have:k=0:=by omega
        subst this; omega
       subst this;exact h5
      ·rw [OP hc,mm]
       simp only at h5;rw [Fz];exact h5
     refine ⟨ρ,.slice (some a') (ew+k) c',w',?_,?_,h6⟩
     ·rw [hr]
      simp only [nF,mz]
     ·simp only [VR]
      exact ⟨xI,Gz,lc,a',c',hl,vk,OP,pU,rfl⟩
  | false=>
   rw [Gz,aq] at hf;have Gz:rh < ew+k:=by
    have : ¬ (ew+k<=rh):=fun h=>by rw [Nat.ble_eq_true_of_le h] at Gz; simp at Gz
    omega
   cases hc:(Nat.ble ((ew+k) * i.bytes) 140737488355328&&Nat.ble (ew+k) 17592186044416&&wD A i.size rh bs) with
   | false=>rw [hc] at hf; simp at hf
   | true=>
    rw [hc,aj] at hf;simp only [aD] at hc;obtain ⟨⟨CW,uu⟩,hex⟩:=hc;have CW:=fH CW;have uu:=fH uu;have air:(ew+k) * i.bytes<=140737488355328:=CW;obtain ⟨new,xj,hf⟩:=c9.1 hf;obtain ⟨cL,h1,h2,h3,h4⟩:=FH (P:=P) Rp.rel hxv xj hkk hn;have hdr:=nC.drew (w:=w) Rp;obtain ⟨apk,g1,g2,g3,g4⟩:=FH (P:=P) hdr.jK.rel hxv xj hkk hn;have apl:∀ (bs' : Option Addr) (c' : Nat) (abQ aac:List Value) (bc f:Nat) (K:St),K=A\/(∃ x lo hi L,K=A.kill x lo hi L)->ej ρ abQ aac->(∀ v∈abQ,scalar v=true)->abQ.length=ew * i.size->
      (Builtin.firstCells i.size ew (.slice bs' ew c')).run P w.drew = .ok aac.toArray w.drew->c' < ew+k->
      ∃ a7 v' w',(Builtin.append_ #[t,u] ty #[.slice bs' ew c',x']).run P w = .ok v' w'/\VR a7 (.slice (some ⟨A.next,0,none⟩) (ew+k) (ew+k)) v'/\nC base ρ A w a7 (K.grow bc f (abQ++new) i.size) w':=by
     intro bs' c' abQ aac bc f K hK ho ho1 hol nF a8;have hr:=aab (P:=P) t u ty e i z ht hi hz hu bs' ew c' x' k aac apk hlen w nF g4 a8 uu (growslice_fits a8 air);have XX:=grownCap_ge w (ew+k) c' e;have hkg:nC base ρ A w ρ K w.drew:=by
      rcases hK with rfl | ⟨x,lo,hi,L,rfl⟩
      ·exact hdr
      ·exact (aer Rp x lo hi L).trans (nC.drew (aer Rp x lo hi L).jK)
     have hKn:K.next=A.next:=by
      rcases hK with rfl | ⟨x,lo,hi,L,rfl⟩
      ·rfl
      ·simp
     have OQ:((aac++apk).toArray++Builtin.zeroCells z.cells (grownCap w (ew+k) c' e - (ew+k))).size=grownCap w (ew+k) c' e * i.size:=by
      rw [Array.size_append,ajS,hzs,List.size_toArray,ko,ho.length,g1.length,hol,g3];rw [<- Nat.add_mul,<- Nat.add_mul];congr 1; omega
     have hgo:=aes (w:=w.drew) (n:=i.size) (bc:=bc) (f:=f) (c:=(aac++apk).toArray++Builtin.zeroCells z.cells (grownCap w (ew+k) c' e - (ew+k))) e hkg.jK (ho.append g1)
      (fun v hv=>(oM.1 hv).elim (ho1 v) (g2 v)) (fun j v hj=>by
       rw [Array.getElem?_append_left (by have:=(c8.1 hj).1; simpa using this)];simpa using hj) (by
       rw [OQ,ko,hol,g3,<- Nat.add_mul];exact Nat.mul_le_mul_right _ XX)
     refine ⟨_,_,_,hr,?_,hkg.trans hgo⟩;simp only [VR];refine ⟨trivial,aQ _,_,⟨w.heap.size,0,none⟩,grownCap w (ew+k) c' e,by rw [hKn]; exact aZ.sT _ _ _,XX,fun _=>rfl,?_,rfl⟩;rw [OQ];show 0+0+grownCap w (ew+k) c' e * i.size<=grownCap w (ew+k) c' e * i.size;omega
    unfold IJ at hf;cases bs with
    | none=>
     simp only at hf;cases hs0:Nat.beq ew 0 with
     | false=>rw [hs0] at hf; simp at hf
     | true=>
      rw [hs0,aj] at hf;simp at hf;obtain ⟨rfl,rfl⟩:=hf;have hs0:=bh hs0;have:=hsv.iu;subst this;have OS:Builtin.firstCells i.size ew (.slice none ew rh)=pure #[]:=rfl;exact apl none rh [] [] A.next 0 A (.inl rfl) .nil (by simp) (by rw [hs0]; simp) (by rw [OS]; rfl) Gz
    | some a=>
     simp only at hf;cases hpa:dj a with
     | false=>rw [hpa] at hf; simp at hf
     | true=>
      rw [hpa,aj] at hf;have xI:=aok hpa;obtain ⟨_,IQ,lc,a',c',hl,vk,OP,pU,rfl⟩:=hsv.nN;obtain ⟨gX,hold,hf⟩:=c9.1 hf;obtain ⟨tV,q1,q2,q3,q4⟩:=yN (P:=P) hdr.jK.rel hold hl;have nF:(Builtin.firstCells i.size ew (.slice (some a') ew c')).run P w.drew = .ok tV.toArray w.drew:=by
       simp only [Builtin.firstCells];by_cases hc:c' = 0
       ·have hs0:ew=0:=by omega
        subst hs0;have aeu:gX = []:=by rw [Nat.zero_mul] at q2; exact List.eq_nil_of_length_eq_zero q2
        subst aeu;rw [q1.cl,Nat.zero_mul];exact run_loadCells_list w.drew a' [] (by simp)
       ·rw [OP hc]; exact q4
      split at hf
      ·rename_i cs bV own cc hg
       cases hez:Nat.beq bV i.size with
       | false=>rw [hez] at hf; simp at hf
       | true=>
        rw [hez,aj] at hf;have hez:=bh hez;subst hez;obtain ⟨l2,oo,ok⟩:=Rp.rel.row _ _ _ _ _ hg;rw [hl] at oo; simp at oo; subst oo;have hle:lc.bV=i.size:=ok.bV;cases cc with
        | none=>
         simp only at hf;cases own with
         | false=>simp at hf
         | true=>
          simp at hf;obtain ⟨rfl,rfl⟩:=hf;have hxe:a.off+rh * i.size=cs.length:=by
           unfold wD at hex;simp only [hg] at hex;exact bh hex
          have hends:=ok.ends rfl rfl;have hc' : c' < ew+k:=by
           have h9:c' * i.size<=rh * i.size:=by rw [hle] at pU; omega
           have:=Nat.le_of_mul_le_mul_right h9 (by omega);omega
          exact apl (some a') c' gX tV A.next 0 A (.inl rfl) q1 q3 q2 nF hc'
        | some p=>
         obtain ⟨bc,f⟩:=p;simp only at hf;cases own with
         | false=>simp at hf
         | true=>
          simp at hf;obtain ⟨rfl,rfl⟩:=hf;by_cases hc' : c' < ew+k
          ·exact apl (some a') c' gX tV bc (f+a.off) _ (.inr ⟨_,_,_,_,rfl⟩) q1 q3 q2 nF hc'
          ·
           have eF:c'≠0:=by omega
           have ha:=OP eF;subst ha;have hr:=yP (P:=P) t u ty e i ht hi hu (some ⟨lc.cb,lc.eI+a.off,none⟩) ew c' x' k cL hlen w h4 (by omega);have sM:lc.eI+a.off+ew * i.size+new.length<=lc.CT:=by
            rw [h3];rw [hle] at pU;have h9:(ew+k) * i.size<=c' * i.size:=Nat.mul_le_mul_right _ (by omega);rw [Nat.add_mul] at h9;omega
           have QY:cL.length=new.length:=h1.length;obtain ⟨ajT,p1,p2,p3,p4⟩:=yN (P:=P) Rp.rel hold hl;have Kd:∀ (j:Nat) (v' : Value),ajT[j]? = some v'->w.cell? ⟨lc.cb,lc.eI+a.off+j,none⟩=some v':=by
            intro j v' hj;have a8:j < ew * i.size:=by have:=(c8.1 hj).1; rw [p1.length,p2] at this; exact this
            have qP:=(ok.there rfl (lc.eI+a.off+j) (by omega)).1;have:=acT (P:=P) w ⟨lc.cb,lc.eI+a.off,none⟩ (ew * i.size) ajT (fun j hj=>by rw [mm]; exact (ok.there rfl (lc.eI+a.off+j) (by omega)).1) p4 j v' hj;rwa [mm] at this
           have hgo:=aiq (w:=w) (iG:=a.off) (s:=ew * i.size) Rp hg hl p1 p3 p2 Kd h1 h2 sM;have iE:(storeCells ((⟨lc.cb,lc.eI+a.off,none⟩:Addr).add (ew * i.size)) cL).run P w = .ok () (w.setCells lc.cb (lc.eI+a.off+ew * i.size) cL):=by
            rw [mm];exact run_storeCells_cells (P:=P) lc.cb (lc.eI+a.off+ew * i.size) cL 0 w (fun j hj=>(ok.there rfl _ (by rw [QY] at hj; omega)).1) (fun j hj=>(ok.there rfl _ (by rw [QY] at hj; omega)).2) (fun v XU=>by
             obtain ⟨j,hj⟩:=List.getElem?_of_mem XU;have a8:j < new.length:=by rw [<- QY]; exact (c8.1 hj).1
             obtain ⟨u,hu⟩:∃ u,new[j]? = some u:=⟨new[j],dz a8⟩
             obtain ⟨v2,h7,h8⟩:=h1.get hu;rw [hj] at h7; simp at h7; subst h7;exact h8.scalar (h2 u (hQ hu)))
           refine ⟨_,.slice (some ⟨lc.cb,lc.eI+a.off,none⟩) (ew+k) c',_,by rw [hr]; simp only [iE,mz],?_,hgo⟩;simp only [VR];refine ⟨trivial,aQ _,_,_,c',aZ.sT _ _ _,by omega,fun _=>rfl,?_,rfl⟩;show lc.eI+a.off+0+c' * i.size<=lc.CT;rw [hle] at pU;omega
      ·simp at hf
 ·simp at hf
theorem aol {argTypes:Array TypeId} {t u:TypeId} (h:argTypes.toList = [t,u]):argTypes = #[t,u]:=by
 apply Array.ext';simpa using h
theorem amc {argTypes:Array TypeId} {args:Array Operand} (ho:o.op = .call ⟨.builtin .append,args,argTypes⟩):ie P o (OG P argTypes.toList args.toList):=by
 unfold OG;split
 ·rename_i t u CX
  split
  ·rename_i e ht
   split
   ·rename_i i hi
    split
    ·rename_i z hz
     cases hc:(Nat.ble 1 i.size&&Nat.beq z.cells.size i.size&&OE P u) with
     | false=>exact True.intro
     | true=>
      rw [aj];simp only [aD] at hc;obtain ⟨⟨h1,h2⟩,h3⟩:=hc;intro ρ A B base w ev cS v hs he hf;have hf0:=hf;unfold ly at hf0;split at hf0
      ·rename_i bs ew rh x e1
       have hm:=he.map;rw [e1] at hm hf;obtain ⟨s',r1,e2,hsv,hm⟩:=hm.cons_inv;obtain ⟨x',r2,e3,hxv,hm⟩:=hm.cons_inv;have:=hm.cl;subst this e3;obtain ⟨a7,v',w',h4,h5,h6⟩:=aet (ty:=o.type) ht hi hz h3 (fH h1) (bh h2) hs hsv hxv hf;refine ⟨a7,v',.value v',w',?_,rfl,h5,h6⟩;have e4:args.map cS = #[s',x']:=by apply Array.ext'; simpa using e2
       have e5:=aol CX;subst e5;simp only [execOp,ho,Sem.run_bind,resolve,Sem.run_pure,mz,invoke,builtin,e4,h4]
      ·simp at hf0
    ·trivial
   ·trivial
  ·trivial
 ·trivial
theorem apm {argTypes:Array TypeId} {args:Array Operand} (ho:o.op = .call ⟨.builtin .copy,args,argTypes⟩):ie P o (XL P argTypes.toList args.toList):=by
 unfold XL;split
 ·rename_i t rest CX
  have Qk:argTypes[0]? = some t:=by rw [<- Array.getElem?_toList,CX]; rfl
  split
  ·rename_i e ht
   split
   ·rename_i n hn
    cases MW:Nat.ble 1 n with
    | false=>exact True.intro
    | true=>
     rw [aj];have MW:1<=n:=fH MW;intro ρ A B base w ev cS v hs he hf;unfold aea at hf;split at hf
     ·rename_i bs XK dCap x e1
      have hm:=he.map;rw [e1] at hm;obtain ⟨s',r1,e2,hsv,hm⟩:=hm.cons_inv;obtain ⟨x',r2,e3,hxv,hm⟩:=hm.cons_inv;have:=hm.cl;subst this e3;have e4:args.map cS = #[s',x']:=by apply Array.ext'; simpa using e2
      obtain ⟨k,hk,hf⟩:=c9.1 hf;have hlen:=abP hxv hk;obtain ⟨new,xj,hf⟩:=c9.1 hf;obtain ⟨cL,h1,h2,h3,h4⟩:=FH (P:=P) hs.rel hxv xj (fun m h=>by rw [hk] at h; simp at h; subst h; exact Nat.min_le_left _ _) MW;cases bs with
      | none=>
       simp at hf;obtain ⟨rfl,rfl⟩:=hf;have:=hsv.iu;subst this;refine ⟨ρ,goInt (Nat.min k XK),.value (goInt (Nat.min k XK)),w,?_,rfl,VR.of_flat rfl,.refl hs⟩;simp [execOp,ho,resolve,invoke,builtin,e4,Builtin.copy_,Qk,bB ht,hlen,pV hn,h4]
      | some a=>
       simp only at hf;obtain ⟨B',iE,hf⟩:=cR.1 hf;simp at hf;obtain ⟨rfl,rfl⟩:=hf;obtain ⟨xI,IQ,lc,a',c',hl,vk,OP,pU,rfl⟩:=hsv.nN;obtain ⟨w',h5,h6⟩:=FG (P:=P) hs iE hl h1;have nF:(storeCells a' cL).run P w = .ok () w':=by
        by_cases hc:c' = 0
        ·have:cL = []:=by
          apply List.eq_nil_of_length_eq_zero;rw [h1.length,h3];have:XK=0:=by omega
          subst this; simp
         subst this;exact h5
        ·rw [OP hc]; exact h5
       refine ⟨ρ,goInt (Nat.min k XK),.value (goInt (Nat.min k XK)),w',?_,rfl,VR.of_flat rfl,h6⟩;simp [execOp,ho,resolve,invoke,builtin,e4,Builtin.copy_,Qk,bB ht,hlen,pV hn,h4,nF]
     ·simp at hf
   ·trivial
  ·trivial
 ·trivial
end
end Go.aB
end
section
namespace Go.aB
open Go
section
variable {P:Program} {o:Oper}
theorem CZ {ρ:aZ} {A:St} {base:Nat} {w:World} {r:Nat} {es rS:List (Value×Value)} {Hv:Array MapEntry} {FJ:Nat} {l:Loc} (hs:xS ρ A base w) (hg:A.get r=some (.map es)) (mC:ρ r=some l)
  (hm:ja ρ rS Hv.toList):nC base ρ A w ρ (A.put r (.map rS)) { w with heap:=w.heap.setIfInBounds l.cb (.map Hv FJ) }:=by
 obtain ⟨l',vB,ok⟩:=hs.rel.map _ _ hg;rw [mC] at vB; simp at vB; subst vB;obtain ⟨bx,clock,qQ,_⟩:=ok.qJ;have a8:l.cb < w.heap.size:=(CP.1 qQ).1;have LK:dc.fJ (.map es)=true:=rfl;have hold:∀ k,k≠l.cb->(w.heap.setIfInBounds l.cb (.map Hv FJ))[k]? = w.heap[k]?:=fun k hk=>by
  rw [Array.getElem?_setIfInBounds_ne (Ne.symm hk)]
 have fC:(w.heap.setIfInBounds l.cb (.map Hv FJ)).size=w.heap.size:=by simp
 have hB:∀ x,(A.put r (.map rS)).get x=if x=r then some (.map rS) else A.get x:=fun x=>St.cg _ _ _ _;have hmd:∀ o:dc,o.fJ=true->o≠.dead:=by intro o h e; subst e; simp [dc.fJ] at h
 have aeh:∀ x o l2,x≠r->A.get x=some o->o≠.dead->ρ x=some l2->LG ρ base w l2 o->l2.cb≠l.cb:=by
  intro x o l2 hx ki hd xJ jY e;cases hmo:o.fJ with
  | true=>
   obtain ⟨_,_,_,_,e1,_⟩:=hs.rel.apart x r o _ l2 l hx ki hg hmo LK xJ mC e;simp [dc.nI] at e1
  | false=>
   cases o with
   | row cs bV own cc=>
    have jY:OJ ρ base w l2 cs bV own cc:=jY;have h1:own=false:=hmo;have:=jY.wj h1;have:=ok.fJ;omega
   | map _=>simp [dc.fJ] at hmo
   | iter _ _=>simp [dc.fJ] at hmo
   | dead=>exact hd rfl
   | loop _ _ _ _ _ _=>simp [dc.fJ] at hmo
 refine ⟨⟨.OM ?_ ?_ ?_,fun b l2 h=>hs.mA b l2 h,by simpa using hs.size,hs.Qj⟩,fun _ _=>rfl,⟨rfl,rfl,rfl,Nat.le_of_eq fC.symm,fun k hk hn=>hold k (fun e=>hn ⟨r,_,l,hg,LK,mC,e.symm⟩)⟩,aQ _,Nat.min_le_left _ _,fun x hx hxl=>?_,?_⟩
 ·intro x o ki hd
  rw [hB] at ki;split at ki
  ·rename_i e; subst e; simp at ki; subst ki
   refine ⟨l,mC,ok.fJ,Hv,FJ,?_,hm⟩;show (w.heap.setIfInBounds l.cb (.map Hv FJ))[l.cb]? = _;rw [Array.getElem?_setIfInBounds_self_of_lt a8]
  ·rename_i e
   obtain ⟨l2,xJ,jY⟩:=hs.rel.obj ki hd;exact ⟨l2,xJ,jY.nD (aZ.le_refl _) (hold _ (aeh x o l2 e ki hd xJ jY)) (Nat.le_of_eq fC.symm)⟩
 ·have XS:∀ x o,(A.put r (.map rS)).get x=some o->o.fJ=true->∃ o',A.get x=some o'/\o'.fJ=true/\o'.nI=o.nI:=by
   intro x o hx hm;rw [hB] at hx;split at hx
   ·rename_i e; subst e; simp at hx; subst hx; exact ⟨_,hg,rfl,rfl⟩
   ·exact ⟨o,hx,hm,rfl⟩
  intro b1 b2 o1 o2 l1 l2 eF g1 g2 m1 m2 r1 r2 V0;obtain ⟨p1,q1,n1,k1⟩:=XS _ _ g1 m1;obtain ⟨p2,q2,n2,k2⟩:=XS _ _ g2 m2;rw [<- k1,<- k2];exact hs.rel.apart b1 b2 p1 p2 l1 l2 eF q1 q2 n1 n2 r1 r2 V0
 ·intro x o bc f ki hk
  rw [hB] at ki;split at ki
  ·rename_i e; subst e; simp at ki; subst ki; simp [dc.nI] at hk
  ·exact hs.rel.bJ x o bc f ki hk
 ·rw [St.aef] at hxl
  have:Nat.min A.low r<=r:=Nat.min_le_right _ _;rw [hB,ay (by omega)]
 ·rintro k hk ⟨x,o,l2,ki,hm,xJ,rfl⟩
  rw [hB] at ki;split at ki
  ·rename_i e; subst e
   rw [mC] at xJ; simp at xJ; subst xJ;exact ⟨x,_,l,hg,LK,mC,rfl⟩
  ·exact ⟨x,o,l2,ki,hm,xJ,rfl⟩
theorem ja.length {ρ:aZ} : ∀ {es:List (Value×Value)} {l:List MapEntry},ja ρ es l->l.length=es.length
 | [],l,h=>by simp only [ja] at h; subst h; rfl
 | (k,v)::es,l,h=>by
  simp only [ja] at h;obtain ⟨e,r,rfl,_,_,h⟩:=h;simp [ja.length h]
theorem ja.get {ρ:aZ} : ∀ {es:List (Value×Value)} {l:List MapEntry},ja ρ es l->∀ (i:Nat) (k v:Value),es[i]? = some (k,v)->∃ e,l[i]? = some e/\VR ρ k e.key/\VR ρ v e.val
 | [],l,h,i,k,v,hi=>by simp at hi
 | (k,v)::es,l,h,i,k',v',hi=>by
  simp only [ja] at h;obtain ⟨e,r,rfl,h1,h2,h⟩:=h;cases i with
  | zero=>simp at hi; obtain ⟨rfl,rfl⟩:=hi; exact ⟨e,rfl,h1,h2⟩
  | succ i=>simp at hi; simpa using ja.get h i k' v' hi
theorem ja.append {ρ:aZ} : ∀ {es:List (Value×Value)} {l:List MapEntry} {k v:Value} {e:MapEntry},ja ρ es l->VR ρ k e.key->VR ρ v e.val->ja ρ (es++[(k,v)]) (l++[e])
 | [],l,k,v,e,h,h1,h2=>by
  simp only [ja] at h; subst h;simp only [List.nil_append,ja];exact ⟨e,[],rfl,h1,h2,rfl⟩
 | (k0,v0)::es,l,k,v,e,h,h1,h2=>by
  simp only [ja] at h;obtain ⟨e0,r,rfl,h3,h4,h⟩:=h;simp only [List.cons_append,ja];exact ⟨e0,r++[e],rfl,h3,h4,ja.append h h1 h2⟩
theorem ja.modify {ρ:aZ} : ∀ {es:List (Value×Value)} {l:List MapEntry} {k v:Value} (f:MapEntry->MapEntry) (i:Nat),ja ρ es l->(∀ e,VR ρ k (f e).key/\VR ρ v (f e).val)->ja ρ (es.set i (k,v)) (l.modify i f)
 | [],l,k,v,f,i,h,_=>by simp only [ja] at h; subst h; simp [ja]
 | (k0,v0)::es,l,k,v,f,i,h,hf=>by
  simp only [ja] at h;obtain ⟨e0,r,rfl,h3,h4,h⟩:=h;cases i with
  | zero=>simp only [List.set_cons_zero,List.modify_zero_cons,ja]; exact ⟨_,r,rfl,(hf e0).1,(hf e0).2,h⟩
  | succ i=>simp only [List.set_cons_succ,List.modify_succ_cons,ja]; exact ⟨e0,_,rfl,h3,h4,ja.modify f i h hf⟩
theorem ja.erase {ρ:aZ} : ∀ {es:List (Value×Value)} {l:List MapEntry} (i:Nat),ja ρ es l->ja ρ (es.eraseIdx i) (l.eraseIdx i)
 | [],l,i,h=>by simp only [ja] at h; subst h; simp [ja]
 | (k0,v0)::es,l,i,h=>by
  simp only [ja] at h;obtain ⟨e0,r,rfl,h3,h4,h⟩:=h;cases i with
  | zero=>simpa using h
  | succ i=>simp only [List.eraseIdx_cons_succ,ja]; exact ⟨e0,_,rfl,h3,h4,ja.erase i h⟩
def FR (ρ:aZ):Option (Nat×Value)->Option (Nat×Value)->Prop
 | none,r=>r=none
 | some (i,v),r=>∃ v',r=some (i,v')/\VR ρ v v'
theorem XY {ρ:aZ} (d:TypeDesc) (k:Value):∀ (es:List (Value×Value)) (l:List MapEntry) (i:Nat),ja ρ es l->wF es=true->
  (Ek d k es i=none->Instr.findNow d k l i=none)/\∀ r,Ek d k es i=some r->∃ r',Instr.findNow d k l i=some r'/\FR ρ r r'
 | [],l,i,h,_=>by
  simp only [ja] at h; subst h;exact ⟨fun h=>by simp [Ek] at h,fun r hr=>by simp [Ek] at hr; subst hr; exact ⟨none,rfl,rfl⟩⟩
 | (k0,v0)::es,l,i,h,hf=>by
  simp only [ja] at h;obtain ⟨e0,r0,rfl,h3,h4,h⟩:=h;simp only [wF,aD] at hf;have hk:e0.key=k0:=h3.qI hf.1;have ih:=XY d k es r0 (i+1) h hf.2;simp only [Ek,Instr.findNow,hk];cases hsn:Instr.sameNow d k k0 with
  | none=>exact ⟨fun _=>rfl,fun r hr=>by simp at hr⟩
  | some b=>
   cases b with
   | true=>exact ⟨fun h=>by simp at h,fun r hr=>by simp at hr; subst hr; exact ⟨_,rfl,_,rfl,h4⟩⟩
   | false=>exact ih
theorem XZ {ρ:aZ} (kt:TypeId) (k:Value):∀ (es:List (Value×Value)) (l:List MapEntry) (i:Nat),ja ρ es l->wF es=true->
  ∀ r,MO P kt k es i=some r->∃ r',(∀ w,(Instr.findAsking kt k l i).run P w = .ok r' w)/\FR ρ r r'
 | [],l,i,h,_=>by
  simp only [ja] at h; subst h;intro r hr;simp [MO] at hr; subst hr; exact ⟨none,fun w=>rfl,rfl⟩
 | (k0,v0)::es,l,i,h,hf=>by
  simp only [ja] at h;obtain ⟨e0,r0,rfl,h3,h4,h⟩:=h;simp only [wF,aD] at hf;have hk:e0.key=k0:=h3.qI hf.1;intro r hr;simp only [MO] at hr;split at hr
  ·rename_i he
   simp at hr; subst hr;refine ⟨some (i,e0.val),fun w=>?_,_,rfl,h4⟩;simp [Instr.findAsking,hk,ik he w]
  ·rename_i he
   obtain ⟨r',h5,h6⟩:=XZ kt k es r0 (i+1) h hf.2 r hr;refine ⟨r',fun w=>?_,h6⟩;simp only [Instr.findAsking,hk,Sem.run_bind,ik he w,mz];exact h5 w
  ·simp at hr
theorem OT {ρ:aZ} {kt:TypeId} {d:TypeDesc} {k:Value} {es:List (Value×Value)} {l:List MapEntry} {r:Option (Nat×Value)} (hd:P.underlying kt=some d) (h:ja ρ es l) (hf:wF es=true) (hr:aeb P kt d k es=some r) :
  ∃ r',(∀ w,(Instr.findKey kt k l).run P w = .ok r' w)/\FR ρ r r':=by
 have hn:=XY d k es l 0 h hf;unfold aeb at hr;split at hr
 ·rename_i q hq
  simp at hr; subst hr;obtain ⟨r',h1,h2⟩:=hn.2 _ hq;refine ⟨r',fun w=>?_,h2⟩;simp only [Instr.findKey,Sem.run_bind,bB hd,mz,h1];rfl
 ·rename_i hq
  have h1:=hn.1 hq;obtain ⟨r',h2,h3⟩:=XZ kt k es l 0 h hf r hr;refine ⟨r',fun w=>?_,h3⟩;simp only [Instr.findKey,Sem.run_bind,bB hd,mz,h1];exact h2 w
theorem HT {ρ:aZ} {kt:TypeId} {b:Bool} {k k' : Value} {es:List (Value×Value)} (h:LC P kt b k es=true) (hk:VR ρ k k'):k' = k/\flat k=true/\wF es=true/\∀ w,(Instr.checkKey b 10000 kt k).run P w = .ok () w:=by
 unfold LC at h;simp only [aD] at h;obtain ⟨⟨h1,h2⟩,h3⟩:=h;cases hp:dv P (Instr.checkKey b 10000 kt k) with
 | none=>rw [hp] at h3; simp at h3
 | some u=>exact ⟨hk.qI h1,h1,h2,fun w=>ik hp w⟩
theorem ja.isEmpty {ρ:aZ} {es:List (Value×Value)} {l:Array MapEntry} (h:ja ρ es l.toList):l.isEmpty=es.isEmpty:=by
 have:=h.length;cases es with
 | nil=>simp at this; simpa using this
 | cons e es=>simp at this; simp; intro h; rw [h] at this; simp at this
theorem VR.Rq {ρ:aZ} {r:Nat} {v:Value} (h:VR ρ (.map (some r)) v):∃ l,ρ r=some l/\v = .map (some l.cb):=by simpa only [VR] using h
theorem VR.HU {ρ:aZ} {v:Value} (h:VR ρ (.map none) v):v = .map none:=by simpa only [VR] using h
theorem VR.ahm {ρ:aZ} {ok b:Bool} {v v' : Value} (h:VR ρ v v'):VR ρ (ahm ok v b) (if ok then .tuple #[v',.bool b] else v'):=by
 cases ok with
 | true=>exact VR.mkTuple (.cons h (.cons (VR.of_flat rfl) .nil))
 | false=>exact h
theorem ajU {t:TypeId} {r:Option Operand} (ho:o.op = .makeMap t r):ie P o (Ri P t r):=by
 unfold Ri;split
 ·rename_i kt et hu
  intro ρ ev cS obj mk he hf;have kF:obj = .map []/\mk=fun n=>.map (some n):=by
   unfold Z4 at hf;split at hf
   ·simp at hf; exact ⟨hf.1.symm,hf.2.symm⟩
   ·simp at hf; exact ⟨hf.1.symm,hf.2.symm⟩
   ·simp at hf
  obtain ⟨rfl,rfl⟩:=kF;refine ⟨.map #[] 0,fun n=>.map (some n),rfl,fun w=>?_,fun a7 n cb h=>by simp only [VR]; exact ⟨_,h,rfl⟩⟩;cases r with
  | none=>simp [execOp,ho,Instr.makeMap]
  | some x=>
   have hx:=he x (by simp [ga]);unfold Z4 at hf;simp only [ga,List.map] at hf;split at hf
   ·rename_i e; simp at e
   ·rename_i k n e
    simp at e;rw [e] at hx;simp [execOp,ho,Instr.makeMap,hx.dx,bB hu,asInt,asIntOf]
   ·simp at hf
 ·trivial
theorem M0 {ρ:aZ} {kt et:TypeId} {d:TypeDesc} {z v k k' : Value} {ok:Bool} {es:List (Value×Value)} {l:Array MapEntry} (hd:P.underlying kt=some d) (hz:qO P et=some z) (hzf:flat z=true)
  (hm:ja ρ es l.toList) (hk:VR ρ k k') (h:OH P kt d z ok k es=some v) :
  ∃ v',VR ρ v v'/\∀ w,(do
   Instr.checkKey l.isEmpty 10000 kt k'
   let (v,b) <- match <- Instr.findKey kt k' l.toList with
    | some (_,v)=>pure (v,true)
    | none=>pure (<- zeroValue et,false)
   pure (if ok then Value.tuple #[v,.bool b] else v):Sem Value).run P w = .ok v' w:=by
 unfold OH at h;cases hc:LC P kt es.isEmpty k es with
 | false=>rw [hc] at h; simp at h
 | true=>
  rw [hc,aj] at h;obtain ⟨rfl,_,hkf,Z8⟩:=HT hc hk;obtain ⟨r,hr,rfl⟩:=cR.1 h;obtain ⟨r',h1,h2⟩:=OT hd hm hkf hr;rw [hm.isEmpty];cases r with
  | none=>
   have h2:r' = none:=h2;subst h2;refine ⟨_,VR.ahm (VR.of_flat hzf),fun w=>?_⟩;simp [Z8,h1,TF hz]
  | some p=>
   obtain ⟨i,u⟩:=p;obtain ⟨u',rfl,h3⟩:=h2;refine ⟨_,VR.ahm h3,fun w=>?_⟩;simp [Z8,h1]
theorem amd {t:TypeId} {x ix:Operand} {ok:Bool} (ho:o.op = .lookup t x ix ok):ie P o (VW P t x ix ok):=by
 unfold VW;split
 ·rename_i kt et hu
  split
  ·rename_i d z hd hz
   cases hzf:flat z with
   | false=>exact True.intro
   | true=>
    rw [aj];intro ρ A base w ev cS v hs he hf;have hx:=he x (by simp);have hk:=he ix (by simp);simp only [List.map] at hf;unfold ajJ at hf;split at hf
    ·rename_i k e
     simp at e;obtain ⟨e1,e2⟩:=e;rw [e1] at hx;have hx:=hx.HU;rw [<- e2] at hf;obtain ⟨v',h1,h2⟩:=M0 (ρ:=ρ) (l:=#[]) hd hz hzf (by simp [ja]) hk hf;refine ⟨v',h1,?_⟩;have h2:=h2 w;simp only [execOp,ho,Instr.lookup,Sem.run_bind,bB hu,mz,hx,Sem.run_pure] at h2 ⊢;exact congrArg (fun r:Result Value=>r.andThen fun a w'=>Result.ok (Next.value a) w') h2
    ·rename_i r k e
     simp at e;obtain ⟨e1,e2⟩:=e;rw [e1] at hx;rw [<- e2] at hf;obtain ⟨lc,hl,hx⟩:=hx.Rq;split at hf
     ·rename_i es hg
      obtain ⟨l2,oo,jY⟩:=hs.map _ _ hg;rw [hl] at oo; simp at oo; subst oo;obtain ⟨bx,clock,qQ,hm⟩:=jY.qJ;obtain ⟨v',h1,h2⟩:=M0 (l:=bx) hd hz hzf hm hk hf;refine ⟨v',h1,?_⟩;have h2:=h2 w;simp only [execOp,ho,Instr.lookup,Sem.run_bind,bB hu,mz,hx,MapKept.run_getObj_map qQ,Sem.run_pure] at h2 ⊢;exact congrArg (fun r:Result Value=>r.andThen fun a w'=>Result.ok (Next.value a) w') h2
     ·simp at hf
    ·simp at hf
  ·trivial
 ·trivial
theorem X0 {ρ:aZ} {A B:St} {base:Nat} {w:World} {t kt et:TypeId} {d:TypeDesc} {m k x m' k' x' v:Value} (hu:P.underlying t=some (.map kt et)) (hd:P.underlying kt=some d) (hs:xS ρ A base w)
  (hm:VR ρ m m') (hk:VR ρ k k') (hx:VR ρ x x') (h:Rh P kt d A [m,k,x] = some (v,B)):v=undef/\∃ w',(Instr.mapUpdate t m' k' x').run P w = .ok () w'/\nC base ρ A w ρ B w':=by
 unfold Rh at h;split at h
 ·rename_i r k0 x0 e
  simp at e;obtain ⟨rfl,rfl,rfl⟩:=e;obtain ⟨lc,hl,rfl⟩:=hm.Rq;split at h
  ·rename_i es hg
   obtain ⟨l2,oo,jY⟩:=hs.rel.map _ _ hg;rw [hl] at oo; simp at oo; subst oo;obtain ⟨bx,clock,qQ,hmr⟩:=jY.qJ;cases hc:LC P kt false k es with
   | false=>rw [hc] at h; simp at h
   | true=>
    rw [hc,aj] at h;obtain ⟨rfl,hkf0,hkf,Z8⟩:=HT hc hk;obtain ⟨q,hq,h⟩:=c9.1 h;obtain ⟨r',h1,h2⟩:=OT hd hmr hkf hq;cases q with
    | none=>
     have h2:r' = none:=h2;subst h2;simp at h;obtain ⟨rfl,rfl⟩:=h;refine ⟨rfl,_,?_,CZ (Hv:=bx.push { key:=k',val:=x',born:=clock }) (FJ:=clock+1) hs hg hl (by rw [Array.toList_push]; exact hmr.append hk hx)⟩;simp [Instr.mapUpdate,bB hu,MapKept.run_getObj_map qQ,Z8,h1,MapKept.run_setObj_map _ qQ]
    | some p=>
     obtain ⟨i,u⟩:=p;obtain ⟨u',rfl,h3⟩:=h2;simp only at h;cases hsb:Instr.sameBits 10000 (aii es i k') k' with
     | false=>rw [hsb] at h; simp at h
     | true=>
      rw [hsb] at h;simp at h;obtain ⟨rfl,rfl⟩:=h;have hold:((bx[i]?).map (·.key)).getD k' = aii es i k':=by
       unfold aii;cases hi:es[i]? with
       | none=>
        have:bx[i]? = none:=by
         rw [Array.getElem?_eq_none_iff];have:=adD.1 hi;rw [<- Array.length_toList,hmr.length]; exact this
        rw [this]; rfl
       | some p=>
        obtain ⟨k1,v1⟩:=p;obtain ⟨e,h5,h6,h7⟩:=hmr.get i k1 v1 hi;have h5' : bx[i]? = some e:=by simpa using h5
        have MX:flat k1=true:=by
         have key:∀ (es:List (Value×Value)) (i:Nat),wF es=true->es[i]? = some (k1,v1)->flat k1=true:=by
          intro es
          induction es with
          | nil=>intro i _ h; simp at h
          | cons e es ih=>
           intro i hk h;simp only [wF,aD] at hk;cases i with
           | zero=>simp at h; subst h; exact hk.1
           | succ i=>exact ih i hk.2 (by simpa using h)
         exact key es i hkf hi
        rw [h5'];simp only [Option.map_some,bG];exact h6.qI MX
      refine ⟨rfl,_,?_,CZ (Hv:=bx.modify i fun e=>{ e with key:=k',val:=x' }) (FJ:=clock) hs hg hl (by rw [Array.toList_modify]; exact hmr.modify _ i fun e=>⟨hk,hx⟩)⟩;simp [Instr.mapUpdate,bB hu,MapKept.run_getObj_map qQ,Z8,h1,hold,Instr.keyThatStays,hsb,MapKept.run_setObj_map _ qQ]
  ·simp at h
 ·simp at h
theorem U0 {t:TypeId} {m k x:Operand} (ho:o.op = .mapUpdate t m k x\/o.op = .insert t m k x):ie P o (FD P t m k x):=by
 unfold FD;split
 ·rename_i kt et hu
  split
  ·rename_i d hd
   intro ρ A B base w ev cS v hs he hf;simp only [List.map] at hf;obtain ⟨rfl,w',h1,h2⟩:=X0 hu hd hs (he m (by simp)) (he k (by simp)) (he x (by simp)) hf;refine ⟨ρ,undef,.skip,w',?_,rfl,VR.of_flat (by simp [undef,flat,Ox,xP]),h2⟩;rcases ho with ho | ho <;> simp [execOp,ho,h1]
  ·trivial
 ·trivial
theorem xU:flat lA=true:=rfl
theorem ame {argTypes:Array TypeId} {args:Array Operand} (ho:o.op = .call ⟨.builtin .delete,args,argTypes⟩):ie P o (VX P argTypes.toList args.toList):=by
 unfold VX;split
 ·rename_i t rest CX
  have Qk:argTypes[0]? = some t:=by rw [<- Array.getElem?_toList,CX]; rfl
  split
  ·rename_i kt et hu
   split
   ·rename_i d hd
    intro ρ A B base w ev cS v hs he hf;have hm:=he.map;unfold ajK at hf;split at hf
    ·rename_i k e1
     rw [e1] at hm;obtain ⟨m',r1,e2,hmv,hm⟩:=hm.cons_inv;obtain ⟨k',r2,e3,hkv,hm⟩:=hm.cons_inv;have:=hm.cl;subst this e3;have e4:args.map cS = #[m',k']:=by apply Array.ext'; simpa using e2
     have:=hmv.HU;subst this;cases hc:LC P kt true k [] with
     | false=>rw [hc] at hf; simp at hf
     | true=>
      rw [hc] at hf;simp at hf;obtain ⟨rfl,rfl⟩:=hf;obtain ⟨rfl,_,hkf,Z8⟩:=HT hc hkv;refine ⟨ρ,lA,.value lA,w,?_,rfl,VR.of_flat xU,.refl hs⟩;simp [execOp,ho,resolve,invoke,builtin,e4,Builtin.delete_,Qk,bB hu,Z8,lA]
    ·rename_i r k e1
     rw [e1] at hm;obtain ⟨m',r1,e2,hmv,hm⟩:=hm.cons_inv;obtain ⟨k',r2,e3,hkv,hm⟩:=hm.cons_inv;have:=hm.cl;subst this e3;have e4:args.map cS = #[m',k']:=by apply Array.ext'; simpa using e2
     obtain ⟨lc,hl,rfl⟩:=hmv.Rq;split at hf
     ·rename_i es hg
      obtain ⟨l2,oo,jY⟩:=hs.rel.map _ _ hg;rw [hl] at oo; simp at oo; subst oo;obtain ⟨bx,clock,qQ,hmr⟩:=jY.qJ;cases hc:LC P kt es.isEmpty k es with
      | false=>rw [hc] at hf; simp at hf
      | true=>
       rw [hc,aj] at hf;obtain ⟨rfl,_,hkf,Z8⟩:=HT hc hkv;obtain ⟨q,hq,M1⟩:=cR.1 hf;obtain ⟨r',h1,h2⟩:=OT hd hmr hkf hq;rw [<- hmr.isEmpty] at Z8;cases q with
       | none=>
        have h2:r' = none:=h2;subst h2;simp at M1;obtain ⟨rfl,rfl⟩:=M1;refine ⟨ρ,lA,.value lA,_,?_,rfl,VR.of_flat xU,CZ (Hv:=bx) (FJ:=clock) hs hg hl hmr⟩;simp [execOp,ho,resolve,invoke,builtin,e4,Builtin.delete_,Qk,bB hu,MapKept.run_getObj_map qQ,Z8,h1,MapKept.run_setObj_map _ qQ,lA]
       | some p=>
        obtain ⟨i,u⟩:=p;obtain ⟨u',rfl,h3⟩:=h2;simp at M1;obtain ⟨rfl,rfl⟩:=M1;refine ⟨ρ,lA,.value lA,_,?_,rfl,VR.of_flat xU,CZ (Hv:=bx.eraseIdxIfInBounds i) (FJ:=clock) hs hg hl (by rw [Array.toList_eraseIdxIfInBounds]; exact hmr.erase i)⟩;simp [execOp,ho,resolve,invoke,builtin,e4,Builtin.delete_,Qk,bB hu,MapKept.run_getObj_map qQ,Z8,h1,MapKept.run_setObj_map _ qQ,lA]
     ·simp at hf
    ·simp at hf
   ·trivial
  ·trivial
 ·trivial
theorem aom {argTypes:Array TypeId} {args:Array Operand} (ho:o.op = .call ⟨.builtin .clear,args,argTypes⟩):ie P o (Z5 P argTypes.toList args.toList):=by
 unfold Z5;split
 ·rename_i t CX
  have Qk:argTypes[0]? = some t:=by rw [<- Array.getElem?_toList,CX]; rfl
  split
  ·rename_i kt et hu
   intro ρ A B base w ev cS v hs he hf;have hm:=he.map;unfold aec at hf;split at hf
   ·rename_i e1
    simp at hf;obtain ⟨rfl,rfl⟩:=hf;rw [e1] at hm;obtain ⟨m',r1,e2,hmv,hm⟩:=hm.cons_inv;have:=hm.cl;subst this;have e4:args.map cS = #[m']:=by apply Array.ext'; simpa using e2
    have:=hmv.HU;subst this;refine ⟨ρ,lA,.value lA,w,?_,rfl,VR.of_flat xU,.refl hs⟩;simp [execOp,ho,resolve,invoke,builtin,e4,Builtin.clear_,Qk,bB hu,lA]
   ·rename_i r e1
    rw [e1] at hm;obtain ⟨m',r1,e2,hmv,hm⟩:=hm.cons_inv;have:=hm.cl;subst this;have e4:args.map cS = #[m']:=by apply Array.ext'; simpa using e2
    obtain ⟨lc,hl,rfl⟩:=hmv.Rq;split at hf
    ·rename_i es hg
     simp at hf;obtain ⟨rfl,rfl⟩:=hf;obtain ⟨l2,oo,jY⟩:=hs.rel.map _ _ hg;rw [hl] at oo; simp at oo; subst oo;obtain ⟨bx,clock,qQ,hmr⟩:=jY.qJ;refine ⟨ρ,lA,.value lA,_,?_,rfl,VR.of_flat xU,CZ (Hv:=#[]) (FJ:=clock) hs hg hl rfl⟩;simp [execOp,ho,resolve,invoke,builtin,e4,Builtin.clear_,Qk,bB hu,MapKept.run_getObj_map qQ,MapKept.run_setObj_map _ qQ,lA]
    ·simp at hf
   ·simp at hf
  ·rename_i e hu
   split
   ·rename_i z hz
    cases hzc:(flat z&&Nat.ble 1 z.cells.size) with
    | false=>exact True.intro
    | true=>
     rw [aj];obtain ⟨Um,En⟩:=Bool.and_eq_true_iff.1 hzc;have En:=fH En;intro ρ A B base w ev cS v hs he hf;have hm:=he.map;unfold ahn at hf;split at hf
     ·rename_i n c e1
      simp at hf;obtain ⟨rfl,rfl⟩:=hf;rw [e1] at hm;obtain ⟨m',r1,e2,hmv,hm⟩:=hm.cons_inv;have:=hm.cl;subst this;have e4:args.map cS = #[m']:=by apply Array.ext'; simpa using e2
      have:=hmv.iu;subst this;refine ⟨ρ,lA,.value lA,w,?_,rfl,VR.of_flat xU,.refl hs⟩;simp [execOp,ho,resolve,invoke,builtin,e4,Builtin.clear_,Qk,bB hu,lA]
     ·rename_i a n c e1
      rw [e1] at hm;obtain ⟨m',r1,e2,hmv,hm⟩:=hm.cons_inv;have:=hm.cl;subst this;have e4:args.map cS = #[m']:=by apply Array.ext'; simpa using e2
      obtain ⟨xI,IQ,lc,a',c',hl,vk,OP,pU,rfl⟩:=hmv.nN;cases hn:Nat.beq n 0 with
      | true=>
       rw [hn] at hf;simp at hf;obtain ⟨rfl,rfl⟩:=hf;have:=bh hn;subst this;refine ⟨ρ,lA,.value lA,w,?_,rfl,VR.of_flat xU,.refl hs⟩;simp [execOp,ho,resolve,invoke,builtin,e4,Builtin.clear_,Qk,bB hu,lA]
      | false=>
       rw [hn,aq] at hf;have hn0:=Nat.ne_of_beq_eq_false hn;obtain ⟨B',iE,hf⟩:=cR.1 hf;simp at hf;obtain ⟨rfl,rfl⟩:=hf;obtain ⟨w',h5,h6⟩:=FG (P:=P) hs iE hl ((Ko Um).repeat n);have:=OP (by omega);subst this;have e5:Builtin.zeroCells z.cells n=⟨gp z.cells.toList n⟩:=V8 z.cells n En;refine ⟨ρ,lA,.value lA,w',?_,rfl,VR.of_flat xU,h6⟩;obtain ⟨m,rfl⟩:=Nat.exists_eq_succ_of_ne_zero hn0;simp [execOp,ho,resolve,invoke,builtin,e4,Builtin.clear_,Qk,bB hu,TF hz,e5,h5,lA]
     ·simp at hf
   ·trivial
  ·trivial
 ·trivial
theorem are {argTypes:Array TypeId} {args:Array Operand} (ho:o.op = .call ⟨.builtin .len,args,argTypes⟩):ie P o (adI P argTypes.toList args.toList):=by
 unfold adI;split
 ·rename_i t et
  have CX:argTypes[0]? = some t:=by rw [<- Array.getElem?_toList,et]; rfl
  split
  ·rename_i e hu; exact aoi ho CX hu
  ·rename_i hu; exact amb ho CX hu
  ·rename_i kt et' hu
   intro ρ A base w ev cS v hs he hf;have hm:=he.map;unfold ajL at hf;split at hf
   ·rename_i e1
    rw [e1] at hm;obtain ⟨y,ys,e2,h1,h2⟩:=hm.cons_inv;have:=h2.cl;subst this;simp at hf; subst hf;have:=h1.HU;subst this;refine ⟨_,VR.of_flat rfl,?_⟩;have e3:(args.map cS)[0]? = some (.map none):=by rw [pF,e2]; rfl
    simp [execOp,ho,resolve,invoke,builtin,Builtin.len_,CX,e3,bB hu,goInt]
   ·rename_i r e1
    rw [e1] at hm;obtain ⟨y,ys,e2,h1,h2⟩:=hm.cons_inv;have:=h2.cl;subst this;obtain ⟨lc,hl,rfl⟩:=h1.Rq;split at hf
    ·rename_i es hg
     simp at hf; subst hf;obtain ⟨l2,oo,jY⟩:=hs.map _ _ hg;rw [hl] at oo; simp at oo; subst oo;obtain ⟨bx,clock,qQ,hmr⟩:=jY.qJ;refine ⟨_,VR.of_flat rfl,?_⟩;have e3:(args.map cS)[0]? = some (.map (some lc.cb)):=by rw [pF,e2]; rfl
     have fC:bx.size=es.length:=by rw [<- Array.length_toList,hmr.length]
     simp [execOp,ho,resolve,invoke,builtin,Builtin.len_,CX,e3,bB hu,goInt,MapKept.run_getObj_map qQ,fC]
    ·simp at hf
   ·simp at hf
  ·trivial
 ·trivial
end
end Go.aB
end
section
namespace Go.aB
open Go
section
variable {P:Program} {o:Oper}
theorem ais {l:List UInt8} : ∀ {cs:List Value},Kk cs=some l->cs=mf l:=by
 intro cs
 induction cs generalizing l with
 | nil=>intro h; simp [Kk] at h; subst h; rfl
 | cons c cs ih=>
  intro h;cases c with
  | int k n=>
   cases k <;> cases n <;> simp only [Kk] at h <;> try (simp at h; done)
   rename_i m;cases hb:Nat.blt m 256 with
   | false=>rw [hb] at h; simp at h
   | true=>
    rw [hb,aj] at h;obtain ⟨r,hr,rfl⟩:=cR.1 h;rw [bT] at hb;rw [ih hr];simp only [mf,List.map_cons,List.cons.injEq,and_true];have:(UInt8.ofNat m).toNat=m:=by simp; omega
    rw [this];rfl
  | _=>simp [Kk] at h
theorem agJ {ρ:aZ} (l:List UInt8):ej ρ (mf l) (mf l):=by
 induction l with
 | nil=>exact .nil
 | cons x l ih=>exact .cons (by simp [VR]) ih
theorem Rr:∀ (l:List UInt8),xP (mf l)=true
 | []=>rfl
 | x::l=>by show (true&&xP (mf l))=true; rw [Rr l]; rfl
theorem aev {e:TypeId} (h:isByte P e=true):P.underlying e=some (.int .u8):=by
 unfold isByte at h;split at h
 ·rename_i h'; exact h'
 ·simp at h
theorem acU {ρ:aZ} {A:St} {base:Nat} {w:World} {cs cd:List Value} {c:Array Value} {n bc f:Nat} {fr:Nat×Nat} (T:TypeId) (hn1:n=1) (hs:xS ρ A base w) (hc:ej ρ cs cd) (h1:∀ v∈cs,scalar v=true)
  (apj:∀ (j:Nat) (v:Value),cd[j]? = some v->c[j]? = some v) (fC:cs.length<=c.size) (hfr:c.size<=fr.1) :
  nC base ρ A w (ρ.set A.next ⟨w.heap.size,0,c.size,n⟩) (A.grow bc f cs n) (w.alloc (.cells c T fr)):=by
 refine IP (o:=.row cs n true (some (bc,f))) hs (fun x=>MZ _ _ _ _ _ _) (fun g x h=>?_) (fun g f' h=>?_) (by simp [St.grow]) (by simp [St.grow]) (fun x hx _=>by rw [MZ,ay (by omega)]) rfl ?_
 ·rw [Aj]; split
  ·rename_i e; subst e; simp [h]
  ·exact h
 ·simp [dc.nI] at h; rw [Aj,h.1]; simp
 ·refine ⟨fun i v hi=>?_,fun h=>by simp at h,fun _=>hs.size,fun _ j hj=>?_,by simpa using fC,fun _ h=>by simp at h,rfl,by simp,fun _ h=>absurd hn1 h⟩
  ·obtain ⟨v',h2,h3⟩:=hc.get hi
   refine ⟨v',?_,h3.mono (hs.OL _),h1 v (hQ hi)⟩;rw [bd,World.cell?_alloc_mark];exact apj i v' h2
  ·simp only at hj ⊢
   rw [World.cell?_alloc_mark];refine ⟨?_,?_⟩
   ·rw [Array.getElem?_eq_getElem (by omega)]
    rfl
   ·have:(w.alloc (.cells c T fr)).heap[w.heap.size]? = some (.cells c T fr):=by
     show (w.heap.push (.cells c T fr))[w.heap.size]? = _;simp
    simp only [World.frozen?,this];have jc : ¬ (fr.1<=j):=by omega
    simp [jc]
theorem aad {ρ:aZ} {A:St} {base:Nat} {w:World} {src dst e:TypeId} {x x' v:Value} (hs:Rel ρ A.get A.members base w) (h1:P.underlying src=some (.slice e)) (h2:P.underlying dst=some .string) (he:P.underlying e=some (.int .u8))
  (hx:VR ρ x x') (h:IK A [x] = some v):VR ρ v v/\(convert src dst x').run P w = .ok v w:=by
 unfold IK at h;split at h
 ·rename_i n c e1
  simp at e1; subst e1;simp at h; subst h;have:=hx.iu;subst this;refine ⟨VR.of_flat rfl,?_⟩;rw [run_convert_bytes_string w src dst e none n c h1 he h2];rfl
 ·rename_i a n c e1
  simp at e1; subst e1;obtain ⟨l,hl,rfl⟩:=cR.1 h;obtain ⟨cs,LH,hb⟩:=c9.1 hl;have:=ais hb;subst this;obtain ⟨xI,IQ,lc,a',c',mC,vk,OP,pU,rfl⟩:=hx.nN;obtain ⟨cd,q1,q2,q3,q4⟩:=yN (P:=P) hs LH mC;have apn:cd=mf l:=q1.qI (Rr l);subst apn;have hlen:l.length=n:=by simpa [mf] using q2
  refine ⟨VR.of_flat rfl,?_⟩;rw [run_convert_bytes_string w src dst e (some a') n c' h1 he h2];have GA:(loadCells a' n).run P w = .ok (mf l).toArray w:=by
   by_cases hc:c' = 0
   ·have hn0:n=0:=by omega
    subst hn0;have:l = []:=List.eq_nil_of_length_eq_zero hlen;subst this;exact run_loadCells_list w a' [] (by simp)
   ·rw [OP hc]; exact q4
  have uu:mf l=(l.map (fun b=>(b.toNat:Int))).map (Value.int .u8):=by simp [mf]
  rw [uu] at GA;rw [run_bytesToString w a' n c' _ GA,foldl_push_byteCells];have he0:ByteArray.empty.data = #[]:=rfl;rw [he0];simp
 ·simp at h
theorem aae {ρ:aZ} {A B:St} {base:Nat} {w:World} {src dst e:TypeId} {x x' v:Value} (hs:xS ρ A base w) (h1:P.underlying src=some .string) (h2:P.underlying dst=some (.slice e)) (he:P.underlying e=some (.int .u8))
  (hx:VR ρ x x') (h:OI A [x] = some (v,B)):∃ a7 v' w',(convert src dst x').run P w = .ok v' w'/\VR a7 v v'/\nC base ρ A w a7 B w':=by
 unfold OI at h;split at h
 ·rename_i s e1
  simp at e1; subst e1;simp at h;obtain ⟨rfl,rfl⟩:=h;have:=hx.ri;subst this;have hr:=run_bytes_of_string (P:=P) w src dst e s h1 h2 he;have XX:=grownCap_ge w s.size 0 e;have hds:s.data.size=s.size:=rfl;have OQ:(bytesRow s (grownCap w s.size 0 e)).size=grownCap w s.size 0 e:=by
   unfold bytesRow;simp [hds];omega
  have hdr:=nC.drew (w:=w) hs;have hgo:=acU (w:=w.drew) (n:=1) (bc:=A.next) (f:=0) (c:=bytesRow s (grownCap w s.size 0 e)) (fr:=((bytesRow s (grownCap w s.size 0 e)).size,(bytesRow s (grownCap w s.size 0 e)).size+1)) e rfl hdr.jK
   (agJ s.data.toList) (fun v hv=>by
    obtain ⟨b,_,rfl⟩:=Fy.1 hv;rfl) (fun j v hj=>by
    unfold bytesRow;have a8:j < s.data.size:=by
     have:=(c8.1 hj).1;simpa [mf] using this
    rw [Array.getElem?_append_left (by simpa using a8)];simpa [mf] using hj) (by rw [OQ]; simp [mf,hds]; exact XX) (aQ _)
  refine ⟨_,_,_,hr,?_,hdr.trans hgo⟩;simp only [VR];refine ⟨trivial,aQ _,_,⟨w.heap.size,0,none⟩,grownCap w s.size 0 e,aZ.sT _ _ _,XX,fun _=>rfl,?_,rfl⟩;rw [OQ];show 0+0+grownCap w s.size 0 e * 1<=grownCap w s.size 0 e;omega
 ·simp at h
theorem apo {src dst:TypeId} {x:Operand} (ho:o.op = .convert src dst x):ie P o (F1 P src dst x):=by
 unfold F1;split
 ·rename_i e h1 h2
  cases hb:isByte P e with
  | false=>exact True.intro
  | true=>
   rw [aj];intro ρ A base w ev cS v hs he hf;obtain ⟨h3,h4⟩:=aad hs h1 h2 (aev hb) (he x (by simp)) hf;exact ⟨v,h3,by simp [execOp,ho,h4]⟩
 ·rename_i e h1 h2
  cases hb:isByte P e with
  | false=>exact True.intro
  | true=>
   rw [aj];intro ρ A B base w ev cS v hs he hf;obtain ⟨a7,v',w',h3,h4,h5⟩:=aae hs h1 h2 (aev hb) (he x (by simp)) hf;exact ⟨a7,v',.value v',w',by simp [execOp,ho,h3],rfl,h4,h5⟩
 ·rename_i h1 h2
  intro ρ ev cS v he hf;simp only [List.map] at hf;unfold aed at hf;split at hf
  ·rename_i s e
   simp at e hf;subst hf;have hx:=he x (by simp);rw [e] at hx;refine ⟨_,VR.of_flat rfl,fun w=>?_⟩;simp [execOp,ho,convert,bB h1,bB h2,hx.ri]
  ·simp at hf
 ·exact ajP ho
theorem agK {ρ:aZ} {A:St} {base:Nat} {w:World} {r:Nat} {s:List UInt8} {pos Ya:Nat} {l:Loc} (hs:xS ρ A base w) (hg:A.get r=some (.iter s pos)) (mC:ρ r=some l) :
  nC base ρ A w ρ (A.put r (.iter s Ya)) { w with heap:=w.heap.setIfInBounds l.cb (.stringIter ⟨⟨s⟩⟩ Ya) }:=by
 obtain ⟨l',vB,ok⟩:=hs.rel.iter _ _ _ hg;rw [mC] at vB; simp at vB; subst vB;obtain ⟨Ql,qQ⟩:=ok.qJ;have a8:l.cb < w.heap.size:=(CP.1 qQ).1;have LK:dc.fJ (.iter s pos)=true:=rfl;have hold:∀ k,k≠l.cb->(w.heap.setIfInBounds l.cb (.stringIter ⟨⟨s⟩⟩ Ya))[k]? = w.heap[k]?:=fun k hk=>by
  rw [Array.getElem?_setIfInBounds_ne (Ne.symm hk)]
 have fC:(w.heap.setIfInBounds l.cb (.stringIter ⟨⟨s⟩⟩ Ya)).size=w.heap.size:=by simp
 have hB:∀ x,(A.put r (.iter s Ya)).get x=if x=r then some (.iter s Ya) else A.get x:=fun x=>St.cg _ _ _ _;have hmd:∀ o:dc,o.fJ=true->o≠.dead:=by intro o h e; subst e; simp [dc.fJ] at h
 have aeh:∀ x o l2,x≠r->A.get x=some o->o≠.dead->ρ x=some l2->LG ρ base w l2 o->l2.cb≠l.cb:=by
  intro x o l2 hx ki hd xJ jY e;cases hmo:o.fJ with
  | true=>
   obtain ⟨_,_,_,_,e1,_⟩:=hs.rel.apart x r o _ l2 l hx ki hg hmo LK xJ mC e;simp [dc.nI] at e1
  | false=>
   cases o with
   | row cs bV own cc=>
    have jY:OJ ρ base w l2 cs bV own cc:=jY;have h1:own=false:=hmo;have:=jY.wj h1;have:=ok.fJ;omega
   | map _=>simp [dc.fJ] at hmo
   | iter _ _=>simp [dc.fJ] at hmo
   | dead=>exact hd rfl
   | loop _ _ _ _ _ _=>simp [dc.fJ] at hmo
 refine ⟨⟨.OM ?_ ?_ ?_,fun b l2 h=>hs.mA b l2 h,by simpa using hs.size,hs.Qj⟩,fun _ _=>rfl,⟨rfl,rfl,rfl,Nat.le_of_eq fC.symm,fun k hk hn=>hold k (fun e=>hn ⟨r,_,l,hg,LK,mC,e.symm⟩)⟩,aQ _,Nat.min_le_left _ _,fun x hx hxl=>?_,?_⟩
 ·intro x o ki hd
  rw [hB] at ki;split at ki
  ·rename_i e; subst e; simp at ki; subst ki
   refine ⟨l,mC,ok.fJ,Ql,?_⟩;show (w.heap.setIfInBounds l.cb (.stringIter ⟨⟨s⟩⟩ Ya))[l.cb]? = _;rw [Array.getElem?_setIfInBounds_self_of_lt a8]
  ·rename_i e
   obtain ⟨l2,xJ,jY⟩:=hs.rel.obj ki hd;exact ⟨l2,xJ,jY.nD (aZ.le_refl _) (hold _ (aeh x o l2 e ki hd xJ jY)) (Nat.le_of_eq fC.symm)⟩
 ·have XS:∀ x o,(A.put r (.iter s Ya)).get x=some o->o.fJ=true->∃ o',A.get x=some o'/\o'.fJ=true/\o'.nI=o.nI:=by
   intro x o hx hm;rw [hB] at hx;split at hx
   ·rename_i e; subst e; simp at hx; subst hx; exact ⟨_,hg,rfl,rfl⟩
   ·exact ⟨o,hx,hm,rfl⟩
  intro b1 b2 o1 o2 l1 l2 eF g1 g2 m1 m2 r1 r2 V0;obtain ⟨p1,q1,n1,k1⟩:=XS _ _ g1 m1;obtain ⟨p2,q2,n2,k2⟩:=XS _ _ g2 m2;rw [<- k1,<- k2];exact hs.rel.apart b1 b2 p1 p2 l1 l2 eF q1 q2 n1 n2 r1 r2 V0
 ·intro x o bc f ki hk
  rw [hB] at ki;split at ki
  ·rename_i e; subst e; simp at ki; subst ki; simp [dc.nI] at hk
  ·exact hs.rel.bJ x o bc f ki hk
 ·rw [St.aef] at hxl
  have:Nat.min A.low r<=r:=Nat.min_le_right _ _;rw [hB,ay (by omega)]
 ·rintro k hk ⟨x,o,l2,ki,hm,xJ,rfl⟩
  rw [hB] at ki;split at ki
  ·rename_i e; subst e
   rw [mC] at xJ; simp at xJ; subst xJ;exact ⟨x,_,l,hg,LK,mC,rfl⟩
  ·exact ⟨x,o,l2,ki,hm,xJ,rfl⟩
theorem aon {t:TypeId} {x:Operand} (ho:o.op = .range t x):ie P o (Z6 P t x):=by
 unfold Z6;split
 ·rename_i hu
  intro ρ ev cS obj mk he hf;simp only [List.map] at hf;unfold anf at hf;split at hf
  ·rename_i s e
   simp at e;have hx:=he x (by simp);rw [e] at hx;have hx:=hx.ri;simp at hf;obtain ⟨rfl,rfl⟩:=hf;refine ⟨.stringIter s 0,fun n=>.pointer (some ⟨n,0,none⟩),?_,fun w=>?_,fun a7 n cb h=>VR.Bt (a:=⟨n,0,none⟩) rfl h⟩
   ·show Obj.stringIter s 0 = .stringIter ⟨⟨s.data.toList⟩⟩ 0
    rfl
   ·simp [execOp,ho,Instr.range,bB hu,hx]
  ·simp at hf
 ·trivial
theorem M3 {w:World} {r:Nat} {s:ByteArray} {pos:Nat} (hb:w.heap[r]? = some (.stringIter s pos)):(getObj r).run P w = .ok (.stringIter s pos) w:=by
 simp [getObj,Sem.run,hb]
theorem aaf {w:World} {r:Nat} {s:ByteArray} {pos:Nat} (o:Obj) (hb:w.heap[r]? = some (.stringIter s pos)):(setObj r o).run P w = .ok () { w with heap:=w.heap.setIfInBounds r o }:=by
 simp [setObj,Sem.run,hb]
theorem apq {it:Operand} {b:Bool} (ho:o.op = .next it b):ie P o (cond b (.act al4 [it]) .bad):=by
 cases b with
 | false=>trivial
 | true=>
  rw [aj];intro ρ A B base w ev cS v hs he hf;simp only [List.map] at hf;unfold al4 at hf;split at hf
  ·rename_i a e
   simp at e;have hx:=he it (by simp);rw [e] at hx;obtain ⟨xI,l,hl,hx⟩:=hx.jb;cases ha0:Nat.beq a.off 0 with
   | false=>rw [ha0] at hf; simp at hf
   | true=>
    rw [ha0,aj] at hf;have ha0:=bh ha0;split at hf
    ·rename_i s pos hg
     obtain ⟨l2,oo,ok⟩:=hs.rel.iter _ _ _ hg;rw [hl] at oo; simp at oo; subst oo;obtain ⟨Ql,qQ⟩:=ok.qJ;have fC:(⟨⟨s⟩⟩:ByteArray).size=s.length:=rfl;rw [Ql,ha0] at hx;cases a8:Nat.blt pos s.length with
     | true=>
      rw [a8,aj] at hf;rw [bT] at a8;split at hf;rename_i c width atb;simp at hf;obtain ⟨rfl,rfl⟩:=hf;refine ⟨ρ,.tuple #[.bool true,.int .i64 (Int.ofNat pos),.int .i32 c],.value _,_,?_,rfl,VR.of_flat rfl,agK (Ya:=pos+width) hs hg hl⟩;simp [execOp,ho,Instr.next,hx,M3 qQ,fC,a8,atb,aaf _ qQ,goInt]
     | false=>
      rw [a8,aq] at hf;have XX : ¬ pos < s.length:=fun h=>by rw [<- bT] at h; rw [h] at a8; simp at a8
      simp at hf;obtain ⟨rfl,rfl⟩:=hf;refine ⟨ρ,.tuple #[.bool false],.value _,w,?_,rfl,VR.of_flat rfl,.refl hs⟩;simp [execOp,ho,Instr.next,hx,M3 qQ,fC,XX]
    ·simp at hf
  ·simp at hf
theorem tg (P:Program) (o:Oper):ie P o (compile P o.op):=by
 cases ho:o.op with
 | move x=>exact ape ho
 | assign x=>exact al7 ho
 | pick c a b=>exact apf ho
 | alloc t=>exact aoc ho
 | box t x=>exact ara ho
 | build t parts=>exact aoh ho
 | buildSlice t len parts=>exact aen ho
 | load t a=>exact apg ho
 | store t a x=>exact aod ho
 | nilCheck x=>exact aim ho
 | binOp op t x y yt=>exact arb ho
 | unOp op t x=>exact asu ho
 | convert src dst x=>exact apo ho
 | makeFunc fn first cap=>exact ain ho
 | fieldAddr s x f=>exact agF ho
 | field t x f=>exact aoe ho
 | indexAddr t x ix=>exact agG ho
 | index t x ix=>exact aof ho
 | extract t i=>exact ajQ ho
 | slice t x lo hi mx=>exact ok_slice ho
 | makeSlice t l c=>exact agI ho
 | makeInterface t x=>exact aoj ho
 | range t x=>exact aon ho
 | next it b=>exact apq ho
 | makeMap t r=>exact ajU ho
 | lookup t x ix ok=>exact amd ho
 | mapUpdate t m k x=>exact U0 (.inl ho)
 | insert t m k x=>exact U0 (.inr ho)
 | call c=>
  show ie P o (CR P c);unfold CR;split
  ·rename_i f hf; exact api ho hf
  ·rename_i b hb
   obtain ⟨callee,args,argTypes⟩:=c;simp only at hb;subst hb;unfold Kl;split
   ·exact are ho
   ·exact arc ho
   ·exact ard ho
   ·exact amc ho
   ·exact apm ho
   ·exact ame ho
   ·exact aom ho
   ·trivial
  ·trivial
 | _=>trivial
end
end Go.aB
end
section
namespace Go.aB
noncomputable section
open Go
abbrev Fr (r:Option Nat):Fence:={ Fence.wide with round:=r }
def aZ.res (ρ:aZ) (n:Nat):aZ:=fun b=>if b < n then ρ b else none
theorem aZ.adL {ρ:aZ} {n b:Nat} (h:b < n):ρ.res n b=ρ b:=by unfold aZ.res; rw [aR h]
theorem VZ.under {ρ:aZ} {n:Nat} {fn CG:Fn} (hu:aik n fn=true) (h:VZ ρ fn CG):VZ (ρ.res n) fn CG:=by
 cases fn with
 | yield r=>
  obtain ⟨l,h1,h2⟩:=h;simp only [aik] at hu;rw [bT] at hu;exact ⟨l,by rw [aZ.adL hu]; exact h1,h2⟩
 | _=>exact h
mutual
theorem VR.under {ρ:aZ} {n:Nat} : ∀ {v v' : Value},aB.under n v=true->VR ρ v v'->VR (ρ.res n) v v'
 | .bool b,v,_,hv=>by simpa [VR] using hv
 | .int k n,v,_,hv=>by simpa [VR] using hv
 | .float k x,v,_,hv=>by simpa [VR] using hv
 | .complex k x y,v,_,hv=>by simpa [VR] using hv
 | .string s,v,_,hv=>by simpa [VR] using hv
 | .pointer none,v,_,hv=>by simpa [VR] using hv
 | .pointer (some a),v,hu,hv=>by
  simp only [aB.under] at hu;rw [bT] at hu;simp only [VR] at hv ⊢;rw [aZ.adL hu];exact hv
 | .slice none n c,v,_,hv=>by simpa [VR] using hv
 | .slice (some a) n c,v,hu,hv=>by
  simp only [aB.under] at hu;rw [bT] at hu;simp only [VR] at hv ⊢;rw [aZ.adL hu];exact hv
 | .map none,v,_,hv=>by simpa [VR] using hv
 | .map (some r),v,hu,hv=>by
  simp only [aB.under] at hu;rw [bT] at hu;simp only [VR] at hv ⊢;rw [aZ.adL hu];exact hv
 | .chan _,_,_,_=>by simp [VR]
 | .func fn f c,v,hu,hv=>by
  simp only [aB.under,aD] at hu;simp only [VR] at hv ⊢;obtain ⟨f',c',h2,h3,CG,h4,h5⟩:=hv;exact ⟨f',c',um.under hu.1.2 h2,um.under hu.2 h3,CG,VZ.under hu.1.1 h4,h5⟩
 | .nilFunc,v,_,hv=>by simpa [VR] using hv
 | .iface t x,v,hu,hv=>by
  simp only [aB.under] at hu;simp only [VR] at hv ⊢;obtain ⟨x',h2,h3⟩:=hv;exact ⟨x',VR.under hu h2,h3⟩
 | .nilIface,v,_,hv=>by simpa [VR] using hv
 | .agg cs,v,hu,hv=>by
  simp only [aB.under] at hu;simp only [VR] at hv ⊢;obtain ⟨x',h2,h3⟩:=hv;exact ⟨x',um.under hu h2,h3⟩
 | .tuple cs,v,hu,hv=>by
  simp only [aB.under] at hu;simp only [VR] at hv ⊢;obtain ⟨x',h2,h3⟩:=hv;exact ⟨x',um.under hu h2,h3⟩
theorem um.under {ρ:aZ} {n:Nat} : ∀ {v v' : Array Value},aB.TC n v=true->um ρ v v'->um (ρ.res n) v v'
 | ⟨l⟩,a,hu,hv=>by simp only [aB.TC] at hu; simp only [um] at hv ⊢; exact ej.under hu hv
theorem ej.under {ρ:aZ} {n:Nat} : ∀ {v v' : List Value},aB.adJ n v=true->ej ρ v v'->ej (ρ.res n) v v'
 | [],l,_,hv=>by simpa [ej] using hv
 | x::xs,l,hu,hv=>by
  simp only [aB.adJ,aD] at hu;simp only [ej] at hv ⊢;obtain ⟨y,ys,e,h1,h2⟩:=hv;exact ⟨y,ys,e,VR.under hu.1 h1,ej.under hu.2 h2⟩
end
theorem OU {acc:List Nat} {j:Nat} : ∀ {es:List Edge},Nat.testBit (vy acc es) j=true->∃ e∈es,binds e=true/\(j=e.on\/rR acc e.on j=true)
 | [],h=>by simp [vy] at h
 | e::es,h=>by
  simp only [vy] at h;cases hb:binds e with
  | false=>
   rw [hb,aq] at h;obtain ⟨e',h1,h2⟩:=OU h;exact ⟨e',by simp [h1],h2⟩
  | true=>
   rw [hb,aj] at h;have e1:∀ a b:Nat,Nat.lor a b=a ||| b:=fun _ _=>rfl;have e2:Nat.shiftLeft 1 e.on=1 <<< e.on:=rfl;rw [e1,e1,e2,Nat.testBit_or,Nat.testBit_or,vw,vw] at h;rcases h with (h | h) | h
   ·refine ⟨e,by simp,hb,.inl ?_⟩
    rw [Nat.one_shiftLeft,Nat.testBit_two_pow] at h;exact (pT h).symm
   ·exact ⟨e,by simp,hb,.inr h⟩
   ·obtain ⟨e',h1,h2⟩:=OU h
    exact ⟨e',by simp [h1],h2⟩
theorem abR:∀ (os:List Oper) (acc:List Nat),∃ r,eW acc os=acc++r/\r.length=os.length
 | [],acc=>⟨[],by simp [eW]⟩
 | o::os,acc=>by
  obtain ⟨r,h1,h2⟩:=abR os (acc++[vy acc o.after.toList]);exact ⟨vy acc o.after.toList::r,by simp [eW,h1],by simp [h2]⟩
theorem ahq:∀ (os:List Oper) (acc:List Nat) (i j:Nat) (o:Oper),os[i]? = some o->(∀ e∈o.after.toList,binds e=true->e.on < acc.length+i)->
  rR (eW acc os) (acc.length+i) j=true->∃ e∈o.after.toList,binds e=true/\(j=e.on\/rR (eW acc os) e.on j=true)
 | [],acc,i,j,o,ho,_,_=>by simp at ho
 | o0::os,acc,0,j,o,ho,hf,h=>by
  simp at ho;subst ho;obtain ⟨r,h1,_⟩:=abR os (acc++[vy acc o0.after.toList]);have e0:eW acc (o0::os)=acc++[vy acc o0.after.toList]++r:=by simp only [eW]; exact h1
  rw [e0] at h ⊢;have e1:(acc++[vy acc o0.after.toList]++r).getD (acc.length+0) 0=vy acc o0.after.toList:=by simp [List.getD]
  unfold rR at h;rw [e1] at h;obtain ⟨e,h2,h3,h4⟩:=OU h;refine ⟨e,h2,h3,h4.imp id fun h5=>?_⟩;have a8:=hf e h2 h3;unfold rR at h5 ⊢;have:(acc++[vy acc o0.after.toList]++r).getD e.on 0=acc.getD e.on 0:=by
   simp only [List.getD,Tz];rw [pR (by simpa using a8)]
  rw [this];exact h5
 | o0::os,acc,i+1,j,o,ho,hf,h=>by
  have hlen:(acc++[vy acc o0.after.toList]).length+i=acc.length+(i+1):=by simp; omega
  have:=ahq os (acc++[vy acc o0.after.toList]) i j o (by simpa using ho) (by rw [hlen]; exact hf) (by rw [hlen]; exact h);simpa only [eW] using this
structure th (P:Program) (all:List Oper):Prop where
 back:∀ i o,all[i]? = some o->∀ e∈o.after.toList,binds e=true->e.on < i
 apart:∀ i j x y,all[i]? = some y->all[j]? = some x->j < i->Gy P all x y=true->rR (eW [] all) i j=true
theorem U3 {P:Program} {all:List Oper} {b:List Nat} {i:Nat} {y:Oper} : ∀ (xs:List Oper) (k:Nat),MR P all b i y xs k=true->∀ (j:Nat) (x:Oper),xs[j]? = some x->k+j < i->Gy P all x y=true->rR b i (k+j)=true
 | [],k,_,j,x,hx,_,_=>by simp at hx
 | x0::xs,k,h,0,x,hx,a8,hc=>by
  simp at hx;subst hx;simp only [MR,aD,vw,nw] at h;rcases h.1 with (h1 | h1) | h1
  ·have:=fH h1; omega
  ·rw [hc] at h1; simp at h1
  ·exact h1
 | x0::xs,k,h,j+1,x,hx,a8,hc=>by
  simp only [MR,aD] at h;have:=U3 xs (k+1) h.2 j x (by simpa using hx) (by omega) hc;rwa [show k+1+j=k+(j+1) by omega] at this
theorem Bv {P:Program} {all:List Oper} {b:List Nat} : ∀ (os:List Oper) (k:Nat),Ah P all b os k=true->∀ (i:Nat) (o:Oper),os[i]? = some o->
  (∀ e∈o.after.toList,binds e=true->e.on < k+i)/\MR P all b (k+i) o all 0=true
 | [],k,_,i,o,ho=>by simp at ho
 | o0::os,k,h,0,o,ho=>by
  simp at ho;subst ho;simp only [Ah,aD,gx] at h;refine ⟨fun e he hb=>?_,h.1.2⟩;have:=h.1.1 e he;rw [hb] at this;simp at this;exact this
 | o0::os,k,h,i+1,o,ho=>by
  simp only [Ah,aD] at h;have:=Bv os (k+1) h.2 i o (by simpa using ho);rwa [show k+1+i=k+(i+1) by omega] at this
theorem GB {P:Program} {all:List Oper} (h:MS P all=true):th P all:=by
 unfold MS at h;refine ⟨fun i o ho=>?_,fun i j x y hy hx a8 hc=>?_⟩
 ·have:=(Bv all 0 h i o ho).1
  simpa using this
 ·have:=U3 all 0 (Bv all 0 h i y hy).2 j x hx (by simpa using a8) hc
  simpa using this
def su (all:List Oper) (S:Nat->Bool):Prop:=∀ i j,S i=true->rR (eW [] all) i j=true->S j=true
def wG (all:List Oper) (S:Nat->Bool) (i:Nat):Prop:=∀ o,all[i]? = some o->∀ e∈o.after.toList,binds e=true->S e.on=true
theorem su.ready {P:Program} {all:List Oper} (hf:th P all) {S:Nat->Bool} (hc:su all S) {i:Nat} {o:Oper} (ho:all[i]? = some o) (hr:wG all S i):∀ j,rR (eW [] all) i j=true->S j=true:=by
 intro j hj;obtain ⟨e,h1,h2,h3⟩:=ahq all [] i j o ho (by simpa using hf.back i o ho) (by simpa using hj);have hs:=hr o ho e h1 h2;rcases h3 with rfl | h3
 ·exact hs
 ·exact hc _ _ hs h3
def cQ (S:Nat->Bool) (i:Nat):Nat->Bool:=fun j=>S j||Nat.beq j i
theorem su.insert {P:Program} {all:List Oper} (hf:th P all) {S:Nat->Bool} (hc:su all S) {i:Nat} {o:Oper} (ho:all[i]? = some o) (hr:wG all S i):su all (cQ S i):=by
 intro a b h1 h2;simp only [cQ,vw] at h1 ⊢;rcases h1 with h1 | h1
 ·exact .inl (hc a b h1 h2)
 ·have:=bh h1
  subst this;exact .inl (hc.ready hf ho hr b h2)
theorem ahr (e:Edge):Region.binds .any e=binds e:=by
 unfold Region.binds binds;cases e.ground <;> rfl
theorem Kq {all:List Oper} {bJ:Array Bool} {i:Nat} (h:i∈Region.ready .any ⟨all⟩ bJ):i < all.length/\bJ.getD i true=false/\wG all (fun j=>bJ.getD j false) i:=by
 unfold Region.ready at h;rw [List.mem_filter,pt] at h;obtain ⟨h1,h2⟩:=h;simp only [aD,nw] at h2;refine ⟨by simpa using h1,h2.1,fun o ho e he hb=>?_⟩;have e1:(⟨all⟩:Array Oper)[i]? = some o:=by simpa using ho
 rw [e1] at h2;simp only [Option.map_some,bG] at h2;have:=Array.all_eq_true'.1 h2.2 e (by simpa using he);rw [ahr,hb] at this;simpa using this
theorem aew {P:Program} {all:List Oper} (hf:th P all) {bJ:Array Bool} (hl:bJ.size=all.length) (h:Region.ready .any ⟨all⟩ bJ = []):∀ i,i < all.length->bJ.getD i false=true:=by
 intro i
 induction i using Nat.strongRecOn with
 | _ i ih=>
  intro hi;cases hc:bJ.getD i false with
  | true=>rfl
  | false=>
   exfalso;obtain ⟨o,ho⟩:∃ o,all[i]? = some o:=⟨_,dz hi⟩
   have hm:i∈Region.ready .any ⟨all⟩ bJ:=by
    unfold Region.ready;rw [List.mem_filter,pt];refine ⟨by simpa using hi,?_⟩;have e1:(⟨all⟩:Array Oper)[i]? = some o:=by simpa using ho
    rw [e1];have e2:bJ.getD i true=false:=by
     have:i < bJ.size:=by omega
     simpa [hM,this] using hc
    simp only [e2,yJ,AL,Option.map_some,bG];rw [Array.all_eq_true'];intro e he;cases hb:binds e with
    | false=>rw [ahr,hb]; rfl
    | true=>
     have a8:=hf.back i o ho e (by simpa using he) hb;rw [ih e.on a8 (by omega)];simp
   rw [h] at hm;simp at hm
theorem count_set:∀ (l:List Bool) (i:Nat),l[i]? = some false->((l.set i true).filter (!·)).length+1=(l.filter (!·)).length
 | [],i,h=>by simp at h
 | x::l,0,h=>by
  simp at h;subst h;simp
 | x::l,i+1,h=>by
  have:=count_set l i (by simpa using h);cases x <;> simp at this ⊢ <;> omega
theorem ajV {P:Program} {all:List Oper} {r:Option Nat} (hf:th P all) {Q:Exit->Act->World->Prop} (I:(Nat->Bool)->Act->World->Prop) (hI:∀ S S' a w,(∀ i,i < all.length->S i=S' i)->I S a w->I S' a w)
  (step:∀ S a w i o,I S a w->su all S->all[i]? = some o->S i=false->wG all S i->(∀ j,S j=true->j < all.length)->wpOpIn (Fr r) 0 P ⟨all⟩ Q i (I (cQ S i)) a w)
  (fin:∀ S a w,(∀ i,i < all.length->S i=true)->I S a w->Q .normal a w) :
  ∀ (fuel:Nat) (bJ:Array Bool) (a:Act) (w:World),bJ.size=all.length->(bJ.toList.filter (!·)).length=fuel->su all (fun j=>bJ.getD j false)->I (fun j=>bJ.getD j false) a w->wpAnyIn (Fr r) 0 P .any ⟨all⟩ Q fuel bJ a w
 | 0,bJ,a,w,hs,hn,hc,h=>by
  have nE:∀ i,i < all.length->bJ.getD i false=true:=by
   intro i hi;have:i < bJ.size:=by omega
   cases hb:bJ.getD i false with
   | true=>rfl
   | false=>
    exfalso;have hg:bJ[i] = false:=by simpa [hM,this] using hb
    have hm:bJ[i]∈bJ.toList.filter (!·):=by
     rw [List.mem_filter];exact ⟨by simp,by simp [hg]⟩
    rw [lL.1 hn] at hm;simp at hm
  refine ⟨?_,fin _ a w nE h⟩;cases hr:Region.ready .any ⟨all⟩ bJ with
  | nil=>rfl
  | cons i r=>
   have:=Kq (all:=all) (bJ:=bJ) (i:=i) (by rw [hr]; simp);have h1:=nE i this.1;have h2:bJ.getD i true=true:=by
    have a8:i < bJ.size:=by omega
    simpa [hM,a8] using h1
   rw [h2] at this;simp at this
 | fuel+1,bJ,a,w,hs,hn,hc,h=>by
  refine ⟨fun hr=>fin _ a w (aew hf hs hr) h,fun i hi=>?_⟩;obtain ⟨a8,hl,ux⟩:=Kq hi;obtain ⟨o,ho⟩:∃ o,all[i]? = some o:=⟨_,dz a8⟩
  have IU:i < bJ.size:=by omega
  have rD:bJ.getD i false=false:=by simpa [hM,IU] using hl
  have aex:∀ j,j < all.length->cQ (fun j=>bJ.getD j false) i j=(bJ.setIfInBounds i true).getD j false:=by
   intro j hj;by_cases e:j=i
   ·subst e
    simp [cQ,hM,IU]
   ·have:Nat.beq j i=false:=by
     cases hb:Nat.beq j i with
     | false=>rfl
     | true=>exact absurd (bh hb) e
    simp [cQ,this,hM,Array.getElem?_setIfInBounds_ne (Ne.symm e)]
  refine wpOpIn_mono (fun a' w' h'=>?_) (step _ a w i o h hc ho rD ux (fun j hj=>by
   rcases Nat.lt_or_ge j all.length with h1 | h1
   ·exact h1
   ·have:bJ.getD j false=false:=by
     rw [hM,Array.getElem?_eq_none (by omega)];rfl
    rw [this] at hj; simp at hj))
  refine ajV hf I hI step fin fuel _ a' w' (by simpa using hs) ?_ ?_ (hI _ _ a' w' aex h')
  ·rw [Array.toList_setIfInBounds]
   have:=count_set bJ.toList i (by simpa [hM,IU] using rD);omega
  ·intro x y hx hy
   have hb:∀ z,(bJ.setIfInBounds i true).getD z false=true↔cQ (fun j=>bJ.getD j false) i z=true:=by
    intro z;rcases Nat.lt_or_ge z all.length with h1 | h1
    ·rw [aex z h1]
    ·have e1:(bJ.setIfInBounds i true).getD z false=false:=by
      rw [hM,Array.getElem?_eq_none (by simp; omega)];rfl
     have e2:bJ.getD z false=false:=by
      rw [hM,Array.getElem?_eq_none (by omega)];rfl
     have e3:Nat.beq z i=false:=by
      cases hb:Nat.beq z i with
      | false=>rfl
      | true=>have:=bh hb; omega
     simp [cQ,e1,e2,e3]
   rw [hb] at hx ⊢;exact hc.insert hf ho ux x y hx hy
theorem HV {P:Program} {all:List Oper} (hf:th P all) {Q:Exit->Act->World->Prop} (I:(Nat->Bool)->Act->World->Prop) (hI:∀ S S' a w,(∀ i,i < all.length->S i=S' i)->I S a w->I S' a w)
  (step:∀ S a w i o,I S a w->su all S->all[i]? = some o->S i=false->wG all S i->(∀ j,S j=true->j < all.length)->wpOp P ⟨all⟩ Q i (I (cQ S i)) a w)
  (fin:∀ S a w,(∀ i,i < all.length->S i=true)->I S a w->Q .normal a w) :
  ∀ (fuel:Nat) (bJ:Array Bool) (a:Act) (w:World),bJ.size=all.length->(bJ.toList.filter (!·)).length=fuel->su all (fun j=>bJ.getD j false)->I (fun j=>bJ.getD j false) a w->wpAny P .any ⟨all⟩ Q fuel bJ a w
 | 0,bJ,a,w,hs,hn,hc,h=>by
  have nE:∀ i,i < all.length->bJ.getD i false=true:=by
   intro i hi;have:i < bJ.size:=by omega
   cases hb:bJ.getD i false with
   | true=>rfl
   | false=>
    exfalso;have hg:bJ[i] = false:=by simpa [hM,this] using hb
    have hm:bJ[i]∈bJ.toList.filter (!·):=by
     rw [List.mem_filter];exact ⟨by simp,by simp [hg]⟩
    rw [lL.1 hn] at hm;simp at hm
  refine ⟨?_,fin _ a w nE h⟩;cases hr:Region.ready .any ⟨all⟩ bJ with
  | nil=>rfl
  | cons i r=>
   have:=Kq (all:=all) (bJ:=bJ) (i:=i) (by rw [hr]; simp);have h1:=nE i this.1;have h2:bJ.getD i true=true:=by
    have a8:i < bJ.size:=by omega
    simpa [hM,a8] using h1
   rw [h2] at this;simp at this
 | fuel+1,bJ,a,w,hs,hn,hc,h=>by
  refine ⟨fun hr=>fin _ a w (aew hf hs hr) h,fun i hi=>?_⟩;obtain ⟨a8,hl,ux⟩:=Kq hi;obtain ⟨o,ho⟩:∃ o,all[i]? = some o:=⟨_,dz a8⟩
  have IU:i < bJ.size:=by omega
  have rD:bJ.getD i false=false:=by simpa [hM,IU] using hl
  have aex:∀ j,j < all.length->cQ (fun j=>bJ.getD j false) i j=(bJ.setIfInBounds i true).getD j false:=by
   intro j hj;by_cases e:j=i
   ·subst e
    simp [cQ,hM,IU]
   ·have:Nat.beq j i=false:=by
     cases hb:Nat.beq j i with
     | false=>rfl
     | true=>exact absurd (bh hb) e
    simp [cQ,this,hM,Array.getElem?_setIfInBounds_ne (Ne.symm e)]
  refine wpOp_mono (fun a' w' h'=>?_) (step _ a w i o h hc ho rD ux (fun j hj=>by
   rcases Nat.lt_or_ge j all.length with h1 | h1
   ·exact h1
   ·have:bJ.getD j false=false:=by
     rw [hM,Array.getElem?_eq_none (by omega)];rfl
    rw [this] at hj; simp at hj))
  refine HV hf I hI step fin fuel _ a' w' (by simpa using hs) ?_ ?_ (hI _ _ a' w' aex h')
  ·rw [Array.toList_setIfInBounds]
   have:=count_set bJ.toList i (by simpa [hM,IU] using rD);omega
  ·intro x y hx hy
   have hb:∀ z,(bJ.setIfInBounds i true).getD z false=true↔cQ (fun j=>bJ.getD j false) i z=true:=by
    intro z;rcases Nat.lt_or_ge z all.length with h1 | h1
    ·rw [aex z h1]
    ·have e1:(bJ.setIfInBounds i true).getD z false=false:=by
      rw [hM,Array.getElem?_eq_none (by simp; omega)];rfl
     have e2:bJ.getD z false=false:=by
      rw [hM,Array.getElem?_eq_none (by omega)];rfl
     have e3:Nat.beq z i=false:=by
      cases hb:Nat.beq z i with
      | false=>rfl
      | true=>have:=bh hb; omega
     simp [cQ,e1,e2,e3]
   rw [hb] at hx ⊢;exact hc.insert hf ho ux x y hx hy
def asw (all:List Oper) (i:Nat):Option Tmp:=(all[i]?).bind (·.dst)
end
end Go.aB
end
section
namespace Go.aB
noncomputable section
open Go
def Quiet (A0:St) (R:List Rec):Prop:=∀ r∈R,r.nx=A0.next/\(r.did = .val\/∃ f vs,r.did = .read f vs)
def lS (R:List Rec) (S:Nat->Bool):Option Nat:=apc (R.filter fun r=>S r.i)
def Yb (A0:St) (R:List Rec) (S:Nat->Bool):St:=ass A0 R (lS R S)
def writer (all:List Oper) (R:List Rec) (S:Nat->Bool) (x:Nat):Option Rec:=R.find? fun r=>S r.i&&(asw all r.i==some x)
def valOf (all:List Oper) (t0:Tm) (R:List Rec) (S:Nat->Bool) (x:Nat):Value:=
 match writer all R S x with
 | some r=>r.v
 | none=>(t0.get x).getD undef
def atc (all:List Oper) (A0:St) (R:List Rec) (S:Nat->Bool) (x:Nat):Nat:=
 match writer all R S x with
 | some r=>r.nx
 | none=>A0.next
structure Inv (all:List Oper) (A0:St) (t0:Tm) (R:List Rec) (N:Nat) (d0:List Deferred) (base:Nat) (ρ0:aZ) (w0:World) (S:Nat->Bool) (a:Act) (w:World) (ρ:aZ):Prop where
 size:a.tmps.size=N
 defers:a.defers=d0
 tm:∀ x,VR (ρ.res (atc all A0 R S x)) (valOf all t0 R S x) (a.tmps.getD x undef)
 core:nC base ρ0 A0 w0 (ρ.res (Yb A0 R S).next) (Yb A0 R S) w
 news:∀ r∈R,S r.i=true->∀ id o,r.did = .make id o->apb (eW [] all) (lS R S) r.i=false->
  ∃ c cb,ρ id=some (aei o cb)/\aej (ρ.res r.nx) o c/\w.heap[cb]? = some c/\w0.heap.size<=cb/\¬ Img (ρ.res (Yb A0 R S).next) (Yb A0 R S) cb
 newsApart:∀ r∈R,∀ s∈R,S r.i=true->S s.i=true->∀ id o id' o',r.did = .make id o->s.did = .make id' o'->apb (eW [] all) (lS R S) r.i=false->apb (eW [] all) (lS R S) s.i=false->
  r.i≠s.i->∀ l l',ρ id=some l->ρ id' = some l'->l.cb≠l'.cb
 unborn:∀ r∈R,S r.i=false->∀ id o,r.did = .make id o->ρ id=none
 mA:∀ bl l,ρ bl=some l->bl < (Yb A0 R S).next\/∃ r∈R,S r.i=true/\∃ o,r.did = .make bl o
section
variable {P:Program} {call:VY} {all:List Oper} {A0:St} {t0:Tm} {R:List Rec} {N:Nat} {d0:List Deferred} {base:Nat} {ρ0:aZ} {w0:World}
theorem lN {x:Nat} : ∀ {xs:List Operand},Operand.tmp x∈xs->x∈tf xs
 | [],h=>by simp at h
 | .tmp t::xs,h=>by
  rcases eL.1 h with h | h
  ·simp at h; subst h; simp [tf]
  ·simp [tf,lN h]
 | .const _::xs,h=>by
  rcases eL.1 h with h | h
  ·simp at h
  ·simpa [tf] using lN h
 | .global _::xs,h=>by
  rcases eL.1 h with h | h
  ·simp at h
  ·simpa [tf] using lN h
 | .func _::xs,h=>by
  rcases eL.1 h with h | h
  ·simp at h
  ·simpa [tf] using lN h
end
end
end Go.aB
end
section
namespace Go.aB
noncomputable section
open Go
theorem xS.nD {ρ a7:aZ} {A:St} {base:Nat} {w w' : World} (hs:xS ρ A base w) (hle:ρ.le a7) (atd:∀ b l,a7 b=some l->b < A.next) (hw:∀ k,k < w.heap.size->w'.heap[k]? = w.heap[k]?) (fC:w.heap.size<=w'.heap.size):xS a7 A base w':=by
 have aag:∀ b o l,A.get b=some o->o≠.dead->a7 b=some l->ρ b=some l:=by
  intro b o l hg hd hr;obtain ⟨l',h1,_⟩:=hs.rel.obj hg hd;have:=hle _ _ h1;rw [hr] at this; simp at this; subst this;exact h1
 refine ⟨.OM (fun b o hg hd=>?_) ?_ hs.rel.bJ,atd,oO hs.size fC,hs.Qj.mono hle⟩
 ·obtain ⟨l,h1,h2⟩:=hs.rel.obj hg hd
  exact ⟨l,hle _ _ h1,h2.nD hle (hw _ (h2.lt hd)) fC⟩
 ·intro b1 b2 o1 o2 l1 l2 eF g1 g2 m1 m2 r1 r2 V0
  exact hs.rel.apart b1 b2 o1 o2 l1 l2 eF g1 g2 m1 m2 (aag b1 o1 l1 g1 (by intro e; subst e; simp [dc.fJ] at m1) r1) (aag b2 o2 l2 g2 (by intro e; subst e; simp [dc.fJ] at m2) r2) V0
section
variable {P:Program} {call:VY} {all:List Oper} {A0:St} {t0:Tm} {R:List Rec} {N:Nat} {d0:List Deferred} {base:Nat} {ρ0:aZ} {w0:World}
end
end
end Go.aB
end
section
namespace Go.aB
noncomputable section
open Go
theorem VR.undef {ρ:aZ} : VR ρ undef undef:=VR.of_flat (by simp [Go.undef,flat,Ox,xP])
section
variable {P:Program} {call:VY} {all:List Oper} {A0:St} {t0:Tm} {R:List Rec} {N:Nat} {d0:List Deferred} {base:Nat} {ρ0:aZ} {w0:World}
end
end
end Go.aB
end
section
namespace Go.aB
noncomputable section
open Go
variable {P:Program} {call:VY} {all:List Oper} {A0:St}
end
end Go.aB
end
section
namespace Go.aB
noncomputable section
open Go
theorem put_defers (a:Act) (dst:Option Tmp) (v:Value):(a.put dst v).defers=a.defers:=by cases dst <;> rfl
def ai.out:ai->Exit
 | .normal=>.normal
 | .exit id=>.exit id
 | .goto l=>.goto l
 | .ret=>.ret
def mark (D:Nat):Deferred:={ target:=.collected D,args:=#[] }
section
variable {P:Program} {b:Frame} {a:Act} {k:List Item} {cs:List Frame} {w:World}
end
def adM (a:Act):ResultVar->Sem Value
 | .tmp t=>pure (a.tmps.getD t undef)
 | .cell ad ty=>do loadVar ty (<- asAddr (a.tmps.getD ad undef))
theorem abS (fn:Func) (a:Act):results fn a.tmps=(do let vs <- fn.results.mapM (adM a); pure (if h:vs.size=1 then vs[0] else .tuple vs)):=by
 unfold results;congr 1
theorem nP {n m:Nat} (h:n<=m):∀ (c:Code),codeOk n c=true->codeOk m c=true
 | .region id ops d,hc=>by
  simp only [codeOk,gx] at hc ⊢;intro o ho;have:=hc o ho;unfold LD at this ⊢;split at this
  ·rename_i d e
   rw [bT] at this ⊢;omega
  ·rfl
 | .seq a b,hc=>by simp only [codeOk,aD] at hc ⊢; exact ⟨nP h a hc.1,nP h b hc.2⟩
 | .cond _ a b,hc=>by simp only [codeOk,aD] at hc ⊢; exact ⟨nP h a hc.1,nP h b hc.2⟩
 | .block _ a,hc=>nP h a hc
 | .loop a,hc=>nP h a hc
 | .rangeFunc _ ps a b,hc=>by
  simp only [codeOk,aD,gx,bT] at hc ⊢;exact ⟨fun p hp=>ta (hc.1 p hp) h,nP h a hc.2.1,nP h b hc.2.2⟩
 | .scope a,hc=>nP h a hc
 | .skip,_ | .exit _,_ | .label _,_ | .goto _,_ | .ret,_ | .refuse _,_=>rfl
def IV (gl:List (Nat×List Value×Nat)) (b:Nat):Option Loc:=if b < gB then some (match gl.find? (fun x=>Nat.beq x.1 b) with | some x=>⟨b,0,x.2.1.length,x.2.2⟩ | none=>⟨b,0,0,0⟩) else none
theorem agL (gl:List (Nat×List Value×Nat)):ajN (IV gl):=fun g hg=>by
 unfold IV;rw [aR hg];split <;> exact ⟨_,rfl,rfl,rfl⟩
theorem aey:∀ (gl:List (Nat×List Value×Nat)) (b:Nat),(Z7 gl).get b=match gl.find? (fun x=>Nat.beq x.1 b) with | some x=>some (.row x.2.1 x.2.2 false none) | none=>none
 | [],b=>by simp [Z7]
 | (g,cs,e)::gl,b=>by
  simp only [Z7,Trie.qH,List.find?_cons];cases hb:Nat.beq g b with
  | true=>simp [bh hb]
  | false=>rw [ay (fun e=>by subst e; simp at hb)]; exact aey gl b
def arf (w:World) (gl:List (Nat×List Value×Nat)):Prop:=∀ x∈gl,x.1 < gB/\x.1 < w.heap.size/\x.2.1.all (fun v=>flat v&&scalar v)=true/\∀ i v,x.2.1[i]? = some v->w.cell? ⟨x.1,i,none⟩=some v
theorem xS.ajW {w:World} {gl:List (Nat×List Value×Nat)} (h:arf w gl):xS (IV gl) (St.Qj gl) w.heap.size w:=by
 have hg:∀ b o,(St.Qj gl).get b=some o->∃ x∈gl,x.1=b/\gl.find? (fun x=>Nat.beq x.1 b)=some x/\o = .row x.2.1 x.2.2 false none:=by
  intro b o e;have e:(Z7 gl).get b=some o:=e;rw [aey] at e;split at e
  ·rename_i x hx
   simp at e;have:=List.find?_some hx;exact ⟨x,List.mem_of_find?_eq_some hx,bh this,hx,e.symm⟩
  ·simp at e
 refine ⟨⟨fun b cs bV own cc e=>?_,fun b es e=>?_,fun b s pos e=>?_,fun b st ex t ps c d e=>?_,fun b1 b2 o1 o2 l1 l2 _ e1 _ m=>?_,fun b o bc f e k=>?_⟩,fun b l e=>?_,aQ _,agL gl⟩
 ·obtain ⟨x,hx,rfl,hf,he⟩:=hg _ _ e
  simp at he;obtain ⟨rfl,rfl,rfl,rfl⟩:=he;obtain ⟨h1,h2,h3,h4⟩:=h x hx;refine ⟨⟨x.1,0,x.2.1.length,x.2.2⟩,by unfold IV; rw [aR h1,hf],⟨fun i v hi=>?_,fun _=>h2,fun h=>by simp at h,fun h=>by simp at h,by simp,fun h=>by simp at h,rfl,h2,fun h=>by simp at h⟩⟩;have:=gx.1 h3 v (hQ hi);simp only [aD] at this;exact ⟨v,by simpa using h4 i v hi,VR.of_flat this.1,this.2⟩
 ·obtain ⟨x,_,_,_,he⟩:=hg _ _ e; simp at he
 ·obtain ⟨x,_,_,_,he⟩:=hg _ _ e; simp at he
 ·obtain ⟨x,_,_,_,he⟩:=hg _ _ e; simp at he
 ·obtain ⟨x,_,_,_,he⟩:=hg _ _ e1; subst he; simp [dc.fJ] at m
 ·obtain ⟨x,_,_,_,he⟩:=hg _ _ e; subst he; simp [dc.nI] at k
 ·unfold IV at e
  split at e
  ·rename_i hb; exact hb
  ·simp at e
theorem xS.empty (w:World):xS (IV []) St.empty w.heap.size w:=xS.ajW (gl:=[]) (fun _ h=>by simp at h)
end
end Go.aB
end
section
namespace Go.K
open Go Go.aB
noncomputable section
inductive Mk where
 | any
 | exact
 | bc (b:Nat)
inductive KV where
 | int (k:IntKind) (n:Int)
 | bool (b:Bool)
 | str (s:ByteArray)
 | agg (cs:List KV)
 | iv (vs:List KV)
 | ts (T:TypeId) (m:Mk) (n:Nat) (es:List KV) (acc:Nat->KV)
 | tp (T Tc:TypeId) (i k:Nat) (es:List KV) (acc:Nat->KV)
 | al (T:TypeId) (b o n:Nat)
 | ap (T Tc:TypeId) (b i k:Nat)
 | ptr (b off:Nat)
 | sl (b off len cap:Nat)
 | Hw
 | mn
 | C0
 | map (b:Nat)
 | fn (f:Fn) (first cap:List KV)
 | IW
 | iface (t:TypeId) (v:KV)
 | IX
 | bD
instance:Inhabited KV:=⟨.bD⟩
inductive jP where
 | row (cs:List KV) (bV:Nat)
 | map (es:List (KV×KV))
 | bc (top sz:Nat)
 | arr (v:KV)
 | jQ (v:KV)
 | dead
structure aC where
 heap:Trie jP
 next:Nat
def aC.empty:aC:=⟨.leaf,0⟩
def aC.get (A:aC) (b:Nat):Option jP:=A.heap.get b
def aC.new (A:aC) (o:jP):aC:=⟨A.heap.set o A.next,Nat.succ A.next⟩
def aC.put (A:aC) (b:Nat) (o:jP):aC:=⟨A.heap.set o b,A.next⟩
abbrev bF:=Trie KV
def mX {α:Type} : List (Nat×α)->Trie α
 | []=>.leaf
 | p::ps=>(mX ps).set p.2 p.1
def KV.cells:KV->List KV
 | .agg cs=>cs
 | v=>[v]
def one:KV->Bool
 | .agg _ | .iv _ | .bD=>false
 | _=>true
def uh:KV:=.iv []
inductive KR (α:Type) where
 | no
 | ok (v:α)
 | lB (c:Bool) (v:α)
 | br (c:Bool) (x y:KR α)
def KR.run {α R:Type} (r:KR α) (k:α->Option R):Option R:=
 KR.rec (motive:=fun _=>Option R) none (fun v=>k v) (fun c v=>Bool.rec (motive:=fun _=>Option R) none (k v) c) (fun c _ _ rx ry=>Bool.rec (motive:=fun _=>Option R) ry rx c) r
def KR.map {α β:Type} (f:α->β):KR α->KR β
 | .no=>.no
 | .ok v=>.ok (f v)
 | .lB c v=>.lB c (f v)
 | .br c x y=>.br c (x.map f) (y.map f)
def KR.of {α:Type} : Option α->KR α
 | some v=>.ok v
 | none=>.no
inductive CK where
 | int (k:IntKind)
 | bool
 | str
 | slice (t:TypeId)
 | other
structure yR where
 agg:Bool
 ks:List CK
def eA {α:Type} (l:List α):Nat->List α
 | 0=>[]
 | n+1=>l++eA l n
def Rs (f:TypeId->Option yR):List Field->Nat->Option (List CK)
 | [],_=>some []
 | fd::fs,off=>cond (Nat.beq fd.offset off) ((f fd.type).bind fun l=>(Rs f fs (off+l.ks.length)).map fun r=>l.ks++r) none
def lay (P:Program):Nat->TypeId->Option yR
 | 0,_=>none
 | n+1,t=>match P.underlying t with
  | some (.int k)=>some ⟨false,[.int k]⟩
  | some .bool=>some ⟨false,[.bool]⟩
  | some .string=>some ⟨false,[.str]⟩
  | some (.slice e)=>some ⟨false,[.slice e]⟩
  | some (.struct fs)=>(Rs (lay P n) fs.toList 0).map fun ks=>⟨true,ks⟩
  | some (.array len e)=>(lay P n e).map fun l=>⟨true,eA l.ks len⟩
  | some _=>some ⟨false,[.other]⟩
  | none=>none
def bu (P:Program) (t:TypeId):yR:=(lay P 12 t).getD ⟨false,[]⟩
def kindOk:CK->KV->Bool
 | .int k,.int k' _=>decide (k=k')
 | .bool,.bool _=>true
 | .str,.str _=>true
 | .slice t,.ts t' .any _ _ _=>Nat.beq t t'
 | _,_=>false
def aI:List CK->List KV->Bool
 | [],[]=>true
 | k::ks,v::vs=>kindOk k v&&aI ks vs
 | _,_=>false
def cC (l:yR):KV->Bool
 | .agg cs=>l.agg&&aI l.ks cs
 | .iv _=>false
 | v=>!l.agg&&aI l.ks [v]
def fY (l:yR):List KV->Bool
 | []=>true
 | e::es=>cC l e&&fY l es
def intOf:KV->Int
 | .int _ n=>n
 | _=>0
def iH:KV->Bool
 | .bool b=>b
 | _=>false
def strOf:KV->ByteArray
 | .str s=>s
 | _=>ByteArray.empty
def ate:KV->List KV
 | .ts _ _ _ es _=>es
 | _=>[]
def lenOf:KV->Nat
 | .ts _ _ n _ _=>n
 | _=>0
def tM:KV->Nat->KV
 | .ts _ _ _ _ acc=>acc
 | _=>fun _=>.bD
def leaf (c:CK) (v:KV):KV:=
 CK.rec (motive:=fun _=>KV) (fun k=>.int k (intOf v)) (.bool (iH v)) (.str (strOf v)) (fun t=>.ts t .any (lenOf v) (ate v) (tM v)) v c
def leaves (e:KV):List CK->Nat->List KV
 | [],_=>[]
 | c::cs,k=>leaf c (e.cells.getD k .bD)::leaves e cs (Nat.succ k)
def Q0 (agg:Bool) (cs:List KV):KV:=Bool.rec (motive:=fun _=>KV) (cs.headD .bD) (.agg cs) agg
def OV:List CK->Bool
 | []=>true
 | .other::_=>false
 | _::cs=>OV cs
mutual
def gQ:Value->KV
 | .bool b=>.bool b
 | .int k n=>.int k n
 | .string s=>.str s
 | .pointer none=>.Hw
 | .slice none 0 0=>.mn
 | .map none=>.C0
 | .nilFunc=>.IW
 | .nilIface=>.IX
 | .agg cs=>.agg (ofA cs)
 | .tuple cs=>.iv (ofA cs)
 | _=>.bD
def ofA:Array Value->List KV
 | ⟨l⟩=>ofL l
def ofL:List Value->List KV
 | []=>[]
 | v::vs=>gQ v::ofL vs
end
abbrev FP:=List KV->KR KV
abbrev FR:=aC->List KV->KR KV
abbrev FA:=aC->List KV->KR (KV×aC)
inductive ti where
 | pure (f:FP) (xs:List Operand)
 | read (f:FR) (xs:List Operand)
 | act (f:FA) (xs:List Operand)
 | look (f:FP) (xs:List Operand)
 | Eo (g:FuncId) (f:List KV->KR KV) (xs:List Operand)
 | IY (g:FuncId) (f:List KV->KR KV) (xs:List Operand)
 | call (f:Operand) (args:List Operand)
 | bad
def ait:FP
 | [x]=>.ok x
 | _=>.no
def aiu:FP
 | [.bool b]=>.br b (.ok (.bool true)) (.ok (.bool false))
 | [x]=>.ok x
 | _=>.no
def amf:FP
 | [.bool t,.bool a,.bool b]=>.ok (.bool (cond t a b))
 | [.bool t,a,b]=>.ok (cond t a b)
 | _=>.no
def il:List KV->Bool
 | []=>true
 | v::vs=>one v&&il vs
def xV {α:Type} : Nat->List α->Option (List α)
 | 0,_=>some []
 | _+1,[]=>none
 | n+1,x::xs=>(xV n xs).map (x::·)
def Ep {α:Type} : Nat->List α->List α
 | 0,l=>l
 | _+1,[]=>[]
 | n+1,_::xs=>Ep n xs
def mD {α:Type} : Nat->List α->List α->Option (List α)
 | 0,l,[]=>some l
 | 0,[],_::_=>none
 | 0,_::l,v::vs=>(mD 0 l vs).map (v::·)
 | _+1,[],[]=>some []
 | _+1,[],_::_=>none
 | n+1,x::l,vs=>(mD n l vs).map (x::·)
def abT (n:Nat) (z:List KV):FA:=fun A _=>.ok (.ptr A.next 0,A.new (.row z n))
def rE (P:Program) (t:TypeId):ti:=
 match qO P t with
 | some z=>cond (flat z&&z.cells.toList.all scalar&&il (gQ z).cells) (.act (abT (pE P t) (gQ z).cells) []) .bad
 | none=>.bad
def F2 (n:Nat):FA:=fun A xs=>
 match xs with
 | [v]=>cond (il v.cells) (.ok (.ptr A.next 0,A.new (.row v.cells n))) .no
 | _=>.no
def aah (place:Nat->Option (Nat×Nat)):List KV->List (Nat×KV)->Option (List KV)
 | cells,[]=>some cells
 | cells,(i,v)::rest=>
  match place i with
  | some (off,size)=>cond (Nat.beq v.cells.length size&&Nat.ble 1 size) ((mD off cells v.cells).bind fun cs=>aah place cs rest) none
  | none=>none
def C1:List Nat->List KV->List (Nat×KV)
 | i::is,v::vs=>(i,v)::C1 is vs
 | _,_=>[]
def yS:KV->Bool
 | .bD=>false
 | _=>true
def TG (place:Nat->Option (Nat×Nat)) (z:List KV) (is:List Nat):FP:=fun vs=>
 match aah place z (C1 is vs) with
 | some cs=>cond (vs.all yS) (.ok (.agg cs)) .no
 | none=>.no
def vC (P:Program) (t:TypeId) (is:List Nat) (xs:List Operand):ti:=
 match qO P t,P.underlying t with
 | some z,some (.struct fields)=>
  match placesOf P fields.toList with
  | some l=>cond (flat z&&il (gQ z).cells) (.pure (TG (XH l) (gQ z).cells is) xs) .bad
  | none=>.bad
 | some z,some (.array _ e)=>
  match size? P e with
  | some n=>cond (flat z&&il (gQ z).cells) (.pure (TG (Ci n) (gQ z).cells is) xs) .bad
  | none=>.bad
 | _,_=>.bad
def nQ:Nat->KV:=fun _=>.bD
def pW (es:List KV):Nat->KV:=fun i=>es.getD i .bD
def oH (c:CK) (v:KV):KV:=
 match c,v with
 | .slice t,.mn=>.ts t .any 0 [] nQ
 | .slice t,.ts t' _ n es acc=>cond (Nat.beq t t') (.ts t .any n es acc) .bD
 | c,v=>cond (kindOk c v) v .bD
def C2:List CK->List KV->List KV
 | c::cs,v::vs=>oH c v::C2 cs vs
 | _,_=>[]
def gq (l:yR) (v:KV):KV:=
 match v with
 | .agg cs=>cond (l.agg&&Nat.beq cs.length l.ks.length) (.agg (C2 l.ks cs)) .bD
 | v=>cond l.agg .bD (match l.ks with
  | [c]=>oH c v
  | _=>.bD)
def setAt (es:List KV) (i:Nat) (v:KV):List KV:=
 match i,es with
 | 0,_::es=>v::es
 | n+1,e::es=>e::setAt es n v
 | _,[]=>[]
def OW (es:List KV):List (Nat×KV)->List KV
 | []=>es
 | (i,v)::rest=>OW (setAt es i v) rest
def Rt (l:yR) (e:TypeId) (z:KV) (len:Nat) (is:List Nat):FP:=fun vs=>
 let es:=OW (eA [z] len) ((C1 is vs).map fun p=>(p.1,gq l p.2))
 cond (vs.all yS&&fY l (vs.map (gq l))&&fY l es) (.ok (.ts e .exact len es (pW es))) .no
def Ir (n:Nat):List Nat->Bool
 | []=>true
 | i::is=>Nat.blt i n&&Ir n is
def V9 (n:Nat) (z:List KV) (len:Nat) (is:List Nat):FA:=fun A vs=>
 match aah (Ci n) (eA z len) (C1 is vs) with
 | some cs=>cond (vs.all yS&&il cs) (.ok (.sl A.next 0 len len,A.new (.row cs n))) .no
 | none=>.no
def mF (P:Program) (t:TypeId) (len:Nat) (is:List Nat) (xs:List Operand):ti:=
 match P.underlying t with
 | some (.slice e)=>
  match P.info? e,qO P e with
  | some i,some z=>cond (Nat.ble (len * i.size) 16777216&&Nat.beq z.cells.size i.size&&Nat.ble 1 i.size&&flat z&&Nat.beq (bu P e).ks.length i.size&&Ir len is)
    (cond (OV (bu P e).ks) (.look (Rt (bu P e) e (gq (bu P e) (gQ z)) len is) xs) (cond (il (gQ z).cells) (.act (V9 i.size (gQ z).cells len is) xs) .bad)) .bad
  | _,_=>.bad
 | _=>.bad
def rowAt (A:aC) (b:Nat):Option (List KV):=
 match A.get b with
 | some (.row cs _)=>some cs
 | _=>none
def LL (A:aC) (b:Nat):Option KV:=
 match A.get b with
 | some (.arr v)=>some v
 | some (.jQ v)=>some v
 | _=>none
def adN (P:Program) (t Tc:TypeId):Bool:=Nat.beq Tc t&&OV (bu P t).ks&&decide (XG P t=some (bu P t).agg)&&decide (size? P t=some (bu P t).ks.length)&&((bu P t).agg||Nat.beq (bu P t).ks.length 1)
def aai (P:Program) (T:TypeId) (k:Nat) (e:KV) (vs:List KV):Option KV:=(mD k (leaves e (bu P T).ks 0) vs).map fun cs=>Q0 (bu P T).agg cs
def vD (acc:Nat->KV) (i:Nat) (v:KV):Nat->KV:=fun j=>cond (Nat.beq j i) v (acc j)
def anh (T:TypeId) (n i:Nat) (es:List KV) (acc:Nat->KV) (e:KV):KV:=.ts T .any n (setAt es i e) (vD acc i e)
def aaj (P:Program) (t:TypeId):FR:=fun A xs=>
 match xs with
 | [.ptr b off]=>
  match XG P t,size? P t with
  | some ag,some n=>match (rowAt A b).bind fun cs=>xV n (Ep off cs) with
   | some l=>cond ag (.ok (.agg l)) (match l with | [v]=>.ok v | _=>.no)
   | none=>.no
  | _,_=>.no
 | [.tp _ Tc i k _ acc]=>
  cond (adN P t Tc) (.ok (Q0 (bu P t).agg (leaves (acc i) (bu P t).ks k))) .no
 | [.ap T Tc b i k]=>match LL A b with
  | some (.ts T' _ _ _ acc)=>cond (Nat.beq T T'&&adN P t Tc) (.ok (Q0 (bu P t).agg (leaves (acc i) (bu P t).ks k))) .no
  | _=>.no
 | _=>.no
def Yc (P:Program) (t:TypeId):FA:=fun A xs=>
 match xs with
 | [.ptr b off,v]=>
  cond (decide (some v.cells.length=size? P t)&&il v.cells)
   (match A.get b with
   | some (.row cs bV)=>match mD off cs v.cells with
    | some cd=>.ok (uh,A.put b (.row cd bV))
    | none=>.no
   | _=>.no) .no
 | [.ap T Tc b i k,v]=>
  match A.get b with
  | some (.arr (.ts T' _ n es acc))=>
   cond (Nat.beq T T'&&Nat.beq Tc t&&cC (bu P t) (gq (bu P t) v)&&decide (size? P t=some (bu P t).ks.length))
    (match aai P T k (acc i) (gq (bu P t) v).cells with
    | some e=>.ok (uh,A.put b (.arr (anh T n i es acc e)))
    | none=>.no) .no
  | _=>.no
 | _=>.no
def aez:FP
 | [.ptr b off]=>.ok (.ptr b off)
 | [.tp T Tc i k es acc]=>.ok (.tp T Tc i k es acc)
 | [.ap T Tc b i k]=>.ok (.ap T Tc b i k)
 | [.fn (.func f) first cap]=>.ok (.fn (.func f) first cap)
 | _=>.no
abbrev atf (k:IntKind) (a b:Int):Nat:=(BitVec.ofInt k.bits a &&& BitVec.ofInt k.bits b).toNat
abbrev bOr (k:IntKind) (a b:Int):Nat:=(BitVec.ofInt k.bits a ||| BitVec.ofInt k.bits b).toNat
abbrev atg (k:IntKind) (a b:Int):Nat:=(BitVec.ofInt k.bits a ^^^ BitVec.ofInt k.bits b).toNat
abbrev apr (k:IntKind) (a b:Int):Nat:=(BitVec.ofInt k.bits a &&& ~~~ BitVec.ofInt k.bits b).toNat
def opI (op:BinOp) (k:IntKind) (a b:Int):KR KV:=
 match op with
 | .add=>.ok (.int k (k.wrap (a+b)))
 | .sub=>.ok (.int k (k.wrap (a - b)))
 | .mul=>.ok (.int k (k.wrap (a * b)))
 | .eql=>.ok (.bool (a==b))
 | .neq=>.ok (.bool (a != b))
 | .lss=>.ok (.bool (decide (a < b)))
 | .leq=>.ok (.bool (decide (a<=b)))
 | .gtr=>.ok (.bool (decide (a > b)))
 | .geq=>.ok (.bool (decide (a >= b)))
 | .quo=>.lB (!(decide (b=0))) (.int k (k.wrap (a.tdiv b)))
 | .rem=>.lB (!(decide (b=0))) (.int k (a.tmod b))
 | .and=>.ok (.int k (k.wrap (atf k a b)))
 | .or=>.ok (.int k (k.wrap (bOr k a b)))
 | .xor=>.ok (.int k (k.wrap (atg k a b)))
 | .andNot=>.ok (.int k (k.wrap (apr k a b)))
 | _=>.no
def ath (op:BinOp) (k:IntKind) (a b:Int):KR KV:=
 match op with
 | .shl=>.lB (!(decide (b < 0))) (.int k (k.wrap (a * 2 ^ (min b.toNat k.bits))))
 | .shr=>.lB (!(decide (b < 0))) (.int k (a.fdiv (2 ^ (min b.toNat k.bits))))
 | _=>.no
def ajX:BinOp->Bool
 | .shl | .shr=>true
 | _=>false
def eqK:KV->KV->Option Bool
 | .int k a,.int k' b=>cond (decide (k=k')) (some (a==b)) none
 | .bool a,.bool b=>some (a==b)
 | .str a,.str b=>some (a==b)
 | _,_=>none
def vp:List KV->List KV->Option Bool
 | [],[]=>some true
 | x::xs,y::ys=>match eqK x y,vp xs ys with
  | some a,some b=>some (a&&b)
  | _,_=>none
 | _,_=>none
def Hx (P:Program):Nat->TypeId->Bool
 | 0,_=>false
 | n+1,t=>(match P.info? t,lay P (n+1) t with
   | some i,some l=>Nat.beq i.size l.ks.length
   | _,_=>false)&&match P.underlying t with
  | some (.int _) | some .bool | some .string=>true
  | some (.struct fs) => !(P.stoodInHeld t) && fs.toList.all fun f => !(f.name == "_") && Hx P n f.type
  | some (.array _ e)=>Hx P n e
  | _=>false
def aps (P:Program) (t:TypeId) (x y:KV):Option Bool:=
 match x,y with
 | .agg xs,.agg ys=>cond ((bu P t).agg&&Hx P 12 t&&!(P.eqGuardType P.depth t)&&aI (bu P t).ks xs&&aI (bu P t).ks ys) (vp xs ys) none
 | .bool a,.bool b=>match P.underlying t with
  | some .bool=>some (a==b)
  | _=>none
 | .mn,.mn=>match P.underlying t with
  | some (.slice _)=>some true
  | _=>none
 | .ts _ _ n _ _,.mn=>match P.underlying t with
  | some (.slice _)=>cond (Nat.beq n 0) none (some false)
  | _=>none
 | .mn,.ts _ _ n _ _=>match P.underlying t with
  | some (.slice _)=>cond (Nat.beq n 0) none (some false)
  | _=>none
 | .Hw,.Hw=>match P.underlying t with
  | some (.pointer _)=>some true
  | _=>none
 | .ptr _ _,.Hw=>match P.underlying t with
  | some (.pointer _)=>some false
  | _=>none
 | .Hw,.ptr _ _=>match P.underlying t with
  | some (.pointer _)=>some false
  | _=>none
 | _,_=>none
def apt (P:Program) (op:BinOp) (t:TypeId):FP
 | [.int j a,.int k b]=>cond (ajX op) (ath op j a b) (cond (decide (j=k)) (opI op j a b) .no)
 | [.str a,.str b]=>match op with
  | .eql=>.ok (.bool (a.toList==b.toList))
  | .neq=>.ok (.bool !(a.toList==b.toList))
  | .lss=>.ok (.bool (Op.bytesLess a.toList b.toList))
  | .add=>.lB (Nat.ble (a.size+b.size) 9223372036854775807) (.str (a++b))
  | _=>.no
 | [x,y]=>match op,aps P t x y with
  | .eql,some b=>.ok (.bool b)
  | .neq,some b=>.ok (.bool !b)
  | _,_=>.no
 | _=>.no
def kUn (op:UnOp):FP
 | [.bool b]=>match op with
  | .not=>.ok (.bool !b)
  | _=>.no
 | [.int k n]=>match op with
  | .neg=>.ok (.int k (k.wrap (0 - n)))
  | .xor=>.ok (.int k (k.wrap (BitVec.ofInt k.bits (if k.signed then -1 else k.max) ^^^ BitVec.ofInt k.bits n).toNat))
  | _=>.no
 | _=>.no
def ani (k:IntKind):FP
 | [.int _ n]=>.ok (.int k (k.wrap n))
 | _=>.no
def anj:FP
 | [.str s]=>.ok (.str s)
 | _=>.no
def byteOf:KV->UInt8
 | .int _ n=>UInt8.ofNat n.toNat
 | _=>0
def ank:KV->Bool
 | .int .u8 n=>decide (0<=n)&&decide (n < 256)
 | _=>false
def OX:FP
 | [.mn]=>.ok (.str ⟨⟨[]⟩⟩)
 | [.ts _ _ _ es _]=>.lB (es.all ank) (.str ⟨⟨es.map byteOf⟩⟩)
 | _=>.no
def Wa (e:TypeId):FP
 | [.str s]=>.ok (.ts e .any s.size (s.data.toList.map fun b=>.int .u8 b.toNat) (fun i=>.int .u8 (s.data.toList.getD i 0).toNat))
 | _=>.no
def qR (P:Program) (src dst:TypeId) (x:Operand):ti:=
 match P.underlying src,P.underlying dst with
 | some (.int _),some (.int k)=>.pure (ani k) [x]
 | some .string,some .string=>.pure anj [x]
 | some (.slice e),some .string=>cond (isByte P e) (.read (fun _=>OX) [x]) .bad
 | some .string,some (.slice e)=>cond (isByte P e) (.look (Wa e) [x]) .bad
 | _,_=>.bad
def OY (f:Fn) (k:Nat):FP:=fun vs=>
 match xV k vs with
 | some first=>.ok (.fn f first (Ep k vs))
 | none=>.no
def abU (s:TypeId) (off:Nat) (ft:TypeId) (zJ:Bool):FP
 | [.ptr b o]=>.ok (.ptr b (o+off))
 | [.tp T Tc i k es acc]=>cond (Nat.beq Tc s&&zJ) (.ok (.tp T ft i (k+off) es acc)) .no
 | [.ap T Tc b i k]=>cond (Nat.beq Tc s&&zJ) (.ok (.ap T ft b i (k+off))) .no
 | _=>.no
def apu:CK->CK->Bool
 | .int a,.int b=>decide (a=b)
 | .bool,.bool=>true
 | .str,.str=>true
 | .slice a,.slice b=>Nat.beq a b
 | .other,.other=>true
 | _,_=>false
def Er:List CK->List CK->Bool
 | [],[]=>true
 | a::atZ,b::bs=>apu a b&&Er atZ bs
 | _,_=>false
def adO (P:Program) (s:TypeId) (off:Nat) (ft:TypeId):Bool:=
 match xV (bu P ft).ks.length (Ep off (bu P s).ks) with
 | some l=>Er l (bu P ft).ks
 | none=>false
def nR (P:Program) (s:TypeId) (x:Operand) (f:Nat):ti:=
 match yM P s f with
 | some fd=>match size? P fd.type with
  | some (_+1)=>.pure (abU s fd.offset fd.type (adO P s fd.offset fd.type)) [x]
  | _=>.bad
 | none=>.bad
def aak (P:Program) (t:TypeId) (cs:List KV) (off:Nat):Option KV:=
 match XG P t with
 | some true=>(size? P t).bind fun n=>(xV n (Ep off cs)).map fun l=>.agg l
 | some false=>(Ep off cs).head?
 | none=>none
def anl (P:Program) (fd:Field):FP
 | [.agg cs]=>.of (aak P fd.type cs fd.offset)
 | _=>.no
def vE (P:Program) (t:TypeId) (x:Operand) (f:Nat):ti:=
 match yM P t f with
 | some fd=>.pure (anl P fd) [x]
 | none=>.bad
def inR (i:Int) (n:Nat):Bool:=decide (0<=i)&&decide (i < (n:Int))
def anm {α:Type} (i:Int) (f:Nat->KR α) (m:Nat):Nat->KR α:=Nat.rec (motive:=fun _=>Nat->KR α) (fun _=>.no) (fun _ ih j=>.br (decide (i=(j:Int))) (f j) (ih (Nat.succ j))) m
def aeA (P:Program) (t:TypeId) (len n:Nat) (e:TypeId):FP
 | [.ptr b o,.int _ i]=>cond (Nat.ble len 8) (anm i (fun j=>.ok (.ptr b (o+j * n))) len 0) (.lB (inR i len) (.ptr b (o+i.toNat * n)))
 | [.tp T Tc j k es acc,.int _ i]=>cond (Nat.beq Tc t&&Er (bu P t).ks (eA (bu P e).ks len)&&Nat.beq (bu P e).ks.length n) (.lB (inR i len) (.tp T e j (k+i.toNat * n) es acc)) .no
 | [.ap T Tc b j k,.int _ i]=>cond (Nat.beq Tc t&&Er (bu P t).ks (eA (bu P e).ks len)&&Nat.beq (bu P e).ks.length n) (.lB (inR i len) (.ap T e b j (k+i.toNat * n))) .no
 | _=>.no
def ahs (e n:Nat) (zJ:Bool):FP
 | [.sl b o len _,.int _ i]=>.lB (inR i len) (.ptr b (o+i.toNat * n))
 | [.ts T _ m es acc,.int _ i]=>cond (Nat.beq T e&&zJ) (.lB (inR i m) (.tp T T i.toNat 0 es acc)) .no
 | [.al T b o m,.int _ i]=>cond (Nat.beq T e&&zJ) (.lB (inR i m) (.ap T T b (o+i.toNat) 0)) .no
 | _=>.no
def nS (P:Program) (t:TypeId) (x ix:Operand):ti:=
 match P.underlying t with
 | some (.array len e)=>match size? P e with
  | some n=>.pure (aeA P t len n e) [x,ix]
  | none=>.bad
 | some (.slice e)=>match size? P e with
  | some n=>.pure (ahs e n (Nat.beq (bu P e).ks.length n)) [x,ix]
  | none=>.bad
 | _=>.bad
def Wb (P:Program) (len n:Nat) (e:TypeId):FP
 | [.agg cs,.int _ i]=>cond (Nat.ble len 8) (anm i (fun j=>.of (aak P e cs (j * n))) len 0) (match aak P e cs (i.toNat * n) with
  | some v=>.lB (inR i len) v
  | none=>.no)
 | _=>.no
def aeB:FP
 | [.str s,.int _ i]=>.lB (inR i s.size) (.int .u8 ((s.data.toList.getD i.toNat 0).toNat))
 | _=>.no
def vF (P:Program) (t:TypeId) (x ix:Operand):ti:=
 match P.underlying t with
 | some (.array len e)=>match size? P e with
  | some n=>.pure (Wb P len n e) [x,ix]
  | none=>.bad
 | some .string=>.pure aeB [x,ix]
 | _=>.bad
def aht {α:Type} : Nat->List α->Option α
 | _,[]=>none
 | 0,x::_=>some x
 | n+1,_::xs=>aht n xs
def ahu (i:Nat):FP
 | [.iv vs]=>.of (aht i vs)
 | _=>.no
def ann:FP
 | [.ts _ _ n _ _]=>.ok (.int .i64 (n:Int))
 | [.sl _ _ n _]=>.ok (.int .i64 (n:Int))
 | [.al _ _ _ n]=>.ok (.int .i64 (n:Int))
 | [.mn]=>.ok (.int .i64 0)
 | _=>.no
def ajY:FP
 | [.str s]=>.ok (.int .i64 (s.size:Int))
 | _=>.no
def aeC (P:Program) (argTypes:List TypeId) (args:List Operand):ti:=
 match argTypes with
 | [t]=>match P.underlying t with
  | some (.slice _)=>.pure ann args
  | some .string=>.pure ajY args
  | _=>.bad
 | _=>.bad
def M4 (mx:Bool):FP
 | [.int j a,.int k b]=>cond (decide (j=k)) (.ok (.int j (cond mx (max a b) (min a b)))) .no
 | [.int j a,.int k b,.int l c]=>cond (decide (j=k)&&decide (j=l)) (.ok (.int j (cond mx (max (max a b) c) (min (min a b) c)))) .no
 | _=>.no
def Yd (len:Nat) (lo hi:Bool):List KV->Option (Int×Int)
 | []=>cond (lo||hi) none (some (0,len))
 | [.int _ x]=>cond (lo&&!hi) (some (x,len)) (cond (!lo&&hi) (some (0,x)) none)
 | [.int _ x,.int _ y]=>cond (lo&&hi) (some (x,y)) none
 | _=>none
def aal (P:Program) (n:Nat) (lo hi:Bool):FR:=fun A xs=>
 match xs with
 | .ts T _ m es acc::r=>match Yd m lo hi r with
  | some (x,y)=>cond (Nat.beq (bu P T).ks.length n) (.lB (decide (0<=x)&&decide (x<=y)&&decide (y<=(m:Int))) (.ts T .any (y.toNat - x.toNat) ((es.drop x.toNat).take (y.toNat - x.toNat)) (fun i=>acc (x.toNat+i)))) .no
  | none=>.no
 | .sl b o len cap::r=>match A.get b with
  | some (.row _ bV)=>match Yd len lo hi r with
   | some (x,y)=>cond (Nat.beq bV n) (.lB (decide (0<=x)&&decide (x<=y)&&decide (y<=(len:Int))&&decide (len<=cap)) (.sl b (o+x.toNat * n) (y.toNat - x.toNat) (cap - x.toNat))) .no
   | none=>.no
  | _=>.no
 | .al T b o m::r=>match LL A b with
  | some (.ts T' _ _ _ _)=>match Yd m lo hi r with
   | some (x,y)=>cond (Nat.beq (bu P T).ks.length n&&Nat.beq T T') (.lB (decide (0<=x)&&decide (x<=y)&&decide (y<=(m:Int))) (.al T b (o+x.toNat) (y.toNat - x.toNat))) .no
   | none=>.no
  | _=>.no
 | _=>.no
def Wc (len n:Nat) (lo hi:Bool):FR:=fun A xs=>
 match xs with
 | .ptr b o::r=>match A.get b with
  | some (.row cs bV)=>match Yd len lo hi r with
   | some (x,y)=>cond (Nat.beq bV n&&Nat.ble (o+len * n) cs.length) (.lB (decide (0<=x)&&decide (x<=y)&&decide (y<=(len:Int))) (.sl b (o+x.toNat * n) (y.toNat - x.toNat) (len - x.toNat))) .no
   | none=>.no
  | _=>.no
 | _=>.no
def Wd (lo hi:Bool):FP
 | .str s::r=>match Yd s.size lo hi r with
  | some (x,y)=>.lB (decide (0<=x)&&decide (x<=y)&&decide (y<=(s.size:Int))) (.str ⟨⟨(s.data.toList.drop x.toNat).take (y.toNat - x.toNat)⟩⟩)
  | none=>.no
 | _=>.no
def vG (P:Program) (t:TypeId) (x:Operand) (lo hi mx:Option Operand):ti:=
 match P.underlying t with
 | some (.slice e)=>match size? P e with
  | some n=>cond (Nat.ble 1 n&&mx.isNone) (.read (aal P n lo.isSome hi.isSome) (x::(ga lo++ga hi))) .bad
  | none=>.bad
 | some (.array len e)=>match size? P e with
  | some n=>cond (Nat.ble 1 n&&mx.isNone) (.read (Wc len n lo.isSome hi.isSome) (x::(ga lo++ga hi))) .bad
  | none=>.bad
 | some .string=>cond mx.isNone (.pure (Wd lo.isSome hi.isSome) (x::(ga lo++ga hi))) .bad
 | _=>.bad
def gi (b n m:Nat):Bool:=Nat.ble ((n+m) * b) 140737488355328&&Nat.ble (n+m) 17592186044416
def dk (top n:Nat):Bool:=Nat.beq top n
def dK (n:Nat) (f g:Nat->KV):Nat->KV:=fun i=>cond (Nat.blt i n) (f i) (g (i - n))
def Ye (e sz b n:Nat) (base:List KV) (ab:Nat->KV) (A:aC) (f m:Nat) (new:List KV) (an:Nat->KV) (more:Bool):KR (KV×aC):=
 .lB (more&&gi b n m)
  (.ts e (.bc f) (n+m) (base++new) (dK n ab an),A.put f (.bc (n+m) sz))
def Ru (e sz b:Nat):FA:=fun A xs=>
 match xs with
 | [.mn,.ts e' _ m new an]=>cond (Nat.beq e e') (Ye e sz b 0 [] nQ (A.new (.bc 0 sz)) A.next m new an true) .no
 | [.ts e1 .exact n es ab,.ts e' _ m new an]=>cond (Nat.beq e e'&&Nat.beq e e1) (Ye e sz b n es ab (A.new (.bc 0 sz)) A.next m new an (Nat.blt 0 m)) .no
 | [.ts e1 (.bc f) n es ab,.ts e' _ m new an]=>match A.get f with
  | some (.bc top sz')=>cond (Nat.beq e e'&&Nat.beq e e1&&Nat.beq sz' sz) (Ye e sz b n es ab A f m new an (dk top n)) .no
  | _=>.no
 | _=>.no
def aiv (A:aC) (T b o n:Nat):Option KV:=
 match LL A b with
 | some (.ts T' _ _ es acc)=>cond (Nat.beq T T') (some (.ts T .any n ((es.drop o).take n) (fun i=>acc (o+i)))) none
 | _=>none
def Rv (A:aC) (v:KV):Option KV:=
 match v with
 | .al T b o n=>aiv A T b o n
 | .ts T m n es acc=>some (.ts T m n es acc)
 | _=>none
def ano (b n m:Nat):Bool:=Nat.ble ((n+m) * b) 140737488355328&&Nat.ble (n+m) 17592186044416
def adP (e b n:Nat) (base:List KV) (ab:Nat->KV) (A:aC) (m:Nat) (new:List KV) (an:Nat->KV) (more:Bool):KR (KV×aC):=
 .lB (more&&ano b n m) (.al e A.next 0 (n+m),A.new (.arr (.ts e .any (n+m) (base++new) (dK n ab an))))
def Iu (e b:Nat):FA:=fun A xs=>
 match xs with
 | [.mn,.ts e' _ m new an]=>cond (Nat.beq e e') (adP e b 0 [] nQ A m new an true) .no
 | [.al e1 f o n,.ts e' _ m new an]=>match A.get f with
  | some (.arr (.ts e2 _ _ es acc))=>cond (Nat.beq e e'&&Nat.beq e e1&&Nat.beq e e2) (adP e b n (es.take n) acc (A.put f .dead) m new an (Nat.beq o 0)) .no
  | _=>.no
 | _=>.no
def apv:KV->Bool
 | .al _ _ _ _=>true
 | _=>false
def M5 (e sz b:Nat) (mt:Bool):FA:=fun A xs=>
 match xs with
 | [x,y]=>match Rv A y with
  | some y'=>cond (apv x) (Iu e b A [x,y']) (cond mt (Iu e b A [x,y']) (Ru e sz b A [x,y']))
  | none=>.no
 | _=>.no
def Kr (P:Program) (mt:TypeId->Bool) (argTypes:List TypeId) (args:List Operand):ti:=
 match argTypes with
 | [t,u]=>
  match P.underlying t,P.underlying u with
  | some (.slice e),some (.slice _)=>
   match P.info? e with
   | some i=>match i.zero with
    | some z=>cond (Nat.ble 1 i.size&&Nat.beq z.cells.size i.size&&Nat.beq (bu P e).ks.length i.size) (.act (M5 e i.size i.bytes (mt e)) args) .bad
    | none=>.bad
   | none=>.bad
  | _,_=>.bad
 | _=>.bad
def Rw (n b:Nat) (z:List KV):FA:=fun A xs=>
 match xs with
 | [.int _ l,.int _ c]=>.lB (decide (0<=l)&&decide (l<=c)&&Nat.ble (b * c.toNat) 281474976710656) (.sl A.next 0 l.toNat c.toNat,A.new (.row (eA z c.toNat) n))
 | _=>.no
def aeD (A:aC) (v:KV):KV×aC:=
 match v with
 | .al T b o n=>match A.get b with
  | some (.arr (.ts T' m N es acc))=>cond (Nat.beq T T') (.ts T .any n ((es.drop o).take n) (fun i=>acc (o+i)),A.put b (.jQ (.ts T' m N es acc))) (.bD,A)
  | some (.jQ (.ts T' _ _ es acc))=>cond (Nat.beq T T') (.ts T .any n ((es.drop o).take n) (fun i=>acc (o+i)),A) (.bD,A)
  | _=>(.bD,A)
 | v=>(v,A)
def aam (A:aC):List KV->List KV×aC
 | []=>([],A)
 | v::vs=>((aeD A v).1::(aam (aeD A v).2 vs).1,(aam (aeD A v).2 vs).2)
def ahv (A:aC) (v:KV):KV×aC:=
 match v with
 | .agg cs=>(.agg (aam A cs).1,(aam A cs).2)
 | v=>aeD A v
def zL (A:aC):List KV->List KV×aC
 | []=>([],A)
 | v::vs=>((ahv A v).1::(zL (ahv A v).2 vs).1,(zL (ahv A v).2 vs).2)
def aan (T b:Nat) (z:KV):FA:=fun A xs=>
 match xs with
 | [.int _ l,.int _ c]=>.lB (decide (0<=l)&&decide (l<=c)&&Nat.ble (b * c.toNat) 281474976710656) (.al T A.next 0 l.toNat,A.new (.arr (.ts T .any c.toNat (eA [z] c.toNat) (fun _=>z))))
 | _=>.no
def aiw (T b:Nat) (z:KV):FP:=fun xs=>
 match xs with
 | [.int _ l,.int _ c]=>.lB (decide (0<=l)&&decide (l<=c)&&Nat.ble (b * c.toNat) 281474976710656) (.ts T .any l.toNat (eA [z] l.toNat) (fun _=>z))
 | _=>.no
def xW (P:Program) (mt:TypeId->Bool) (t:TypeId) (l c:Operand):ti:=
 match P.underlying t with
 | some (.slice e)=>
  match P.info? e with
  | some i=>match i.zero with
   | some z=>cond (mt (e+1000000)) (cond (Nat.ble 1 i.size&&Nat.ble 1 i.bytes&&Nat.beq z.cells.size i.size&&flat z&&z.cells.toList.all scalar&&Nat.beq (bu P e).ks.length i.size&&cC (bu P e) (gq (bu P e) (gQ z))) (.look (aiw e i.bytes (gq (bu P e) (gQ z))) [l,c]) .bad) <| cond (mt e) (cond (Nat.ble 1 i.size&&Nat.ble 1 i.bytes&&Nat.beq z.cells.size i.size&&flat z&&z.cells.toList.all scalar&&Nat.beq (bu P e).ks.length i.size&&cC (bu P e) (gq (bu P e) (gQ z))) (.act (aan e i.bytes (gq (bu P e) (gQ z))) [l,c]) .bad) <| cond (Nat.ble 1 i.size&&Nat.ble 1 i.bytes&&Nat.beq z.cells.size i.size&&flat z&&z.cells.toList.all scalar&&il (gQ z).cells) (.act (Rw i.size i.bytes (gQ z).cells) [l,c]) .bad
   | none=>.bad
  | none=>.bad
 | _=>.bad
def C3 (es:List KV) (o:Nat) (new:List KV):List KV:=es.take o++new++es.drop (o+new.length)
def mg (o k:Nat) (f g:Nat->KV):Nat->KV:=fun i=>cond (Nat.blt i o) (f i) (cond (Nat.blt i (o+k)) (g (i - o)) (f i))
def amg (e:Nat):FA:=fun A xs=>
 match xs with
 | [.al e1 b o n,y]=>match Rv A y,A.get b with
  | some (.ts e' _ m new an),some (.arr (.ts e2 _ N es acc))=>cond (Nat.beq e e'&&Nat.beq e e1&&Nat.beq e e2)
    (.ok (.int .i64 (Nat.min m n:Nat),A.put b (.arr (.ts e .any N (C3 es o (new.take (Nat.min m n))) (mg o (Nat.min m n) acc an))))) .no
  | _,_=>.no
 | _=>.no
def TH (P:Program) (argTypes:List TypeId) (args:List Operand):ti:=
 match argTypes with
 | [t,u]=>
  match P.underlying t,P.underlying u with
  | some (.slice e),some (.slice _)=>match size? P e with
   | some n=>cond (Nat.ble 1 n&&Nat.beq (bu P e).ks.length n) (.act (amg e) args) .bad
   | none=>.bad
  | _,_=>.bad
 | _=>.bad
def C4 (P:Program) (mt:TypeId->Bool) (b:Builtin) (argTypes:List TypeId) (args:List Operand):ti:=
 match b with
 | .len=>aeC P argTypes args
 | .min=>.pure (M4 false) args
 | .max=>.pure (M4 true) args
 | .append=>Kr P mt argTypes args
 | .copy=>TH P argTypes args
 | _=>.bad
inductive Ks where
 | no
 | out (e:ai) (t:bF) (A:aC)
 | br (c:Bool) (x y:Ks)
inductive wY where
 | no
 | out (v:KV) (A:aC)
 | br (c:Bool) (x y:wY)
structure ajZ where
 ac:FuncId->Option (List KV->aC->wY)
 mt:TypeId->Bool
 fz:Bool
 eg:Bool
def ajZ.none:ajZ:=⟨fun _=>.none,fun _=>false,false,false⟩
structure eQ where
 pc:FuncId->Option (List KV->KR KV)
 lp:FuncId->Nat->Option (bF->aC->Ks)
 x:ajZ
def eQ.none:eQ:=⟨fun _=>.none,fun _ _=>.none,.none⟩
def tN (P:Program) (f:KV->KV) (t:TypeId) (e:KV):KV:=Q0 (bu P t).agg ((leaves e (bu P t).ks 0).map f)
def eh (P:Program) (d:Nat):KV->KV:=Nat.rec (motive:=fun _=>KV->KV) (fun v=>v) (fun _ ih v=>match v with
 | .ts t _ n _ acc=>.ts t .any n ((List.range n).map fun i=>tN P ih t (acc i)) (fun i=>tN P ih t (acc i))
 | v=>v) d
def gR:Nat:=6
def Yf (P:Program) (t:TypeId) (v:KV):KV:=cond (cC (bu P t) (gq (bu P t) v)) (tN P (eh P gR) t (gq (bu P t) v)) .bD
def normArgs (P:Program):List TypeId->List KV->List KV
 | t::ts,v::vs=>Yf P t v::normArgs P ts vs
 | _,_=>[]
def fy (P:Program) (g:FuncId):List TypeId:=match P.funcs.toList[g]? with
 | some fn=>fn.params.toList
 | none=>[]
def eQ.aj0 (cfg:eQ) (g:FuncId):Bool:=cfg.x.fz||cfg.x.mt (2000000+g)
def mZ (P:Program) (cfg:eQ) (c:Call):ti:=
 match c.callee with
 | .value (.func g)=>match cfg.pc g with
  | some F=>cond (cfg.aj0 g) (.IY g (fun vs=>cond (Nat.beq vs.length (fy P g).length) (F (normArgs P (fy P g) vs)) .no) c.args.toList)
    (.Eo g (fun vs=>cond (Nat.beq vs.length (fy P g).length) (F (normArgs P (fy P g) vs)) .no) c.args.toList)
  | none=>.call (.func g) c.args.toList
 | .value f=>.call f c.args.toList
 | .builtin b=>C4 P cfg.x.mt b c.argTypes.toList c.args.toList
 | .invoke _ _=>.bad
def Ak:Fn->Bool
 | .yield _=>true
 | _=>false
def bW (P:Program) (cfg:eQ):Op->ti
 | .move x=>.pure ait [x]
 | .assign x=>.pure (cond cfg.x.eg aiu ait) [x]
 | .pick c a b=>.pure amf [c,a,b]
 | .alloc t=>rE P t
 | .box t x=>.act (F2 (pE P t)) [x]
 | .build t parts=>vC P t (parts.toList.map (·.1)) (parts.toList.map (·.2))
 | .buildSlice t len parts=>mF P t len (parts.toList.map (·.1)) (parts.toList.map (·.2))
 | .load t a=>.read (aaj P t) [a]
 | .store t a x=>.act (Yc P t) [a,x]
 | .nilCheck x=>.pure aez [x]
 | .binOp op t x y _=>.pure (apt P op t) [x,y]
 | .unOp op _ x=>.pure (kUn op) [x]
 | .convert src dst x=>qR P src dst x
 | .makeFunc fn first cap=>cond (Ak fn) .bad (.pure (OY fn first.size) (first.toList++cap.toList))
 | .fieldAddr s x f=>nR P s x f
 | .field t x f=>vE P t x f
 | .indexAddr t x ix=>nS P t x ix
 | .index t x ix=>vF P t x ix
 | .extract t ix=>.pure (ahu ix) [t]
 | .slice t x lo hi mx=>vG P t x lo hi mx
 | .makeSlice t l c=>xW P cfg.x.mt t l c
 | .call c=>mZ P cfg c
 | _=>.bad
def l7 (t:bF):Operand->KV
 | .tmp i=>(t.get i).getD .bD
 | .const v=>cond (flat v) (gQ v) .bD
 | .global _=>.bD
 | .func f=>.fn (.func f) [] []
def mR (t:bF):List Operand->List KV
 | []=>[]
 | x::xs=>l7 t x::mR t xs
def rT (t:bF) (dst:Option Tmp) (v:KV):bF:=
 match dst with
 | some d=>t.set v d
 | none=>t
def IZ (args:List KV):KV->Option (FuncId×List KV)
 | .fn (.func g) first cap=>some (g,first++args++cap)
 | _=>none
inductive BK where
 | bool (b:Bool)
 | iv
 | no
def wZ:KV->BK
 | .bool b=>.bool b
 | .iv _=>.iv
 | _=>.no
section
variable {R:Type}
abbrev oX (R:Type):=FuncId->List KV->aC->(KV->aC->Option R)->Option R
def Rx (bC:oX R) (t:bF) (A:aC) (k:KV->aC->Option R) (ins:ti):Option R:=
 ti.rec (motive:=fun _=>Option R)
  (fun f xs=>(f (mR t xs)).run fun v=>k v A)
  (fun f xs=>(f A (mR t xs)).run fun v=>k v A)
  (fun f xs=>(f A (mR t xs)).run fun p=>k p.1 p.2)
  (fun f xs=>(f (mR t xs)).run fun v=>k v A)
  (fun _ f xs=>(f (mR t xs)).run fun v=>k v A)
  (fun _ f xs=>(f (zL A (mR t xs)).1).run fun v=>k v (zL A (mR t xs)).2)
  (fun f args=>Option.rec (motive:=fun _=>Option R) none (fun p=>bC p.1 p.2 A k) (IZ (mR t args) (l7 t f)))
  none ins
def aj1 (t:bF) (d:Option Tmp) (want:Bool) (yes no:bF->Option R):Option R:=
 Option.rec (motive:=fun _=>Option R) none (fun d=>BK.rec (motive:=fun _=>Option R)
  (fun b=>Bool.rec (motive:=fun _=>Option R)
   (Bool.rec (motive:=fun _=>Option R) (yes (t.set (.bool false) d)) (no (t.set (.bool false) d)) want)
   (Bool.rec (motive:=fun _=>Option R) (no (t.set (.bool true) d)) (yes (t.set (.bool true) d)) want) b)
  (no t) none (wZ ((t.get d).getD .bD))) d
def Bw (P:Program) (cfg:eQ) (bC:oX R) (all:List Oper) (o:Oper) (k:bF->aC->Option R) (t:bF) (A:aC):Option R:=
 Option.rec (motive:=fun _=>Option R) (Rx bC t A (fun v A=>k (rT t o.dst v) A) (bW P cfg o.op))
  (fun g=>aj1 t ((all[g.1]?).bind (·.dst)) g.2 (fun t=>Rx bC t A (fun v A=>k (rT t o.dst v) A) (bW P cfg o.op)) (fun t=>k (rT t o.dst uh) A)) o.guard
def vq (P:Program) (cfg:eQ) (bC:oX R) (all:List Oper) (k:bF->aC->Option R) (os:List Oper):bF->aC->Option R:=
 List.rec (motive:=fun _=>bF->aC->Option R) k (fun o _ ih=>Bw P cfg bC all o ih) os
abbrev KE (R:Type):=ai->bF->aC->Option R
def aix (t:bF) (c:Operand) (f g:bF->Option R):Option R:=
 match c with
 | .tmp d=>BK.rec (motive:=fun _=>Option R) (fun b=>Bool.rec (motive:=fun _=>Option R) (g (t.set (.bool false) d)) (f (t.set (.bool true) d)) b) none none (wZ ((t.get d).getD .bD))
 | c=>BK.rec (motive:=fun _=>Option R) (fun b=>Bool.rec (motive:=fun _=>Option R) (g t) (f t) b) none none (wZ (l7 t c))
def dL (i:ti):Nat:=ti.rec (motive:=fun _=>Nat) (fun _ _=>0) (fun _ _=>1) (fun _ _=>3) (fun _ _=>0) (fun _ _ _=>0) (fun _ _ _=>3) (fun _ _=>9) 9 i
def adQ:ti->List Operand
 | .pure _ xs=>xs
 | .read _ xs=>xs
 | .act _ xs=>xs
 | .look _ xs=>xs
 | .Eo _ _ xs=>xs
 | .IY _ _ xs=>xs
 | .call f xs=>f::xs
 | .bad=>[]
def oQ (P:Program) (cfg:eQ) (all:List Oper) (o:Oper):List Tmp:=Ip all o++tf (adQ (bW P cfg o.op))
def vH (P:Program) (cfg:eQ) (all:List Oper) (x y:Oper):Bool:=Rj x.dst (oQ P cfg all y)||Rj y.dst (oQ P cfg all x)||XM x.dst y.dst
def LM (P:Program) (cfg:eQ) (all:List Oper) (x y:Oper):Bool:=
 vH P cfg all x y||(Nat.ble 3 (dL (bW P cfg x.op))&&!(Nat.beq (dL (bW P cfg y.op)) 0))||(Nat.ble 3 (dL (bW P cfg y.op))&&!(Nat.beq (dL (bW P cfg x.op)) 0))
def TI:Op->Bool
 | .alloc _=>true
 | .box _ _=>true
 | .call c=>match c.callee with
  | .builtin .append=>true
  | _=>false
 | _=>false
def Yg:Op->Option Operand
 | .store _ a _=>some a
 | _=>none
def anp:Op->Option Operand
 | .load _ a=>some a
 | _=>none
def xX (i:Nat) (x:Operand):List Oper->Nat->Bool
 | [],_=>true
 | o::os,j=>(Nat.blt j i||!(Rj o.dst (tf [x])))&&xX i x os (Nat.succ j)
def OZ (i:Nat) (x:Option Operand) (all:List Oper):Bool:=
 match x with
 | some x=>xX i x all 0
 | none=>true
def O0 (x y:Oper):Option (Option Operand×Operand):=
 match anp y.op with
 | some a=>cond (TI x.op) (some (none,a)) (match Yg x.op with
  | some a2=>some (some a2,a)
  | none=>none)
 | none=>none
def abV (all:List Oper) (j:Nat) (x:Oper) (i:Nat) (y:Oper):Option (Option Operand×Operand):=
 match O0 x y with
 | some p=>cond (xX i p.2 all 0&&OZ j p.1 all) (some p) none
 | none=>match O0 y x with
  | some p=>cond (xX j p.2 all 0&&OZ i p.1 all) (some p) none
  | none=>none
def M6 (t:bF) (nx:Nat) (p:Option Operand×Operand):Bool:=
 match l7 t p.2 with
 | .tp _ _ _ _ _ _=>true
 | .ptr b _=>Nat.blt b nx&&(match p.1 with
  | some a2=>(match l7 t a2 with
   | .ptr b2 _=>!(Nat.beq b b2)
   | .ap _ _ _ _ _=>true
   | _=>false)
  | none=>true)
 | _=>false
def Wf (t:bF) (nx:Nat) (l:List (Option Operand×Operand)):Bool:=List.rec (motive:=fun _=>Bool) true (fun p _ ih=>Bool.rec false ih (M6 t nx p)) l
def F3 (P:Program) (cfg:eQ) (all:List Oper) (b:List Nat) (i:Nat) (y:Oper):List Oper->Nat->List (Option Operand×Operand)
 | [],_=>[]
 | x::xs,j=>cond (Nat.ble i j||!LM P cfg all x y||rR b i j) (F3 P cfg all b i y xs (Nat.succ j)) (match abV all j x i y with
  | some p=>p::F3 P cfg all b i y xs (Nat.succ j)
  | none=>F3 P cfg all b i y xs (Nat.succ j))
def aao (P:Program) (cfg:eQ) (all:List Oper) (b:List Nat):List Oper->Nat->List (Option Operand×Operand)
 | [],_=>[]
 | o::os,i=>F3 P cfg all b i o all 0++aao P cfg all b os (Nat.succ i)
def Wg (P:Program) (cfg:eQ) (all:List Oper):Bool:=all.all fun o=>!(Nat.ble 3 (dL (bW P cfg o.op)))||TI o.op||(Yg o.op).isSome
def LN (P:Program) (cfg:eQ) (all:List Oper):List (Option Operand×Operand):=aao P cfg all (eW [] all) all 0
def TJ (P:Program) (cfg:eQ) (all:List Oper) (b:List Nat) (i:Nat) (y:Oper):List Oper->Nat->Bool
 | [],_=>true
 | x::xs,j=>(Nat.ble i j||!LM P cfg all x y||rR b i j||(!vH P cfg all x y&&(abV all j x i y).isSome))&&TJ P cfg all b i y xs (Nat.succ j)
def M7 (P:Program) (cfg:eQ) (all:List Oper) (b:List Nat):List Oper->Nat->Bool
 | [],_=>true
 | o::os,i=>TJ P cfg all b i o all 0&&M7 P cfg all b os (Nat.succ i)
def aj2 (P:Program) (cfg:eQ) (all:List Oper):Bool:=MS P all&&all.all (fun o=>Nat.ble (dL (bW P cfg o.op)) 3)&&M7 P cfg all (eW [] all) all 0&&((LN P cfg all).isEmpty||Wg P cfg all)
def gN (o:Oper):Option (TypeId×Tmp):=
 match o.op,o.guard,o.dst with
 | .alloc T,none,some d=>some (T,d)
 | _,_,_=>none
def yT (d:Tmp):List Oper->Bool
 | []=>false
 | o::os=>(match gN o with
  | some (_,e)=>Nat.beq d e
  | none=>false)||yT d os
def uy (all:List Oper) (o:Oper):Option (TypeId×Tmp×Operand):=
 match o.op,o.guard,o.dst with
 | .store T (.tmp d) x,none,none=>cond (yT d all) (some (T,d,x)) none
 | _,_,_=>none
def sN (all:List Oper) (o:Oper):Bool:=(gN o).isSome||(uy all o).isSome
def uz (all:List Oper) (d:Tmp):List Oper->Option (TypeId×Operand)
 | []=>none
 | o::os=>match uy all o with
  | some (T,e,x)=>cond (Nat.beq d e) (some (T,x)) (uz all d os)
  | none=>uz all d os
def M8 (i:Nat) (d:Tmp):List Oper->Nat->Bool
 | [],_=>true
 | o::os,j=>(Nat.beq j i||!(Rj o.dst [d]))&&M8 i d os (Nat.succ j)
def Es (all:List Oper) (i:Nat) (d:Tmp):List Oper->Nat->Bool
 | [],_=>true
 | o::os,j=>(Nat.beq j i||(match uy all o with
  | some (_,e,_)=>!(Nat.beq d e)
  | none=>true))&&Es all i d os (Nat.succ j)
def Ry (all:List Oper):List Oper->Nat->Bool
 | [],_=>true
 | o::os,i=>(match gN o with
  | some (_,d)=>M8 i d all 0
  | none=>true)&&(match uy all o with
  | some (_,d,x)=>xX i x all 0&&Es all i d all 0&&yT d (all.take i)&&!(Rj (some d) (tf [x]))
  | none=>true)&&Ry all os (Nat.succ i)
def Iv (P:Program) (cfg:eQ) (all:List Oper) (b:List Nat) (i:Nat) (y:Oper):List Oper->Nat->Bool
 | [],_=>true
 | x::xs,j=>(Nat.ble i j||!vH P cfg all x y||rR b i j)&&Iv P cfg all b i y xs (Nat.succ j)
def Ck (P:Program) (cfg:eQ) (all:List Oper) (b:List Nat):List Oper->Nat->Bool
 | [],_=>true
 | o::os,i=>Iv P cfg all b i o all 0&&Ck P cfg all b os (Nat.succ i)
def M9 (o:Oper):Option (Operand×List Operand):=
 match o.op,o.guard with
 | .call c,none=>match c.callee with
  | .value (.tmp d)=>some (.tmp d,c.args.toList)
  | _=>none
 | _,_=>none
def HW (P:Program) (cfg:eQ) (t:bF) (p:Operand×List Operand):ti:=
 match l7 t p.1 with
 | .fn (.func g) [] []=>match cfg.pc g with
  | some F=>.Eo g (fun vs=>cond (Nat.beq vs.length (fy P g).length) (F (normArgs P (fy P g) vs)) .no) p.2
  | none=>.bad
 | _=>.bad
def Yh (P:Program) (cfg:eQ) (all:List Oper):Bool:=MS P all&&all.all (fun o=>sN all o||Nat.ble (dL (bW P cfg o.op)) 1||(M9 o).isSome)&&Ck P cfg all (eW [] all) all 0&&Ry all all 0
def amh (P:Program) (cfg:eQ) (bC:oX R) (all:List Oper) (o:Oper) (k:bF->aC->Option R) (t:bF) (A:aC):Option R:=
 Bool.rec (motive:=fun _=>Option R) (Option.rec (motive:=fun _=>Option R) (Bw P cfg bC all o k t A) (fun p=>Rx bC t A (fun v A=>k (rT t o.dst v) A) (HW P cfg t p)) (M9 o)) (k (rT t o.dst .bD) A) (sN all o)
def aeE (P:Program) (cfg:eQ) (bC:oX R) (all:List Oper) (k:bF->aC->Option R) (os:List Oper):bF->aC->Option R:=
 List.rec (motive:=fun _=>bF->aC->Option R) k (fun o _ ih=>amh P cfg bC all o ih) os
def yU (P:Program) (all:List Oper) (t:bF) (T:TypeId) (d:Tmp):Option (List KV):=
 match qO P T with
 | some z=>cond (flat z&&z.cells.toList.all scalar&&il (gQ z).cells&&decide (some (gQ z).cells.length=size? P T)) (match uz all d all with
  | some (T',x)=>cond (Nat.beq T T'&&decide (some (l7 t x).cells.length=size? P T)&&il (l7 t x).cells) (some (l7 t x).cells) none
  | none=>some (gQ z).cells) none
 | none=>none
def abW (P:Program) (all:List Oper) (t0:bF) (k:bF->aC->Option R) (os:List Oper):bF->aC->Option R:=
 List.rec (motive:=fun _=>bF->aC->Option R) k (fun o _ ih t A=>Option.rec (motive:=fun _=>Option R) (ih t A) (fun p=>
  Option.rec (motive:=fun _=>Option R) none (fun cs=>ih (t.set (.ptr A.next 0) p.2) (A.new (.row cs (pE P p.1)))) (yU P all t0 p.1 p.2)) (gN o)) os
def apw (P:Program) (cfg:eQ) (o:Oper):Bool:=
 match bW P cfg o.op with
 | .call _ _=>true
 | _=>false
def ahw (P:Program) (cfg:eQ):List Oper->Nat->Option Nat
 | [],_=>none
 | o::os,i=>cond (apw P cfg o) (some i) (ahw P cfg os (Nat.succ i))
def Na (P:Program) (cfg:eQ) (b:List Nat) (i:Nat):List Oper->Nat->Bool
 | [],_=>true
 | q::os,j=>cond (Nat.beq j i) true (cond (Nat.blt j i) (cond (Nat.beq (dL (bW P cfg q.op)) 0) true (rR b i j)) (rR b j i))&&Na P cfg b i os (Nat.succ j)
def Nb (P:Program) (cfg:eQ) (b:List Nat) (all:List Oper):List Oper->Nat->Bool
 | [],_=>true
 | o::os,i=>cond (Nat.ble (dL (bW P cfg o.op)) 1) true (Na P cfg b i all 0)&&Nb P cfg b all os (Nat.succ i)
def O1 (P:Program) (cfg:eQ) (all:List Oper):Bool:=
 match ahw P cfg all 0 with
 | some _=>MS P all&&Ck P cfg all (eW [] all) all 0&&Nb P cfg (eW [] all) all all 0
 | none=>false
def aeF (P:Program) (cfg:eQ) (bC:oX R) (ops:List Oper) (draw:Bool) (k:bF->aC->Option R):bF->aC->Option R:=
 Bool.rec (motive:=fun _=>bF->aC->Option R) (vq P cfg bC ops k ops) (Bool.rec (motive:=fun _=>bF->aC->Option R)
  (Bool.rec (motive:=fun _=>bF->aC->Option R)
   (Bool.rec (motive:=fun _=>bF->aC->Option R) (fun _ _=>none) (aeE P cfg bC ops (fun t A=>abW P ops t k ops t A) ops) (Yh P cfg ops))
   (vq P cfg bC ops k ops) (O1 P cfg ops))
  (fun t A=>vq P cfg bC ops (fun t' A'=>Bool.rec (motive:=fun _=>Option R) none (k t' A') (Wf t' A.next (LN P cfg ops))) ops t A) (aj2 P cfg ops)) draw
def aiy (k:KE R) (f:bF->aC->Option R):KE R:=fun e t A=>ai.rec (motive:=fun _=>Option R) (f t A) (fun i=>k (.exit i) t A) (fun l=>k (.goto l) t A) (k .ret t A) e
def anq (id:Nat) (k:KE R):KE R:=fun e t A=>ai.rec (motive:=fun _=>Option R) (k .normal t A) (fun i=>Bool.rec (motive:=fun _=>Option R) (k (.exit i) t A) (k .normal t A) (Nat.beq i id)) (fun l=>k (.goto l) t A) (k .ret t A) e
def aeG (k:KE R):KE R:=fun e t A=>ai.rec (motive:=fun _=>Option R) (k .normal t A) (fun i=>k (.exit i) t A) (fun _=>none) (k .ret t A) e
def aap (g:KE R->bF->aC->Option R) (k:KE R) (L:Nat):bF->aC->Option R:=
 Nat.rec (motive:=fun _=>bF->aC->Option R) (fun _ _=>none) (fun _ ih=>g (aiy k ih)) L
def wY.run (k:KV->aC->Option R) (x:wY):Option R:=wY.rec (motive:=fun _=>Option R) none (fun v A=>k v A) (fun c _ _ rx ry=>Bool.rec (motive:=fun _=>Option R) ry rx c) x
def Ks.run (k:KE R) (x:Ks):Option R:=Ks.rec (motive:=fun _=>Option R) none (fun e t A=>k e t A) (fun c _ _ rx ry=>Bool.rec (motive:=fun _=>Option R) ry rx c) x
def ami (F:bF->aC->Ks) (k:KE R) (t:bF) (A:aC):Option R:=(F t A).run k
def sP (P:Program) (cfg:eQ) (bC:oX R) (L:Nat) (f:FuncId) (c:Code):Nat->KE R->bF->aC->Option R:=
 Code.rec (motive:=fun _=>Nat->KE R->bF->aC->Option R) (fun _ k t A=>k .normal t A)
  (fun _ ops d _ k=>aeF P cfg bC ops.toList d (fun t A=>k .normal t A))
  (fun _ _ a b p k=>a (2 * p) (aiy k fun t A=>b (2 * p+1) k t A))
  (fun c _ _ a b p k t A=>aix t c (fun t=>a (2 * p) k t A) (fun t=>b (2 * p+1) k t A))
  (fun id _ g p k=>g (2 * p) (anq id k))
  (fun _ g p k=>Option.rec (motive:=fun _=>bF->aC->Option R) (aap (g (2 * p)) k L) (fun F=>ami F k) (cfg.lp f p))
  (fun _ _ _ _ _ _ _ _ _ _=>none) (fun id _ k t A=>k (.exit id) t A) (fun _ g p k=>g (2 * p) (aeG k)) (fun _ _ k t A=>k .normal t A) (fun l _ k t A=>k (.goto l) t A) (fun _ k t A=>k .ret t A) (fun _ _ _ _ _=>none) c
def pG:List KV->Nat->bF->bF
 | [],_,t=>t
 | v::vs,i,t=>pG vs (Nat.succ i) (t.set v i)
def Nc (P:Program) (A:aC) (t:bF):List ResultVar->Option (List KV)
 | []=>some []
 | .tmp x::rs=>(Nc P A t rs).map (l7 t (.tmp x)::·)
 | .cell a ty::rs=>match aaj P ty A [l7 t (.tmp a)] with
  | .ok v=>(Nc P A t rs).map (v::·)
  | _=>none
def I0:List KV->KV
 | [v]=>v
 | vs=>.iv vs
def aj3 (P:Program) (fn:Func) (k:List KV->aC->Option R):KE R:=fun e t A=>
 ai.rec (motive:=fun _=>Option R) (Option.rec (motive:=fun _=>Option R) none (fun vs=>k vs A) (Nc P A t fn.results.toList)) (fun _=>none) (fun _=>none) (Option.rec (motive:=fun _=>Option R) none (fun vs=>k vs A) (Nc P A t fn.results.toList)) e
def aaq (P:Program) (cfg:eQ) (bC:oX R) (L:Nat) (f:FuncId) (args:List KV) (A:aC) (k:List KV->aC->Option R):Option R:=
 match P.funcs.toList[f]? with
 | some fn=>match fn.body with
  | some c=>sP P cfg bC L f c 1 (aj3 P fn k) (pG args 0 .leaf) A
  | none=>none
 | none=>none
def Kt (P:Program) (cfg:eQ) (L:Nat) (n:Nat):oX R:=
 Nat.rec (motive:=fun _=>oX R) (fun _ _ _ _=>none) (fun _ ih f args A k=>
  Bool.rec (motive:=fun _=>Option R) none (Option.rec (motive:=fun _=>Option R) (aaq P cfg ih L f args A fun vs B=>k (I0 vs) B) (fun F=>wY.run k (F args A)) (cfg.x.ac f)) (Nat.blt f yB)) n
end
def yV (P:Program):List TypeId->List KV->List KV
 | t::ts,v::vs=>Yf P t v::yV P ts vs
 | _,_=>[]
def uA (P:Program) (g:FuncId):List TypeId:=match P.funcs.toList[g]? with
 | some fn=>fn.resultTypes.toList
 | none=>[]
def GC (P:Program) (cfg:eQ) (L n:Nat) (f:FuncId) (args:List KV):Option KV:=
 aaq P cfg (Kt P cfg L n) L f args .empty fun vs A=>Bool.rec (motive:=fun _=>Option KV) none (some (I0 (yV P (uA P f) (zL A vs).1))) (Nat.beq vs.length (uA P f).length)
end
end Go.K
end
