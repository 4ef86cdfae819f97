/- Part of the proof of ImageFrags: the machine, shown to be the model's, and plain models. No conditions. -/
import Derived.Test.YtchbpckkmgcgkaaGreatAp
import Derived.Laws.Slices
import Derived.Laws.MakeOwn
import Derived.Laws.AppendOwn
import Derived.MapKept
import Derived.Laws.IdiomStrings
import Derived.OrdersIn
import Derived.LoopNIn
import Derived.RangeFuncRecord
import Derived.Scope
set_option linter.unusedSimpArgs false
set_option linter.unusedVariables false
section
namespace Go.aE
open Go
section
variable {P:Program} {o:Oper}
theorem lu {ρ:a9} {y y' : Nat} {v v' : Value} {r:Nat} (hv:VR ρ v v') (h:bnd y v=some r) (hy:y<=y') :
  r<=y/\∀ code w,(Instr.sliceBound v' y' code).run P w = .ok r w:=by
 unfold bnd at h;split at h
 ·rename_i k i
  obtain ⟨rfl,bu⟩:=EU h;have:=hv.dP;subst this;have hle:r<=y:=by omega
  refine ⟨hle,fun code w=>?_⟩;have:=run_sliceBound (P:=P) w k (r:Int) y' code (by omega) (by omega);simpa using this
 ·simp at h
theorem M9 {ρ:a9} {ev da:Operand->Value} {lo hi mx:Option Operand} {len cap agr l h m:Nat} (he:B5 ρ ev da (hH lo++hH hi++hH mx))
  (hb:xD len cap lo.isSome hi.isSome mx.isSome ((hH lo++hH hi++hH mx).map ev)=some (l,h,m)) (hc:cap<=agr) (MU:len<=cap) :
  l<=h/\h<=m/\m<=cap/\m<=(cond mx.isSome m agr)/\(cond mx.isSome m agr)<=agr/\(mx.isSome=false->m=cap)/\∀ b w,(Instr.sliceBounds b len agr (lo.map da) (hi.map da) (mx.map da)).run P w = .ok (l,h,cond mx.isSome m agr) w:=by
 cases lo with
 | none=>
  cases hi with
  | none=>
   cases mx with
   | none=>
    simp [hH,xD] at hb;obtain ⟨rfl,rfl,rfl⟩:=hb;exact ⟨by omega,MU,aX _,hc,aX _,fun _=>rfl,fun b w=>by simp [Instr.sliceBounds]⟩
   | some x=>simp [hH,xD] at hb
  | some y=>
   cases mx with
   | none=>
    simp only [hH,Option.isSome,List.nil_append,pr,List.map,xD,cZ] at hb;obtain ⟨r,hr,hb⟩:=hb;simp at hb;obtain ⟨rfl,rfl,rfl⟩:=hb;obtain ⟨h1,h2⟩:=lu (P:=P) (he y (by simp [hH])) hr hc;exact ⟨by omega,h1,aX _,hc,aX _,fun _=>rfl,fun b w=>by simp [Instr.sliceBounds,h2]⟩
   | some z=>
    simp only [hH,Option.isSome,List.nil_append,List.map,List.cons_append,xD,dm,cZ] at hb;obtain ⟨r,hr,q,hq,hb⟩:=hb;simp at hb;obtain ⟨rfl,rfl,rfl⟩:=hb;obtain ⟨h1,h2⟩:=lu (P:=P) (he z (by simp [hH])) hr hc;obtain ⟨h3,h4⟩:=lu (P:=P) (he y (by simp [hH])) hq (aX _);exact ⟨by omega,h3,h1,aX _,by simp; omega,fun h=>by simp at h,fun b w=>by simp [Instr.sliceBounds,h2,h4]⟩
 | some x=>
  cases hi with
  | none=>
   cases mx with
   | none=>
    simp only [hH,Option.isSome,pr,List.map,xD,cZ] at hb;obtain ⟨r,hr,hb⟩:=hb;simp at hb;obtain ⟨rfl,rfl,rfl⟩:=hb;obtain ⟨h1,h2⟩:=lu (P:=P) (he x (by simp [hH])) hr (aX _);exact ⟨h1,MU,aX _,hc,aX _,fun _=>rfl,fun b w=>by simp [Instr.sliceBounds,h2]⟩
   | some x=>simp [hH,xD] at hb
  | some y=>
   cases mx with
   | none=>
    simp only [hH,Option.isSome,pr,List.map,List.cons_append,List.nil_append,xD,dm,cZ] at hb;obtain ⟨r,hr,q,hq,hb⟩:=hb;simp at hb;obtain ⟨rfl,rfl,rfl⟩:=hb;obtain ⟨h1,h2⟩:=lu (P:=P) (he y (by simp [hH])) hr hc;obtain ⟨h3,h4⟩:=lu (P:=P) (he x (by simp [hH])) hq (aX _);exact ⟨h3,h1,aX _,hc,aX _,fun _=>rfl,fun b w=>by simp [Instr.sliceBounds,h2,h4]⟩
   | some z=>
    simp only [hH,Option.isSome,List.map,List.cons_append,List.nil_append,xD,dm,cZ] at hb;obtain ⟨r,hr,q,hq,s,hs,hb⟩:=hb;simp at hb;obtain ⟨rfl,rfl,rfl⟩:=hb;obtain ⟨h1,h2⟩:=lu (P:=P) (he z (by simp [hH])) hr hc;obtain ⟨h3,h4⟩:=lu (P:=P) (he y (by simp [hH])) hq (aX _);obtain ⟨h5,h6⟩:=lu (P:=P) (he x (by simp [hH])) hs (aX _);exact ⟨h5,h3,h1,aX _,by simp; omega,fun h=>by simp at h,fun b w=>by simp [Instr.sliceBounds,h2,h4,h6]⟩
theorem ags {A:St} {b n:Nat} (h:HN A b n=true):∃ cs own bV,A.get b=some (.row cs n own bV):=by
 unfold HN at h;split at h
 ·rename_i cs ca own bV hg
  have:=bo h;subst this;exact ⟨cs,own,bV,hg⟩
 ·simp at h
theorem ok_slice {t:TypeId} {x:Operand} {lo hi mx:Option Operand} (ho:o.op = .slice t x lo hi mx):jq P o (Ph P t x lo hi mx):=by
 unfold Ph;split
 ·rename_i e hu
  split
  ·rename_i n hn
   cases Ps:Nat.ble 1 n with
   | false=>exact True.intro
   | true=>
    rw [ai];have Ps:1<=n:=gD Ps;intro ρ A base w ev da v hs he hf;have hx:=he x (by simp);have hsl:P.underlying t=some (.slice (P.elem t))->True:=fun _=>trivial;simp only [List.map,Ed] at hf;split at hf
    ·rename_i len cap vs e1
     simp only [List.cons.injEq] at e1;obtain ⟨e1,e2⟩:=e1;rw [e1] at hx;have hx:=hx.kL;subst e2;obtain ⟨⟨l,h,m⟩,hb,rfl⟩:=cZ.1 hf;by_cases MU:len<=cap
     ·obtain ⟨h1,h2,h3,h4,h5,h6,h7⟩:=M9 (P:=P) he.tail hb (aX _) MU
      have hm:cond mx.isSome m cap=m:=by cases hmx:mx.isSome <;> simp; exact (h6 hmx).symm
      refine ⟨.slice none (h - l) (m - l),by simp [VR],?_⟩;simp [execOp,ho,Instr.sliceAt,Instr.slice,bK hu,hx,h7,hm,rL hn]
     ·
      have key:∀ b w,(Instr.sliceBounds b len cap (lo.map da) (hi.map da) (mx.map da)).run P w = .ok (l,h,m) w:=by
       intro b w;have ar5:cap<=len:=by omega
       cases lo with
       | none=>
        cases hi with
        | none=>
         cases mx with
         | none=>simp [hH,xD] at hb; obtain ⟨rfl,rfl,rfl⟩:=hb; simp [Instr.sliceBounds]
         | some x=>simp [hH,xD] at hb
        | some y=>
         cases mx with
         | none=>
          simp only [hH,Option.isSome,List.nil_append,pr,List.map,xD,cZ] at hb;obtain ⟨r,hr,hb⟩:=hb;simp at hb;obtain ⟨rfl,rfl,rfl⟩:=hb;have:=(lu (P:=P) (he y (by simp [hH])) hr (aX _)).2;simp [Instr.sliceBounds,this]
         | some z=>
          simp only [hH,Option.isSome,List.nil_append,List.map,List.cons_append,xD,dm,cZ] at hb;obtain ⟨r,hr,q,hq,hb⟩:=hb;simp at hb;obtain ⟨rfl,rfl,rfl⟩:=hb;have h2:=(lu (P:=P) (he z (by simp [hH])) hr (aX _)).2;have h4:=(lu (P:=P) (he y (by simp [hH])) hq (aX _)).2;simp [Instr.sliceBounds,h2,h4]
       | some x'=>
        cases hi with
        | none=>
         cases mx with
         | none=>
          simp only [hH,Option.isSome,pr,List.map,xD,cZ] at hb;obtain ⟨r,hr,hb⟩:=hb;simp at hb;obtain ⟨rfl,rfl,rfl⟩:=hb;have:=(lu (P:=P) (he x' (by simp [hH])) hr (aX _)).2;simp [Instr.sliceBounds,this]
         | some x=>simp [hH,xD] at hb
        | some y=>
         cases mx with
         | none=>
          simp only [hH,Option.isSome,pr,List.map,List.cons_append,List.nil_append,xD,dm,cZ] at hb;obtain ⟨r,hr,q,hq,hb⟩:=hb;simp at hb;obtain ⟨rfl,rfl,rfl⟩:=hb;have h2:=(lu (P:=P) (he y (by simp [hH])) hr (aX _)).2;have h4:=(lu (P:=P) (he x' (by simp [hH])) hq (aX _)).2;simp [Instr.sliceBounds,h2,h4]
         | some z=>
          simp only [hH,Option.isSome,List.map,List.cons_append,List.nil_append,xD,dm,cZ] at hb;obtain ⟨r,hr,q,hq,s,hs',hb⟩:=hb;simp at hb;obtain ⟨rfl,rfl,rfl⟩:=hb;have h2:=(lu (P:=P) (he z (by simp [hH])) hr (aX _)).2;have h4:=(lu (P:=P) (he y (by simp [hH])) hq (aX _)).2;have h6:=(lu (P:=P) (he x' (by simp [hH])) hs' (aX _)).2;simp [Instr.sliceBounds,h2,h4,h6]
      refine ⟨.slice none (h - l) (m - l),by simp [VR],?_⟩;simp [execOp,ho,Instr.sliceAt,Instr.slice,bK hu,hx,key,rL hn]
    ·rename_i a len cap vs e1
     simp only [List.cons.injEq] at e1;obtain ⟨e1,e2⟩:=e1;rw [e1] at hx;subst e2;obtain ⟨Bb,MU,lc,a',c',hl,yv,TQ,s4,h'⟩:=hx.r5;cases hg:(dA a&&HN A a.block n) with
     | false=>rw [hg] at hf; simp at hf
     | true=>
      rw [hg,ai] at hf;obtain ⟨_,ZZ⟩:=Bool.and_eq_true_iff.1 hg;obtain ⟨cs,own,bV,lC⟩:=ags ZZ;obtain ⟨l2,qc,ok⟩:=hs.row _ _ _ _ _ lC;rw [hl] at qc; simp at qc; subst qc;have hez:lc.ca=n:=ok.ca;obtain ⟨⟨l,h,m⟩,hb,rfl⟩:=cZ.1 hf;obtain ⟨h1,h2,h3,h4,h5,h6,h7⟩:=M9 (P:=P) he.tail hb yv MU;generalize hm' : cond mx.isSome m c' = m' at h4 h5 h7;refine ⟨.slice (some (if m' = l then a' else a'.add (l * n))) (h - l) (m' - l),?_,?_⟩
      ·simp only [VR]
       refine ⟨trivial,by omega,lc,_,m' - l,hl,by omega,fun eU=>?_,?_,rfl⟩
       ·rw [aB (by omega),TQ (by omega),nM]
        simp only [HL]
       ·rw [hez]
        rw [hez] at s4;have e5:l * n+(m' - l) * n=m' * n:=by rw [<- Nat.add_mul]; congr 1; omega
        have e6:m' * n<=c' * n:=Nat.mul_le_mul_right _ h5;omega
      ·simp only [execOp,ho,Instr.sliceAt,Instr.slice,Sem.run_bind,bK hu,nZ,h',h7,rL hn]
       by_cases hml:m' = l <;> simp [hml]
    ·simp at hf
  ·trivial
 ·rename_i len e hu
  split
  ·rename_i n hn
   cases Ps:Nat.ble 1 n with
   | false=>exact True.intro
   | true=>
    rw [ai];intro ρ A base w ev da v hs he hf;have hx:=he x (by simp);simp only [List.map,Q9] at hf;split at hf
    ·rename_i a vs e1
     simp only [List.cons.injEq] at e1;obtain ⟨e1,e2⟩:=e1;rw [e1] at hx;subst e2;obtain ⟨Bb,lc,hl,h'⟩:=hx.j8;cases hg:(dA a&&HN A a.block n&&Nat.ble (a.off+len * n) (ZM A a.block)) with
     | false=>rw [hg] at hf; simp at hf
     | true=>
      rw [hg,ai] at hf;simp only [aD] at hg;obtain ⟨⟨_,ZZ⟩,hlen⟩:=hg;obtain ⟨cs,own,bV,lC⟩:=ags ZZ;obtain ⟨l2,qc,ok⟩:=hs.row _ _ _ _ _ lC;rw [hl] at qc; simp at qc; subst qc;have hez:lc.ca=n:=ok.ca;have hlen:=gD hlen;have Iq:ZM A a.block=cs.length:=by unfold ZM; rw [lC]
      rw [Iq] at hlen;have hft:=ok.fits;obtain ⟨⟨l,h,m⟩,hb,rfl⟩:=cZ.1 hf;obtain ⟨h1,h2,h3,h4,h5,h6,h7⟩:=M9 (P:=P) he.tail hb (aX _) (aX _);have hm:cond mx.isSome m len=m:=by cases hmx:mx.isSome <;> simp; exact (h6 hmx).symm
      rw [hm] at h7;refine ⟨.slice (some (if m=l then ⟨lc.cb,lc.eX+a.off,none⟩ else (⟨lc.cb,lc.eX+a.off,none⟩:Addr).add (l * n))) (h - l) (m - l),?_,?_⟩
      ·simp only [VR]
       refine ⟨trivial,by omega,lc,_,m - l,hl,aX _,fun eU=>?_,?_,rfl⟩
       ·rw [aB (by omega),nM]
        simp only [HL]
       ·rw [hez]
        have e5:l * n+(m - l) * n=m * n:=by rw [<- Nat.add_mul]; congr 1; omega
        have e6:m * n<=len * n:=Nat.mul_le_mul_right _ h3;omega
      ·simp only [execOp,ho,Instr.sliceAt,Sem.run_bind,bK hu,nZ,h',Instr.sureAddr,Sem.run_pure,h7,rL hn]
    ·simp at hf
  ·trivial
 ·rename_i hu
  cases hmx:mx with
  | some z=>exact True.intro
  | none=>
   show jq P o (.pure (Lc lo.isSome hi.isSome) (x::(hH lo++hH hi)));intro ρ ev da v he hf;have hx:=he x (by simp);simp only [List.map,Lc] at hf;split at hf
   ·rename_i s vs e1
    simp only [List.cons.injEq] at e1;obtain ⟨e1,e2⟩:=e1;rw [e1] at hx;have hx:=hx.s5;subst e2;obtain ⟨⟨l,h,m⟩,hb,rfl⟩:=cZ.1 hf;have Ir:B5 ρ ev da (hH lo++hH hi++hH (none:Option Operand)):=by simpa [hH] using he.tail
    obtain ⟨h1,h2,h3,h4,h5,h6,h7⟩:=M9 (P:=P) (mx:=none) Ir (by simpa [hH] using hb) (aX _) (aX _);simp only [Option.isSome_none,aw,Option.map_none] at h7;refine ⟨.string (s.extract l h),?_,fun w=>?_⟩
    ·have e:(⟨⟨(s.data.toList.drop l).take (h - l)⟩⟩:ByteArray)=s.extract l h:=by
      apply ByteArray.ext;apply Array.ext';simp [ByteArray.data_extract,List.extract_eq_take_drop]
     rw [e];simp [VR]
    ·simp [execOp,ho,Instr.sliceAt,Instr.slice,bK hu,hx,hmx,h7]
   ·simp at hf
 ·trivial
theorem aiZ {t:TypeId} {l c:Operand} (ho:o.op = .makeSlice t l c):jq P o (CI P t l c):=by
 unfold CI;split
 ·rename_i e hu
  split
  ·rename_i i hi
   split
   ·rename_i z hz
    cases hc:(Nat.ble 1 i.size&&Nat.ble 1 i.bytes&&Nat.beq z.cells.size i.size&&flat z&&z.cells.toList.all scalar) with
    | false=>exact True.intro
    | true=>
     rw [ai];simp only [aD] at hc;obtain ⟨⟨⟨⟨h1,h2⟩,h3⟩,h4⟩,h5⟩:=hc;have hn:1<=i.size:=gD h1;have hb:1<=i.bytes:=gD h2;have hzs:z.cells.size=i.size:=bo h3;rw [im] at h5;intro ρ ev da obj mk he hf;simp only [List.map,Im] at hf;split at hf
     ·rename_i k1 l0 k2 c0 e1
      simp only [List.cons.injEq,and_true] at e1;cases hk:(Nat.ble l0 c0&&Nat.ble (i.bytes * c0) 281474976710656) with
      | false=>rw [hk] at hf; simp at hf
      | true=>
       rw [hk,ai] at hf;obtain ⟨Pt,hk2⟩:=Bool.and_eq_true_iff.1 hk;have hle:l0<=c0:=gD Pt;have hbc:i.bytes * c0<=281474976710656:=gD hk2;simp only [dE,gF] at hf;obtain ⟨rfl,rfl⟩:=hf;have hl:=he l (by simp);have yv:=he c (by simp);rw [e1.1] at hl;rw [e1.2] at yv;have hl:=hl.dP;have yv:=yv.dP;have e2:madeCells z.cells (c0 * i.size)=⟨ia z.cells.toList c0⟩:=by
        unfold madeCells;rw [<- hzs];exact YC z.cells c0 (by omega)
       have hc0:c0<=i.bytes * c0:=Nat.le_mul_of_pos_left _ hb;have awc:∀ (z:List Value) (k:Nat),(ia z k).length=k * z.length:=by
        intro z k
        induction k with
        | zero=>simp [ia]
        | succ k ih=>simp [ia,ih,Nat.succ_mul,Nat.add_comm]
       have awd:∀ (z:List Value) (k:Nat) (v:Value),v∈ia z k->v∈z:=by
        intro z k v
        induction k with
        | zero=>simp [ia]
        | succ k ih=>simp only [ia,mJ]; exact fun h=>h.elim id ih
       refine ⟨.cells ⟨ia z.cells.toList c0⟩ e,fun b=>.slice (some ⟨b,0,none⟩) l0 c0,⟨_,e,rfl,eK.repeat (M8 h4) c0,fun v hv=>h5 v (awd _ _ _ hv)⟩,fun w=>?_,fun ba n cb n4=>?_⟩
       ·have hr:=run_make (P:=P) w t e i z hu hi hz k1 k2 (l0:Int) (c0:Int) (by omega) (by omega) (by rw [<- Int.natCast_mul]; exact Int.ofNat_le.2 hbc) (by omega)
        have tL:da l = .int k1 (l0:Int):=hl;have hc' : da c = .int k2 (c0:Int):=yv;simp only [bU,e2] at hr;simp [execOp,ho,tL,hc',hr]
       ·simp only [VR]
        refine ⟨trivial,hle,_,⟨cb,0,none⟩,c0,n4,aX _,fun _=>rfl,?_,rfl⟩;show 0+0+c0 * i.size<=(ia z.cells.toList c0).length;rw [awc];simp [hzs]
     ·simp at hf
   ·trivial
  ·trivial
 ·trivial
theorem aqN {t:TypeId} {x:Operand} (ho:o.op = .makeInterface t x):jq P o (abX P t x):=by
 unfold abX;split
 ·trivial
 ·rename_i d hu hd
  intro ρ ev da v he hf;simp [apK] at hf;subst hf;refine ⟨.iface t (da x),by simp only [VR]; exact ⟨_,he x (by simp),rfl⟩,fun w=>?_⟩;simp only [execOp,ho,Instr.makeInterface,Sem.run_bind,bK hd,nZ];cases d <;> first | rfl | exact absurd rfl (hu _)
 ·trivial
theorem Z0 {ρ:a9} {s:List Value->Sem Value} {vs cP:List Value} {v:Value} (hv:eK ρ vs cP) (h:Q8 P s vs=some v):VR ρ v v/\∀ w,(s cP).run P w = .ok v w:=by
 unfold Q8 at h;cases hf:zO vs with
 | false=>rw [hf] at h; simp at h
 | true=>
  rw [hf,ai] at h;obtain ⟨u,hu,h⟩:=dm.1 h;cases hfu:flat u with
  | false=>rw [hfu] at h; simp at h
  | true=>
   rw [hfu] at h;simp at h;subst h;rw [eK.sn hf hv];exact ⟨VR.of_flat hfu,fun w=>ju hu w⟩
theorem aue {argTypes:Array TypeId} {args:Array Operand} (ho:o.op = .call ⟨.builtin .min,args,argTypes⟩):jq P o (.pure (Q8 P fun vs=>Builtin.min_ #[] 0 ⟨vs⟩) args.toList):=by
 intro ρ ev da v he hf;obtain ⟨h1,h2⟩:=Z0 he.map hf;refine ⟨v,h1,fun w=>?_⟩;have h3:=h2 w;simp only [Builtin.min_] at h3;simp only [execOp,ho,resolve,Sem.run_bind,Sem.run_pure,nZ,invoke,builtin,Builtin.min_,rz];simp only [h3,nZ]
theorem auf {argTypes:Array TypeId} {args:Array Operand} (ho:o.op = .call ⟨.builtin .max,args,argTypes⟩):jq P o (.pure (Q8 P fun vs=>Builtin.max_ #[] 0 ⟨vs⟩) args.toList):=by
 intro ρ ev da v he hf;obtain ⟨h1,h2⟩:=Z0 he.map hf;refine ⟨v,h1,fun w=>?_⟩;have h3:=h2 w;simp only [Builtin.max_] at h3;simp only [execOp,ho,resolve,Sem.run_bind,Sem.run_pure,nZ,invoke,builtin,Builtin.max_,rz];simp only [h3,nZ]
theorem adR {ρ:a9} {x x' : Value} {k:Nat} (hx:VR ρ x x') (h:adO x=some k):Builtin.lenOf x' = Sem.pure k:=by
 unfold adO at h;split at h
 ·obtain ⟨a',c',rfl⟩:=agq hx
  simp at h; subst h; rfl
 ·have:=hx.s5
  subst this;simp at h; subst h; rfl
 ·simp at h
theorem HS {ρ:a9} {A:St} {base:Nat} {w:World} {n k:Nat} {x x' : Value} {new:List Value} (hs:Rel ρ A.get A.members base w) (hx:VR ρ x x') (h:A8 A n k x=some new)
  (hk:∀ m,adO x=some m->k<=m) (hn:1<=n):∃ cK,eK ρ new cK/\(∀ v∈new,scalar v=true)/\new.length=k * n/\(Builtin.firstCells n k x').run P w = .ok cK.toArray w:=by
 unfold A8 at h;split at h
 ·rename_i a len cap
  obtain ⟨Bb,MU,lc,a',c',hl,yv,TQ,s4,rfl⟩:=hx.r5;have hkl:=hk len rfl;obtain ⟨ck,h1,h2,h3,h4⟩:=Ba (P:=P) hs h hl;refine ⟨ck,h1,h3,h2,?_⟩;simp only [Builtin.firstCells];by_cases hc:c' = 0
  ·have MT:k=0:=by omega
   subst MT;have qv:new = []:=by rw [Nat.zero_mul] at h2; exact List.eq_nil_of_length_eq_zero h2
   subst qv;rw [h1.cu,Nat.zero_mul];exact run_loadCells_list w a' [] (by simp)
  ·rw [TQ hc]; exact h4
 ·rename_i len cap
  have:=hx.kL;subst this;cases hb:Nat.beq k 0 with
  | false=>rw [hb] at h; simp at h
  | true=>
   rw [hb] at h;simp at h;subst h;have MT:=bo hb;subst MT;exact ⟨[],.nil,by simp,by simp,run_firstCells_none w n 0 len cap⟩
 ·rename_i s
  have:=hx.s5;subst this;cases hb:Nat.beq n 1 with
  | false=>rw [hb] at h; simp at h
  | true=>
   rw [hb] at h;simp at h;have hn1:=bo hb;subst hn1;have wG:=hk s.size rfl;have gI:s.data.size=s.size:=rfl;have fl:∀ l:List UInt8,eK ρ (l.map fun b=>Value.int .u8 b.toNat) (l.map fun b=>Value.int .u8 b.toNat):=by
    intro l
    induction l with
    | nil=>exact .nil
    | cons x l ih=>exact .cons (by simp [VR]) ih
   subst h;refine ⟨((s.data.toList.take k).map fun b=>.int .u8 b.toNat),by simpa using fl (s.data.toList.take k),?_,?_,?_⟩
   ·intro v hv
    obtain ⟨b,_,rfl⟩:=HK.1 (by first | exact hv | exact List.mem_of_mem_take hv);rfl
   ·simp; omega
   ·simp only [Builtin.firstCells]
    rw [Sem.run_pure];congr 1;apply Array.ext';simp [ByteArray.data_extract,List.extract_eq_take_drop]
 ·simp at h
theorem GC (t u ty e:TypeId) (i:TypeInfo) (ht:P.underlying t=some (.slice e)) (hi:P.info? e=some i) (hu:Ra P u=true) (base:Option Addr) (fa tJ:Nat) (x:Value) (n:Nat) (news:List Value)
  (hlen:Builtin.lenOf x=Sem.pure n) (w:World) (Bc:(Builtin.firstCells i.size n x).run P w = .ok news.toArray w) (Ja:fa+n<=tJ) :
  (Builtin.append_ #[t,u] ty #[.slice base fa tJ,x]).run P w=(((match base with | some a=>storeCells (a.add (fa * i.size)) news | none=>pure ():Sem Unit).run P w).andThen fun _ w=>.ok (.slice base (fa+n) tJ) w):=by
 have hk:(∃ e',P.underlying u=some (.slice e'))\/P.underlying u=some .string:=by
  unfold Ra at hu;split at hu
  ·rename_i e' h; exact .inl ⟨_,h⟩
  ·rename_i h; exact .inr h
  ·simp at hu
 rcases hk with ⟨e',hk⟩ | hk <;> cases base <;> simp [Builtin.append_,bK ht,bK hk,sizeOf,typeInfo,hi,hlen,Ja,Bc]
theorem ab3 (t u ty e:TypeId) (i:TypeInfo) (z:Value) (ht:P.underlying t=some (.slice e)) (hi:P.info? e=some i) (hz:i.zero=some z) (hu:Ra P u=true) (base:Option Addr) (fa tJ:Nat)
  (x:Value) (n:Nat) (adS news:List Value) (hlen:Builtin.lenOf x=Sem.pure n) (w:World) (hold:(Builtin.firstCells i.size fa (.slice base fa tJ)).run P w.drew = .ok adS.toArray w.drew)
  (Bc:(Builtin.firstCells i.size n x).run P w.drew = .ok news.toArray w.drew) (hg:tJ < fa+n) (h63:fa+n<=17592186044416) (s4:Builtin.nextslicecap (fa+n) tJ * i.bytes<=281474976710656) :
  (Builtin.append_ #[t,u] ty #[.slice base fa tJ,x]).run P w =
   .ok (.slice (some ⟨w.heap.size,0,none⟩) (fa+n) (grownCap w (fa+n) tJ e))
    (w.drew.alloc (.cells ((adS++news).toArray++Builtin.zeroCells z.cells (grownCap w (fa+n) tJ e - (fa+n))) e)):=by
 have hk:(∃ e',P.underlying u=some (.slice e'))\/P.underlying u=some .string:=by
  unfold Ra at hu;split at hu
  ·rename_i e' h; exact .inl ⟨_,h⟩
  ·rename_i h; exact .inr h
  ·simp at hu
 have hn : ¬ (fa+n<=tJ):=by omega
 have awe : ¬ (9223372036854775807 < ((fa:Int)+(n:Int))):=by omega
 have awf : ¬ (281474976710656 < Builtin.nextslicecap (fa+n) tJ * i.bytes):=by omega
 rcases hk with ⟨e',hk⟩ | hk <;>
  (simp [Builtin.append_,bK ht,bK hk,sizeOf,typeInfo,zeroValue,hi,hz,hlen,hn,awe,awf,Question.forced,Bc,hold,newRow,grownCap]
   congr 2;apply Array.ext';simp [HJ])
theorem agt {ρ:a9} {A:St} {base:Nat} {w:World} (hs:zR ρ A base w) (b lo hi:Nat) (L:List Nat):pk base ρ A w ρ (A.kill b lo hi L) w:=by
 obtain ⟨hl1,qc⟩:=Pp b lo hi L A;have ZW:∀ x o,(A.kill b lo hi L).get x=some o->o≠.dead->A.get x=some o:=by
  intro x o hx hd;rw [GA] at hx;split at hx
  ·simp at hx; exact absurd hx.symm hd
  ·exact hx
 have hm:∀ o:dr,o.gJ=true->o≠.dead:=by intro o h e; subst e; simp [dr.gJ] at h
 refine ⟨⟨.Rh (fun x o hx hd=>hs.rel.obj (ZW x o hx hd) hd) (fun b1 b2 o1 o2 l1 l2 eU g1 g2 m1 m2=>hs.rel.apart b1 b2 o1 o2 l1 l2 eU (ZW _ _ g1 (hm _ m1)) (ZW _ _ g2 (hm _ m2)) m1 m2) (fun x o bm f hx hk=>?_),fun x l h=>?_,hs.size,hs.SX⟩,
  fun _ _=>rfl,.refl _ _ _,by simp,hl1,fun x _ hx=>?_,fun k _ h=>?_⟩
 ·rw [Og]; exact hs.rel.bO x o bm f (ZW x o hx (by intro e; subst e; simp [dr.px] at hk)) hk
 ·rw [Rf]; exact hs.ow x l h
 ·cases Classical.em ((A.kill b lo hi L).get x=A.get x) with
  | inl h=>exact h
  | inr h=>have:=qc x h; omega
 ·obtain ⟨x,o,l,hx,hm',hr,e⟩:=h
  exact ⟨x,o,l,ZW x o hx (hm _ hm'),hm',hr,e⟩
theorem Pu (A:St) (bm f:Nat) (cs:List Value) (n x:Nat):(A.grow bm f cs n).get x=if x=A.next then some (.row cs n true (some (bm,f))) else A.get x:=by
 simp [St.grow]
theorem CP (A:St) (bm f:Nat) (cs:List Value) (n g:Nat):(A.grow bm f cs n).members g=if g=bm then A.next::A.members bm else A.members g:=by
 simp only [St.grow,St.HQ,St.n3]
theorem agu {ρ:a9} {A:St} {base:Nat} {w:World} {cs ck:List Value} {c:Array Value} {n bm f:Nat} (T:TypeId) (hs:zR ρ A base w) (hc:eK ρ cs ck) (h1:∀ v∈cs,scalar v=true)
  (ar6:∀ (j:Nat) (v:Value),ck[j]? = some v->c[j]? = some v) (gI:cs.length<=c.size) :
  pk base ρ A w (ρ.set A.next ⟨w.heap.size,0,c.size,n⟩) (A.grow bm f cs n) (w.alloc (.cells c T)):=by
 refine Lh (o:=.row cs n true (some (bm,f))) hs (fun x=>Pu _ _ _ _ _ _) (fun g x h=>?_) (fun g f' h=>?_) (by simp [St.grow]) (by simp [St.grow]) (fun x hx _=>by rw [Pu,aB (by omega)]) rfl ?_
 ·rw [CP]; split
  ·rename_i e; subst e; simp [h]
  ·exact h
 ·simp [dr.px] at h; rw [CP,h.1]; simp
 ·refine ⟨fun i v hi=>?_,fun h=>by simp at h,fun _=>hs.size,fun _ j hj=>?_,by simpa using gI,fun _ h=>by simp at h,rfl,by simp,fun _ _ j=>by simp only; rw [World.frozen?_alloc_new]⟩
  ·obtain ⟨v',h2,h3⟩:=hc.get hi
   refine ⟨v',?_,h3.mono (hs.Rg _),h1 v (ji hi)⟩;rw [bk,World.cell?_alloc_new];exact ar6 i v' h2
  ·simp only at hj ⊢
   rw [World.cell?_alloc_new,World.frozen?_alloc_new];refine ⟨?_,rfl⟩;rw [Array.getElem?_eq_getElem (by omega)];rfl
theorem akU {ρ:a9} {A:St} {base:Nat} {w:World} {b jM s ca bm f:Nat} {cs jc vY new cK:List Value} {l:Loc}
  (hs:zR ρ A base w) (hg:A.get b=some (.row cs ca true (some (bm,f)))) (n4:ρ b=some l)
  (hold:eK ρ jc vY) (ho1:∀ v∈jc,scalar v=true) (hol:jc.length=s) (MV:∀ j v',vY[j]? = some v'->w.cell? ⟨l.cb,l.eX+jM+j,none⟩=some v')
  (qv:eK ρ new cK) (hn1:∀ v∈new,scalar v=true) (s4:l.eX+jM+s+new.length<=l.ES) :
  pk base ρ A w (ρ.set A.next ⟨l.cb,l.eX+jM,l.ES,ca⟩) ((A.kill A.next (f+(jM+s)) (f+(jM+s)+new.length) (A.members bm)).grow bm (f+jM) (jc++new) ca) (w.setCells l.cb (l.eX+jM+s) cK):=by
 obtain ⟨l',tL,ok⟩:=hs.rel.row _ _ _ _ _ hg;rw [n4] at tL; simp at tL; subst tL;have TP:cK.length=new.length:=qv.length;have hovl:vY.length=s:=by rw [hold.length,hol]
 have W4:b < A.next:=hs.ow b l n4;have Wq:dr.gJ (.row cs ca true (some (bm,f)))=true:=rfl;have hB:∀ x,((A.kill A.next (f+(jM+s)) (f+(jM+s)+new.length) (A.members bm)).grow bm (f+jM) (jc++new) ca).get x =
   if x=A.next then some (.row (jc++new) ca true (some (bm,f+jM))) else (A.kill A.next (f+(jM+s)) (f+(jM+s)+new.length) (A.members bm)).get x:=by
  intro x; rw [Pu,Rf]
 have hBm:∀ g,((A.kill A.next (f+(jM+s)) (f+(jM+s)+new.length) (A.members bm)).grow bm (f+jM) (jc++new) ca).members g=if g=bm then A.next::A.members bm else A.members g:=by
  intro g; rw [CP,Rf,Og]
 have hBn:((A.kill A.next (f+(jM+s)) (f+(jM+s)+new.length) (A.members bm)).grow bm (f+jM) (jc++new) ca).next=A.next+1:=by
  simp [St.grow]
 have hkl:=Pp A.next (f+(jM+s)) (f+(jM+s)+new.length) (A.members bm) A;have hBl:((A.kill A.next (f+(jM+s)) (f+(jM+s)+new.length) (A.members bm)).grow bm (f+jM) (jc++new) ca).low=(A.kill A.next (f+(jM+s)) (f+(jM+s)+new.length) (A.members bm)).low:=rfl;have hAK:∀ x,x≠A.next->(A.kill A.next (f+(jM+s)) (f+(jM+s)+new.length) (A.members bm)).get x=if x∈A.members bm/\vE (A.get x) (f+(jM+s)) (f+(jM+s)+new.length)=true then some .dead else A.get x:=by
  intro x hx; rw [GA]; simp [hx]
 generalize ((A.kill A.next (f+(jM+s)) (f+(jM+s)+new.length) (A.members bm)).grow bm (f+jM) (jc++new) ca)=B at hB hBm hBn hBl;generalize (A.kill A.next (f+(jM+s)) (f+(jM+s)+new.length) (A.members bm))=K at hB hBl hkl hAK;have hle:=hs.Rg (⟨l.cb,l.eX+jM,l.ES,ca⟩:Loc);have uo:∀ x o,x≠A.next->B.get x=some o->o≠.dead->A.get x=some o/\(x∈A.members bm->vE (some o) (f+(jM+s)) (f+(jM+s)+new.length)=false):=by
  intro x o hx ho hd;rw [hB,aB hx,hAK x hx] at ho;split at ho
  ·simp at ho; exact absurd ho.symm hd
  ·rename_i hc
   refine ⟨ho,fun hm=>?_⟩;rw [<- ho];cases jL:vE (A.get x) (f+(jM+s)) (f+(jM+s)+new.length) with
   | false=>rfl
   | true=>exact absurd ⟨hm,jL⟩ hc
 have sG:∀ x:Addr,(x.block=l.cb->x.spot=none->x.off < l.eX+jM+s\/l.eX+jM+s+cK.length<=x.off)->(w.setCells l.cb (l.eX+jM+s) cK).cell? x=w.cell? x:=
  fun x h=>World.cell?_setCells_out _ _ _ _ _ h
 have agi:∀ x,((w.setCells l.cb (l.eX+jM+s) cK).cell? x).isSome=(w.cell? x).isSome:=fun x=>GB _ _ _ _ _;have CO:∀ x,(w.setCells l.cb (l.eX+jM+s) cK).frozen? x=w.frozen? x:=fun x=>World.frozen?_setCells _ _ _ _ _;have gI:(w.setCells l.cb (l.eX+jM+s) cK).heap.size=w.heap.size:=Lf _ _ _ _;have hmd:∀ o:dr,o.gJ=true->o≠.dead:=by intro o h e; subst e; simp [dr.gJ] at h
 have EW:∀ x o l2,A.get x=some o->o.gJ=true->ρ x=some l2->l2.cb=l.cb->∃ f2,o.px=some (bm,f2)/\l2.eX+f=l.eX+f2:=by
  intro x o l2 hx hm hr YA;by_cases ZX:x=b
  ·subst ZX
   rw [hg] at hx; simp at hx; subst hx;rw [n4] at hr; simp at hr; subst hr;exact ⟨f,rfl,rfl⟩
  ·obtain ⟨g,f1,f2,e1,e2,e3⟩:=hs.rel.apart x b _ _ l2 l ZX hx hg hm Wq hr n4 YA
   simp [dr.px] at e2;obtain ⟨rfl,rfl⟩:=e2;exact ⟨f1,e1,e3⟩
 have agj:∀ x ox e2 M6 wD l2,x≠A.next->B.get x=some (.row ox e2 M6 wD)->ρ x=some l2->Re ρ base w l2 ox e2 M6 wD->∀ i,i < ox.length->
   (w.setCells l.cb (l.eX+jM+s) cK).cell? ⟨l2.cb,l2.eX+i,none⟩=w.cell? ⟨l2.cb,l2.eX+i,none⟩:=by
  intro x ox e2 M6 wD l2 hx lA arZ lB i hi;refine sG _ (fun Yz _=>?_);simp only at Yz ⊢;obtain ⟨hA,jL⟩:=uo x _ hx lA (by simp);cases M6 with
  | false=>have h3:=lB.yu rfl; have h4:=ok.gJ rfl; omega
  | true=>
   obtain ⟨f2,e1,e3⟩:=EW x _ l2 hA rfl arZ Yz;simp only [dr.px] at e1;subst e1;have hm:=hs.rel.bO x _ bm f2 hA rfl;have:=ZU rfl (jL hm);rw [TP];omega
 refine ⟨⟨.Rh ?_ ?_ ?_,?_,?_,hs.SX.mono (hs.Rg _)⟩,?_,⟨(xP _ _ _ _).1,(xP _ _ _ _).2.1,(xP _ _ _ _).2.2,Nat.le_of_eq gI.symm,?_⟩,?_,?_,?_,?_⟩
 ·intro x o lA hd
  by_cases hx:x=A.next
  ·subst hx
   rw [hB,aW rfl] at lA;simp at lA;subst lA;refine ⟨_,a9.uM _ _ _,fun i v hi=>?_,fun h=>by simp at h,fun _=>ok.gJ rfl,fun _ j hj=>?_,?_,fun _ h=>by simp at h,rfl,by rw [gI]; exact ok.sq,fun _ h2 j=>by rw [CO]; exact ok.mark rfl (by rw [ok.ca]; exact h2) j⟩
   ·have qw:eK ρ (jc++new) (vY++cK):=hold.append qv
    obtain ⟨v',h2,h3⟩:=qw.get hi;refine ⟨v',?_,h3.mono hle,?_⟩
    ·rw [List.getElem?_append] at h2
     split at h2
     ·rename_i bu
      rw [sG _ (fun _ _=>by simp only; omega)];exact MV i v' h2
     ·rename_i hge
      have bu:i - vY.length < cK.length:=(dB.1 h2).1;have:=World.cell?_setCells_in l.cb cK (l.eX+jM+s) w (fun j hj=>(ok.there rfl (l.eX+jM+s+j) (by rw [TP] at hj; omega)).1) (i - vY.length) bu;have e:l.eX+jM+s+(i - vY.length)=l.eX+jM+i:=by omega
      rw [e] at this;rw [dD bu] at h2;exact this.trans h2
    ·rcases mJ.1 (ji hi) with h | h
     ·exact ho1 v h
     ·exact hn1 v h
   ·rw [agi,CO]; exact ok.there rfl j hj
   ·simp only [nY,hol]; omega
  ·obtain ⟨hA,jL⟩:=uo x o hx lA hd
   obtain ⟨l2,zT,lB⟩:=hs.rel.obj hA hd;refine ⟨l2,hle _ _ zT,?_⟩;cases o with
   | row ox e2 M6 wD=>
    have lB:Re ρ base w l2 ox e2 M6 wD:=lB;refine ⟨fun i v hi=>?_,lB.yu,lB.gJ,fun h j hj=>?_,lB.fits,lB.ends,lB.ca,by rw [gI]; exact lB.sq,fun h1 h2 j=>by rw [CO]; exact lB.mark h1 h2 j⟩
    ·obtain ⟨v',h3,h4,h5⟩:=lB.cells i v hi
     exact ⟨v',by rw [agj x _ _ _ _ l2 hx lA zT lB i (dB.1 hi).1]; exact h3,h4.mono hle,h5⟩
    ·rw [agi,CO]; exact lB.there h j hj
   | map es=>
    have lB:agf ρ base w l2 es:=lB;obtain ⟨bF,clock,h3,h4⟩:=lB.sq;refine ⟨lB.gJ,bF,clock,?_,h4.mono hle⟩;rw [py]
    ·exact h3
    ·intro e
     obtain ⟨_,e1,_⟩:=EW x _ l2 hA rfl zT e;simp [dr.px] at e1
   | iter st pos=>
    have lB:ZR base w l2 st pos:=lB;refine ⟨lB.gJ,lB.sq.1,?_⟩;rw [py]
    ·exact lB.sq.2
    ·intro e
     obtain ⟨_,e1,_⟩:=EW x _ l2 hA rfl zT e;simp [dr.px] at e1
   | dead=>exact absurd rfl hd
   | loop st0 e0 t0 ps0 a0 c0=>
    have lB:ZS ρ base w l2 st0 e0 t0 ps0 a0 c0:=lB;obtain ⟨fn,tmps,D,N,h3,h4⟩:=lB.sq;refine ⟨lB.gJ,fn,tmps,D,N,?_,h4.mono hle⟩;rw [py]
    ·exact h3
    ·intro e
     obtain ⟨_,e1,_⟩:=EW x _ l2 hA rfl zT e;simp [dr.px] at e1
 ·intro b1 b2 o1 o2 l1 l2 eU g1 g2 m1 m2 r1 r2 YA
  by_cases e1:b1=A.next
  ·have e2:b2≠A.next:=fun e=>eU (e1.trans e.symm)
   subst e1;rw [hB,aW rfl] at g1;simp at g1; subst g1;rw [a9.uM] at r1; simp at r1; subst r1;rw [a9.qB _ _ e2] at r2;obtain ⟨hA,_⟩:=uo b2 o2 e2 g2 (hmd _ m2);obtain ⟨f2,k1,k2⟩:=EW b2 o2 l2 hA m2 r2 YA.symm;exact ⟨bm,f+jM,f2,rfl,k1,by simp only; omega⟩
  ·rw [a9.qB _ _ e1] at r1
   obtain ⟨hA1,_⟩:=uo b1 o1 e1 g1 (hmd _ m1);by_cases e2:b2=A.next
   ·subst e2
    rw [hB,aW rfl] at g2;simp at g2; subst g2;rw [a9.uM] at r2; simp at r2; subst r2;obtain ⟨f2,k1,k2⟩:=EW b1 o1 l1 hA1 m1 r1 YA;exact ⟨bm,f2,f+jM,k1,rfl,by simp only; omega⟩
   ·rw [a9.qB _ _ e2] at r2
    obtain ⟨hA2,_⟩:=uo b2 o2 e2 g2 (hmd _ m2);exact hs.rel.apart b1 b2 o1 o2 l1 l2 eU hA1 hA2 m1 m2 r1 r2 YA
 ·intro x o g fx hx hk
  rw [hBm];by_cases e:x=A.next
  ·subst e
   rw [hB,aW rfl] at hx;simp at hx; subst hx;simp [dr.px] at hk;rw [aW hk.1.symm];simp
  ·have:=hs.rel.bO x o g fx (uo x o e hx (by intro e; subst e; simp [dr.px] at hk)).1 hk
   split
   ·rename_i e2; subst e2; simp [this]
   ·exact this
 ·intro x l2 h
  rw [hBn];by_cases e:x=A.next
  ·omega
  ·rw [a9.qB _ _ e] at h; have:=hs.ow x l2 h; omega
 ·rw [gI]; exact hs.size
 ·intro x hx; exact a9.qB _ _ (by omega)
 ·intro k hk hn
  exact py _ (fun e=>hn ⟨b,_,l,hg,rfl,n4,e.symm⟩) _ _ _
 ·omega
 ·rw [hBl]; exact hkl.1
 ·intro x hx hxl
  rw [hB,aB (by omega)];cases Classical.em (K.get x=A.get x) with
  | inl h=>exact h
  | inr h=>have:=hkl.2 x h; omega
 ·rintro k hk ⟨x,o,l2,hx,hm,hr,rfl⟩
  by_cases e:x=A.next
  ·subst e
   rw [a9.uM] at hr; simp at hr; subst hr;exact ⟨b,_,l,hg,rfl,n4,rfl⟩
  ·rw [a9.qB _ _ e] at hr
   exact ⟨x,o,l2,(uo x o e hx (hmd _ hm)).1,hm,hr,rfl⟩
theorem aqO {a:Addr} (h:dA a=true):a.spot=none:=by
 unfold dA at h;simpa using h
theorem aeY (w:World) (a:Addr) (n:Nat) (cs:List Value) (h:∀ j,j < n->(w.cell? (a.add j)).isSome=true) (hr:(loadCells a n).run P w = .ok cs.toArray w) (j:Nat) (v:Value) (hj:cs[j]? = some v) :
  w.cell? (a.add j)=some v:=by
 have h1:=run_loadCells (P:=P) w a n (fun j=>(w.cell? (a.add j)).getD undef) (fun j hj=>by
  have:=h j hj;cases hc:w.cell? (a.add j) with
  | none=>rw [hc] at this; simp at this
  | some u=>rfl)
 rw [hr] at h1;simp only [Result.ok.injEq,and_true] at h1;have h2:cs=(List.range n).map fun j=>(w.cell? (a.add j)).getD undef:=by
  have:=congrArg Array.toList h1;simpa using this
 rw [h2,A5] at hj;cases hq:(List.range n)[j]? with
 | none=>rw [hq] at hj; simp at hj
 | some m=>
  rw [hq] at hj;have bu:j < n:=by have:=(dB.1 hq).1; simpa using this
  have hm:m=j:=by rw [List.getElem?_range bu] at hq; simpa using hq.symm
  subst hm;simp at hj;have:=h m bu;cases hc:w.cell? (a.add m) with
  | none=>rw [hc] at this; simp at this
  | some u=>rw [hc] at hj; simpa using hj
theorem amr (z:Array Value) (n:Nat):(Builtin.zeroCells z n).size=n * z.size:=size_zeroCells z n
theorem agv {ρ:a9} {A B:St} {base:Nat} {w:World} {t u ty e:TypeId} {i:TypeInfo} {z s x s' x' v:Value} (ht:P.underlying t=some (.slice e)) (hi:P.info? e=some i) (hz:i.zero=some z) (hu:Ra P u=true)
  (hn:1<=i.size) (hzs:z.cells.size=i.size) (XA:zR ρ A base w) (hsv:VR ρ s s') (hxv:VR ρ x x') (hf:pw i.size i.bytes A [s,x] = some (v,B)) :
  ∃ ba v' w',(Builtin.append_ #[t,u] ty #[s',x']).run P w = .ok v' w'/\VR ba v v'/\pk base ρ A w ba B w':=by
 unfold pw at hf;split at hf
 ·rename_i bs fa tJ x0 e0
  simp at e0;obtain ⟨rfl,rfl⟩:=e0;obtain ⟨k,hk,hf⟩:=dm.1 hf;have hlen:=adR hxv hk;have hkk:∀ m,adO x=some m->k<=m:=fun m h=>by rw [hk] at h; simp at h; omega
  cases Ja:Nat.ble (fa+k) tJ with
  | true=>
   rw [Ja,ai] at hf;have Ja:=gD Ja;obtain ⟨new,qv,hf⟩:=dm.1 hf;obtain ⟨cK,h1,h2,h3,h4⟩:=HS (P:=P) XA.rel hxv qv hkk hn;cases bs with
   | none=>
    simp at hf;obtain ⟨rfl,rfl⟩:=hf;have:=hsv.kL;subst this;have hr:=GC (P:=P) t u ty e i ht hi hu none fa tJ x' k cK hlen w h4 Ja;exact ⟨ρ,_,w,by rw [hr]; rfl,by simp [VR],.refl XA⟩
   | some a=>
    simp only at hf;cases hpa:dA a with
    | false=>rw [hpa] at hf; simp at hf
    | true=>
     rw [hpa,ai] at hf;obtain ⟨B',jL,hf⟩:=cZ.1 hf;simp at hf;obtain ⟨rfl,rfl⟩:=hf;obtain ⟨Bb,MU,lc,a',c',hl,yv,TQ,s4,rfl⟩:=hsv.r5;have hr:=GC (P:=P) t u ty e i ht hi hu (some a') fa c' x' k cK hlen w h4 (by omega);obtain ⟨w',h5,h6⟩:=HR (P:=P) (a:=⟨a.block,a.off+fa * i.size,none⟩) XA jL hl h1;have qe:(storeCells (a'.add (fa * i.size)) cK).run P w = .ok () w':=by
      by_cases hc:c' = 0
      ·have:cK = []:=by
        apply List.eq_nil_of_length_eq_zero;rw [h1.length,h3];have:k=0:=by omega
        subst this; omega
       subst this;exact h5
      ·rw [TQ hc,nM]
       simp only at h5;rw [HL];exact h5
     refine ⟨ρ,.slice (some a') (fa+k) c',w',?_,?_,h6⟩
     ·rw [hr]
      simp only [qe,nZ]
     ·simp only [VR]
      exact ⟨Bb,Ja,lc,a',c',hl,yv,TQ,s4,rfl⟩
  | false=>
   rw [Ja,aw] at hf;have Ja:tJ < fa+k:=by
    have : ¬ (fa+k<=tJ):=fun h=>by rw [Nat.ble_eq_true_of_le h] at Ja; simp at Ja
    omega
   cases hc:(Nat.ble ((fa+k+512) * i.bytes) 17592186044416&&Nat.ble (fa+k) 17592186044416&&yO A i.size tJ bs) with
   | false=>rw [hc] at hf; simp at hf
   | true=>
    rw [hc,ai] at hf;simp only [aD] at hc;obtain ⟨⟨EE,uE⟩,hex⟩:=hc;have EE:=gD EE;have uE:=gD uE;have akV:(fa+k) * i.bytes<=140737488355328:=by
     rw [Nat.add_mul] at EE; omega
    obtain ⟨new,qv,hf⟩:=dm.1 hf;obtain ⟨cK,h1,h2,h3,h4⟩:=HS (P:=P) XA.rel hxv qv hkk hn;have hdr:=pk.drew (w:=w) XA;obtain ⟨ar7,g1,g2,g3,g4⟩:=HS (P:=P) hdr.kW.rel hxv qv hkk hn;have ar8:∀ (bs' : Option Addr) (c' : Nat) (adS ab4:List Value) (bm f:Nat) (K:St),K=A\/(∃ x lo hi L,K=A.kill x lo hi L)->eK ρ adS ab4->(∀ v∈adS,scalar v=true)->adS.length=fa * i.size->
      (Builtin.firstCells i.size fa (.slice bs' fa c')).run P w.drew = .ok ab4.toArray w.drew->c' < fa+k->
      ∃ ba v' w',(Builtin.append_ #[t,u] ty #[.slice bs' fa c',x']).run P w = .ok v' w'/\VR ba (.slice (some ⟨A.next,0,none⟩) (fa+k) (fa+k)) v'/\pk base ρ A w ba (K.grow bm f (adS++new) i.size) w':=by
     intro bs' c' adS ab4 bm f K hK ho ho1 hol qe bu;have hr:=ab3 (P:=P) t u ty e i z ht hi hz hu bs' fa c' x' k ab4 ar7 hlen w qe g4 bu uE (growslice_fits bu akV);have hge:=grownCap_ge w (fa+k) c' e;have hkg:pk base ρ A w ρ K w.drew:=by
      rcases hK with rfl | ⟨x,lo,hi,L,rfl⟩
      ·exact hdr
      ·exact (agt XA x lo hi L).trans (pk.drew (agt XA x lo hi L).kW)
     have hKn:K.next=A.next:=by
      rcases hK with rfl | ⟨x,lo,hi,L,rfl⟩
      ·rfl
      ·simp
     have Rl:((ab4++ar7).toArray++Builtin.zeroCells z.cells (grownCap w (fa+k) c' e - (fa+k))).size=grownCap w (fa+k) c' e * i.size:=by
      rw [Array.size_append,amr,hzs,List.size_toArray,nY,ho.length,g1.length,hol,g3];rw [<- Nat.add_mul,<- Nat.add_mul];congr 1; omega
     have hgo:=agu (w:=w.drew) (n:=i.size) (bm:=bm) (f:=f) (c:=(ab4++ar7).toArray++Builtin.zeroCells z.cells (grownCap w (fa+k) c' e - (fa+k))) e hkg.kW (ho.append g1)
      (fun v hv=>(mJ.1 hv).elim (ho1 v) (g2 v)) (fun j v hj=>by
       rw [Array.getElem?_append_left (by have:=(dB.1 hj).1; simpa using this)];simpa using hj) (by
       rw [Rl,nY,hol,g3,<- Nat.add_mul];exact Nat.mul_le_mul_right _ hge)
     refine ⟨_,_,_,hr,?_,hkg.trans hgo⟩;simp only [VR];refine ⟨trivial,aX _,_,⟨w.heap.size,0,none⟩,grownCap w (fa+k) c' e,by rw [hKn]; exact a9.uM _ _ _,hge,fun _=>rfl,?_,rfl⟩;rw [Rl];show 0+0+grownCap w (fa+k) c' e * i.size<=grownCap w (fa+k) c' e * i.size;omega
    unfold Ld at hf;cases bs with
    | none=>
     simp only at hf;cases hs0:Nat.beq fa 0 with
     | false=>rw [hs0] at hf; simp at hf
     | true=>
      rw [hs0,ai] at hf;simp at hf;obtain ⟨rfl,rfl⟩:=hf;have hs0:=bo hs0;have:=hsv.kL;subst this;have Rm:Builtin.firstCells i.size fa (.slice none fa tJ)=pure #[]:=rfl;exact ar8 none tJ [] [] A.next 0 A (.inl rfl) .nil (by simp) (by rw [hs0]; simp) (by rw [Rm]; rfl) Ja
    | some a=>
     simp only at hf;cases hpa:dA a with
     | false=>rw [hpa] at hf; simp at hf
     | true=>
      rw [hpa,ai] at hf;have Bb:=aqO hpa;obtain ⟨_,MU,lc,a',c',hl,yv,TQ,s4,rfl⟩:=hsv.r5;obtain ⟨jc,hold,hf⟩:=dm.1 hf;obtain ⟨vY,q1,q2,q3,q4⟩:=Ba (P:=P) hdr.kW.rel hold hl;have qe:(Builtin.firstCells i.size fa (.slice (some a') fa c')).run P w.drew = .ok vY.toArray w.drew:=by
       simp only [Builtin.firstCells];by_cases hc:c' = 0
       ·have hs0:fa=0:=by omega
        subst hs0;have ar9:jc = []:=by rw [Nat.zero_mul] at q2; exact List.eq_nil_of_length_eq_zero q2
        subst ar9;rw [q1.cu,Nat.zero_mul];exact run_loadCells_list w.drew a' [] (by simp)
       ·rw [TQ hc]; exact q4
      split at hf
      ·rename_i cs ca own bV hg
       cases hez:Nat.beq ca i.size with
       | false=>rw [hez] at hf; simp at hf
       | true=>
        rw [hez,ai] at hf;have hez:=bo hez;subst hez;obtain ⟨l2,qc,ok⟩:=XA.rel.row _ _ _ _ _ hg;rw [hl] at qc; simp at qc; subst qc;have hle:lc.ca=i.size:=ok.ca;cases bV with
        | none=>
         simp only at hf;cases own with
         | false=>simp at hf
         | true=>
          simp at hf;obtain ⟨rfl,rfl⟩:=hf;have hxe:a.off+tJ * i.size=cs.length:=by
           unfold yO at hex;simp only [hg] at hex;exact bo hex
          have hends:=ok.ends rfl rfl;have hc' : c' < fa+k:=by
           have h9:c' * i.size<=tJ * i.size:=by rw [hle] at s4; omega
           have:=Nat.le_of_mul_le_mul_right h9 (by omega);omega
          exact ar8 (some a') c' jc vY A.next 0 A (.inl rfl) q1 q3 q2 qe hc'
        | some p=>
         obtain ⟨bm,f⟩:=p;simp only at hf;cases own with
         | false=>simp at hf
         | true=>
          simp at hf;obtain ⟨rfl,rfl⟩:=hf;by_cases hc' : c' < fa+k
          ·exact ar8 (some a') c' jc vY bm (f+a.off) _ (.inr ⟨_,_,_,_,rfl⟩) q1 q3 q2 qe hc'
          ·
           have eU:c'≠0:=by omega
           have ha:=TQ eU;subst ha;have hr:=GC (P:=P) t u ty e i ht hi hu (some ⟨lc.cb,lc.eX+a.off,none⟩) fa c' x' k cK hlen w h4 (by omega);have Dz:lc.eX+a.off+fa * i.size+new.length<=lc.ES:=by
            rw [h3];rw [hle] at s4;have h9:(fa+k) * i.size<=c' * i.size:=Nat.mul_le_mul_right _ (by omega);rw [Nat.add_mul] at h9;omega
           have TP:cK.length=new.length:=h1.length;obtain ⟨apM,p1,p2,p3,p4⟩:=Ba (P:=P) XA.rel hold hl;have MV:∀ (j:Nat) (v' : Value),apM[j]? = some v'->w.cell? ⟨lc.cb,lc.eX+a.off+j,none⟩=some v':=by
            intro j v' hj;have bu:j < fa * i.size:=by have:=(dB.1 hj).1; rw [p1.length,p2] at this; exact this
            have sG:=(ok.there rfl (lc.eX+a.off+j) (by omega)).1;have:=aeY (P:=P) w ⟨lc.cb,lc.eX+a.off,none⟩ (fa * i.size) apM (fun j hj=>by rw [nM]; exact (ok.there rfl (lc.eX+a.off+j) (by omega)).1) p4 j v' hj;rwa [nM] at this
           have hgo:=akU (w:=w) (jM:=a.off) (s:=fa * i.size) XA hg hl p1 p3 p2 MV h1 h2 Dz;have jL:(storeCells ((⟨lc.cb,lc.eX+a.off,none⟩:Addr).add (fa * i.size)) cK).run P w = .ok () (w.setCells lc.cb (lc.eX+a.off+fa * i.size) cK):=by
            rw [nM];exact run_storeCells_cells (P:=P) lc.cb (lc.eX+a.off+fa * i.size) cK 0 w (fun j hj=>(ok.there rfl _ (by rw [TP] at hj; omega)).1) (fun j hj=>(ok.there rfl _ (by rw [TP] at hj; omega)).2) (fun v ZY=>by
             obtain ⟨j,hj⟩:=List.getElem?_of_mem ZY;have bu:j < new.length:=by rw [<- TP]; exact (dB.1 hj).1
             obtain ⟨u,hu⟩:∃ u,new[j]? = some u:=⟨new[j],dD bu⟩
             obtain ⟨v2,h7,h8⟩:=h1.get hu;rw [hj] at h7; simp at h7; subst h7;exact h8.scalar (h2 u (ji hu)))
           refine ⟨_,.slice (some ⟨lc.cb,lc.eX+a.off,none⟩) (fa+k) c',_,by rw [hr]; simp only [jL,nZ],?_,hgo⟩;simp only [VR];refine ⟨trivial,aX _,_,_,c',a9.uM _ _ _,by omega,fun _=>rfl,?_,rfl⟩;show lc.eX+a.off+0+c' * i.size<=lc.ES;rw [hle] at s4;omega
      ·simp at hf
 ·simp at hf
theorem aqP {argTypes:Array TypeId} {t u:TypeId} (h:argTypes.toList = [t,u]):argTypes = #[t,u]:=by
 apply Array.ext';simpa using h
theorem aoy {argTypes:Array TypeId} {args:Array Operand} (ho:o.op = .call ⟨.builtin .append,args,argTypes⟩):jq P o (Rb P argTypes.toList args.toList):=by
 unfold Rb;split
 ·rename_i t u EV
  split
  ·rename_i e ht
   split
   ·rename_i i hi
    split
    ·rename_i z hz
     cases hc:(Nat.ble 1 i.size&&Nat.beq z.cells.size i.size&&Ra P u) with
     | false=>exact True.intro
     | true=>
      rw [ai];simp only [aD] at hc;obtain ⟨⟨h1,h2⟩,h3⟩:=hc;intro ρ A B base w ev da v hs he hf;have hf0:=hf;unfold pw at hf0;split at hf0
      ·rename_i bs fa tJ x e1
       have hm:=he.map;rw [e1] at hm hf;obtain ⟨s',r1,e2,hsv,hm⟩:=hm.cons_inv;obtain ⟨x',r2,e3,hxv,hm⟩:=hm.cons_inv;have:=hm.cu;subst this e3;obtain ⟨ba,v',w',h4,h5,h6⟩:=agv (ty:=o.type) ht hi hz h3 (gD h1) (bo h2) hs hsv hxv hf;refine ⟨ba,v',.value v',w',?_,rfl,h5,h6⟩;have e4:args.map da = #[s',x']:=by apply Array.ext'; simpa using e2
       have e5:=aqP EV;subst e5;simp only [execOp,ho,Sem.run_bind,resolve,Sem.run_pure,nZ,invoke,builtin,e4,h4]
      ·simp at hf0
    ·trivial
   ·trivial
  ·trivial
 ·trivial
theorem asa {argTypes:Array TypeId} {args:Array Operand} (ho:o.op = .call ⟨.builtin .copy,args,argTypes⟩):jq P o (ZO P argTypes.toList args.toList):=by
 unfold ZO;split
 ·rename_i t rest EV
  have SY:argTypes[0]? = some t:=by rw [<- Array.getElem?_toList,EV]; rfl
  split
  ·rename_i e ht
   split
   ·rename_i n hn
    cases Ps:Nat.ble 1 n with
    | false=>exact True.intro
    | true=>
     rw [ai];have Ps:1<=n:=gD Ps;intro ρ A B base w ev da v hs he hf;unfold agb at hf;split at hf
     ·rename_i bs ZN dCap x e1
      have hm:=he.map;rw [e1] at hm;obtain ⟨s',r1,e2,hsv,hm⟩:=hm.cons_inv;obtain ⟨x',r2,e3,hxv,hm⟩:=hm.cons_inv;have:=hm.cu;subst this e3;have e4:args.map da = #[s',x']:=by apply Array.ext'; simpa using e2
      obtain ⟨k,hk,hf⟩:=dm.1 hf;have hlen:=adR hxv hk;obtain ⟨new,qv,hf⟩:=dm.1 hf;obtain ⟨cK,h1,h2,h3,h4⟩:=HS (P:=P) hs.rel hxv qv (fun m h=>by rw [hk] at h; simp at h; subst h; exact Nat.min_le_left _ _) Ps;cases bs with
      | none=>
       simp at hf;obtain ⟨rfl,rfl⟩:=hf;have:=hsv.kL;subst this;refine ⟨ρ,goInt (Nat.min k ZN),.value (goInt (Nat.min k ZN)),w,?_,rfl,VR.of_flat rfl,.refl hs⟩;simp [execOp,ho,resolve,invoke,builtin,e4,Builtin.copy_,SY,bK ht,hlen,rL hn,h4]
      | some a=>
       simp only at hf;obtain ⟨B',jL,hf⟩:=cZ.1 hf;simp at hf;obtain ⟨rfl,rfl⟩:=hf;obtain ⟨Bb,MU,lc,a',c',hl,yv,TQ,s4,rfl⟩:=hsv.r5;obtain ⟨w',h5,h6⟩:=HR (P:=P) hs jL hl h1;have qe:(storeCells a' cK).run P w = .ok () w':=by
        by_cases hc:c' = 0
        ·have:cK = []:=by
          apply List.eq_nil_of_length_eq_zero;rw [h1.length,h3];have:ZN=0:=by omega
          subst this; simp
         subst this;exact h5
        ·rw [TQ hc]; exact h5
       refine ⟨ρ,goInt (Nat.min k ZN),.value (goInt (Nat.min k ZN)),w',?_,rfl,VR.of_flat rfl,h6⟩;simp [execOp,ho,resolve,invoke,builtin,e4,Builtin.copy_,SY,bK ht,hlen,rL hn,h4,qe]
     ·simp at hf
   ·trivial
  ·trivial
 ·trivial
end
end Go.aE
end
section
namespace Go.aE
open Go
section
variable {P:Program} {o:Oper}
theorem EX {ρ:a9} {A:St} {base:Nat} {w:World} {r:Nat} {es tM:List (Value×Value)} {JV:Array MapEntry} {HT:Nat} {l:Loc} (hs:zR ρ A base w) (hg:A.get r=some (.map es)) (n4:ρ r=some l)
  (hm:j7 ρ tM JV.toList):pk base ρ A w ρ (A.put r (.map tM)) { w with heap:=w.heap.setIfInBounds l.cb (.map JV HT) }:=by
 obtain ⟨l',tL,ok⟩:=hs.rel.map _ _ hg;rw [n4] at tL; simp at tL; subst tL;obtain ⟨bF,clock,sH,_⟩:=ok.sq;have bu:l.cb < w.heap.size:=(EN.1 sH).1;have Ol:dr.gJ (.map es)=true:=rfl;have hold:∀ k,k≠l.cb->(w.heap.setIfInBounds l.cb (.map JV HT))[k]? = w.heap[k]?:=fun k hk=>by
  rw [Array.getElem?_setIfInBounds_ne (Ne.symm hk)]
 have gI:(w.heap.setIfInBounds l.cb (.map JV HT)).size=w.heap.size:=by simp
 have hB:∀ x,(A.put r (.map tM)).get x=if x=r then some (.map tM) else A.get x:=fun x=>St.cn _ _ _ _;have hmd:∀ o:dr,o.gJ=true->o≠.dead:=by intro o h e; subst e; simp [dr.gJ] at h
 have agj:∀ x o l2,x≠r->A.get x=some o->o≠.dead->ρ x=some l2->Oi ρ base w l2 o->l2.cb≠l.cb:=by
  intro x o l2 hx lA hd zT lB e;cases hmo:o.gJ with
  | true=>
   obtain ⟨_,_,_,_,e1,_⟩:=hs.rel.apart x r o _ l2 l hx lA hg hmo Ol zT n4 e;simp [dr.px] at e1
  | false=>
   cases o with
   | row cs ca own bV=>
    have lB:Re ρ base w l2 cs ca own bV:=lB;have h1:own=false:=hmo;have:=lB.yu h1;have:=ok.gJ;omega
   | map _=>simp [dr.gJ] at hmo
   | iter _ _=>simp [dr.gJ] at hmo
   | dead=>exact hd rfl
   | loop _ _ _ _ _ _=>simp [dr.gJ] at hmo
 refine ⟨⟨.Rh ?_ ?_ ?_,fun b l2 h=>hs.ow b l2 h,by simpa using hs.size,hs.SX⟩,fun _ _=>rfl,⟨rfl,rfl,rfl,Nat.le_of_eq gI.symm,fun k hk hn=>hold k (fun e=>hn ⟨r,_,l,hg,Ol,n4,e.symm⟩)⟩,aX _,Nat.min_le_left _ _,fun x hx hxl=>?_,?_⟩
 ·intro x o lA hd
  rw [hB] at lA;split at lA
  ·rename_i e; subst e; simp at lA; subst lA
   refine ⟨l,n4,ok.gJ,JV,HT,?_,hm⟩;show (w.heap.setIfInBounds l.cb (.map JV HT))[l.cb]? = _;rw [Array.getElem?_setIfInBounds_self_of_lt bu]
  ·rename_i e
   obtain ⟨l2,zT,lB⟩:=hs.rel.obj lA hd;exact ⟨l2,zT,lB.pB (a9.le_refl _) (hold _ (agj x o l2 e lA hd zT lB)) (Nat.le_of_eq gI.symm)⟩
 ·have ZW:∀ x o,(A.put r (.map tM)).get x=some o->o.gJ=true->∃ o',A.get x=some o'/\o'.gJ=true/\o'.px=o.px:=by
   intro x o hx hm;rw [hB] at hx;split at hx
   ·rename_i e; subst e; simp at hx; subst hx; exact ⟨_,hg,rfl,rfl⟩
   ·exact ⟨o,hx,hm,rfl⟩
  intro b1 b2 o1 o2 l1 l2 eU g1 g2 m1 m2 r1 r2 YA;obtain ⟨p1,q1,n1,k1⟩:=ZW _ _ g1 m1;obtain ⟨p2,q2,n2,k2⟩:=ZW _ _ g2 m2;rw [<- k1,<- k2];exact hs.rel.apart b1 b2 p1 p2 l1 l2 eU q1 q2 n1 n2 r1 r2 YA
 ·intro x o bm f lA hk
  rw [hB] at lA;split at lA
  ·rename_i e; subst e; simp at lA; subst lA; simp [dr.px] at hk
  ·exact hs.rel.bO x o bm f lA hk
 ·rw [St.agh] at hxl
  have:Nat.min A.low r<=r:=Nat.min_le_right _ _;rw [hB,aB (by omega)]
 ·rintro k hk ⟨x,o,l2,lA,hm,zT,rfl⟩
  rw [hB] at lA;split at lA
  ·rename_i e; subst e
   rw [n4] at zT; simp at zT; subst zT;exact ⟨x,_,l,hg,Ol,n4,rfl⟩
  ·exact ⟨x,o,l2,lA,hm,zT,rfl⟩
theorem j7.length {ρ:a9} : ∀ {es:List (Value×Value)} {l:List MapEntry},j7 ρ es l->l.length=es.length
 | [],l,h=>by simp only [j7] at h; subst h; rfl
 | (k,v)::es,l,h=>by
  simp only [j7] at h;obtain ⟨e,r,rfl,_,_,h⟩:=h;simp [j7.length h]
theorem j7.get {ρ:a9} : ∀ {es:List (Value×Value)} {l:List MapEntry},j7 ρ es l->∀ (i:Nat) (k v:Value),es[i]? = some (k,v)->∃ e,l[i]? = some e/\VR ρ k e.key/\VR ρ v e.val
 | [],l,h,i,k,v,hi=>by simp at hi
 | (k,v)::es,l,h,i,k',v',hi=>by
  simp only [j7] at h;obtain ⟨e,r,rfl,h1,h2,h⟩:=h;cases i with
  | zero=>simp at hi; obtain ⟨rfl,rfl⟩:=hi; exact ⟨e,rfl,h1,h2⟩
  | succ i=>simp at hi; simpa using j7.get h i k' v' hi
theorem j7.append {ρ:a9} : ∀ {es:List (Value×Value)} {l:List MapEntry} {k v:Value} {e:MapEntry},j7 ρ es l->VR ρ k e.key->VR ρ v e.val->j7 ρ (es++[(k,v)]) (l++[e])
 | [],l,k,v,e,h,h1,h2=>by
  simp only [j7] at h; subst h;simp only [List.nil_append,j7];exact ⟨e,[],rfl,h1,h2,rfl⟩
 | (k0,v0)::es,l,k,v,e,h,h1,h2=>by
  simp only [j7] at h;obtain ⟨e0,r,rfl,h3,h4,h⟩:=h;simp only [List.cons_append,j7];exact ⟨e0,r++[e],rfl,h3,h4,j7.append h h1 h2⟩
theorem j7.modify {ρ:a9} : ∀ {es:List (Value×Value)} {l:List MapEntry} {k v:Value} (f:MapEntry->MapEntry) (i:Nat),j7 ρ es l->(∀ e,VR ρ k (f e).key/\VR ρ v (f e).val)->j7 ρ (es.set i (k,v)) (l.modify i f)
 | [],l,k,v,f,i,h,_=>by simp only [j7] at h; subst h; simp [j7]
 | (k0,v0)::es,l,k,v,f,i,h,hf=>by
  simp only [j7] at h;obtain ⟨e0,r,rfl,h3,h4,h⟩:=h;cases i with
  | zero=>simp only [List.set_cons_zero,List.modify_zero_cons,j7]; exact ⟨_,r,rfl,(hf e0).1,(hf e0).2,h⟩
  | succ i=>simp only [List.set_cons_succ,List.modify_succ_cons,j7]; exact ⟨e0,_,rfl,h3,h4,j7.modify f i h hf⟩
theorem j7.erase {ρ:a9} : ∀ {es:List (Value×Value)} {l:List MapEntry} (i:Nat),j7 ρ es l->j7 ρ (es.eraseIdx i) (l.eraseIdx i)
 | [],l,i,h=>by simp only [j7] at h; subst h; simp [j7]
 | (k0,v0)::es,l,i,h=>by
  simp only [j7] at h;obtain ⟨e0,r,rfl,h3,h4,h⟩:=h;cases i with
  | zero=>simpa using h
  | succ i=>simp only [List.eraseIdx_cons_succ,j7]; exact ⟨e0,_,rfl,h3,h4,j7.erase i h⟩
def FR (ρ:a9):Option (Nat×Value)->Option (Nat×Value)->Prop
 | none,r=>r=none
 | some (i,v),r=>∃ v',r=some (i,v')/\VR ρ v v'
theorem Z1 {ρ:a9} (d:TypeDesc) (k:Value):∀ (es:List (Value×Value)) (l:List MapEntry) (i:Nat),j7 ρ es l->yP es=true->
  (Gz d k es i=none->Instr.findNow d k l i=none)/\∀ r,Gz d k es i=some r->∃ r',Instr.findNow d k l i=some r'/\FR ρ r r'
 | [],l,i,h,_=>by
  simp only [j7] at h; subst h;exact ⟨fun h=>by simp [Gz] at h,fun r hr=>by simp [Gz] at hr; subst hr; exact ⟨none,rfl,rfl⟩⟩
 | (k0,v0)::es,l,i,h,hf=>by
  simp only [j7] at h;obtain ⟨e0,r0,rfl,h3,h4,h⟩:=h;simp only [yP,aD] at hf;have hk:e0.key=k0:=h3.sn hf.1;have ih:=Z1 d k es r0 (i+1) h hf.2;simp only [Gz,Instr.findNow,hk];cases hsn:Instr.sameNow d k k0 with
  | none=>exact ⟨fun _=>rfl,fun r hr=>by simp at hr⟩
  | some b=>
   cases b with
   | true=>exact ⟨fun h=>by simp at h,fun r hr=>by simp at hr; subst hr; exact ⟨_,rfl,_,rfl,h4⟩⟩
   | false=>exact ih
theorem Z2 {ρ:a9} (kt:TypeId) (k:Value):∀ (es:List (Value×Value)) (l:List MapEntry) (i:Nat),j7 ρ es l->yP es=true->
  ∀ r,Pj P kt k es i=some r->∃ r',(∀ w,(Instr.findAsking kt k l i).run P w = .ok r' w)/\FR ρ r r'
 | [],l,i,h,_=>by
  simp only [j7] at h; subst h;intro r hr;simp [Pj] at hr; subst hr; exact ⟨none,fun w=>rfl,rfl⟩
 | (k0,v0)::es,l,i,h,hf=>by
  simp only [j7] at h;obtain ⟨e0,r0,rfl,h3,h4,h⟩:=h;simp only [yP,aD] at hf;have hk:e0.key=k0:=h3.sn hf.1;intro r hr;simp only [Pj] at hr;split at hr
  ·rename_i he
   simp at hr; subst hr;refine ⟨some (i,e0.val),fun w=>?_,_,rfl,h4⟩;simp [Instr.findAsking,hk,ju he w]
  ·rename_i he
   obtain ⟨r',h5,h6⟩:=Z2 kt k es r0 (i+1) h hf.2 r hr;refine ⟨r',fun w=>?_,h6⟩;simp only [Instr.findAsking,hk,Sem.run_bind,ju he w,nZ];exact h5 w
  ·simp at hr
theorem Rn {ρ:a9} {kt:TypeId} {d:TypeDesc} {k:Value} {es:List (Value×Value)} {l:List MapEntry} {r:Option (Nat×Value)} (hd:P.underlying kt=some d) (h:j7 ρ es l) (hf:yP es=true) (hr:agc P kt d k es=some r) :
  ∃ r',(∀ w,(Instr.findKey kt k l).run P w = .ok r' w)/\FR ρ r r':=by
 have hn:=Z1 d k es l 0 h hf;unfold agc at hr;split at hr
 ·rename_i q hq
  simp at hr; subst hr;obtain ⟨r',h1,h2⟩:=hn.2 _ hq;refine ⟨r',fun w=>?_,h2⟩;simp only [Instr.findKey,Sem.run_bind,bK hd,nZ,h1];rfl
 ·rename_i hq
  have h1:=hn.1 hq;obtain ⟨r',h2,h3⟩:=Z2 kt k es l 0 h hf r hr;refine ⟨r',fun w=>?_,h3⟩;simp only [Instr.findKey,Sem.run_bind,bK hd,nZ,h1];exact h2 w
theorem Kl {ρ:a9} {kt:TypeId} {b:Bool} {k k' : Value} {es:List (Value×Value)} (h:Od P kt b k es=true) (hk:VR ρ k k'):k' = k/\flat k=true/\yP es=true/\∀ w,(Instr.checkKey b 10000 kt k).run P w = .ok () w:=by
 unfold Od at h;simp only [aD] at h;obtain ⟨⟨h1,h2⟩,h3⟩:=h;cases hp:dM P (Instr.checkKey b 10000 kt k) with
 | none=>rw [hp] at h3; simp at h3
 | some u=>exact ⟨hk.sn h1,h1,h2,fun w=>ju hp w⟩
theorem j7.isEmpty {ρ:a9} {es:List (Value×Value)} {l:Array MapEntry} (h:j7 ρ es l.toList):l.isEmpty=es.isEmpty:=by
 have:=h.length;cases es with
 | nil=>simp at this; simpa using this
 | cons e es=>simp at this; simp; intro h; rw [h] at this; simp at this
theorem VR.Uj {ρ:a9} {r:Nat} {v:Value} (h:VR ρ (.map (some r)) v):∃ l,ρ r=some l/\v = .map (some l.cb):=by simpa only [VR] using h
theorem VR.Km {ρ:a9} {v:Value} (h:VR ρ (.map none) v):v = .map none:=by simpa only [VR] using h
theorem VR.ajL {ρ:a9} {ok b:Bool} {v v' : Value} (h:VR ρ v v'):VR ρ (ajL ok v b) (if ok then .tuple #[v',.bool b] else v'):=by
 cases ok with
 | true=>exact VR.mkTuple (.cons h (.cons (VR.of_flat rfl) .nil))
 | false=>exact h
theorem ams {t:TypeId} {r:Option Operand} (ho:o.op = .makeMap t r):jq P o (Ue P t r):=by
 unfold Ue;split
 ·rename_i kt et hu
  intro ρ ev da obj mk he hf;have mi:obj = .map []/\mk=fun n=>.map (some n):=by
   unfold abY at hf;split at hf
   ·simp at hf; exact ⟨hf.1.symm,hf.2.symm⟩
   ·simp at hf; exact ⟨hf.1.symm,hf.2.symm⟩
   ·simp at hf
  obtain ⟨rfl,rfl⟩:=mi;refine ⟨.map #[] 0,fun n=>.map (some n),rfl,fun w=>?_,fun ba n cb h=>by simp only [VR]; exact ⟨_,h,rfl⟩⟩;cases r with
  | none=>simp [execOp,ho,Instr.makeMap]
  | some x=>
   have hx:=he x (by simp [hH]);unfold abY at hf;simp only [hH,List.map] at hf;split at hf
   ·rename_i e; simp at e
   ·rename_i k n e
    simp at e;rw [e] at hx;simp [execOp,ho,Instr.makeMap,hx.dP,bK hu,asInt,asIntOf]
   ·simp at hf
 ·trivial
theorem Pv {ρ:a9} {kt et:TypeId} {d:TypeDesc} {z v k k' : Value} {ok:Bool} {es:List (Value×Value)} {l:Array MapEntry} (hd:P.underlying kt=some d) (hz:sF P et=some z) (hzf:flat z=true)
  (hm:j7 ρ es l.toList) (hk:VR ρ k k') (h:Rc P kt d z ok k es=some v) :
  ∃ v',VR ρ v v'/\∀ w,(do
   Instr.checkKey l.isEmpty 10000 kt k'
   let (v,b) <- match <- Instr.findKey kt k' l.toList with
    | some (_,v)=>pure (v,true)
    | none=>pure (<- zeroValue et,false)
   pure (if ok then Value.tuple #[v,.bool b] else v):Sem Value).run P w = .ok v' w:=by
 unfold Rc at h;cases hc:Od P kt es.isEmpty k es with
 | false=>rw [hc] at h; simp at h
 | true=>
  rw [hc,ai] at h;obtain ⟨rfl,_,hkf,hch⟩:=Kl hc hk;obtain ⟨r,hr,rfl⟩:=cZ.1 h;obtain ⟨r',h1,h2⟩:=Rn hd hm hkf hr;rw [hm.isEmpty];cases r with
  | none=>
   have h2:r' = none:=h2;subst h2;refine ⟨_,VR.ajL (VR.of_flat hzf),fun w=>?_⟩;simp [hch,h1,Wr hz]
  | some p=>
   obtain ⟨i,u⟩:=p;obtain ⟨u',rfl,h3⟩:=h2;refine ⟨_,VR.ajL h3,fun w=>?_⟩;simp [hch,h1]
theorem aoz {t:TypeId} {x ix:Operand} {ok:Bool} (ho:o.op = .lookup t x ix ok):jq P o (Yv P t x ix ok):=by
 unfold Yv;split
 ·rename_i kt et hu
  split
  ·rename_i d z hd hz
   cases hzf:flat z with
   | false=>exact True.intro
   | true=>
    rw [ai];intro ρ A base w ev da v hs he hf;have hx:=he x (by simp);have hk:=he ix (by simp);simp only [List.map] at hf;unfold ami at hf;split at hf
    ·rename_i k e
     simp at e;obtain ⟨e1,e2⟩:=e;rw [e1] at hx;have hx:=hx.Km;rw [<- e2] at hf;obtain ⟨v',h1,h2⟩:=Pv (ρ:=ρ) (l:=#[]) hd hz hzf (by simp [j7]) hk hf;refine ⟨v',h1,?_⟩;have h2:=h2 w;simp only [execOp,ho,Instr.lookup,Sem.run_bind,bK hu,nZ,hx,Sem.run_pure] at h2 ⊢;exact congrArg (fun r:Result Value=>r.andThen fun a w'=>Result.ok (Next.value a) w') h2
    ·rename_i r k e
     simp at e;obtain ⟨e1,e2⟩:=e;rw [e1] at hx;rw [<- e2] at hf;obtain ⟨lc,hl,hx⟩:=hx.Uj;split at hf
     ·rename_i es hg
      obtain ⟨l2,qc,lB⟩:=hs.map _ _ hg;rw [hl] at qc; simp at qc; subst qc;obtain ⟨bF,clock,sH,hm⟩:=lB.sq;obtain ⟨v',h1,h2⟩:=Pv (l:=bF) hd hz hzf hm hk hf;refine ⟨v',h1,?_⟩;have h2:=h2 w;simp only [execOp,ho,Instr.lookup,Sem.run_bind,bK hu,nZ,hx,MapKept.run_getObj_map sH,Sem.run_pure] at h2 ⊢;exact congrArg (fun r:Result Value=>r.andThen fun a w'=>Result.ok (Next.value a) w') h2
     ·simp at hf
    ·simp at hf
  ·trivial
 ·trivial
theorem Z3 {ρ:a9} {A B:St} {base:Nat} {w:World} {t kt et:TypeId} {d:TypeDesc} {m k x m' k' x' v:Value} (hu:P.underlying t=some (.map kt et)) (hd:P.underlying kt=some d) (hs:zR ρ A base w)
  (hm:VR ρ m m') (hk:VR ρ k k') (hx:VR ρ x x') (h:Ud P kt d A [m,k,x] = some (v,B)):v=undef/\∃ w',(Instr.mapUpdate t m' k' x').run P w = .ok () w'/\pk base ρ A w ρ B w':=by
 unfold Ud at h;split at h
 ·rename_i r k0 x0 e
  simp at e;obtain ⟨rfl,rfl,rfl⟩:=e;obtain ⟨lc,hl,rfl⟩:=hm.Uj;split at h
  ·rename_i es hg
   obtain ⟨l2,qc,lB⟩:=hs.rel.map _ _ hg;rw [hl] at qc; simp at qc; subst qc;obtain ⟨bF,clock,sH,hmr⟩:=lB.sq;cases hc:Od P kt false k es with
   | false=>rw [hc] at h; simp at h
   | true=>
    rw [hc,ai] at h;obtain ⟨rfl,hkf0,hkf,hch⟩:=Kl hc hk;obtain ⟨q,hq,h⟩:=dm.1 h;obtain ⟨r',h1,h2⟩:=Rn hd hmr hkf hq;cases q with
    | none=>
     have h2:r' = none:=h2;subst h2;simp at h;obtain ⟨rfl,rfl⟩:=h;refine ⟨rfl,_,?_,EX (JV:=bF.push { key:=k',val:=x',born:=clock }) (HT:=clock+1) hs hg hl (by rw [Array.toList_push]; exact hmr.append hk hx)⟩;simp [Instr.mapUpdate,bK hu,MapKept.run_getObj_map sH,hch,h1,MapKept.run_setObj_map _ sH]
    | some p=>
     obtain ⟨i,u⟩:=p;obtain ⟨u',rfl,h3⟩:=h2;simp only at h;cases hsb:Instr.sameBits 10000 (akM es i k') k' with
     | false=>rw [hsb] at h; simp at h
     | true=>
      rw [hsb] at h;simp at h;obtain ⟨rfl,rfl⟩:=h;have hold:((bF[i]?).map (·.key)).getD k' = akM es i k':=by
       unfold akM;cases hi:es[i]? with
       | none=>
        have:bF[i]? = none:=by
         rw [Array.getElem?_eq_none_iff];have:=afH.1 hi;rw [<- Array.length_toList,hmr.length]; exact this
        rw [this]; rfl
       | some p=>
        obtain ⟨k1,v1⟩:=p;obtain ⟨e,h5,h6,h7⟩:=hmr.get i k1 v1 hi;have h5' : bF[i]? = some e:=by simpa using h5
        have Pt:flat k1=true:=by
         have key:∀ (es:List (Value×Value)) (i:Nat),yP es=true->es[i]? = some (k1,v1)->flat k1=true:=by
          intro es
          induction es with
          | nil=>intro i _ h; simp at h
          | cons e es ih=>
           intro i hk h;simp only [yP,aD] at hk;cases i with
           | zero=>simp at h; subst h; exact hk.1
           | succ i=>exact ih i hk.2 (by simpa using h)
         exact key es i hkf hi
        rw [h5'];simp only [Option.map_some,bc];exact h6.sn Pt
      refine ⟨rfl,_,?_,EX (JV:=bF.modify i fun e=>{ e with key:=k',val:=x' }) (HT:=clock) hs hg hl (by rw [Array.toList_modify]; exact hmr.modify _ i fun e=>⟨hk,hx⟩)⟩;simp [Instr.mapUpdate,bK hu,MapKept.run_getObj_map sH,hch,h1,hold,Instr.keyThatStays,hsb,MapKept.run_setObj_map _ sH]
  ·simp at h
 ·simp at h
theorem XB {t:TypeId} {m k x:Operand} (ho:o.op = .mapUpdate t m k x\/o.op = .insert t m k x):jq P o (HO P t m k x):=by
 unfold HO;split
 ·rename_i kt et hu
  split
  ·rename_i d hd
   intro ρ A B base w ev da v hs he hf;simp only [List.map] at hf;obtain ⟨rfl,w',h1,h2⟩:=Z3 hu hd hs (he m (by simp)) (he k (by simp)) (he x (by simp)) hf;refine ⟨ρ,undef,.skip,w',?_,rfl,VR.of_flat (by simp [undef,flat,Q0,zO]),h2⟩;rcases ho with ho | ho <;> simp [execOp,ho,h1]
  ·trivial
 ·trivial
theorem zU:flat ni=true:=rfl
theorem aoA {argTypes:Array TypeId} {args:Array Operand} (ho:o.op = .call ⟨.builtin .delete,args,argTypes⟩):jq P o (Yw P argTypes.toList args.toList):=by
 unfold Yw;split
 ·rename_i t rest EV
  have SY:argTypes[0]? = some t:=by rw [<- Array.getElem?_toList,EV]; rfl
  split
  ·rename_i kt et hu
   split
   ·rename_i d hd
    intro ρ A B base w ev da v hs he hf;have hm:=he.map;unfold amj at hf;split at hf
    ·rename_i k e1
     rw [e1] at hm;obtain ⟨m',r1,e2,hmv,hm⟩:=hm.cons_inv;obtain ⟨k',r2,e3,hkv,hm⟩:=hm.cons_inv;have:=hm.cu;subst this e3;have e4:args.map da = #[m',k']:=by apply Array.ext'; simpa using e2
     have:=hmv.Km;subst this;cases hc:Od P kt true k [] with
     | false=>rw [hc] at hf; simp at hf
     | true=>
      rw [hc] at hf;simp at hf;obtain ⟨rfl,rfl⟩:=hf;obtain ⟨rfl,_,hkf,hch⟩:=Kl hc hkv;refine ⟨ρ,ni,.value ni,w,?_,rfl,VR.of_flat zU,.refl hs⟩;simp [execOp,ho,resolve,invoke,builtin,e4,Builtin.delete_,SY,bK hu,hch,ni]
    ·rename_i r k e1
     rw [e1] at hm;obtain ⟨m',r1,e2,hmv,hm⟩:=hm.cons_inv;obtain ⟨k',r2,e3,hkv,hm⟩:=hm.cons_inv;have:=hm.cu;subst this e3;have e4:args.map da = #[m',k']:=by apply Array.ext'; simpa using e2
     obtain ⟨lc,hl,rfl⟩:=hmv.Uj;split at hf
     ·rename_i es hg
      obtain ⟨l2,qc,lB⟩:=hs.rel.map _ _ hg;rw [hl] at qc; simp at qc; subst qc;obtain ⟨bF,clock,sH,hmr⟩:=lB.sq;cases hc:Od P kt es.isEmpty k es with
      | false=>rw [hc] at hf; simp at hf
      | true=>
       rw [hc,ai] at hf;obtain ⟨rfl,_,hkf,hch⟩:=Kl hc hkv;obtain ⟨q,hq,Pw⟩:=cZ.1 hf;obtain ⟨r',h1,h2⟩:=Rn hd hmr hkf hq;rw [<- hmr.isEmpty] at hch;cases q with
       | none=>
        have h2:r' = none:=h2;subst h2;simp at Pw;obtain ⟨rfl,rfl⟩:=Pw;refine ⟨ρ,ni,.value ni,_,?_,rfl,VR.of_flat zU,EX (JV:=bF) (HT:=clock) hs hg hl hmr⟩;simp [execOp,ho,resolve,invoke,builtin,e4,Builtin.delete_,SY,bK hu,MapKept.run_getObj_map sH,hch,h1,MapKept.run_setObj_map _ sH,ni]
       | some p=>
        obtain ⟨i,u⟩:=p;obtain ⟨u',rfl,h3⟩:=h2;simp at Pw;obtain ⟨rfl,rfl⟩:=Pw;refine ⟨ρ,ni,.value ni,_,?_,rfl,VR.of_flat zU,EX (JV:=bF.eraseIdxIfInBounds i) (HT:=clock) hs hg hl (by rw [Array.toList_eraseIdxIfInBounds]; exact hmr.erase i)⟩;simp [execOp,ho,resolve,invoke,builtin,e4,Builtin.delete_,SY,bK hu,MapKept.run_getObj_map sH,hch,h1,MapKept.run_setObj_map _ sH,ni]
     ·simp at hf
    ·simp at hf
   ·trivial
  ·trivial
 ·trivial
theorem aqQ {argTypes:Array TypeId} {args:Array Operand} (ho:o.op = .call ⟨.builtin .clear,args,argTypes⟩):jq P o (abZ P argTypes.toList args.toList):=by
 unfold abZ;split
 ·rename_i t EV
  have SY:argTypes[0]? = some t:=by rw [<- Array.getElem?_toList,EV]; rfl
  split
  ·rename_i kt et hu
   intro ρ A B base w ev da v hs he hf;have hm:=he.map;unfold agd at hf;split at hf
   ·rename_i e1
    simp at hf;obtain ⟨rfl,rfl⟩:=hf;rw [e1] at hm;obtain ⟨m',r1,e2,hmv,hm⟩:=hm.cons_inv;have:=hm.cu;subst this;have e4:args.map da = #[m']:=by apply Array.ext'; simpa using e2
    have:=hmv.Km;subst this;refine ⟨ρ,ni,.value ni,w,?_,rfl,VR.of_flat zU,.refl hs⟩;simp [execOp,ho,resolve,invoke,builtin,e4,Builtin.clear_,SY,bK hu,ni]
   ·rename_i r e1
    rw [e1] at hm;obtain ⟨m',r1,e2,hmv,hm⟩:=hm.cons_inv;have:=hm.cu;subst this;have e4:args.map da = #[m']:=by apply Array.ext'; simpa using e2
    obtain ⟨lc,hl,rfl⟩:=hmv.Uj;split at hf
    ·rename_i es hg
     simp at hf;obtain ⟨rfl,rfl⟩:=hf;obtain ⟨l2,qc,lB⟩:=hs.rel.map _ _ hg;rw [hl] at qc; simp at qc; subst qc;obtain ⟨bF,clock,sH,hmr⟩:=lB.sq;refine ⟨ρ,ni,.value ni,_,?_,rfl,VR.of_flat zU,EX (JV:=#[]) (HT:=clock) hs hg hl rfl⟩;simp [execOp,ho,resolve,invoke,builtin,e4,Builtin.clear_,SY,bK hu,MapKept.run_getObj_map sH,MapKept.run_setObj_map _ sH,ni]
    ·simp at hf
   ·simp at hf
  ·rename_i e hu
   split
   ·rename_i z hz
    cases hzc:(flat z&&Nat.ble 1 z.cells.size) with
    | false=>exact True.intro
    | true=>
     rw [ai];obtain ⟨Pr,I9⟩:=Bool.and_eq_true_iff.1 hzc;have I9:=gD I9;intro ρ A B base w ev da v hs he hf;have hm:=he.map;unfold ajM at hf;split at hf
     ·rename_i n c e1
      simp at hf;obtain ⟨rfl,rfl⟩:=hf;rw [e1] at hm;obtain ⟨m',r1,e2,hmv,hm⟩:=hm.cons_inv;have:=hm.cu;subst this;have e4:args.map da = #[m']:=by apply Array.ext'; simpa using e2
      have:=hmv.kL;subst this;refine ⟨ρ,ni,.value ni,w,?_,rfl,VR.of_flat zU,.refl hs⟩;simp [execOp,ho,resolve,invoke,builtin,e4,Builtin.clear_,SY,bK hu,ni]
     ·rename_i a n c e1
      rw [e1] at hm;obtain ⟨m',r1,e2,hmv,hm⟩:=hm.cons_inv;have:=hm.cu;subst this;have e4:args.map da = #[m']:=by apply Array.ext'; simpa using e2
      obtain ⟨Bb,MU,lc,a',c',hl,yv,TQ,s4,rfl⟩:=hmv.r5;cases hn:Nat.beq n 0 with
      | true=>
       rw [hn] at hf;simp at hf;obtain ⟨rfl,rfl⟩:=hf;have:=bo hn;subst this;refine ⟨ρ,ni,.value ni,w,?_,rfl,VR.of_flat zU,.refl hs⟩;simp [execOp,ho,resolve,invoke,builtin,e4,Builtin.clear_,SY,bK hu,ni]
      | false=>
       rw [hn,aw] at hf;have hn0:=Nat.ne_of_beq_eq_false hn;obtain ⟨B',jL,hf⟩:=cZ.1 hf;simp at hf;obtain ⟨rfl,rfl⟩:=hf;obtain ⟨w',h5,h6⟩:=HR (P:=P) hs jL hl ((M8 Pr).repeat n);have:=TQ (by omega);subst this;have e5:Builtin.zeroCells z.cells n=⟨ia z.cells.toList n⟩:=YC z.cells n I9;refine ⟨ρ,ni,.value ni,w',?_,rfl,VR.of_flat zU,h6⟩;obtain ⟨m,rfl⟩:=Nat.exists_eq_succ_of_ne_zero hn0;simp [execOp,ho,resolve,invoke,builtin,e4,Builtin.clear_,SY,bK hu,Wr hz,e5,h5,ni]
     ·simp at hf
   ·trivial
  ·trivial
 ·trivial
theorem aug {argTypes:Array TypeId} {args:Array Operand} (ho:o.op = .call ⟨.builtin .len,args,argTypes⟩):jq P o (afM P argTypes.toList args.toList):=by
 unfold afM;split
 ·rename_i t et
  have EV:argTypes[0]? = some t:=by rw [<- Array.getElem?_toList,et]; rfl
  split
  ·rename_i e hu; exact aqM ho EV hu
  ·rename_i hu; exact aox ho EV hu
  ·rename_i kt et' hu
   intro ρ A base w ev da v hs he hf;have hm:=he.map;unfold amk at hf;split at hf
   ·rename_i e1
    rw [e1] at hm;obtain ⟨y,ys,e2,h1,h2⟩:=hm.cons_inv;have:=h2.cu;subst this;simp at hf; subst hf;have:=h1.Km;subst this;refine ⟨_,VR.of_flat rfl,?_⟩;have e3:(args.map da)[0]? = some (.map none):=by rw [rz,e2]; rfl
    simp [execOp,ho,resolve,invoke,builtin,Builtin.len_,EV,e3,bK hu,goInt]
   ·rename_i r e1
    rw [e1] at hm;obtain ⟨y,ys,e2,h1,h2⟩:=hm.cons_inv;have:=h2.cu;subst this;obtain ⟨lc,hl,rfl⟩:=h1.Uj;split at hf
    ·rename_i es hg
     simp at hf; subst hf;obtain ⟨l2,qc,lB⟩:=hs.map _ _ hg;rw [hl] at qc; simp at qc; subst qc;obtain ⟨bF,clock,sH,hmr⟩:=lB.sq;refine ⟨_,VR.of_flat rfl,?_⟩;have e3:(args.map da)[0]? = some (.map (some lc.cb)):=by rw [rz,e2]; rfl
     have gI:bF.size=es.length:=by rw [<- Array.length_toList,hmr.length]
     simp [execOp,ho,resolve,invoke,builtin,Builtin.len_,EV,e3,bK hu,goInt,MapKept.run_getObj_map sH,gI]
    ·simp at hf
   ·simp at hf
  ·trivial
 ·trivial
end
end Go.aE
end
section
namespace Go.aE
open Go
section
variable {P:Program} {o:Oper}
theorem akW {l:List UInt8} : ∀ {cs:List Value},M4 cs=some l->cs=nI l:=by
 intro cs
 induction cs generalizing l with
 | nil=>intro h; simp [M4] at h; subst h; rfl
 | cons c cs ih=>
  intro h;cases c with
  | int k n=>
   cases k <;> cases n <;> simp only [M4] at h <;> try (simp at h; done)
   rename_i m;cases hb:Nat.blt m 256 with
   | false=>rw [hb] at h; simp at h
   | true=>
    rw [hb,ai] at h;obtain ⟨r,hr,rfl⟩:=cZ.1 h;rw [bX] at hb;rw [ih hr];simp only [nI,List.map_cons,List.cons.injEq,and_true];have:(UInt8.ofNat m).toNat=m:=by simp; omega
    rw [this];rfl
  | _=>simp [M4] at h
theorem ai0 {ρ:a9} (l:List UInt8):eK ρ (nI l) (nI l):=by
 induction l with
 | nil=>exact .nil
 | cons x l ih=>exact .cons (by simp [VR]) ih
theorem Uk:∀ (l:List UInt8),zO (nI l)=true
 | []=>rfl
 | x::l=>by show (true&&zO (nI l))=true; rw [Uk l]; rfl
theorem agw {e:TypeId} (h:isByte P e=true):P.underlying e=some (.int .u8):=by
 unfold isByte at h;split at h
 ·rename_i h'; exact h'
 ·simp at h
theorem aeZ {ρ:a9} {A:St} {base:Nat} {w:World} {cs ck:List Value} {c:Array Value} {n bm f:Nat} {fr:Nat×Nat} (T:TypeId) (hn1:n=1) (hs:zR ρ A base w) (hc:eK ρ cs ck) (h1:∀ v∈cs,scalar v=true)
  (ar6:∀ (j:Nat) (v:Value),ck[j]? = some v->c[j]? = some v) (gI:cs.length<=c.size) (CO:c.size<=fr.1) :
  pk base ρ A w (ρ.set A.next ⟨w.heap.size,0,c.size,n⟩) (A.grow bm f cs n) (w.alloc (.cells c T fr)):=by
 refine Lh (o:=.row cs n true (some (bm,f))) hs (fun x=>Pu _ _ _ _ _ _) (fun g x h=>?_) (fun g f' h=>?_) (by simp [St.grow]) (by simp [St.grow]) (fun x hx _=>by rw [Pu,aB (by omega)]) rfl ?_
 ·rw [CP]; split
  ·rename_i e; subst e; simp [h]
  ·exact h
 ·simp [dr.px] at h; rw [CP,h.1]; simp
 ·refine ⟨fun i v hi=>?_,fun h=>by simp at h,fun _=>hs.size,fun _ j hj=>?_,by simpa using gI,fun _ h=>by simp at h,rfl,by simp,fun _ h=>absurd hn1 h⟩
  ·obtain ⟨v',h2,h3⟩:=hc.get hi
   refine ⟨v',?_,h3.mono (hs.Rg _),h1 v (ji hi)⟩;rw [bk,World.cell?_alloc_mark];exact ar6 i v' h2
  ·simp only at hj ⊢
   rw [World.cell?_alloc_mark];refine ⟨?_,?_⟩
   ·rw [Array.getElem?_eq_getElem (by omega)]
    rfl
   ·have:(w.alloc (.cells c T fr)).heap[w.heap.size]? = some (.cells c T fr):=by
     show (w.heap.push (.cells c T fr))[w.heap.size]? = _;simp
    simp only [World.frozen?,this];have fw : ¬ (fr.1<=j):=by omega
    simp [fw]
theorem ab5 {ρ:a9} {A:St} {base:Nat} {w:World} {src dst e:TypeId} {x x' v:Value} (hs:Rel ρ A.get A.members base w) (h1:P.underlying src=some (.slice e)) (h2:P.underlying dst=some .string) (he:P.underlying e=some (.int .u8))
  (hx:VR ρ x x') (h:Le A [x] = some v):VR ρ v v/\(convert src dst x').run P w = .ok v w:=by
 unfold Le at h;split at h
 ·rename_i n c e1
  simp at e1; subst e1;simp at h; subst h;have:=hx.kL;subst this;refine ⟨VR.of_flat rfl,?_⟩;rw [run_convert_bytes_string w src dst e none n c h1 he h2];rfl
 ·rename_i a n c e1
  simp at e1; subst e1;obtain ⟨l,hl,rfl⟩:=cZ.1 h;obtain ⟨cs,Ri,hb⟩:=dm.1 hl;have:=akW hb;subst this;obtain ⟨Bb,MU,lc,a',c',n4,yv,TQ,s4,rfl⟩:=hx.r5;obtain ⟨ck,q1,q2,q3,q4⟩:=Ba (P:=P) hs Ri n4;have asb:ck=nI l:=q1.sn (Uk l);subst asb;have hlen:l.length=n:=by simpa [nI] using q2
  refine ⟨VR.of_flat rfl,?_⟩;rw [run_convert_bytes_string w src dst e (some a') n c' h1 he h2];have Jb:(loadCells a' n).run P w = .ok (nI l).toArray w:=by
   by_cases hc:c' = 0
   ·have hn0:n=0:=by omega
    subst hn0;have:l = []:=List.eq_nil_of_length_eq_zero hlen;subst this;exact run_loadCells_list w a' [] (by simp)
   ·rw [TQ hc]; exact q4
  have uE:nI l=(l.map (fun b=>(b.toNat:Int))).map (Value.int .u8):=by simp [nI]
  rw [uE] at Jb;rw [run_bytesToString w a' n c' _ Jb,foldl_push_byteCells];have he0:ByteArray.empty.data = #[]:=rfl;rw [he0];simp
 ·simp at h
theorem ab6 {ρ:a9} {A B:St} {base:Nat} {w:World} {src dst e:TypeId} {x x' v:Value} (hs:zR ρ A base w) (h1:P.underlying src=some .string) (h2:P.underlying dst=some (.slice e)) (he:P.underlying e=some (.int .u8))
  (hx:VR ρ x x') (h:Rd A [x] = some (v,B)):∃ ba v' w',(convert src dst x').run P w = .ok v' w'/\VR ba v v'/\pk base ρ A w ba B w':=by
 unfold Rd at h;split at h
 ·rename_i s e1
  simp at e1; subst e1;simp at h;obtain ⟨rfl,rfl⟩:=h;have:=hx.s5;subst this;have hr:=run_bytes_of_string (P:=P) w src dst e s h1 h2 he;have hge:=grownCap_ge w s.size 0 e;have hds:s.data.size=s.size:=rfl;have Rl:(bytesRow s (grownCap w s.size 0 e)).size=grownCap w s.size 0 e:=by
   unfold bytesRow;simp [hds];omega
  have hdr:=pk.drew (w:=w) hs;have hgo:=aeZ (w:=w.drew) (n:=1) (bm:=A.next) (f:=0) (c:=bytesRow s (grownCap w s.size 0 e)) (fr:=((bytesRow s (grownCap w s.size 0 e)).size,(bytesRow s (grownCap w s.size 0 e)).size+1)) e rfl hdr.kW
   (ai0 s.data.toList) (fun v hv=>by
    obtain ⟨b,_,rfl⟩:=HK.1 hv;rfl) (fun j v hj=>by
    unfold bytesRow;have bu:j < s.data.size:=by
     have:=(dB.1 hj).1;simpa [nI] using this
    rw [Array.getElem?_append_left (by simpa using bu)];simpa [nI] using hj) (by rw [Rl]; simp [nI,hds]; exact hge) (aX _)
  refine ⟨_,_,_,hr,?_,hdr.trans hgo⟩;simp only [VR];refine ⟨trivial,aX _,_,⟨w.heap.size,0,none⟩,grownCap w s.size 0 e,a9.uM _ _ _,hge,fun _=>rfl,?_,rfl⟩;rw [Rl];show 0+0+grownCap w s.size 0 e * 1<=grownCap w s.size 0 e;omega
 ·simp at h
theorem asc {src dst:TypeId} {x:Operand} (ho:o.op = .convert src dst x):jq P o (Ip P src dst x):=by
 unfold Ip;split
 ·rename_i e h1 h2
  cases hb:isByte P e with
  | false=>exact True.intro
  | true=>
   rw [ai];intro ρ A base w ev da v hs he hf;obtain ⟨h3,h4⟩:=ab5 hs h1 h2 (agw hb) (he x (by simp)) hf;exact ⟨v,h3,by simp [execOp,ho,h4]⟩
 ·rename_i e h1 h2
  cases hb:isByte P e with
  | false=>exact True.intro
  | true=>
   rw [ai];intro ρ A B base w ev da v hs he hf;obtain ⟨ba,v',w',h3,h4,h5⟩:=ab6 hs h1 h2 (agw hb) (he x (by simp)) hf;exact ⟨ba,v',.value v',w',by simp [execOp,ho,h3],rfl,h4,h5⟩
 ·rename_i h1 h2
  intro ρ ev da v he hf;simp only [List.map] at hf;unfold age at hf;split at hf
  ·rename_i s e
   simp at e hf;subst hf;have hx:=he x (by simp);rw [e] at hx;refine ⟨_,VR.of_flat rfl,fun w=>?_⟩;simp [execOp,ho,convert,bK h1,bK h2,hx.s5]
  ·simp at hf
 ·exact amo ho
theorem ai1 {ρ:a9} {A:St} {base:Nat} {w:World} {r:Nat} {s:List UInt8} {pos Z4:Nat} {l:Loc} (hs:zR ρ A base w) (hg:A.get r=some (.iter s pos)) (n4:ρ r=some l) :
  pk base ρ A w ρ (A.put r (.iter s Z4)) { w with heap:=w.heap.setIfInBounds l.cb (.stringIter ⟨⟨s⟩⟩ Z4) }:=by
 obtain ⟨l',tL,ok⟩:=hs.rel.iter _ _ _ hg;rw [n4] at tL; simp at tL; subst tL;obtain ⟨SZ,sH⟩:=ok.sq;have bu:l.cb < w.heap.size:=(EN.1 sH).1;have Ol:dr.gJ (.iter s pos)=true:=rfl;have hold:∀ k,k≠l.cb->(w.heap.setIfInBounds l.cb (.stringIter ⟨⟨s⟩⟩ Z4))[k]? = w.heap[k]?:=fun k hk=>by
  rw [Array.getElem?_setIfInBounds_ne (Ne.symm hk)]
 have gI:(w.heap.setIfInBounds l.cb (.stringIter ⟨⟨s⟩⟩ Z4)).size=w.heap.size:=by simp
 have hB:∀ x,(A.put r (.iter s Z4)).get x=if x=r then some (.iter s Z4) else A.get x:=fun x=>St.cn _ _ _ _;have hmd:∀ o:dr,o.gJ=true->o≠.dead:=by intro o h e; subst e; simp [dr.gJ] at h
 have agj:∀ x o l2,x≠r->A.get x=some o->o≠.dead->ρ x=some l2->Oi ρ base w l2 o->l2.cb≠l.cb:=by
  intro x o l2 hx lA hd zT lB e;cases hmo:o.gJ with
  | true=>
   obtain ⟨_,_,_,_,e1,_⟩:=hs.rel.apart x r o _ l2 l hx lA hg hmo Ol zT n4 e;simp [dr.px] at e1
  | false=>
   cases o with
   | row cs ca own bV=>
    have lB:Re ρ base w l2 cs ca own bV:=lB;have h1:own=false:=hmo;have:=lB.yu h1;have:=ok.gJ;omega
   | map _=>simp [dr.gJ] at hmo
   | iter _ _=>simp [dr.gJ] at hmo
   | dead=>exact hd rfl
   | loop _ _ _ _ _ _=>simp [dr.gJ] at hmo
 refine ⟨⟨.Rh ?_ ?_ ?_,fun b l2 h=>hs.ow b l2 h,by simpa using hs.size,hs.SX⟩,fun _ _=>rfl,⟨rfl,rfl,rfl,Nat.le_of_eq gI.symm,fun k hk hn=>hold k (fun e=>hn ⟨r,_,l,hg,Ol,n4,e.symm⟩)⟩,aX _,Nat.min_le_left _ _,fun x hx hxl=>?_,?_⟩
 ·intro x o lA hd
  rw [hB] at lA;split at lA
  ·rename_i e; subst e; simp at lA; subst lA
   refine ⟨l,n4,ok.gJ,SZ,?_⟩;show (w.heap.setIfInBounds l.cb (.stringIter ⟨⟨s⟩⟩ Z4))[l.cb]? = _;rw [Array.getElem?_setIfInBounds_self_of_lt bu]
  ·rename_i e
   obtain ⟨l2,zT,lB⟩:=hs.rel.obj lA hd;exact ⟨l2,zT,lB.pB (a9.le_refl _) (hold _ (agj x o l2 e lA hd zT lB)) (Nat.le_of_eq gI.symm)⟩
 ·have ZW:∀ x o,(A.put r (.iter s Z4)).get x=some o->o.gJ=true->∃ o',A.get x=some o'/\o'.gJ=true/\o'.px=o.px:=by
   intro x o hx hm;rw [hB] at hx;split at hx
   ·rename_i e; subst e; simp at hx; subst hx; exact ⟨_,hg,rfl,rfl⟩
   ·exact ⟨o,hx,hm,rfl⟩
  intro b1 b2 o1 o2 l1 l2 eU g1 g2 m1 m2 r1 r2 YA;obtain ⟨p1,q1,n1,k1⟩:=ZW _ _ g1 m1;obtain ⟨p2,q2,n2,k2⟩:=ZW _ _ g2 m2;rw [<- k1,<- k2];exact hs.rel.apart b1 b2 p1 p2 l1 l2 eU q1 q2 n1 n2 r1 r2 YA
 ·intro x o bm f lA hk
  rw [hB] at lA;split at lA
  ·rename_i e; subst e; simp at lA; subst lA; simp [dr.px] at hk
  ·exact hs.rel.bO x o bm f lA hk
 ·rw [St.agh] at hxl
  have:Nat.min A.low r<=r:=Nat.min_le_right _ _;rw [hB,aB (by omega)]
 ·rintro k hk ⟨x,o,l2,lA,hm,zT,rfl⟩
  rw [hB] at lA;split at lA
  ·rename_i e; subst e
   rw [n4] at zT; simp at zT; subst zT;exact ⟨x,_,l,hg,Ol,n4,rfl⟩
  ·exact ⟨x,o,l2,lA,hm,zT,rfl⟩
theorem aqR {t:TypeId} {x:Operand} (ho:o.op = .range t x):jq P o (ab0 P t x):=by
 unfold ab0;split
 ·rename_i hu
  intro ρ ev da obj mk he hf;simp only [List.map] at hf;unfold apL at hf;split at hf
  ·rename_i s e
   simp at e;have hx:=he x (by simp);rw [e] at hx;have hx:=hx.s5;simp at hf;obtain ⟨rfl,rfl⟩:=hf;refine ⟨.stringIter s 0,fun n=>.pointer (some ⟨n,0,none⟩),?_,fun w=>?_,fun ba n cb h=>VR.DA (a:=⟨n,0,none⟩) rfl h⟩
   ·show Obj.stringIter s 0 = .stringIter ⟨⟨s.data.toList⟩⟩ 0
    rfl
   ·simp [execOp,ho,Instr.range,bK hu,hx]
  ·simp at hf
 ·trivial
theorem Px {w:World} {r:Nat} {s:ByteArray} {pos:Nat} (hb:w.heap[r]? = some (.stringIter s pos)):(getObj r).run P w = .ok (.stringIter s pos) w:=by
 simp [getObj,Sem.run,hb]
theorem ab7 {w:World} {r:Nat} {s:ByteArray} {pos:Nat} (o:Obj) (hb:w.heap[r]? = some (.stringIter s pos)):(setObj r o).run P w = .ok () { w with heap:=w.heap.setIfInBounds r o }:=by
 simp [setObj,Sem.run,hb]
theorem asd {it:Operand} {b:Bool} (ho:o.op = .next it b):jq P o (cond b (.act aoq [it]) .bad):=by
 cases b with
 | false=>trivial
 | true=>
  rw [ai];intro ρ A B base w ev da v hs he hf;simp only [List.map] at hf;unfold aoq at hf;split at hf
  ·rename_i a e
   simp at e;have hx:=he it (by simp);rw [e] at hx;obtain ⟨Bb,l,hl,hx⟩:=hx.j8;cases ha0:Nat.beq a.off 0 with
   | false=>rw [ha0] at hf; simp at hf
   | true=>
    rw [ha0,ai] at hf;have ha0:=bo ha0;split at hf
    ·rename_i s pos hg
     obtain ⟨l2,qc,ok⟩:=hs.rel.iter _ _ _ hg;rw [hl] at qc; simp at qc; subst qc;obtain ⟨SZ,sH⟩:=ok.sq;have gI:(⟨⟨s⟩⟩:ByteArray).size=s.length:=rfl;rw [SZ,ha0] at hx;cases bu:Nat.blt pos s.length with
     | true=>
      rw [bu,ai] at hf;rw [bX] at bu;split at hf;rename_i c width awg;simp at hf;obtain ⟨rfl,rfl⟩:=hf;refine ⟨ρ,.tuple #[.bool true,.int .i64 (Int.ofNat pos),.int .i32 c],.value _,_,?_,rfl,VR.of_flat rfl,ai1 (Z4:=pos+width) hs hg hl⟩;simp [execOp,ho,Instr.next,hx,Px sH,gI,bu,awg,ab7 _ sH,goInt]
     | false=>
      rw [bu,aw] at hf;have hge : ¬ pos < s.length:=fun h=>by rw [<- bX] at h; rw [h] at bu; simp at bu
      simp at hf;obtain ⟨rfl,rfl⟩:=hf;refine ⟨ρ,.tuple #[.bool false],.value _,w,?_,rfl,VR.of_flat rfl,.refl hs⟩;simp [execOp,ho,Instr.next,hx,Px sH,gI,hge]
    ·simp at hf
  ·simp at hf
theorem u7 (P:Program) (o:Oper):jq P o (compile P o.op):=by
 cases ho:o.op with
 | move x=>exact ar0 ho
 | assign x=>exact aot ho
 | pick c a b=>exact ar1 ho
 | alloc t=>exact aqG ho
 | box t x=>exact auc ho
 | build t parts=>exact aqL ho
 | buildSlice t len parts=>exact agp ho
 | load t a=>exact ar2 ho
 | store t a x=>exact aqH ho
 | nilCheck x=>exact akQ ho
 | binOp op t x y yt=>exact aud ho
 | unOp op t x=>exact avA ho
 | convert src dst x=>exact asc ho
 | makeFunc fn first cap=>exact akR ho
 | fieldAddr s x f=>exact aiW ho
 | field t x f=>exact aqI ho
 | indexAddr t x ix=>exact aiX ho
 | index t x ix=>exact aqJ ho
 | extract t i=>exact amp ho
 | slice t x lo hi mx=>exact ok_slice ho
 | makeSlice t l c=>exact aiZ ho
 | makeInterface t x=>exact aqN ho
 | range t x=>exact aqR ho
 | next it b=>exact asd ho
 | makeMap t r=>exact ams ho
 | lookup t x ix ok=>exact aoz ho
 | mapUpdate t m k x=>exact XB (.inl ho)
 | insert t m k x=>exact XB (.inr ho)
 | call c=>
  show jq P o (EP P c);unfold EP;split
  ·rename_i f hf; exact ar4 ho hf
  ·rename_i b hb
   obtain ⟨callee,args,argTypes⟩:=c;simp only at hb;subst hb;unfold M5;split
   ·exact aug ho
   ·exact aue ho
   ·exact auf ho
   ·exact aoy ho
   ·exact asa ho
   ·exact aoA ho
   ·exact aqQ ho
   ·trivial
  ·trivial
 | _=>trivial
end
end Go.aE
end
section
namespace Go.aE
noncomputable section
open Go
abbrev Fr (r:Option Nat):Fence:={ Fence.wide with round:=r }
def a9.res (ρ:a9) (n:Nat):a9:=fun b=>if b < n then ρ b else none
theorem a9.afP {ρ:a9} {n b:Nat} (h:b < n):ρ.res n b=ρ b:=by unfold a9.res; rw [aW h]
theorem Yy.under {ρ:a9} {n:Nat} {fn ED:Fn} (hu:akO n fn=true) (h:Yy ρ fn ED):Yy (ρ.res n) fn ED:=by
 cases fn with
 | yield r=>
  obtain ⟨l,h1,h2⟩:=h;simp only [akO] at hu;rw [bX] at hu;exact ⟨l,by rw [a9.afP hu]; exact h1,h2⟩
 | _=>exact h
mutual
theorem VR.under {ρ:a9} {n:Nat} : ∀ {v v' : Value},aE.under n v=true->VR ρ v v'->VR (ρ.res n) v v'
 | .bool b,v,_,hv=>by simpa [VR] using hv
 | .int k n,v,_,hv=>by simpa [VR] using hv
 | .float k x,v,_,hv=>by simpa [VR] using hv
 | .complex k x y,v,_,hv=>by simpa [VR] using hv
 | .string s,v,_,hv=>by simpa [VR] using hv
 | .pointer none,v,_,hv=>by simpa [VR] using hv
 | .pointer (some a),v,hu,hv=>by
  simp only [aE.under] at hu;rw [bX] at hu;simp only [VR] at hv ⊢;rw [a9.afP hu];exact hv
 | .slice none n c,v,_,hv=>by simpa [VR] using hv
 | .slice (some a) n c,v,hu,hv=>by
  simp only [aE.under] at hu;rw [bX] at hu;simp only [VR] at hv ⊢;rw [a9.afP hu];exact hv
 | .map none,v,_,hv=>by simpa [VR] using hv
 | .map (some r),v,hu,hv=>by
  simp only [aE.under] at hu;rw [bX] at hu;simp only [VR] at hv ⊢;rw [a9.afP hu];exact hv
 | .chan _,_,_,_=>by simp [VR]
 | .func fn f c,v,hu,hv=>by
  simp only [aE.under,aD] at hu;simp only [VR] at hv ⊢;obtain ⟨f',c',h2,h3,ED,h4,h5⟩:=hv;exact ⟨f',c',wA.under hu.1.2 h2,wA.under hu.2 h3,ED,Yy.under hu.1.1 h4,h5⟩
 | .nilFunc,v,_,hv=>by simpa [VR] using hv
 | .iface t x,v,hu,hv=>by
  simp only [aE.under] at hu;simp only [VR] at hv ⊢;obtain ⟨x',h2,h3⟩:=hv;exact ⟨x',VR.under hu h2,h3⟩
 | .nilIface,v,_,hv=>by simpa [VR] using hv
 | .agg cs,v,hu,hv=>by
  simp only [aE.under] at hu;simp only [VR] at hv ⊢;obtain ⟨x',h2,h3⟩:=hv;exact ⟨x',wA.under hu h2,h3⟩
 | .tuple cs,v,hu,hv=>by
  simp only [aE.under] at hu;simp only [VR] at hv ⊢;obtain ⟨x',h2,h3⟩:=hv;exact ⟨x',wA.under hu h2,h3⟩
theorem wA.under {ρ:a9} {n:Nat} : ∀ {v v' : Array Value},aE.Wo n v=true->wA ρ v v'->wA (ρ.res n) v v'
 | ⟨l⟩,a,hu,hv=>by simp only [aE.Wo] at hu; simp only [wA] at hv ⊢; exact eK.under hu hv
theorem eK.under {ρ:a9} {n:Nat} : ∀ {v v' : List Value},aE.afN n v=true->eK ρ v v'->eK (ρ.res n) v v'
 | [],l,_,hv=>by simpa [eK] using hv
 | x::xs,l,hu,hv=>by
  simp only [aE.afN,aD] at hu;simp only [eK] at hv ⊢;obtain ⟨y,ys,e,h1,h2⟩:=hv;exact ⟨y,ys,e,VR.under hu.1 h1,eK.under hu.2 h2⟩
end
theorem Ro {acc:List Nat} {j:Nat} : ∀ {es:List Edge},Nat.testBit (xN acc es) j=true->∃ e∈es,binds e=true/\(j=e.on\/tK acc e.on j=true)
 | [],h=>by simp [xN] at h
 | e::es,h=>by
  simp only [xN] at h;cases hb:binds e with
  | false=>
   rw [hb,aw] at h;obtain ⟨e',h1,h2⟩:=Ro h;exact ⟨e',by simp [h1],h2⟩
  | true=>
   rw [hb,ai] at h;have e1:∀ a b:Nat,Nat.lor a b=a ||| b:=fun _ _=>rfl;have e2:Nat.shiftLeft 1 e.on=1 <<< e.on:=rfl;rw [e1,e1,e2,Nat.testBit_or,Nat.testBit_or,u4,u4] at h;rcases h with (h | h) | h
   ·refine ⟨e,by simp,hb,.inl ?_⟩
    rw [Nat.one_shiftLeft,Nat.testBit_two_pow] at h;exact (rh h).symm
   ·exact ⟨e,by simp,hb,.inr h⟩
   ·obtain ⟨e',h1,h2⟩:=Ro h
    exact ⟨e',by simp [h1],h2⟩
theorem adT:∀ (os:List Oper) (acc:List Nat),∃ r,fX acc os=acc++r/\r.length=os.length
 | [],acc=>⟨[],by simp [fX]⟩
 | o::os,acc=>by
  obtain ⟨r,h1,h2⟩:=adT os (acc++[xN acc o.after.toList]);exact ⟨xN acc o.after.toList::r,by simp [fX,h1],by simp [h2]⟩
theorem ajP:∀ (os:List Oper) (acc:List Nat) (i j:Nat) (o:Oper),os[i]? = some o->(∀ e∈o.after.toList,binds e=true->e.on < acc.length+i)->
  tK (fX acc os) (acc.length+i) j=true->∃ e∈o.after.toList,binds e=true/\(j=e.on\/tK (fX acc os) e.on j=true)
 | [],acc,i,j,o,ho,_,_=>by simp at ho
 | o0::os,acc,0,j,o,ho,hf,h=>by
  simp at ho;subst ho;obtain ⟨r,h1,_⟩:=adT os (acc++[xN acc o0.after.toList]);have e0:fX acc (o0::os)=acc++[xN acc o0.after.toList]++r:=by simp only [fX]; exact h1
  rw [e0] at h ⊢;have e1:(acc++[xN acc o0.after.toList]++r).getD (acc.length+0) 0=xN acc o0.after.toList:=by simp [List.getD]
  unfold tK at h;rw [e1] at h;obtain ⟨e,h2,h3,h4⟩:=Ro h;refine ⟨e,h2,h3,h4.imp id fun h5=>?_⟩;have bu:=hf e h2 h3;unfold tK at h5 ⊢;have:(acc++[xN acc o0.after.toList]++r).getD e.on 0=acc.getD e.on 0:=by
   simp only [List.getD,HJ];rw [uk (by simpa using bu)]
  rw [this];exact h5
 | o0::os,acc,i+1,j,o,ho,hf,h=>by
  have hlen:(acc++[xN acc o0.after.toList]).length+i=acc.length+(i+1):=by simp; omega
  have:=ajP os (acc++[xN acc o0.after.toList]) i j o (by simpa using ho) (by rw [hlen]; exact hf) (by rw [hlen]; exact h);simpa only [fX] using this
structure vc (P:Program) (all:List Oper):Prop where
 back:∀ i o,all[i]? = some o->∀ e∈o.after.toList,binds e=true->e.on < i
 apart:∀ i j x y,all[i]? = some y->all[j]? = some x->j < i->I8 P all x y=true->tK (fX [] all) i j=true
theorem XC {P:Program} {all:List Oper} {b:List Nat} {i:Nat} {y:Oper} : ∀ (xs:List Oper) (k:Nat),Pm P all b i y xs k=true->∀ (j:Nat) (x:Oper),xs[j]? = some x->k+j < i->I8 P all x y=true->tK b i (k+j)=true
 | [],k,_,j,x,hx,_,_=>by simp at hx
 | x0::xs,k,h,0,x,hx,bu,hc=>by
  simp at hx;subst hx;simp only [Pm,aD,u4,nz] at h;rcases h.1 with (h1 | h1) | h1
  ·have:=gD h1; omega
  ·rw [hc] at h1; simp at h1
  ·exact h1
 | x0::xs,k,h,j+1,x,hx,bu,hc=>by
  simp only [Pm,aD] at h;have:=XC xs (k+1) h.2 j x (by simpa using hx) (by omega) hc;rwa [show k+1+j=k+(j+1) by omega] at this
theorem DC {P:Program} {all:List Oper} {b:List Nat} : ∀ (os:List Oper) (k:Nat),CM P all b os k=true->∀ (i:Nat) (o:Oper),os[i]? = some o->
  (∀ e∈o.after.toList,binds e=true->e.on < k+i)/\Pm P all b (k+i) o all 0=true
 | [],k,_,i,o,ho=>by simp at ho
 | o0::os,k,h,0,o,ho=>by
  simp at ho;subst ho;simp only [CM,aD,im] at h;refine ⟨fun e he hb=>?_,h.1.2⟩;have:=h.1.1 e he;rw [hb] at this;simp at this;exact this
 | o0::os,k,h,i+1,o,ho=>by
  simp only [CM,aD] at h;have:=DC os (k+1) h.2 i o (by simpa using ho);rwa [show k+1+i=k+(i+1) by omega] at this
theorem Jc {P:Program} {all:List Oper} (h:Pn P all=true):vc P all:=by
 unfold Pn at h;refine ⟨fun i o ho=>?_,fun i j x y hy hx bu hc=>?_⟩
 ·have:=(DC all 0 h i o ho).1
  simpa using this
 ·have:=XC all 0 (DC all 0 h i y hy).2 j x hx (by simpa using bu) hc
  simpa using this
def uq (all:List Oper) (S:Nat->Bool):Prop:=∀ i j,S i=true->tK (fX [] all) i j=true->S j=true
def yQ (all:List Oper) (S:Nat->Bool) (i:Nat):Prop:=∀ o,all[i]? = some o->∀ e∈o.after.toList,binds e=true->S e.on=true
theorem uq.ready {P:Program} {all:List Oper} (hf:vc P all) {S:Nat->Bool} (hc:uq all S) {i:Nat} {o:Oper} (ho:all[i]? = some o) (hr:yQ all S i):∀ j,tK (fX [] all) i j=true->S j=true:=by
 intro j hj;obtain ⟨e,h1,h2,h3⟩:=ajP all [] i j o ho (by simpa using hf.back i o ho) (by simpa using hj);have hs:=hr o ho e h1 h2;rcases h3 with rfl | h3
 ·exact hs
 ·exact hc _ _ hs h3
def cW (S:Nat->Bool) (i:Nat):Nat->Bool:=fun j=>S j||Nat.beq j i
theorem uq.insert {P:Program} {all:List Oper} (hf:vc P all) {S:Nat->Bool} (hc:uq all S) {i:Nat} {o:Oper} (ho:all[i]? = some o) (hr:yQ all S i):uq all (cW S i):=by
 intro a b h1 h2;simp only [cW,u4] at h1 ⊢;rcases h1 with h1 | h1
 ·exact .inl (hc a b h1 h2)
 ·have:=bo h1
  subst this;exact .inl (hc.ready hf ho hr b h2)
theorem ajQ (e:Edge):Region.binds .any e=binds e:=by
 unfold Region.binds binds;cases e.ground <;> rfl
theorem Na {all:List Oper} {bO:Array Bool} {i:Nat} (h:i∈Region.ready .any ⟨all⟩ bO):i < all.length/\bO.getD i true=false/\yQ all (fun j=>bO.getD j false) i:=by
 unfold Region.ready at h;rw [List.mem_filter,A6] at h;obtain ⟨h1,h2⟩:=h;simp only [aD,nz] at h2;refine ⟨by simpa using h1,h2.1,fun o ho e he hb=>?_⟩;have e1:(⟨all⟩:Array Oper)[i]? = some o:=by simpa using ho
 rw [e1] at h2;simp only [Option.map_some,bc] at h2;have:=Array.all_eq_true'.1 h2.2 e (by simpa using he);rw [ajQ,hb] at this;simpa using this
theorem agx {P:Program} {all:List Oper} (hf:vc P all) {bO:Array Bool} (hl:bO.size=all.length) (h:Region.ready .any ⟨all⟩ bO = []):∀ i,i < all.length->bO.getD i false=true:=by
 intro i
 induction i using Nat.strongRecOn with
 | _ i ih=>
  intro hi;cases hc:bO.getD i false with
  | true=>rfl
  | false=>
   exfalso;obtain ⟨o,ho⟩:∃ o,all[i]? = some o:=⟨_,dD hi⟩
   have hm:i∈Region.ready .any ⟨all⟩ bO:=by
    unfold Region.ready;rw [List.mem_filter,A6];refine ⟨by simpa using hi,?_⟩;have e1:(⟨all⟩:Array Oper)[i]? = some o:=by simpa using ho
    rw [e1];have e2:bO.getD i true=false:=by
     have:i < bO.size:=by omega
     simpa [jh,this] using hc
    simp only [e2,sE,M0,Option.map_some,bc];rw [Array.all_eq_true'];intro e he;cases hb:binds e with
    | false=>rw [ajQ,hb]; rfl
    | true=>
     have bu:=hf.back i o ho e (by simpa using he) hb;rw [ih e.on bu (by omega)];simp
   rw [h] at hm;simp at hm
theorem count_set:∀ (l:List Bool) (i:Nat),l[i]? = some false->((l.set i true).filter (!·)).length+1=(l.filter (!·)).length
 | [],i,h=>by simp at h
 | x::l,0,h=>by
  simp at h;subst h;simp
 | x::l,i+1,h=>by
  have:=count_set l i (by simpa using h);cases x <;> simp at this ⊢ <;> omega
theorem amt {P:Program} {all:List Oper} {r:Option Nat} (hf:vc P all) {Q:Exit->Act->World->Prop} (I:(Nat->Bool)->Act->World->Prop) (hI:∀ S S' a w,(∀ i,i < all.length->S i=S' i)->I S a w->I S' a w)
  (step:∀ S a w i o,I S a w->uq all S->all[i]? = some o->S i=false->yQ all S i->(∀ j,S j=true->j < all.length)->wpOpIn (Fr r) 0 P ⟨all⟩ Q i (I (cW S i)) a w)
  (fin:∀ S a w,(∀ i,i < all.length->S i=true)->I S a w->Q .normal a w) :
  ∀ (fuel:Nat) (bO:Array Bool) (a:Act) (w:World),bO.size=all.length->(bO.toList.filter (!·)).length=fuel->uq all (fun j=>bO.getD j false)->I (fun j=>bO.getD j false) a w->wpAnyIn (Fr r) 0 P .any ⟨all⟩ Q fuel bO a w
 | 0,bO,a,w,hs,hn,hc,h=>by
  have qw:∀ i,i < all.length->bO.getD i false=true:=by
   intro i hi;have:i < bO.size:=by omega
   cases hb:bO.getD i false with
   | true=>rfl
   | false=>
    exfalso;have hg:bO[i] = false:=by simpa [jh,this] using hb
    have hm:bO[i]∈bO.toList.filter (!·):=by
     rw [List.mem_filter];exact ⟨by simp,by simp [hg]⟩
    rw [pq.1 hn] at hm;simp at hm
  refine ⟨?_,fin _ a w qw h⟩;cases hr:Region.ready .any ⟨all⟩ bO with
  | nil=>rfl
  | cons i r=>
   have:=Na (all:=all) (bO:=bO) (i:=i) (by rw [hr]; simp);have h1:=qw i this.1;have h2:bO.getD i true=true:=by
    have bu:i < bO.size:=by omega
    simpa [jh,bu] using h1
   rw [h2] at this;simp at this
 | fuel+1,bO,a,w,hs,hn,hc,h=>by
  refine ⟨fun hr=>fin _ a w (agx hf hs hr) h,fun i hi=>?_⟩;obtain ⟨bu,hl,wH⟩:=Na hi;obtain ⟨o,ho⟩:∃ o,all[i]? = some o:=⟨_,dD bu⟩
  have Ul:i < bO.size:=by omega
  have tu:bO.getD i false=false:=by simpa [jh,Ul] using hl
  have agy:∀ j,j < all.length->cW (fun j=>bO.getD j false) i j=(bO.setIfInBounds i true).getD j false:=by
   intro j hj;by_cases e:j=i
   ·subst e
    simp [cW,jh,Ul]
   ·have:Nat.beq j i=false:=by
     cases hb:Nat.beq j i with
     | false=>rfl
     | true=>exact absurd (bo hb) e
    simp [cW,this,jh,Array.getElem?_setIfInBounds_ne (Ne.symm e)]
  refine wpOpIn_mono (fun a' w' h'=>?_) (step _ a w i o h hc ho tu wH (fun j hj=>by
   rcases Nat.lt_or_ge j all.length with h1 | h1
   ·exact h1
   ·have:bO.getD j false=false:=by
     rw [jh,Array.getElem?_eq_none (by omega)];rfl
    rw [this] at hj; simp at hj))
  refine amt hf I hI step fin fuel _ a' w' (by simpa using hs) ?_ ?_ (hI _ _ a' w' agy h')
  ·rw [Array.toList_setIfInBounds]
   have:=count_set bO.toList i (by simpa [jh,Ul] using tu);omega
  ·intro x y hx hy
   have hb:∀ z,(bO.setIfInBounds i true).getD z false=true↔cW (fun j=>bO.getD j false) i z=true:=by
    intro z;rcases Nat.lt_or_ge z all.length with h1 | h1
    ·rw [agy z h1]
    ·have e1:(bO.setIfInBounds i true).getD z false=false:=by
      rw [jh,Array.getElem?_eq_none (by simp; omega)];rfl
     have e2:bO.getD z false=false:=by
      rw [jh,Array.getElem?_eq_none (by omega)];rfl
     have e3:Nat.beq z i=false:=by
      cases hb:Nat.beq z i with
      | false=>rfl
      | true=>have:=bo hb; omega
     simp [cW,e1,e2,e3]
   rw [hb] at hx ⊢;exact hc.insert hf ho wH x y hx hy
theorem Kn {P:Program} {all:List Oper} (hf:vc P all) {Q:Exit->Act->World->Prop} (I:(Nat->Bool)->Act->World->Prop) (hI:∀ S S' a w,(∀ i,i < all.length->S i=S' i)->I S a w->I S' a w)
  (step:∀ S a w i o,I S a w->uq all S->all[i]? = some o->S i=false->yQ all S i->(∀ j,S j=true->j < all.length)->wpOp P ⟨all⟩ Q i (I (cW S i)) a w)
  (fin:∀ S a w,(∀ i,i < all.length->S i=true)->I S a w->Q .normal a w) :
  ∀ (fuel:Nat) (bO:Array Bool) (a:Act) (w:World),bO.size=all.length->(bO.toList.filter (!·)).length=fuel->uq all (fun j=>bO.getD j false)->I (fun j=>bO.getD j false) a w->wpAny P .any ⟨all⟩ Q fuel bO a w
 | 0,bO,a,w,hs,hn,hc,h=>by
  have qw:∀ i,i < all.length->bO.getD i false=true:=by
   intro i hi;have:i < bO.size:=by omega
   cases hb:bO.getD i false with
   | true=>rfl
   | false=>
    exfalso;have hg:bO[i] = false:=by simpa [jh,this] using hb
    have hm:bO[i]∈bO.toList.filter (!·):=by
     rw [List.mem_filter];exact ⟨by simp,by simp [hg]⟩
    rw [pq.1 hn] at hm;simp at hm
  refine ⟨?_,fin _ a w qw h⟩;cases hr:Region.ready .any ⟨all⟩ bO with
  | nil=>rfl
  | cons i r=>
   have:=Na (all:=all) (bO:=bO) (i:=i) (by rw [hr]; simp);have h1:=qw i this.1;have h2:bO.getD i true=true:=by
    have bu:i < bO.size:=by omega
    simpa [jh,bu] using h1
   rw [h2] at this;simp at this
 | fuel+1,bO,a,w,hs,hn,hc,h=>by
  refine ⟨fun hr=>fin _ a w (agx hf hs hr) h,fun i hi=>?_⟩;obtain ⟨bu,hl,wH⟩:=Na hi;obtain ⟨o,ho⟩:∃ o,all[i]? = some o:=⟨_,dD bu⟩
  have Ul:i < bO.size:=by omega
  have tu:bO.getD i false=false:=by simpa [jh,Ul] using hl
  have agy:∀ j,j < all.length->cW (fun j=>bO.getD j false) i j=(bO.setIfInBounds i true).getD j false:=by
   intro j hj;by_cases e:j=i
   ·subst e
    simp [cW,jh,Ul]
   ·have:Nat.beq j i=false:=by
     cases hb:Nat.beq j i with
     | false=>rfl
     | true=>exact absurd (bo hb) e
    simp [cW,this,jh,Array.getElem?_setIfInBounds_ne (Ne.symm e)]
  refine wpOp_mono (fun a' w' h'=>?_) (step _ a w i o h hc ho tu wH (fun j hj=>by
   rcases Nat.lt_or_ge j all.length with h1 | h1
   ·exact h1
   ·have:bO.getD j false=false:=by
     rw [jh,Array.getElem?_eq_none (by omega)];rfl
    rw [this] at hj; simp at hj))
  refine Kn hf I hI step fin fuel _ a' w' (by simpa using hs) ?_ ?_ (hI _ _ a' w' agy h')
  ·rw [Array.toList_setIfInBounds]
   have:=count_set bO.toList i (by simpa [jh,Ul] using tu);omega
  ·intro x y hx hy
   have hb:∀ z,(bO.setIfInBounds i true).getD z false=true↔cW (fun j=>bO.getD j false) i z=true:=by
    intro z;rcases Nat.lt_or_ge z all.length with h1 | h1
    ·rw [agy z h1]
    ·have e1:(bO.setIfInBounds i true).getD z false=false:=by
      rw [jh,Array.getElem?_eq_none (by simp; omega)];rfl
     have e2:bO.getD z false=false:=by
      rw [jh,Array.getElem?_eq_none (by omega)];rfl
     have e3:Nat.beq z i=false:=by
      cases hb:Nat.beq z i with
      | false=>rfl
      | true=>have:=bo hb; omega
     simp [cW,e1,e2,e3]
   rw [hb] at hx ⊢;exact hc.insert hf ho wH x y hx hy
def avC (all:List Oper) (i:Nat):Option Tmp:=(all[i]?).bind (·.dst)
end
end Go.aE
end
section
namespace Go.aE
noncomputable section
open Go
def Quiet (A0:St) (R:List Rec):Prop:=∀ r∈R,r.nx=A0.next/\(r.did = .val\/∃ f vs,r.did = .read f vs)
def lS (R:List Rec) (S:Nat->Bool):Option Nat:=arY (R.filter fun r=>S r.i)
def Z5 (A0:St) (R:List Rec) (S:Nat->Bool):St:=avy A0 R (lS R S)
def writer (all:List Oper) (R:List Rec) (S:Nat->Bool) (x:Nat):Option Rec:=R.find? fun r=>S r.i&&(avC all r.i==some x)
def valOf (all:List Oper) (t0:Tm) (R:List Rec) (S:Nat->Bool) (x:Nat):Value:=
 match writer all R S x with
 | some r=>r.v
 | none=>(t0.get x).getD undef
def awh (all:List Oper) (A0:St) (R:List Rec) (S:Nat->Bool) (x:Nat):Nat:=
 match writer all R S x with
 | some r=>r.nx
 | none=>A0.next
structure Inv (all:List Oper) (A0:St) (t0:Tm) (R:List Rec) (N:Nat) (d0:List Deferred) (base:Nat) (ρ0:a9) (w0:World) (S:Nat->Bool) (a:Act) (w:World) (ρ:a9):Prop where
 size:a.tmps.size=N
 defers:a.defers=d0
 tm:∀ x,VR (ρ.res (awh all A0 R S x)) (valOf all t0 R S x) (a.tmps.getD x undef)
 core:pk base ρ0 A0 w0 (ρ.res (Z5 A0 R S).next) (Z5 A0 R S) w
 news:∀ r∈R,S r.i=true->∀ id o,r.did = .make id o->arX (fX [] all) (lS R S) r.i=false->
  ∃ c cb,ρ id=some (agk o cb)/\agl (ρ.res r.nx) o c/\w.heap[cb]? = some c/\w0.heap.size<=cb/\¬ Img (ρ.res (Z5 A0 R S).next) (Z5 A0 R S) cb
 newsApart:∀ r∈R,∀ s∈R,S r.i=true->S s.i=true->∀ id o id' o',r.did = .make id o->s.did = .make id' o'->arX (fX [] all) (lS R S) r.i=false->arX (fX [] all) (lS R S) s.i=false->
  r.i≠s.i->∀ l l',ρ id=some l->ρ id' = some l'->l.cb≠l'.cb
 unborn:∀ r∈R,S r.i=false->∀ id o,r.did = .make id o->ρ id=none
 ow:∀ bl l,ρ bl=some l->bl < (Z5 A0 R S).next\/∃ r∈R,S r.i=true/\∃ o,r.did = .make bl o
section
variable {P:Program} {call:Yx} {all:List Oper} {A0:St} {t0:Tm} {R:List Rec} {N:Nat} {d0:List Deferred} {base:Nat} {ρ0:a9} {w0:World}
theorem nB {x:Nat} : ∀ {xs:List Operand},Operand.tmp x∈xs->x∈u6 xs
 | [],h=>by simp at h
 | .tmp t::xs,h=>by
  rcases ff.1 h with h | h
  ·simp at h; subst h; simp [u6]
  ·simp [u6,nB h]
 | .const _::xs,h=>by
  rcases ff.1 h with h | h
  ·simp at h
  ·simpa [u6] using nB h
 | .global _::xs,h=>by
  rcases ff.1 h with h | h
  ·simp at h
  ·simpa [u6] using nB h
 | .func _::xs,h=>by
  rcases ff.1 h with h | h
  ·simp at h
  ·simpa [u6] using nB h
end
end
end Go.aE
end
section
namespace Go.aE
noncomputable section
open Go
theorem zR.pB {ρ ba:a9} {A:St} {base:Nat} {w w' : World} (hs:zR ρ A base w) (hle:ρ.le ba) (awi:∀ b l,ba b=some l->b < A.next) (hw:∀ k,k < w.heap.size->w'.heap[k]? = w.heap[k]?) (gI:w.heap.size<=w'.heap.size):zR ba A base w':=by
 have ab8:∀ b o l,A.get b=some o->o≠.dead->ba b=some l->ρ b=some l:=by
  intro b o l hg hd hr;obtain ⟨l',h1,_⟩:=hs.rel.obj hg hd;have:=hle _ _ h1;rw [hr] at this; simp at this; subst this;exact h1
 refine ⟨.Rh (fun b o hg hd=>?_) ?_ hs.rel.bO,awi,um hs.size gI,hs.SX.mono hle⟩
 ·obtain ⟨l,h1,h2⟩:=hs.rel.obj hg hd
  exact ⟨l,hle _ _ h1,h2.pB hle (hw _ (h2.lt hd)) gI⟩
 ·intro b1 b2 o1 o2 l1 l2 eU g1 g2 m1 m2 r1 r2 YA
  exact hs.rel.apart b1 b2 o1 o2 l1 l2 eU g1 g2 m1 m2 (ab8 b1 o1 l1 g1 (by intro e; subst e; simp [dr.gJ] at m1) r1) (ab8 b2 o2 l2 g2 (by intro e; subst e; simp [dr.gJ] at m2) r2) YA
section
variable {P:Program} {call:Yx} {all:List Oper} {A0:St} {t0:Tm} {R:List Rec} {N:Nat} {d0:List Deferred} {base:Nat} {ρ0:a9} {w0:World}
end
end
end Go.aE
end
section
namespace Go.aE
noncomputable section
open Go
theorem VR.undef {ρ:a9} : VR ρ undef undef:=VR.of_flat (by simp [Go.undef,flat,Q0,zO])
section
variable {P:Program} {call:Yx} {all:List Oper} {A0:St} {t0:Tm} {R:List Rec} {N:Nat} {d0:List Deferred} {base:Nat} {ρ0:a9} {w0:World}
end
end
end Go.aE
end
section
namespace Go.aE
noncomputable section
open Go
variable {P:Program} {call:Yx} {all:List Oper} {A0:St}
end
end Go.aE
end
section
namespace Go.aE
noncomputable section
open Go
theorem put_defers (a:Act) (dst:Option Tmp) (v:Value):(a.put dst v).defers=a.defers:=by cases dst <;> rfl
def aq.out:aq->Exit
 | .normal=>.normal
 | .exit id=>.exit id
 | .goto l=>.goto l
 | .ret=>.ret
def mark (D:Nat):Deferred:={ target:=.collected D,args:=#[] }
section
variable {P:Program} {b:Frame} {a:Act} {k:List Item} {cs:List Frame} {w:World}
end
def afQ (a:Act):ResultVar->Sem Value
 | .tmp t=>pure (a.tmps.getD t undef)
 | .cell ad ty=>do loadVar ty (<- asAddr (a.tmps.getD ad undef))
theorem adU (fn:Func) (a:Act):results fn a.tmps=(do let vs <- fn.results.mapM (afQ a); pure (if h:vs.size=1 then vs[0] else .tuple vs)):=by
 unfold results;congr 1
theorem pD {n m:Nat} (h:n<=m):∀ (c:Code),codeOk n c=true->codeOk m c=true
 | .region id ops d,hc=>by
  simp only [codeOk,im] at hc ⊢;intro o ho;have:=hc o ho;unfold Oe at this ⊢;split at this
  ·rename_i d e
   rw [bX] at this ⊢;omega
  ·rfl
 | .seq a b,hc=>by simp only [codeOk,aD] at hc ⊢; exact ⟨pD h a hc.1,pD h b hc.2⟩
 | .cond _ a b,hc=>by simp only [codeOk,aD] at hc ⊢; exact ⟨pD h a hc.1,pD h b hc.2⟩
 | .block _ a,hc=>pD h a hc
 | .loop a,hc=>pD h a hc
 | .rangeFunc _ ps a b,hc=>by
  simp only [codeOk,aD,im,bX] at hc ⊢;exact ⟨fun p hp=>u3 (hc.1 p hp) h,pD h a hc.2.1,pD h b hc.2.2⟩
 | .scope a,hc=>pD h a hc
 | .skip,_ | .exit _,_ | .label _,_ | .goto _,_ | .ret,_ | .refuse _,_=>rfl
def Li (gl:List (Nat×List Value×Nat)) (b:Nat):Option Loc:=if b < gB then some (match gl.find? (fun x=>Nat.beq x.1 b) with | some x=>⟨b,0,x.2.1.length,x.2.2⟩ | none=>⟨b,0,0,0⟩) else none
theorem ai2 (gl:List (Nat×List Value×Nat)):amm (Li gl):=fun g hg=>by
 unfold Li;rw [aW hg];split <;> exact ⟨_,rfl,rfl,rfl⟩
theorem agz:∀ (gl:List (Nat×List Value×Nat)) (b:Nat),(ab1 gl).get b=match gl.find? (fun x=>Nat.beq x.1 b) with | some x=>some (.row x.2.1 x.2.2 false none) | none=>none
 | [],b=>by simp [ab1]
 | (g,cs,e)::gl,b=>by
  simp only [ab1,Trie.sm,List.find?_cons];cases hb:Nat.beq g b with
  | true=>simp [bo hb]
  | false=>rw [aB (fun e=>by subst e; simp at hb)]; exact agz gl b
def auh (w:World) (gl:List (Nat×List Value×Nat)):Prop:=∀ x∈gl,x.1 < gB/\x.1 < w.heap.size/\x.2.1.all (fun v=>flat v&&scalar v)=true/\∀ i v,x.2.1[i]? = some v->w.cell? ⟨x.1,i,none⟩=some v
theorem zR.amu {w:World} {gl:List (Nat×List Value×Nat)} (h:auh w gl):zR (Li gl) (St.SX gl) w.heap.size w:=by
 have hg:∀ b o,(St.SX gl).get b=some o->∃ x∈gl,x.1=b/\gl.find? (fun x=>Nat.beq x.1 b)=some x/\o = .row x.2.1 x.2.2 false none:=by
  intro b o e;have e:(ab1 gl).get b=some o:=e;rw [agz] at e;split at e
  ·rename_i x hx
   simp at e;have:=List.find?_some hx;exact ⟨x,List.mem_of_find?_eq_some hx,bo this,hx,e.symm⟩
  ·simp at e
 refine ⟨⟨fun b cs ca own bV e=>?_,fun b es e=>?_,fun b s pos e=>?_,fun b st ex t ps c d e=>?_,fun b1 b2 o1 o2 l1 l2 _ e1 _ m=>?_,fun b o bm f e k=>?_⟩,fun b l e=>?_,aX _,ai2 gl⟩
 ·obtain ⟨x,hx,rfl,hf,he⟩:=hg _ _ e
  simp at he;obtain ⟨rfl,rfl,rfl,rfl⟩:=he;obtain ⟨h1,h2,h3,h4⟩:=h x hx;refine ⟨⟨x.1,0,x.2.1.length,x.2.2⟩,by unfold Li; rw [aW h1,hf],⟨fun i v hi=>?_,fun _=>h2,fun h=>by simp at h,fun h=>by simp at h,by simp,fun h=>by simp at h,rfl,h2,fun h=>by simp at h⟩⟩;have:=im.1 h3 v (ji hi);simp only [aD] at this;exact ⟨v,by simpa using h4 i v hi,VR.of_flat this.1,this.2⟩
 ·obtain ⟨x,_,_,_,he⟩:=hg _ _ e; simp at he
 ·obtain ⟨x,_,_,_,he⟩:=hg _ _ e; simp at he
 ·obtain ⟨x,_,_,_,he⟩:=hg _ _ e; simp at he
 ·obtain ⟨x,_,_,_,he⟩:=hg _ _ e1; subst he; simp [dr.gJ] at m
 ·obtain ⟨x,_,_,_,he⟩:=hg _ _ e; subst he; simp [dr.px] at k
 ·unfold Li at e
  split at e
  ·rename_i hb; exact hb
  ·simp at e
theorem zR.empty (w:World):zR (Li []) St.empty w.heap.size w:=zR.amu (gl:=[]) (fun _ h=>by simp at h)
end
end Go.aE
end
section
namespace Go.K
open Go Go.aE
noncomputable section
inductive Mk where
 | any
 | exact
 | bm (b:Nat)
inductive KV where
 | int (k:IntKind) (n:Int)
 | bool (b:Bool)
 | str (s:ByteArray)
 | agg (cs:List KV)
 | jd (vs:List KV)
 | ts (T:TypeId) (m:Mk) (n:Nat) (es:List KV) (acc:Nat->KV)
 | tp (T Tc:TypeId) (i k:Nat) (es:List KV) (acc:Nat->KV)
 | al (T:TypeId) (b o n:Nat)
 | ap (T Tc:TypeId) (b i k:Nat)
 | ptr (b off:Nat)
 | sl (b off len cap:Nat)
 | JW
 | nN
 | EY
 | map (b:Nat)
 | fn (f:Fn) (first cap:List KV)
 | Lj
 | iface (t:TypeId) (v:KV)
 | Ll
 | bJ
instance:Inhabited KV:=⟨.bJ⟩
inductive la where
 | row (cs:List KV) (ca:Nat)
 | map (es:List (KV×KV))
 | bm (top sz:Nat)
 | arr (v:KV)
 | lR (v:KV)
 | dead
structure aC where
 heap:Trie la
 next:Nat
def aC.empty:aC:=⟨.leaf,0⟩
def aC.get (A:aC) (b:Nat):Option la:=A.heap.get b
def aC.new (A:aC) (o:la):aC:=⟨A.heap.set o A.next,Nat.succ A.next⟩
def aC.put (A:aC) (b:Nat) (o:la):aC:=⟨A.heap.set o b,A.next⟩
abbrev bN:=Trie KV
def oD {α:Type} : List (Nat×α)->Trie α
 | []=>.leaf
 | p::ps=>(oD ps).set p.2 p.1
def KV.cells:KV->List KV
 | .agg cs=>cs
 | v=>[v]
def one:KV->Bool
 | .agg _ | .jd _ | .bJ=>false
 | _=>true
def wk:KV:=.jd []
inductive KR (α:Type) where
 | no
 | ok (v:α)
 | nF (c:Bool) (v:α)
 | br (c:Bool) (x y:KR α)
def KR.run {α R:Type} (r:KR α) (k:α->Option R):Option R:=
 KR.rec (motive:=fun _=>Option R) none (fun v=>k v) (fun c v=>Bool.rec (motive:=fun _=>Option R) none (k v) c) (fun c _ _ rx ry=>Bool.rec (motive:=fun _=>Option R) ry rx c) r
def KR.map {α β:Type} (f:α->β):KR α->KR β
 | .no=>.no
 | .ok v=>.ok (f v)
 | .nF c v=>.nF c (f v)
 | .br c x y=>.br c (x.map f) (y.map f)
def KR.of {α:Type} : Option α->KR α
 | some v=>.ok v
 | none=>.no
inductive CK where
 | int (k:IntKind)
 | bool
 | str
 | slice (t:TypeId)
 | other
structure Bd where
 agg:Bool
 ks:List CK
def eN {α:Type} (l:List α):Nat->List α
 | 0=>[]
 | n+1=>l++eN l n
def Um (f:TypeId->Option Bd):List Field->Nat->Option (List CK)
 | [],_=>some []
 | fd::fs,off=>cond (Nat.beq fd.offset off) ((f fd.type).bind fun l=>(Um f fs (off+l.ks.length)).map fun r=>l.ks++r) none
def lay (P:Program):Nat->TypeId->Option Bd
 | 0,_=>none
 | n+1,t=>match P.underlying t with
  | some (.int k)=>some ⟨false,[.int k]⟩
  | some .bool=>some ⟨false,[.bool]⟩
  | some .string=>some ⟨false,[.str]⟩
  | some (.slice e)=>some ⟨false,[.slice e]⟩
  | some (.struct fs)=>(Um (lay P n) fs.toList 0).map fun ks=>⟨true,ks⟩
  | some (.array len e)=>(lay P n e).map fun l=>⟨true,eN l.ks len⟩
  | some _=>some ⟨false,[.other]⟩
  | none=>none
def bw (P:Program) (t:TypeId):Bd:=(lay P 12 t).getD ⟨false,[]⟩
def kindOk:CK->KV->Bool
 | .int k,.int k' _=>decide (k=k')
 | .bool,.bool _=>true
 | .str,.str _=>true
 | .slice t,.ts t' .any _ _ _=>Nat.beq t t'
 | _,_=>false
def aO:List CK->List KV->Bool
 | [],[]=>true
 | k::ks,v::vs=>kindOk k v&&aO ks vs
 | _,_=>false
def cG (l:Bd):KV->Bool
 | .agg cs=>l.agg&&aO l.ks cs
 | .jd _=>false
 | v=>!l.agg&&aO l.ks [v]
def gY (l:Bd):List KV->Bool
 | []=>true
 | e::es=>cG l e&&gY l es
def intOf:KV->Int
 | .int _ n=>n
 | _=>0
def kO:KV->Bool
 | .bool b=>b
 | _=>false
def strOf:KV->ByteArray
 | .str s=>s
 | _=>ByteArray.empty
def awj:KV->List KV
 | .ts _ _ _ es _=>es
 | _=>[]
def lenOf:KV->Nat
 | .ts _ _ n _ _=>n
 | _=>0
def vG:KV->Nat->KV
 | .ts _ _ _ _ acc=>acc
 | _=>fun _=>.bJ
def leaf (c:CK) (v:KV):KV:=
 CK.rec (motive:=fun _=>KV) (fun k=>.int k (intOf v)) (.bool (kO v)) (.str (strOf v)) (fun t=>.ts t .any (lenOf v) (awj v) (vG v)) v c
def leaves (e:KV):List CK->Nat->List KV
 | [],_=>[]
 | c::cs,k=>leaf c (e.cells.getD k .bJ)::leaves e cs (Nat.succ k)
def TR (agg:Bool) (cs:List KV):KV:=Bool.rec (motive:=fun _=>KV) (cs.headD .bJ) (.agg cs) agg
def Rp:List CK->Bool
 | []=>true
 | .other::_=>false
 | _::cs=>Rp cs
mutual
def iU:Value->KV
 | .bool b=>.bool b
 | .int k n=>.int k n
 | .string s=>.str s
 | .pointer none=>.JW
 | .slice none 0 0=>.nN
 | .map none=>.EY
 | .nilFunc=>.Lj
 | .nilIface=>.Ll
 | .agg cs=>.agg (ofA cs)
 | .tuple cs=>.jd (ofA cs)
 | _=>.bJ
def ofA:Array Value->List KV
 | ⟨l⟩=>ofL l
def ofL:List Value->List KV
 | []=>[]
 | v::vs=>iU v::ofL vs
end
abbrev FP:=List KV->KR KV
abbrev FR:=aC->List KV->KR KV
abbrev FA:=aC->List KV->KR (KV×aC)
inductive vd where
 | pure (f:FP) (xs:List Operand)
 | read (f:FR) (xs:List Operand)
 | act (f:FA) (xs:List Operand)
 | look (f:FP) (xs:List Operand)
 | GD (g:FuncId) (f:List KV->KR KV) (xs:List Operand)
 | Lm (g:FuncId) (f:List KV->KR KV) (xs:List Operand)
 | call (f:Operand) (args:List Operand)
 | bad
def akX:FP
 | [x]=>.ok x
 | _=>.no
def akY:FP
 | [.bool b]=>.br b (.ok (.bool true)) (.ok (.bool false))
 | [x]=>.ok x
 | _=>.no
def aoB:FP
 | [.bool t,.bool a,.bool b]=>.ok (.bool (cond t a b))
 | [.bool t,a,b]=>.ok (cond t a b)
 | _=>.no
def jv:List KV->Bool
 | []=>true
 | v::vs=>one v&&jv vs
def zV {α:Type} : Nat->List α->Option (List α)
 | 0,_=>some []
 | _+1,[]=>none
 | n+1,x::xs=>(zV n xs).map (x::·)
def GF {α:Type} : Nat->List α->List α
 | 0,l=>l
 | _+1,[]=>[]
 | n+1,_::xs=>GF n xs
def n5 {α:Type} : Nat->List α->List α->Option (List α)
 | 0,l,[]=>some l
 | 0,[],_::_=>none
 | 0,_::l,v::vs=>(n5 0 l vs).map (v::·)
 | _+1,[],[]=>some []
 | _+1,[],_::_=>none
 | n+1,x::l,vs=>(n5 n l vs).map (x::·)
def adV (n:Nat) (z:List KV):FA:=fun A _=>.ok (.ptr A.next 0,A.new (.row z n))
def tv (P:Program) (t:TypeId):vd:=
 match sF P t with
 | some z=>cond (flat z&&z.cells.toList.all scalar&&jv (iU z).cells) (.act (adV (rv P t) (iU z).cells) []) .bad
 | none=>.bad
def Iu (n:Nat):FA:=fun A xs=>
 match xs with
 | [v]=>cond (jv v.cells) (.ok (.ptr A.next 0,A.new (.row v.cells n))) .no
 | _=>.no
def ab9 (place:Nat->Option (Nat×Nat)):List KV->List (Nat×KV)->Option (List KV)
 | cells,[]=>some cells
 | cells,(i,v)::rest=>
  match place i with
  | some (off,size)=>cond (Nat.beq v.cells.length size&&Nat.ble 1 size) ((n5 off cells v.cells).bind fun cs=>ab9 place cs rest) none
  | none=>none
def EZ:List Nat->List KV->List (Nat×KV)
 | i::is,v::vs=>(i,v)::EZ is vs
 | _,_=>[]
def Bf:KV->Bool
 | .bJ=>false
 | _=>true
def Ws (place:Nat->Option (Nat×Nat)) (z:List KV) (is:List Nat):FP:=fun vs=>
 match ab9 place z (EZ is vs) with
 | some cs=>cond (vs.all Bf) (.ok (.agg cs)) .no
 | none=>.no
def xQ (P:Program) (t:TypeId) (is:List Nat) (xs:List Operand):vd:=
 match sF P t,P.underlying t with
 | some z,some (.struct fields)=>
  match placesOf P fields.toList with
  | some l=>cond (flat z&&jv (iU z).cells) (.pure (Ws (ZK l) (iU z).cells is) xs) .bad
  | none=>.bad
 | some z,some (.array _ e)=>
  match size? P e with
  | some n=>cond (flat z&&jv (iU z).cells) (.pure (Ws (Ec n) (iU z).cells is) xs) .bad
  | none=>.bad
 | _,_=>.bad
def pE:Nat->KV:=fun _=>.bJ
def ri (es:List KV):Nat->KV:=fun i=>es.getD i .bJ
def qn (c:CK) (v:KV):KV:=
 match c,v with
 | .slice t,.nN=>.ts t .any 0 [] pE
 | .slice t,.ts t' _ n es acc=>cond (Nat.beq t t') (.ts t .any n es acc) .bJ
 | c,v=>cond (kindOk c v) v .bJ
def E6:List CK->List KV->List KV
 | c::cs,v::vs=>qn c v::E6 cs vs
 | _,_=>[]
def ib (l:Bd) (v:KV):KV:=
 match v with
 | .agg cs=>cond (l.agg&&Nat.beq cs.length l.ks.length) (.agg (E6 l.ks cs)) .bJ
 | v=>cond l.agg .bJ (match l.ks with
  | [c]=>qn c v
  | _=>.bJ)
def setAt (es:List KV) (i:Nat) (v:KV):List KV:=
 match i,es with
 | 0,_::es=>v::es
 | n+1,e::es=>e::setAt es n v
 | _,[]=>[]
def Rq (es:List KV):List (Nat×KV)->List KV
 | []=>es
 | (i,v)::rest=>Rq (setAt es i v) rest
def Un (l:Bd) (e:TypeId) (z:KV) (len:Nat) (is:List Nat):FP:=fun vs=>
 let es:=Rq (eN [z] len) ((EZ is vs).map fun p=>(p.1,ib l p.2))
 cond (vs.all Bf&&gY l (vs.map (ib l))&&gY l es) (.ok (.ts e .exact len es (ri es))) .no
def KX (n:Nat):List Nat->Bool
 | []=>true
 | i::is=>Nat.blt i n&&KX n is
def YD (n:Nat) (z:List KV) (len:Nat) (is:List Nat):FA:=fun A vs=>
 match ab9 (Ec n) (eN z len) (EZ is vs) with
 | some cs=>cond (vs.all Bf&&jv cs) (.ok (.sl A.next 0 len len,A.new (.row cs n))) .no
 | none=>.no
def n6 (P:Program) (t:TypeId) (len:Nat) (is:List Nat) (xs:List Operand):vd:=
 match P.underlying t with
 | some (.slice e)=>
  match P.info? e,sF P e with
  | some i,some z=>cond (Nat.ble (len * i.size) 16777216&&Nat.beq z.cells.size i.size&&Nat.ble 1 i.size&&flat z&&Nat.beq (bw P e).ks.length i.size&&KX len is)
    (cond (Rp (bw P e).ks) (.look (Un (bw P e) e (ib (bw P e) (iU z)) len is) xs) (cond (jv (iU z).cells) (.act (YD i.size (iU z).cells len is) xs) .bad)) .bad
  | _,_=>.bad
 | _=>.bad
def rowAt (A:aC) (b:Nat):Option (List KV):=
 match A.get b with
 | some (.row cs _)=>some cs
 | _=>none
def Om (A:aC) (b:Nat):Option KV:=
 match A.get b with
 | some (.arr v)=>some v
 | some (.lR v)=>some v
 | _=>none
def afR (P:Program) (t Tc:TypeId):Bool:=Nat.beq Tc t&&Rp (bw P t).ks&&decide (ZJ P t=some (bw P t).agg)&&decide (size? P t=some (bw P t).ks.length)&&((bw P t).agg||Nat.beq (bw P t).ks.length 1)
def aca (P:Program) (T:TypeId) (k:Nat) (e:KV) (vs:List KV):Option KV:=(n5 k (leaves e (bw P T).ks 0) vs).map fun cs=>TR (bw P T).agg cs
def xR (acc:Nat->KV) (i:Nat) (v:KV):Nat->KV:=fun j=>cond (Nat.beq j i) v (acc j)
def apN (T:TypeId) (n i:Nat) (es:List KV) (acc:Nat->KV) (e:KV):KV:=.ts T .any n (setAt es i e) (xR acc i e)
def acb (P:Program) (t:TypeId):FR:=fun A xs=>
 match xs with
 | [.ptr b off]=>
  match ZJ P t,size? P t with
  | some ag,some n=>match (rowAt A b).bind fun cs=>zV n (GF off cs) with
   | some l=>cond ag (.ok (.agg l)) (match l with | [v]=>.ok v | _=>.no)
   | none=>.no
  | _,_=>.no
 | [.tp _ Tc i k _ acc]=>
  cond (afR P t Tc) (.ok (TR (bw P t).agg (leaves (acc i) (bw P t).ks k))) .no
 | [.ap T Tc b i k]=>match Om A b with
  | some (.ts T' _ _ _ acc)=>cond (Nat.beq T T'&&afR P t Tc) (.ok (TR (bw P t).agg (leaves (acc i) (bw P t).ks k))) .no
  | _=>.no
 | _=>.no
def Z6 (P:Program) (t:TypeId):FA:=fun A xs=>
 match xs with
 | [.ptr b off,v]=>
  cond (decide (some v.cells.length=size? P t)&&jv v.cells)
   (match A.get b with
   | some (.row cs ca)=>match n5 off cs v.cells with
    | some ck=>.ok (wk,A.put b (.row ck ca))
    | none=>.no
   | _=>.no) .no
 | [.ap T Tc b i k,v]=>
  match A.get b with
  | some (.arr (.ts T' _ n es acc))=>
   cond (Nat.beq T T'&&Nat.beq Tc t&&cG (bw P t) (ib (bw P t) v)&&decide (size? P t=some (bw P t).ks.length))
    (match aca P T k (acc i) (ib (bw P t) v).cells with
    | some e=>.ok (wk,A.put b (.arr (apN T n i es acc e)))
    | none=>.no) .no
  | _=>.no
 | _=>.no
def agA:FP
 | [.ptr b off]=>.ok (.ptr b off)
 | [.tp T Tc i k es acc]=>.ok (.tp T Tc i k es acc)
 | [.ap T Tc b i k]=>.ok (.ap T Tc b i k)
 | [.fn (.func f) first cap]=>.ok (.fn (.func f) first cap)
 | _=>.no
abbrev awk (k:IntKind) (a b:Int):Nat:=(BitVec.ofInt k.bits a &&& BitVec.ofInt k.bits b).toNat
abbrev bOr (k:IntKind) (a b:Int):Nat:=(BitVec.ofInt k.bits a ||| BitVec.ofInt k.bits b).toNat
abbrev awl (k:IntKind) (a b:Int):Nat:=(BitVec.ofInt k.bits a ^^^ BitVec.ofInt k.bits b).toNat
abbrev ase (k:IntKind) (a b:Int):Nat:=(BitVec.ofInt k.bits a &&& ~~~ BitVec.ofInt k.bits b).toNat
def opI (op:BinOp) (k:IntKind) (a b:Int):KR KV:=
 match op with
 | .add=>.ok (.int k (k.wrap (a+b)))
 | .sub=>.ok (.int k (k.wrap (a - b)))
 | .mul=>.ok (.int k (k.wrap (a * b)))
 | .eql=>.ok (.bool (a==b))
 | .neq=>.ok (.bool (a != b))
 | .lss=>.ok (.bool (decide (a < b)))
 | .leq=>.ok (.bool (decide (a<=b)))
 | .gtr=>.ok (.bool (decide (a > b)))
 | .geq=>.ok (.bool (decide (a >= b)))
 | .quo=>.nF (!(decide (b=0))) (.int k (k.wrap (a.tdiv b)))
 | .rem=>.nF (!(decide (b=0))) (.int k (a.tmod b))
 | .and=>.ok (.int k (k.wrap (awk k a b)))
 | .or=>.ok (.int k (k.wrap (bOr k a b)))
 | .xor=>.ok (.int k (k.wrap (awl k a b)))
 | .andNot=>.ok (.int k (k.wrap (ase k a b)))
 | _=>.no
def awm (op:BinOp) (k:IntKind) (a b:Int):KR KV:=
 match op with
 | .shl=>.nF (!(decide (b < 0))) (.int k (k.wrap (a * 2 ^ (min b.toNat k.bits))))
 | .shr=>.nF (!(decide (b < 0))) (.int k (a.fdiv (2 ^ (min b.toNat k.bits))))
 | _=>.no
def amv:BinOp->Bool
 | .shl | .shr=>true
 | _=>false
def eqK:KV->KV->Option Bool
 | .int k a,.int k' b=>cond (decide (k=k')) (some (a==b)) none
 | .bool a,.bool b=>some (a==b)
 | .str a,.str b=>some (a==b)
 | _,_=>none
def xE:List KV->List KV->Option Bool
 | [],[]=>some true
 | x::xs,y::ys=>match eqK x y,xE xs ys with
  | some a,some b=>some (a&&b)
  | _,_=>none
 | _,_=>none
def JX (P:Program):Nat->TypeId->Bool
 | 0,_=>false
 | n+1,t=>(match P.info? t,lay P (n+1) t with
   | some i,some l=>Nat.beq i.size l.ks.length
   | _,_=>false)&&match P.underlying t with
  | some (.int _) | some .bool | some .string=>true
  | some (.struct fs) => !(P.stoodInHeld t) && fs.toList.all fun f => !(f.name == "_") && JX P n f.type
  | some (.array _ e)=>JX P n e
  | _=>false
def asf (P:Program) (t:TypeId) (x y:KV):Option Bool:=
 match x,y with
 | .agg xs,.agg ys=>cond ((bw P t).agg&&JX P 12 t&&!(P.eqGuardType P.depth t)&&aO (bw P t).ks xs&&aO (bw P t).ks ys) (xE xs ys) none
 | .bool a,.bool b=>match P.underlying t with
  | some .bool=>some (a==b)
  | _=>none
 | .nN,.nN=>match P.underlying t with
  | some (.slice _)=>some true
  | _=>none
 | .ts _ _ n _ _,.nN=>match P.underlying t with
  | some (.slice _)=>cond (Nat.beq n 0) none (some false)
  | _=>none
 | .nN,.ts _ _ n _ _=>match P.underlying t with
  | some (.slice _)=>cond (Nat.beq n 0) none (some false)
  | _=>none
 | .JW,.JW=>match P.underlying t with
  | some (.pointer _)=>some true
  | _=>none
 | .ptr _ _,.JW=>match P.underlying t with
  | some (.pointer _)=>some false
  | _=>none
 | .JW,.ptr _ _=>match P.underlying t with
  | some (.pointer _)=>some false
  | _=>none
 | _,_=>none
def asg (P:Program) (op:BinOp) (t:TypeId):FP
 | [.int j a,.int k b]=>cond (amv op) (awm op j a b) (cond (decide (j=k)) (opI op j a b) .no)
 | [.str a,.str b]=>match op with
  | .eql=>.ok (.bool (a.toList==b.toList))
  | .neq=>.ok (.bool !(a.toList==b.toList))
  | .lss=>.ok (.bool (Op.bytesLess a.toList b.toList))
  | .add=>.nF (Nat.ble (a.size+b.size) 9223372036854775807) (.str (a++b))
  | _=>.no
 | [x,y]=>match op,asf P t x y with
  | .eql,some b=>.ok (.bool b)
  | .neq,some b=>.ok (.bool !b)
  | _,_=>.no
 | _=>.no
def kUn (op:UnOp):FP
 | [.bool b]=>match op with
  | .not=>.ok (.bool !b)
  | _=>.no
 | [.int k n]=>match op with
  | .neg=>.ok (.int k (k.wrap (0 - n)))
  | .xor=>.ok (.int k (k.wrap (BitVec.ofInt k.bits (if k.signed then -1 else k.max) ^^^ BitVec.ofInt k.bits n).toNat))
  | _=>.no
 | _=>.no
def apO (k:IntKind):FP
 | [.int _ n]=>.ok (.int k (k.wrap n))
 | _=>.no
def apP:FP
 | [.str s]=>.ok (.str s)
 | _=>.no
def byteOf:KV->UInt8
 | .int _ n=>UInt8.ofNat n.toNat
 | _=>0
def apQ:KV->Bool
 | .int .u8 n=>decide (0<=n)&&decide (n < 256)
 | _=>false
def Rr:FP
 | [.nN]=>.ok (.str ⟨⟨[]⟩⟩)
 | [.ts _ _ _ es _]=>.nF (es.all apQ) (.str ⟨⟨es.map byteOf⟩⟩)
 | _=>.no
def YE (e:TypeId):FP
 | [.str s]=>.ok (.ts e .any s.size (s.data.toList.map fun b=>.int .u8 b.toNat) (fun i=>.int .u8 (s.data.toList.getD i 0).toNat))
 | _=>.no
def sI (P:Program) (src dst:TypeId) (x:Operand):vd:=
 match P.underlying src,P.underlying dst with
 | some (.int _),some (.int k)=>.pure (apO k) [x]
 | some .string,some .string=>.pure apP [x]
 | some (.slice e),some .string=>cond (isByte P e) (.read (fun _=>Rr) [x]) .bad
 | some .string,some (.slice e)=>cond (isByte P e) (.look (YE e) [x]) .bad
 | _,_=>.bad
def Rs (f:Fn) (k:Nat):FP:=fun vs=>
 match zV k vs with
 | some first=>.ok (.fn f first (GF k vs))
 | none=>.no
def adW (s:TypeId) (off:Nat) (ft:TypeId) (B6:Bool):FP
 | [.ptr b o]=>.ok (.ptr b (o+off))
 | [.tp T Tc i k es acc]=>cond (Nat.beq Tc s&&B6) (.ok (.tp T ft i (k+off) es acc)) .no
 | [.ap T Tc b i k]=>cond (Nat.beq Tc s&&B6) (.ok (.ap T ft b i (k+off))) .no
 | _=>.no
def ash:CK->CK->Bool
 | .int a,.int b=>decide (a=b)
 | .bool,.bool=>true
 | .str,.str=>true
 | .slice a,.slice b=>Nat.beq a b
 | .other,.other=>true
 | _,_=>false
def GG:List CK->List CK->Bool
 | [],[]=>true
 | a::aw5,b::bs=>ash a b&&GG aw5 bs
 | _,_=>false
def afS (P:Program) (s:TypeId) (off:Nat) (ft:TypeId):Bool:=
 match zV (bw P ft).ks.length (GF off (bw P s).ks) with
 | some l=>GG l (bw P ft).ks
 | none=>false
def pF (P:Program) (s:TypeId) (x:Operand) (f:Nat):vd:=
 match A9 P s f with
 | some fd=>match size? P fd.type with
  | some (_+1)=>.pure (adW s fd.offset fd.type (afS P s fd.offset fd.type)) [x]
  | _=>.bad
 | none=>.bad
def acd (P:Program) (t:TypeId) (cs:List KV) (off:Nat):Option KV:=
 match ZJ P t with
 | some true=>(size? P t).bind fun n=>(zV n (GF off cs)).map fun l=>.agg l
 | some false=>(GF off cs).head?
 | none=>none
def apR (P:Program) (fd:Field):FP
 | [.agg cs]=>.of (acd P fd.type cs fd.offset)
 | _=>.no
def xS (P:Program) (t:TypeId) (x:Operand) (f:Nat):vd:=
 match A9 P t f with
 | some fd=>.pure (apR P fd) [x]
 | none=>.bad
def inR (i:Int) (n:Nat):Bool:=decide (0<=i)&&decide (i < (n:Int))
def apS {α:Type} (i:Int) (f:Nat->KR α) (m:Nat):Nat->KR α:=Nat.rec (motive:=fun _=>Nat->KR α) (fun _=>.no) (fun _ ih j=>.br (decide (i=(j:Int))) (f j) (ih (Nat.succ j))) m
def agB (P:Program) (t:TypeId) (len n:Nat) (e:TypeId):FP
 | [.ptr b o,.int _ i]=>cond (Nat.ble len 8) (apS i (fun j=>.ok (.ptr b (o+j * n))) len 0) (.nF (inR i len) (.ptr b (o+i.toNat * n)))
 | [.tp T Tc j k es acc,.int _ i]=>cond (Nat.beq Tc t&&GG (bw P t).ks (eN (bw P e).ks len)&&Nat.beq (bw P e).ks.length n) (.nF (inR i len) (.tp T e j (k+i.toNat * n) es acc)) .no
 | [.ap T Tc b j k,.int _ i]=>cond (Nat.beq Tc t&&GG (bw P t).ks (eN (bw P e).ks len)&&Nat.beq (bw P e).ks.length n) (.nF (inR i len) (.ap T e b j (k+i.toNat * n))) .no
 | _=>.no
def ajR (e n:Nat) (B6:Bool):FP
 | [.sl b o len _,.int _ i]=>.nF (inR i len) (.ptr b (o+i.toNat * n))
 | [.ts T _ m es acc,.int _ i]=>cond (Nat.beq T e&&B6) (.nF (inR i m) (.tp T T i.toNat 0 es acc)) .no
 | [.al T b o m,.int _ i]=>cond (Nat.beq T e&&B6) (.nF (inR i m) (.ap T T b (o+i.toNat) 0)) .no
 | _=>.no
def pG (P:Program) (t:TypeId) (x ix:Operand):vd:=
 match P.underlying t with
 | some (.array len e)=>match size? P e with
  | some n=>.pure (agB P t len n e) [x,ix]
  | none=>.bad
 | some (.slice e)=>match size? P e with
  | some n=>.pure (ajR e n (Nat.beq (bw P e).ks.length n)) [x,ix]
  | none=>.bad
 | _=>.bad
def YF (P:Program) (len n:Nat) (e:TypeId):FP
 | [.agg cs,.int _ i]=>cond (Nat.ble len 8) (apS i (fun j=>.of (acd P e cs (j * n))) len 0) (match acd P e cs (i.toNat * n) with
  | some v=>.nF (inR i len) v
  | none=>.no)
 | _=>.no
def agC:FP
 | [.str s,.int _ i]=>.nF (inR i s.size) (.int .u8 ((s.data.toList.getD i.toNat 0).toNat))
 | _=>.no
def xT (P:Program) (t:TypeId) (x ix:Operand):vd:=
 match P.underlying t with
 | some (.array len e)=>match size? P e with
  | some n=>.pure (YF P len n e) [x,ix]
  | none=>.bad
 | some .string=>.pure agC [x,ix]
 | _=>.bad
def ajS {α:Type} : Nat->List α->Option α
 | _,[]=>none
 | 0,x::_=>some x
 | n+1,_::xs=>ajS n xs
def ajT (i:Nat):FP
 | [.jd vs]=>.of (ajS i vs)
 | _=>.no
def apT:FP
 | [.ts _ _ n _ _]=>.ok (.int .i64 (n:Int))
 | [.sl _ _ n _]=>.ok (.int .i64 (n:Int))
 | [.al _ _ _ n]=>.ok (.int .i64 (n:Int))
 | [.nN]=>.ok (.int .i64 0)
 | _=>.no
def amw:FP
 | [.str s]=>.ok (.int .i64 (s.size:Int))
 | _=>.no
def agD (P:Program) (argTypes:List TypeId) (args:List Operand):vd:=
 match argTypes with
 | [t]=>match P.underlying t with
  | some (.slice _)=>.pure apT args
  | some .string=>.pure amw args
  | _=>.bad
 | _=>.bad
def Py (mx:Bool):FP
 | [.int j a,.int k b]=>cond (decide (j=k)) (.ok (.int j (cond mx (max a b) (min a b)))) .no
 | [.int j a,.int k b,.int l c]=>cond (decide (j=k)&&decide (j=l)) (.ok (.int j (cond mx (max (max a b) c) (min (min a b) c)))) .no
 | _=>.no
def Z7 (len:Nat) (lo hi:Bool):List KV->Option (Int×Int)
 | []=>cond (lo||hi) none (some (0,len))
 | [.int _ x]=>cond (lo&&!hi) (some (x,len)) (cond (!lo&&hi) (some (0,x)) none)
 | [.int _ x,.int _ y]=>cond (lo&&hi) (some (x,y)) none
 | _=>none
def ace (P:Program) (n:Nat) (lo hi:Bool):FR:=fun A xs=>
 match xs with
 | .ts T _ m es acc::r=>match Z7 m lo hi r with
  | some (x,y)=>cond (Nat.beq (bw P T).ks.length n) (.nF (decide (0<=x)&&decide (x<=y)&&decide (y<=(m:Int))) (.ts T .any (y.toNat - x.toNat) ((es.drop x.toNat).take (y.toNat - x.toNat)) (fun i=>acc (x.toNat+i)))) .no
  | none=>.no
 | .sl b o len cap::r=>match A.get b with
  | some (.row _ ca)=>match Z7 len lo hi r with
   | some (x,y)=>cond (Nat.beq ca n) (.nF (decide (0<=x)&&decide (x<=y)&&decide (y<=(len:Int))&&decide (len<=cap)) (.sl b (o+x.toNat * n) (y.toNat - x.toNat) (cap - x.toNat))) .no
   | none=>.no
  | _=>.no
 | .al T b o m::r=>match Om A b with
  | some (.ts T' _ _ _ _)=>match Z7 m lo hi r with
   | some (x,y)=>cond (Nat.beq (bw P T).ks.length n&&Nat.beq T T') (.nF (decide (0<=x)&&decide (x<=y)&&decide (y<=(m:Int))) (.al T b (o+x.toNat) (y.toNat - x.toNat))) .no
   | none=>.no
  | _=>.no
 | _=>.no
def YG (len n:Nat) (lo hi:Bool):FR:=fun A xs=>
 match xs with
 | .ptr b o::r=>match A.get b with
  | some (.row cs ca)=>match Z7 len lo hi r with
   | some (x,y)=>cond (Nat.beq ca n&&Nat.ble (o+len * n) cs.length) (.nF (decide (0<=x)&&decide (x<=y)&&decide (y<=(len:Int))) (.sl b (o+x.toNat * n) (y.toNat - x.toNat) (len - x.toNat))) .no
   | none=>.no
  | _=>.no
 | _=>.no
def YH (lo hi:Bool):FP
 | .str s::r=>match Z7 s.size lo hi r with
  | some (x,y)=>.nF (decide (0<=x)&&decide (x<=y)&&decide (y<=(s.size:Int))) (.str ⟨⟨(s.data.toList.drop x.toNat).take (y.toNat - x.toNat)⟩⟩)
  | none=>.no
 | _=>.no
def xU (P:Program) (t:TypeId) (x:Operand) (lo hi mx:Option Operand):vd:=
 match P.underlying t with
 | some (.slice e)=>match size? P e with
  | some n=>cond (Nat.ble 1 n&&mx.isNone) (.read (ace P n lo.isSome hi.isSome) (x::(hH lo++hH hi))) .bad
  | none=>.bad
 | some (.array len e)=>match size? P e with
  | some n=>cond (Nat.ble 1 n&&mx.isNone) (.read (YG len n lo.isSome hi.isSome) (x::(hH lo++hH hi))) .bad
  | none=>.bad
 | some .string=>cond mx.isNone (.pure (YH lo.isSome hi.isSome) (x::(hH lo++hH hi))) .bad
 | _=>.bad
def j6 (b n m:Nat):Bool:=Nat.ble ((n+m+512) * b) 17592186044416&&Nat.ble (n+m) 17592186044416&&(Nat.blt 0 m||Nat.beq n 0)
def ic (top n:Nat):Bool:=Nat.beq top n
def dZ (n:Nat) (f g:Nat->KV):Nat->KV:=fun i=>cond (Nat.blt i n) (f i) (g (i - n))
def Z8 (e sz b n:Nat) (base:List KV) (ab:Nat->KV) (A:aC) (f m:Nat) (new:List KV) (an:Nat->KV) (more:Bool):KR (KV×aC):=
 .nF (more&&j6 b n m)
  (.ts e (.bm f) (n+m) (base++new) (dZ n ab an),A.put f (.bm (n+m) sz))
def Uo (e sz b:Nat):FA:=fun A xs=>
 match xs with
 | [.nN,.ts e' _ m new an]=>cond (Nat.beq e e') (Z8 e sz b 0 [] pE (A.new (.bm 0 sz)) A.next m new an true) .no
 | [.ts e1 .exact n es ab,.ts e' _ m new an]=>cond (Nat.beq e e'&&Nat.beq e e1) (Z8 e sz b n es ab (A.new (.bm 0 sz)) A.next m new an (Nat.blt 0 m)) .no
 | [.ts e1 (.bm f) n es ab,.ts e' _ m new an]=>match A.get f with
  | some (.bm top sz')=>cond (Nat.beq e e'&&Nat.beq e e1&&Nat.beq sz' sz) (Z8 e sz b n es ab A f m new an (ic top n)) .no
  | _=>.no
 | _=>.no
def akZ (A:aC) (T b o n:Nat):Option KV:=
 match Om A b with
 | some (.ts T' _ _ es acc)=>cond (Nat.beq T T') (some (.ts T .any n ((es.drop o).take n) (fun i=>acc (o+i)))) none
 | _=>none
def Uq (A:aC) (v:KV):Option KV:=
 match v with
 | .al T b o n=>akZ A T b o n
 | .ts T m n es acc=>some (.ts T m n es acc)
 | _=>none
def apU (b n m:Nat):Bool:=Nat.ble ((n+m+512) * b) 17592186044416&&Nat.ble (n+m) 17592186044416
def afT (e b n:Nat) (base:List KV) (ab:Nat->KV) (A:aC) (m:Nat) (new:List KV) (an:Nat->KV) (more:Bool):KR (KV×aC):=
 .nF (more&&apU b n m) (.al e A.next 0 (n+m),A.new (.arr (.ts e .any (n+m) (base++new) (dZ n ab an))))
def KY (e b:Nat):FA:=fun A xs=>
 match xs with
 | [.nN,.ts e' _ m new an]=>cond (Nat.beq e e') (afT e b 0 [] pE A m new an true) .no
 | [.al e1 f o n,.ts e' _ m new an]=>match A.get f with
  | some (.arr (.ts e2 _ _ es acc))=>cond (Nat.beq e e'&&Nat.beq e e1&&Nat.beq e e2) (afT e b n (es.take n) acc (A.put f .dead) m new an (Nat.beq o 0)) .no
  | _=>.no
 | _=>.no
def asi:KV->Bool
 | .al _ _ _ _=>true
 | _=>false
def Pz (e sz b:Nat) (mt:Bool):FA:=fun A xs=>
 match xs with
 | [x,y]=>match Uq A y with
  | some y'=>cond (asi x) (KY e b A [x,y']) (cond mt (KY e b A [x,y']) (Uo e sz b A [x,y']))
  | none=>.no
 | _=>.no
def Nb (P:Program) (mt:TypeId->Bool) (argTypes:List TypeId) (args:List Operand):vd:=
 match argTypes with
 | [t,u]=>
  match P.underlying t,P.underlying u with
  | some (.slice e),some (.slice _)=>
   match P.info? e with
   | some i=>match i.zero with
    | some z=>cond (Nat.ble 1 i.size&&Nat.beq z.cells.size i.size&&Nat.beq (bw P e).ks.length i.size) (.act (Pz e i.size i.bytes (mt e)) args) .bad
    | none=>.bad
   | none=>.bad
  | _,_=>.bad
 | _=>.bad
def Ur (n b:Nat) (z:List KV):FA:=fun A xs=>
 match xs with
 | [.int _ l,.int _ c]=>.nF (decide (0<=l)&&decide (l<=c)&&Nat.ble (b * c.toNat) 281474976710656) (.sl A.next 0 l.toNat c.toNat,A.new (.row (eN z c.toNat) n))
 | _=>.no
def agE (A:aC) (v:KV):KV×aC:=
 match v with
 | .al T b o n=>match A.get b with
  | some (.arr (.ts T' m N es acc))=>cond (Nat.beq T T') (.ts T .any n ((es.drop o).take n) (fun i=>acc (o+i)),A.put b (.lR (.ts T' m N es acc))) (.bJ,A)
  | some (.lR (.ts T' _ _ es acc))=>cond (Nat.beq T T') (.ts T .any n ((es.drop o).take n) (fun i=>acc (o+i)),A) (.bJ,A)
  | _=>(.bJ,A)
 | v=>(v,A)
def acf (A:aC):List KV->List KV×aC
 | []=>([],A)
 | v::vs=>((agE A v).1::(acf (agE A v).2 vs).1,(acf (agE A v).2 vs).2)
def ajU (A:aC) (v:KV):KV×aC:=
 match v with
 | .agg cs=>(.agg (acf A cs).1,(acf A cs).2)
 | v=>agE A v
def B7 (A:aC):List KV->List KV×aC
 | []=>([],A)
 | v::vs=>((ajU A v).1::(B7 (ajU A v).2 vs).1,(B7 (ajU A v).2 vs).2)
def acg (T b:Nat) (z:KV):FA:=fun A xs=>
 match xs with
 | [.int _ l,.int _ c]=>.nF (decide (0<=l)&&decide (l<=c)&&Nat.ble (b * c.toNat) 281474976710656) (.al T A.next 0 l.toNat,A.new (.arr (.ts T .any c.toNat (eN [z] c.toNat) (fun _=>z))))
 | _=>.no
def ak0 (T b:Nat) (z:KV):FP:=fun xs=>
 match xs with
 | [.int _ l,.int _ c]=>.nF (decide (0<=l)&&decide (l<=c)&&Nat.ble (b * c.toNat) 281474976710656) (.ts T .any l.toNat (eN [z] l.toNat) (fun _=>z))
 | _=>.no
def zW (P:Program) (mt:TypeId->Bool) (t:TypeId) (l c:Operand):vd:=
 match P.underlying t with
 | some (.slice e)=>
  match P.info? e with
  | some i=>match i.zero with
   | some z=>cond (mt (e+1000000)) (cond (Nat.ble 1 i.size&&Nat.ble 1 i.bytes&&Nat.beq z.cells.size i.size&&flat z&&z.cells.toList.all scalar&&Nat.beq (bw P e).ks.length i.size&&cG (bw P e) (ib (bw P e) (iU z))) (.look (ak0 e i.bytes (ib (bw P e) (iU z))) [l,c]) .bad) <| cond (mt e) (cond (Nat.ble 1 i.size&&Nat.ble 1 i.bytes&&Nat.beq z.cells.size i.size&&flat z&&z.cells.toList.all scalar&&Nat.beq (bw P e).ks.length i.size&&cG (bw P e) (ib (bw P e) (iU z))) (.act (acg e i.bytes (ib (bw P e) (iU z))) [l,c]) .bad) <| cond (Nat.ble 1 i.size&&Nat.ble 1 i.bytes&&Nat.beq z.cells.size i.size&&flat z&&z.cells.toList.all scalar&&jv (iU z).cells) (.act (Ur i.size i.bytes (iU z).cells) [l,c]) .bad
   | none=>.bad
  | none=>.bad
 | _=>.bad
def E7 (es:List KV) (o:Nat) (new:List KV):List KV:=es.take o++new++es.drop (o+new.length)
def nJ (o k:Nat) (f g:Nat->KV):Nat->KV:=fun i=>cond (Nat.blt i o) (f i) (cond (Nat.blt i (o+k)) (g (i - o)) (f i))
def aoC (e:Nat):FA:=fun A xs=>
 match xs with
 | [.al e1 b o n,y]=>match Uq A y,A.get b with
  | some (.ts e' _ m new an),some (.arr (.ts e2 _ N es acc))=>cond (Nat.beq e e'&&Nat.beq e e1&&Nat.beq e e2)
    (.ok (.int .i64 (Nat.min m n:Nat),A.put b (.arr (.ts e .any N (E7 es o (new.take (Nat.min m n))) (nJ o (Nat.min m n) acc an))))) .no
  | _,_=>.no
 | _=>.no
def Wt (P:Program) (argTypes:List TypeId) (args:List Operand):vd:=
 match argTypes with
 | [t,u]=>
  match P.underlying t,P.underlying u with
  | some (.slice e),some (.slice _)=>match size? P e with
   | some n=>cond (Nat.ble 1 n&&Nat.beq (bw P e).ks.length n) (.act (aoC e) args) .bad
   | none=>.bad
  | _,_=>.bad
 | _=>.bad
def E8 (P:Program) (mt:TypeId->Bool) (b:Builtin) (argTypes:List TypeId) (args:List Operand):vd:=
 match b with
 | .len=>agD P argTypes args
 | .min=>.pure (Py false) args
 | .max=>.pure (Py true) args
 | .append=>Nb P mt argTypes args
 | .copy=>Wt P argTypes args
 | _=>.bad
inductive Nc where
 | no
 | out (e:aq) (t:bN) (A:aC)
 | br (c:Bool) (x y:Nc)
inductive y9 where
 | no
 | out (v:KV) (A:aC)
 | br (c:Bool) (x y:y9)
structure amx where
 ac:FuncId->Option (List KV->aC->y9)
 mt:TypeId->Bool
 fz:Bool
 eg:Bool
def amx.none:amx:=⟨fun _=>.none,fun _=>false,false,false⟩
structure fW where
 pc:FuncId->Option (List KV->KR KV)
 lp:FuncId->Nat->Option (bN->aC->Nc)
 x:amx
def fW.none:fW:=⟨fun _=>.none,fun _ _=>.none,.none⟩
def vH (P:Program) (f:KV->KV) (t:TypeId) (e:KV):KV:=TR (bw P t).agg ((leaves e (bw P t).ks 0).map f)
def eG (P:Program) (d:Nat):KV->KV:=Nat.rec (motive:=fun _=>KV->KV) (fun v=>v) (fun _ ih v=>match v with
 | .ts t _ n _ acc=>.ts t .any n ((List.range n).map fun i=>vH P ih t (acc i)) (fun i=>vH P ih t (acc i))
 | v=>v) d
def iV:Nat:=6
def Z9 (P:Program) (t:TypeId) (v:KV):KV:=cond (cG (bw P t) (ib (bw P t) v)) (vH P (eG P iV) t (ib (bw P t) v)) .bJ
def normArgs (P:Program):List TypeId->List KV->List KV
 | t::ts,v::vs=>Z9 P t v::normArgs P ts vs
 | _,_=>[]
def gp (P:Program) (g:FuncId):List TypeId:=match P.funcs.toList[g]? with
 | some fn=>fn.params.toList
 | none=>[]
def fW.amy (cfg:fW) (g:FuncId):Bool:=cfg.x.fz||cfg.x.mt (2000000+g)
def oE (P:Program) (cfg:fW) (c:Call):vd:=
 match c.callee with
 | .value (.func g)=>match cfg.pc g with
  | some F=>cond (cfg.amy g) (.Lm g (fun vs=>cond (Nat.beq vs.length (gp P g).length) (F (normArgs P (gp P g) vs)) .no) c.args.toList)
    (.GD g (fun vs=>cond (Nat.beq vs.length (gp P g).length) (F (normArgs P (gp P g) vs)) .no) c.args.toList)
  | none=>.call (.func g) c.args.toList
 | .value f=>.call f c.args.toList
 | .builtin b=>E8 P cfg.x.mt b c.argTypes.toList c.args.toList
 | .invoke _ _=>.bad
def CQ:Fn->Bool
 | .yield _=>true
 | _=>false
def cf (P:Program) (cfg:fW):Op->vd
 | .move x=>.pure akX [x]
 | .assign x=>.pure (cond cfg.x.eg akY akX) [x]
 | .pick c a b=>.pure aoB [c,a,b]
 | .alloc t=>tv P t
 | .box t x=>.act (Iu (rv P t)) [x]
 | .build t parts=>xQ P t (parts.toList.map (·.1)) (parts.toList.map (·.2))
 | .buildSlice t len parts=>n6 P t len (parts.toList.map (·.1)) (parts.toList.map (·.2))
 | .load t a=>.read (acb P t) [a]
 | .store t a x=>.act (Z6 P t) [a,x]
 | .nilCheck x=>.pure agA [x]
 | .binOp op t x y _=>.pure (asg P op t) [x,y]
 | .unOp op _ x=>.pure (kUn op) [x]
 | .convert src dst x=>sI P src dst x
 | .makeFunc fn first cap=>cond (CQ fn) .bad (.pure (Rs fn first.size) (first.toList++cap.toList))
 | .fieldAddr s x f=>pF P s x f
 | .field t x f=>xS P t x f
 | .indexAddr t x ix=>pG P t x ix
 | .index t x ix=>xT P t x ix
 | .extract t ix=>.pure (ajT ix) [t]
 | .slice t x lo hi mx=>xU P t x lo hi mx
 | .makeSlice t l c=>zW P cfg.x.mt t l c
 | .call c=>oE P cfg c
 | _=>.bad
def nG (t:bN):Operand->KV
 | .tmp i=>(t.get i).getD .bJ
 | .const v=>cond (flat v) (iU v) .bJ
 | .global _=>.bJ
 | .func f=>.fn (.func f) [] []
def om (t:bN):List Operand->List KV
 | []=>[]
 | x::xs=>nG t x::om t xs
def tN (t:bN) (dst:Option Tmp) (v:KV):bN:=
 match dst with
 | some d=>t.set v d
 | none=>t
def Ln (args:List KV):KV->Option (FuncId×List KV)
 | .fn (.func g) first cap=>some (g,first++args++cap)
 | _=>none
inductive BK where
 | bool (b:Bool)
 | jd
 | no
def zc:KV->BK
 | .bool b=>.bool b
 | .jd _=>.jd
 | _=>.no
section
variable {R:Type}
abbrev qC (R:Type):=FuncId->List KV->aC->(KV->aC->Option R)->Option R
def Ut (bL:qC R) (t:bN) (A:aC) (k:KV->aC->Option R) (ins:vd):Option R:=
 vd.rec (motive:=fun _=>Option R)
  (fun f xs=>(f (om t xs)).run fun v=>k v A)
  (fun f xs=>(f A (om t xs)).run fun v=>k v A)
  (fun f xs=>(f A (om t xs)).run fun p=>k p.1 p.2)
  (fun f xs=>(f (om t xs)).run fun v=>k v A)
  (fun _ f xs=>(f (om t xs)).run fun v=>k v A)
  (fun _ f xs=>(f (B7 A (om t xs)).1).run fun v=>k v (B7 A (om t xs)).2)
  (fun f args=>Option.rec (motive:=fun _=>Option R) none (fun p=>bL p.1 p.2 A k) (Ln (om t args) (nG t f)))
  none ins
def amz (t:bN) (d:Option Tmp) (want:Bool) (yes no:bN->Option R):Option R:=
 Option.rec (motive:=fun _=>Option R) none (fun d=>BK.rec (motive:=fun _=>Option R)
  (fun b=>Bool.rec (motive:=fun _=>Option R)
   (Bool.rec (motive:=fun _=>Option R) (yes (t.set (.bool false) d)) (no (t.set (.bool false) d)) want)
   (Bool.rec (motive:=fun _=>Option R) (no (t.set (.bool true) d)) (yes (t.set (.bool true) d)) want) b)
  (no t) none (zc ((t.get d).getD .bJ))) d
def DD (P:Program) (cfg:fW) (bL:qC R) (all:List Oper) (o:Oper) (k:bN->aC->Option R) (t:bN) (A:aC):Option R:=
 Option.rec (motive:=fun _=>Option R) (Ut bL t A (fun v A=>k (tN t o.dst v) A) (cf P cfg o.op))
  (fun g=>amz t ((all[g.1]?).bind (·.dst)) g.2 (fun t=>Ut bL t A (fun v A=>k (tN t o.dst v) A) (cf P cfg o.op)) (fun t=>k (tN t o.dst wk) A)) o.guard
def xF (P:Program) (cfg:fW) (bL:qC R) (all:List Oper) (k:bN->aC->Option R) (os:List Oper):bN->aC->Option R:=
 List.rec (motive:=fun _=>bN->aC->Option R) k (fun o _ ih=>DD P cfg bL all o ih) os
abbrev KE (R:Type):=aq->bN->aC->Option R
def ak1 (t:bN) (c:Operand) (f g:bN->Option R):Option R:=
 match c with
 | .tmp d=>BK.rec (motive:=fun _=>Option R) (fun b=>Bool.rec (motive:=fun _=>Option R) (g (t.set (.bool false) d)) (f (t.set (.bool true) d)) b) none none (zc ((t.get d).getD .bJ))
 | c=>BK.rec (motive:=fun _=>Option R) (fun b=>Bool.rec (motive:=fun _=>Option R) (g t) (f t) b) none none (zc (nG t c))
def ef (i:vd):Nat:=vd.rec (motive:=fun _=>Nat) (fun _ _=>0) (fun _ _=>1) (fun _ _=>3) (fun _ _=>0) (fun _ _ _=>0) (fun _ _ _=>3) (fun _ _=>9) 9 i
def afU:vd->List Operand
 | .pure _ xs=>xs
 | .read _ xs=>xs
 | .act _ xs=>xs
 | .look _ xs=>xs
 | .GD _ _ xs=>xs
 | .Lm _ _ xs=>xs
 | .call f xs=>f::xs
 | .bad=>[]
def qt (P:Program) (cfg:fW) (all:List Oper) (o:Oper):List Tmp:=KU all o++u6 (afU (cf P cfg o.op))
def xV (P:Program) (cfg:fW) (all:List Oper) (x y:Oper):Bool:=Uf x.dst (qt P cfg all y)||Uf y.dst (qt P cfg all x)||ZP x.dst y.dst
def Oo (P:Program) (cfg:fW) (all:List Oper) (x y:Oper):Bool:=
 xV P cfg all x y||(Nat.ble 3 (ef (cf P cfg x.op))&&!(Nat.beq (ef (cf P cfg y.op)) 0))||(Nat.ble 3 (ef (cf P cfg y.op))&&!(Nat.beq (ef (cf P cfg x.op)) 0))
def Wu:Op->Bool
 | .alloc _=>true
 | .box _ _=>true
 | .call c=>match c.callee with
  | .builtin .append=>true
  | _=>false
 | _=>false
def aaa:Op->Option Operand
 | .store _ a _=>some a
 | _=>none
def apV:Op->Option Operand
 | .load _ a=>some a
 | _=>none
def zX (i:Nat) (x:Operand):List Oper->Nat->Bool
 | [],_=>true
 | o::os,j=>(Nat.blt j i||!(Uf o.dst (u6 [x])))&&zX i x os (Nat.succ j)
def Rt (i:Nat) (x:Option Operand) (all:List Oper):Bool:=
 match x with
 | some x=>zX i x all 0
 | none=>true
def Ru (x y:Oper):Option (Option Operand×Operand):=
 match apV y.op with
 | some a=>cond (Wu x.op) (some (none,a)) (match aaa x.op with
  | some a2=>some (some a2,a)
  | none=>none)
 | none=>none
def adX (all:List Oper) (j:Nat) (x:Oper) (i:Nat) (y:Oper):Option (Option Operand×Operand):=
 match Ru x y with
 | some p=>cond (zX i p.2 all 0&&Rt j p.1 all) (some p) none
 | none=>match Ru y x with
  | some p=>cond (zX j p.2 all 0&&Rt i p.1 all) (some p) none
  | none=>none
def PA (t:bN) (nx:Nat) (p:Option Operand×Operand):Bool:=
 match nG t p.2 with
 | .tp _ _ _ _ _ _=>true
 | .ptr b _=>Nat.blt b nx&&(match p.1 with
  | some a2=>(match nG t a2 with
   | .ptr b2 _=>!(Nat.beq b b2)
   | .ap _ _ _ _ _=>true
   | _=>false)
  | none=>true)
 | _=>false
def YI (t:bN) (nx:Nat) (l:List (Option Operand×Operand)):Bool:=List.rec (motive:=fun _=>Bool) true (fun p _ ih=>Bool.rec false ih (PA t nx p)) l
def Iv (P:Program) (cfg:fW) (all:List Oper) (b:List Nat) (i:Nat) (y:Oper):List Oper->Nat->List (Option Operand×Operand)
 | [],_=>[]
 | x::xs,j=>cond (Nat.ble i j||!Oo P cfg all x y||tK b i j) (Iv P cfg all b i y xs (Nat.succ j)) (match adX all j x i y with
  | some p=>p::Iv P cfg all b i y xs (Nat.succ j)
  | none=>Iv P cfg all b i y xs (Nat.succ j))
def ach (P:Program) (cfg:fW) (all:List Oper) (b:List Nat):List Oper->Nat->List (Option Operand×Operand)
 | [],_=>[]
 | o::os,i=>Iv P cfg all b i o all 0++ach P cfg all b os (Nat.succ i)
def YJ (P:Program) (cfg:fW) (all:List Oper):Bool:=all.all fun o=>!(Nat.ble 3 (ef (cf P cfg o.op)))||Wu o.op||(aaa o.op).isSome
def Oq (P:Program) (cfg:fW) (all:List Oper):List (Option Operand×Operand):=ach P cfg all (fX [] all) all 0
def Wv (P:Program) (cfg:fW) (all:List Oper) (b:List Nat) (i:Nat) (y:Oper):List Oper->Nat->Bool
 | [],_=>true
 | x::xs,j=>(Nat.ble i j||!Oo P cfg all x y||tK b i j||(!xV P cfg all x y&&(adX all j x i y).isSome))&&Wv P cfg all b i y xs (Nat.succ j)
def PB (P:Program) (cfg:fW) (all:List Oper) (b:List Nat):List Oper->Nat->Bool
 | [],_=>true
 | o::os,i=>Wv P cfg all b i o all 0&&PB P cfg all b os (Nat.succ i)
def amA (P:Program) (cfg:fW) (all:List Oper):Bool:=Pn P all&&all.all (fun o=>Nat.ble (ef (cf P cfg o.op)) 3)&&PB P cfg all (fX [] all) all 0&&((Oq P cfg all).isEmpty||YJ P cfg all)
def iM (o:Oper):Option (TypeId×Tmp):=
 match o.op,o.guard,o.dst with
 | .alloc T,none,some d=>some (T,d)
 | _,_,_=>none
def Bg (d:Tmp):List Oper->Bool
 | []=>false
 | o::os=>(match iM o with
  | some (_,e)=>Nat.beq d e
  | none=>false)||Bg d os
def wI (all:List Oper) (o:Oper):Option (TypeId×Tmp×Operand):=
 match o.op,o.guard,o.dst with
 | .store T (.tmp d) x,none,none=>cond (Bg d all) (some (T,d,x)) none
 | _,_,_=>none
def uF (all:List Oper) (o:Oper):Bool:=(iM o).isSome||(wI all o).isSome
def wJ (all:List Oper) (d:Tmp):List Oper->Option (TypeId×Operand)
 | []=>none
 | o::os=>match wI all o with
  | some (T,e,x)=>cond (Nat.beq d e) (some (T,x)) (wJ all d os)
  | none=>wJ all d os
def PC (i:Nat) (d:Tmp):List Oper->Nat->Bool
 | [],_=>true
 | o::os,j=>(Nat.beq j i||!(Uf o.dst [d]))&&PC i d os (Nat.succ j)
def GH (all:List Oper) (i:Nat) (d:Tmp):List Oper->Nat->Bool
 | [],_=>true
 | o::os,j=>(Nat.beq j i||(match wI all o with
  | some (_,e,_)=>!(Nat.beq d e)
  | none=>true))&&GH all i d os (Nat.succ j)
def Uu (all:List Oper):List Oper->Nat->Bool
 | [],_=>true
 | o::os,i=>(match iM o with
  | some (_,d)=>PC i d all 0
  | none=>true)&&(match wI all o with
  | some (_,d,x)=>zX i x all 0&&GH all i d all 0&&Bg d (all.take i)&&!(Uf (some d) (u6 [x]))
  | none=>true)&&Uu all os (Nat.succ i)
def KZ (P:Program) (cfg:fW) (all:List Oper) (b:List Nat) (i:Nat) (y:Oper):List Oper->Nat->Bool
 | [],_=>true
 | x::xs,j=>(Nat.ble i j||!xV P cfg all x y||tK b i j)&&KZ P cfg all b i y xs (Nat.succ j)
def Ee (P:Program) (cfg:fW) (all:List Oper) (b:List Nat):List Oper->Nat->Bool
 | [],_=>true
 | o::os,i=>KZ P cfg all b i o all 0&&Ee P cfg all b os (Nat.succ i)
def PD (o:Oper):Option (Operand×List Operand):=
 match o.op,o.guard with
 | .call c,none=>match c.callee with
  | .value (.tmp d)=>some (.tmp d,c.args.toList)
  | _=>none
 | _,_=>none
def Ko (P:Program) (cfg:fW) (t:bN) (p:Operand×List Operand):vd:=
 match nG t p.1 with
 | .fn (.func g) [] []=>match cfg.pc g with
  | some F=>.GD g (fun vs=>cond (Nat.beq vs.length (gp P g).length) (F (normArgs P (gp P g) vs)) .no) p.2
  | none=>.bad
 | _=>.bad
def aab (P:Program) (cfg:fW) (all:List Oper):Bool:=Pn P all&&all.all (fun o=>uF all o||Nat.ble (ef (cf P cfg o.op)) 1||(PD o).isSome)&&Ee P cfg all (fX [] all) all 0&&Uu all all 0
def aoD (P:Program) (cfg:fW) (bL:qC R) (all:List Oper) (o:Oper) (k:bN->aC->Option R) (t:bN) (A:aC):Option R:=
 Bool.rec (motive:=fun _=>Option R) (Option.rec (motive:=fun _=>Option R) (DD P cfg bL all o k t A) (fun p=>Ut bL t A (fun v A=>k (tN t o.dst v) A) (Ko P cfg t p)) (PD o)) (k (tN t o.dst .bJ) A) (uF all o)
def agF (P:Program) (cfg:fW) (bL:qC R) (all:List Oper) (k:bN->aC->Option R) (os:List Oper):bN->aC->Option R:=
 List.rec (motive:=fun _=>bN->aC->Option R) k (fun o _ ih=>aoD P cfg bL all o ih) os
def Bh (P:Program) (all:List Oper) (t:bN) (T:TypeId) (d:Tmp):Option (List KV):=
 match sF P T with
 | some z=>cond (flat z&&z.cells.toList.all scalar&&jv (iU z).cells&&decide (some (iU z).cells.length=size? P T)) (match wJ all d all with
  | some (T',x)=>cond (Nat.beq T T'&&decide (some (nG t x).cells.length=size? P T)&&jv (nG t x).cells) (some (nG t x).cells) none
  | none=>some (iU z).cells) none
 | none=>none
def adY (P:Program) (all:List Oper) (t0:bN) (k:bN->aC->Option R) (os:List Oper):bN->aC->Option R:=
 List.rec (motive:=fun _=>bN->aC->Option R) k (fun o _ ih t A=>Option.rec (motive:=fun _=>Option R) (ih t A) (fun p=>
  Option.rec (motive:=fun _=>Option R) none (fun cs=>ih (t.set (.ptr A.next 0) p.2) (A.new (.row cs (rv P p.1)))) (Bh P all t0 p.1 p.2)) (iM o)) os
def asj (P:Program) (cfg:fW) (o:Oper):Bool:=
 match cf P cfg o.op with
 | .call _ _=>true
 | _=>false
def ajV (P:Program) (cfg:fW):List Oper->Nat->Option Nat
 | [],_=>none
 | o::os,i=>cond (asj P cfg o) (some i) (ajV P cfg os (Nat.succ i))
def PE (P:Program) (cfg:fW) (b:List Nat) (i:Nat):List Oper->Nat->Bool
 | [],_=>true
 | q::os,j=>cond (Nat.beq j i) true (cond (Nat.blt j i) (cond (Nat.beq (ef (cf P cfg q.op)) 0) true (tK b i j)) (tK b j i))&&PE P cfg b i os (Nat.succ j)
def PF (P:Program) (cfg:fW) (b:List Nat) (all:List Oper):List Oper->Nat->Bool
 | [],_=>true
 | o::os,i=>cond (Nat.ble (ef (cf P cfg o.op)) 1) true (PE P cfg b i all 0)&&PF P cfg b all os (Nat.succ i)
def Rv (P:Program) (cfg:fW) (all:List Oper):Bool:=
 match ajV P cfg all 0 with
 | some _=>Pn P all&&Ee P cfg all (fX [] all) all 0&&PF P cfg (fX [] all) all all 0
 | none=>false
def agG (P:Program) (cfg:fW) (bL:qC R) (ops:List Oper) (draw:Bool) (k:bN->aC->Option R):bN->aC->Option R:=
 Bool.rec (motive:=fun _=>bN->aC->Option R) (xF P cfg bL ops k ops) (Bool.rec (motive:=fun _=>bN->aC->Option R)
  (Bool.rec (motive:=fun _=>bN->aC->Option R)
   (Bool.rec (motive:=fun _=>bN->aC->Option R) (fun _ _=>none) (agF P cfg bL ops (fun t A=>adY P ops t k ops t A) ops) (aab P cfg ops))
   (xF P cfg bL ops k ops) (Rv P cfg ops))
  (fun t A=>xF P cfg bL ops (fun t' A'=>Bool.rec (motive:=fun _=>Option R) none (k t' A') (YI t' A.next (Oq P cfg ops))) ops t A) (amA P cfg ops)) draw
def ak2 (k:KE R) (f:bN->aC->Option R):KE R:=fun e t A=>aq.rec (motive:=fun _=>Option R) (f t A) (fun i=>k (.exit i) t A) (fun l=>k (.goto l) t A) (k .ret t A) e
def apW (id:Nat) (k:KE R):KE R:=fun e t A=>aq.rec (motive:=fun _=>Option R) (k .normal t A) (fun i=>Bool.rec (motive:=fun _=>Option R) (k (.exit i) t A) (k .normal t A) (Nat.beq i id)) (fun l=>k (.goto l) t A) (k .ret t A) e
def agH (k:KE R):KE R:=fun e t A=>aq.rec (motive:=fun _=>Option R) (k .normal t A) (fun i=>k (.exit i) t A) (fun _=>none) (k .ret t A) e
def aci (g:KE R->bN->aC->Option R) (k:KE R) (L:Nat):bN->aC->Option R:=
 Nat.rec (motive:=fun _=>bN->aC->Option R) (fun _ _=>none) (fun _ ih=>g (ak2 k ih)) L
def y9.run (k:KV->aC->Option R) (x:y9):Option R:=y9.rec (motive:=fun _=>Option R) none (fun v A=>k v A) (fun c _ _ rx ry=>Bool.rec (motive:=fun _=>Option R) ry rx c) x
def Nc.run (k:KE R) (x:Nc):Option R:=Nc.rec (motive:=fun _=>Option R) none (fun e t A=>k e t A) (fun c _ _ rx ry=>Bool.rec (motive:=fun _=>Option R) ry rx c) x
def aoE (F:bN->aC->Nc) (k:KE R) (t:bN) (A:aC):Option R:=(F t A).run k
def uG (P:Program) (cfg:fW) (bL:qC R) (L:Nat) (f:FuncId) (c:Code):Nat->KE R->bN->aC->Option R:=
 Code.rec (motive:=fun _=>Nat->KE R->bN->aC->Option R) (fun _ k t A=>k .normal t A)
  (fun _ ops d _ k=>agG P cfg bL ops.toList d (fun t A=>k .normal t A))
  (fun _ _ a b p k=>a (2 * p) (ak2 k fun t A=>b (2 * p+1) k t A))
  (fun c _ _ a b p k t A=>ak1 t c (fun t=>a (2 * p) k t A) (fun t=>b (2 * p+1) k t A))
  (fun id _ g p k=>g (2 * p) (apW id k))
  (fun _ g p k=>Option.rec (motive:=fun _=>bN->aC->Option R) (aci (g (2 * p)) k L) (fun F=>aoE F k) (cfg.lp f p))
  (fun _ _ _ _ _ _ _ _ _ _=>none) (fun id _ k t A=>k (.exit id) t A) (fun _ g p k=>g (2 * p) (agH k)) (fun _ _ k t A=>k .normal t A) (fun l _ k t A=>k (.goto l) t A) (fun _ k t A=>k .ret t A) (fun _ _ _ _ _=>none) c
def rA:List KV->Nat->bN->bN
 | [],_,t=>t
 | v::vs,i,t=>rA vs (Nat.succ i) (t.set v i)
def PH (P:Program) (A:aC) (t:bN):List ResultVar->Option (List KV)
 | []=>some []
 | .tmp x::rs=>(PH P A t rs).map (nG t (.tmp x)::·)
 | .cell a ty::rs=>match acb P ty A [nG t (.tmp a)] with
  | .ok v=>(PH P A t rs).map (v::·)
  | _=>none
def Lo:List KV->KV
 | [v]=>v
 | vs=>.jd vs
def amB (P:Program) (fn:Func) (k:List KV->aC->Option R):KE R:=fun e t A=>
 aq.rec (motive:=fun _=>Option R) (Option.rec (motive:=fun _=>Option R) none (fun vs=>k vs A) (PH P A t fn.results.toList)) (fun _=>none) (fun _=>none) (Option.rec (motive:=fun _=>Option R) none (fun vs=>k vs A) (PH P A t fn.results.toList)) e
def acj (P:Program) (cfg:fW) (bL:qC R) (L:Nat) (f:FuncId) (args:List KV) (A:aC) (k:List KV->aC->Option R):Option R:=
 match P.funcs.toList[f]? with
 | some fn=>match fn.body with
  | some c=>uG P cfg bL L f c 1 (amB P fn k) (rA args 0 .leaf) A
  | none=>none
 | none=>none
def Nd (P:Program) (cfg:fW) (L:Nat) (n:Nat):qC R:=
 Nat.rec (motive:=fun _=>qC R) (fun _ _ _ _=>none) (fun _ ih f args A k=>
  Bool.rec (motive:=fun _=>Option R) none (Option.rec (motive:=fun _=>Option R) (acj P cfg ih L f args A fun vs B=>k (Lo vs) B) (fun F=>y9.run k (F args A)) (cfg.x.ac f)) (Nat.blt f yB)) n
end
def Bi (P:Program):List TypeId->List KV->List KV
 | t::ts,v::vs=>Z9 P t v::Bi P ts vs
 | _,_=>[]
def wK (P:Program) (g:FuncId):List TypeId:=match P.funcs.toList[g]? with
 | some fn=>fn.resultTypes.toList
 | none=>[]
def zY (P:Program) (cfg:fW) (L n:Nat) (f:FuncId) (args:List KV):Option KV:=
 acj P cfg (Nd P cfg L n) L f args .empty fun vs A=>Bool.rec (motive:=fun _=>Option KV) none (some (Lo (Bi P (wK P f) (B7 A vs).1))) (Nat.beq vs.length (wK P f).length)
end
end Go.K
end
