/- Part of the proof of WorldMat: the machine, shown to be the model's, and plain models. No conditions. -/
import Derived.Test.YtckbdndhmcoihaaGreatAp
import Derived.Laws.Slices
import Derived.Laws.MakeOwn
import Derived.Laws.AppendOwn
import Derived.MapKept
import Derived.Laws.IdiomStrings
import Derived.OrdersIn
import Derived.LoopNIn
import Derived.RangeFuncRecord
import Derived.Scope
set_option linter.unusedSimpArgs false
set_option linter.unusedVariables false
section
namespace Go.aB
open Go
section
variable {P:Program} {o:Oper}
theorem la {ρ:Ren} {y y' : Nat} {v v' : Value} {r:Nat} (hv:VR ρ v v') (h:bnd y v=some r) (hy:y<=y') :
  r<=y/\∀ code w,(Instr.sliceBound v' y' code).run P w = .ok r w:=by
 unfold bnd at h;split at h
 ·rename_i k i
  obtain ⟨rfl,bG⟩:=CR h;have:=hv.cU;subst this;have hle:r<=y:=by omega
  refine ⟨hle,fun code w=>?_⟩;have:=run_sliceBound (P:=P) w k (r:Int) y' code (by omega) (by omega);simpa using this
 ·simp at h
theorem JU {ρ:Ren} {ev dc:Operand->Value} {lo hi mx:Option Operand} {len cap afz l h m:Nat} (he:Ao ρ ev dc (gS lo++gS hi++gS mx))
  (hb:vI len cap lo.isSome hi.isSome mx.isSome ((gS lo++gS hi++gS mx).map ev)=some (l,h,m)) (hc:cap<=afz) (Hj:len<=cap) :
  l<=h/\h<=m/\m<=cap/\m<=(cond mx.isSome m afz)/\(cond mx.isSome m afz)<=afz/\(mx.isSome=false->m=cap)/\∀ b w,(Instr.sliceBounds b len afz (lo.map dc) (hi.map dc) (mx.map dc)).run P w = .ok (l,h,cond mx.isSome m afz) w:=by
 cases lo with
 | none=>
  cases hi with
  | none=>
   cases mx with
   | none=>
    simp [gS,vI] at hb;obtain ⟨rfl,rfl,rfl⟩:=hb;exact ⟨by omega,Hj,aU _,hc,aU _,fun _=>rfl,fun b w=>by simp [Instr.sliceBounds]⟩
   | some x=>simp [gS,vI] at hb
  | some y=>
   cases mx with
   | none=>
    simp only [gS,Option.isSome,List.nil_append,yX,List.map,vI,cS] at hb;obtain ⟨r,hr,hb⟩:=hb;simp at hb;obtain ⟨rfl,rfl,rfl⟩:=hb;obtain ⟨h1,h2⟩:=la (P:=P) (he y (by simp [gS])) hr hc;exact ⟨by omega,h1,aU _,hc,aU _,fun _=>rfl,fun b w=>by simp [Instr.sliceBounds,h2]⟩
   | some z=>
    simp only [gS,Option.isSome,List.nil_append,List.map,List.cons_append,vI,dh,cS] at hb;obtain ⟨r,hr,q,hq,hb⟩:=hb;simp at hb;obtain ⟨rfl,rfl,rfl⟩:=hb;obtain ⟨h1,h2⟩:=la (P:=P) (he z (by simp [gS])) hr hc;obtain ⟨h3,h4⟩:=la (P:=P) (he y (by simp [gS])) hq (aU _);exact ⟨by omega,h3,h1,aU _,by simp; omega,fun h=>by simp at h,fun b w=>by simp [Instr.sliceBounds,h2,h4]⟩
 | some x=>
  cases hi with
  | none=>
   cases mx with
   | none=>
    simp only [gS,Option.isSome,yX,List.map,vI,cS] at hb;obtain ⟨r,hr,hb⟩:=hb;simp at hb;obtain ⟨rfl,rfl,rfl⟩:=hb;obtain ⟨h1,h2⟩:=la (P:=P) (he x (by simp [gS])) hr (aU _);exact ⟨h1,Hj,aU _,hc,aU _,fun _=>rfl,fun b w=>by simp [Instr.sliceBounds,h2]⟩
   | some x=>simp [gS,vI] at hb
  | some y=>
   cases mx with
   | none=>
    simp only [gS,Option.isSome,yX,List.map,List.cons_append,List.nil_append,vI,dh,cS] at hb;obtain ⟨r,hr,q,hq,hb⟩:=hb;simp at hb;obtain ⟨rfl,rfl,rfl⟩:=hb;obtain ⟨h1,h2⟩:=la (P:=P) (he y (by simp [gS])) hr hc;obtain ⟨h3,h4⟩:=la (P:=P) (he x (by simp [gS])) hq (aU _);exact ⟨h3,h1,aU _,hc,aU _,fun _=>rfl,fun b w=>by simp [Instr.sliceBounds,h2,h4]⟩
   | some z=>
    simp only [gS,Option.isSome,List.map,List.cons_append,List.nil_append,vI,dh,cS] at hb;obtain ⟨r,hr,q,hq,s,hs,hb⟩:=hb;simp at hb;obtain ⟨rfl,rfl,rfl⟩:=hb;obtain ⟨h1,h2⟩:=la (P:=P) (he z (by simp [gS])) hr hc;obtain ⟨h3,h4⟩:=la (P:=P) (he y (by simp [gS])) hq (aU _);obtain ⟨h5,h6⟩:=la (P:=P) (he x (by simp [gS])) hs (aU _);exact ⟨h5,h3,h1,aU _,by simp; omega,fun h=>by simp at h,fun b w=>by simp [Instr.sliceBounds,h2,h4,h6]⟩
theorem afA {A:St} {b n:Nat} (h:Fb A b n=true):∃ cs own cp,A.get b=some (.row cs n own cp):=by
 unfold Fb at h;split at h
 ·rename_i cs cg own cp hg
  have:=bu h;subst this;exact ⟨cs,own,cp,hg⟩
 ·simp at h
theorem ok_slice {t:TypeId} {x:Operand} {lo hi mx:Option Operand} (ho:o.op = .slice t x lo hi mx):jH P o (LX P t x lo hi mx):=by
 unfold LX;split
 ·rename_i e hu
  split
  ·rename_i n hn
   cases D3:Nat.ble 1 n with
   | false=>exact True.intro
   | true=>
    rw [ak];have D3:1<=n:=fR D3;intro ρ A base w ev dc v hs he hf;have hx:=he x (by simp);have hsl:P.underlying t=some (.slice (P.elem t))->True:=fun _=>trivial;simp only [List.map,Ch] at hf;split at hf
    ·rename_i len cap vs e1
     simp only [List.cons.injEq] at e1;obtain ⟨e1,e2⟩:=e1;rw [e1] at hx;have hx:=hx.jr;subst e2;obtain ⟨⟨l,h,m⟩,hb,rfl⟩:=cS.1 hf;by_cases Hj:len<=cap
     ·obtain ⟨h1,h2,h3,h4,h5,h6,h7⟩:=JU (P:=P) he.tail hb (aU _) Hj
      have hm:cond mx.isSome m cap=m:=by cases hmx:mx.isSome <;> simp; exact (h6 hmx).symm
      refine ⟨.slice none (h - l) (m - l),by simp [VR],?_⟩;simp [execOp,ho,Instr.sliceAt,Instr.slice,bP hu,hx,h7,hm,pU hn]
     ·
      have key:∀ b w,(Instr.sliceBounds b len cap (lo.map dc) (hi.map dc) (mx.map dc)).run P w = .ok (l,h,m) w:=by
       intro b w;have aqH:cap<=len:=by omega
       cases lo with
       | none=>
        cases hi with
        | none=>
         cases mx with
         | none=>simp [gS,vI] at hb; obtain ⟨rfl,rfl,rfl⟩:=hb; simp [Instr.sliceBounds]
         | some x=>simp [gS,vI] at hb
        | some y=>
         cases mx with
         | none=>
          simp only [gS,Option.isSome,List.nil_append,yX,List.map,vI,cS] at hb;obtain ⟨r,hr,hb⟩:=hb;simp at hb;obtain ⟨rfl,rfl,rfl⟩:=hb;have:=(la (P:=P) (he y (by simp [gS])) hr (aU _)).2;simp [Instr.sliceBounds,this]
         | some z=>
          simp only [gS,Option.isSome,List.nil_append,List.map,List.cons_append,vI,dh,cS] at hb;obtain ⟨r,hr,q,hq,hb⟩:=hb;simp at hb;obtain ⟨rfl,rfl,rfl⟩:=hb;have h2:=(la (P:=P) (he z (by simp [gS])) hr (aU _)).2;have h4:=(la (P:=P) (he y (by simp [gS])) hq (aU _)).2;simp [Instr.sliceBounds,h2,h4]
       | some x'=>
        cases hi with
        | none=>
         cases mx with
         | none=>
          simp only [gS,Option.isSome,yX,List.map,vI,cS] at hb;obtain ⟨r,hr,hb⟩:=hb;simp at hb;obtain ⟨rfl,rfl,rfl⟩:=hb;have:=(la (P:=P) (he x' (by simp [gS])) hr (aU _)).2;simp [Instr.sliceBounds,this]
         | some x=>simp [gS,vI] at hb
        | some y=>
         cases mx with
         | none=>
          simp only [gS,Option.isSome,yX,List.map,List.cons_append,List.nil_append,vI,dh,cS] at hb;obtain ⟨r,hr,q,hq,hb⟩:=hb;simp at hb;obtain ⟨rfl,rfl,rfl⟩:=hb;have h2:=(la (P:=P) (he y (by simp [gS])) hr (aU _)).2;have h4:=(la (P:=P) (he x' (by simp [gS])) hq (aU _)).2;simp [Instr.sliceBounds,h2,h4]
         | some z=>
          simp only [gS,Option.isSome,List.map,List.cons_append,List.nil_append,vI,dh,cS] at hb;obtain ⟨r,hr,q,hq,s,hs',hb⟩:=hb;simp at hb;obtain ⟨rfl,rfl,rfl⟩:=hb;have h2:=(la (P:=P) (he z (by simp [gS])) hr (aU _)).2;have h4:=(la (P:=P) (he y (by simp [gS])) hq (aU _)).2;have h6:=(la (P:=P) (he x' (by simp [gS])) hs' (aU _)).2;simp [Instr.sliceBounds,h2,h4,h6]
      refine ⟨.slice none (h - l) (m - l),by simp [VR],?_⟩;simp [execOp,ho,Instr.sliceAt,Instr.slice,bP hu,hx,key,pU hn]
    ·rename_i a len cap vs e1
     simp only [List.cons.injEq] at e1;obtain ⟨e1,e2⟩:=e1;rw [e1] at hx;subst e2;obtain ⟨Gn,Hj,lc,a',c',hl,uR,K6,pM,h'⟩:=hx.na;cases hg:(dp a&&Fb A a.block n) with
     | false=>rw [hg] at hf; simp at hf
     | true=>
      rw [hg,ak] at hf;obtain ⟨_,Xz⟩:=Bool.and_eq_true_iff.1 hg;obtain ⟨cs,own,cp,hQ⟩:=afA Xz;obtain ⟨l2,nj,ok⟩:=hs.row _ _ _ _ _ hQ;rw [hl] at nj; simp at nj; subst nj;have hez:lc.cg=n:=ok.cg;obtain ⟨⟨l,h,m⟩,hb,rfl⟩:=cS.1 hf;obtain ⟨h1,h2,h3,h4,h5,h6,h7⟩:=JU (P:=P) he.tail hb uR Hj;generalize hm' : cond mx.isSome m c' = m' at h4 h5 h7;refine ⟨.slice (some (if m' = l then a' else a'.add (l * n))) (h - l) (m' - l),?_,?_⟩
      ·simp only [VR]
       refine ⟨trivial,by omega,lc,_,m' - l,hl,by omega,fun de=>?_,?_,rfl⟩
       ·rw [av (by omega),K6 (by omega),mh]
        simp only [Hg]
       ·rw [hez]
        rw [hez] at pM;have e5:l * n+(m' - l) * n=m' * n:=by rw [<- Nat.add_mul]; congr 1; omega
        have e6:m' * n<=c' * n:=Nat.mul_le_mul_right _ h5;omega
      ·simp only [execOp,ho,Instr.sliceAt,Instr.slice,Sem.run_bind,bP hu,ko,h',h7,pU hn]
       by_cases hml:m' = l <;> simp [hml]
    ·simp at hf
  ·trivial
 ·rename_i len e hu
  split
  ·rename_i n hn
   cases D3:Nat.ble 1 n with
   | false=>exact True.intro
   | true=>
    rw [ak];intro ρ A base w ev dc v hs he hf;have hx:=he x (by simp);simp only [List.map,NB] at hf;split at hf
    ·rename_i a vs e1
     simp only [List.cons.injEq] at e1;obtain ⟨e1,e2⟩:=e1;rw [e1] at hx;subst e2;obtain ⟨Gn,lc,hl,h'⟩:=hx.j9;cases hg:(dp a&&Fb A a.block n&&Nat.ble (a.off+len * n) (Xp A a.block)) with
     | false=>rw [hg] at hf; simp at hf
     | true=>
      rw [hg,ak] at hf;simp only [aA] at hg;obtain ⟨⟨_,Xz⟩,hlen⟩:=hg;obtain ⟨cs,own,cp,hQ⟩:=afA Xz;obtain ⟨l2,nj,ok⟩:=hs.row _ _ _ _ _ hQ;rw [hl] at nj; simp at nj; subst nj;have hez:lc.cg=n:=ok.cg;have hlen:=fR hlen;have S9:Xp A a.block=cs.length:=by unfold Xp; rw [hQ]
      rw [S9] at hlen;have hft:=ok.fits;obtain ⟨⟨l,h,m⟩,hb,rfl⟩:=cS.1 hf;obtain ⟨h1,h2,h3,h4,h5,h6,h7⟩:=JU (P:=P) he.tail hb (aU _) (aU _);have hm:cond mx.isSome m len=m:=by cases hmx:mx.isSome <;> simp; exact (h6 hmx).symm
      rw [hm] at h7;refine ⟨.slice (some (if m=l then ⟨lc.cb,lc.eB+a.off,none⟩ else (⟨lc.cb,lc.eB+a.off,none⟩:Addr).add (l * n))) (h - l) (m - l),?_,?_⟩
      ·simp only [VR]
       refine ⟨trivial,by omega,lc,_,m - l,hl,aU _,fun de=>?_,?_,rfl⟩
       ·rw [av (by omega),mh]
        simp only [Hg]
       ·rw [hez]
        have e5:l * n+(m - l) * n=m * n:=by rw [<- Nat.add_mul]; congr 1; omega
        have e6:m * n<=len * n:=Nat.mul_le_mul_right _ h3;omega
      ·simp only [execOp,ho,Instr.sliceAt,Sem.run_bind,bP hu,ko,h',Instr.sureAddr,Sem.run_pure,h7,pU hn]
    ·simp at hf
  ·trivial
 ·rename_i hu
  cases hmx:mx with
  | some z=>exact True.intro
  | none=>
   show jH P o (.pure (Ie lo.isSome hi.isSome) (x::(gS lo++gS hi)));intro ρ ev dc v he hf;have hx:=he x (by simp);simp only [List.map,Ie] at hf;split at hf
   ·rename_i s vs e1
    simp only [List.cons.injEq] at e1;obtain ⟨e1,e2⟩:=e1;rw [e1] at hx;have hx:=hx.rI;subst e2;obtain ⟨⟨l,h,m⟩,hb,rfl⟩:=cS.1 hf;have K8:Ao ρ ev dc (gS lo++gS hi++gS (none:Option Operand)):=by simpa [gS] using he.tail
    obtain ⟨h1,h2,h3,h4,h5,h6,h7⟩:=JU (P:=P) (mx:=none) K8 (by simpa [gS] using hb) (aU _) (aU _);simp only [Option.isSome_none,ba,Option.map_none] at h7;refine ⟨.string (s.extract l h),?_,fun w=>?_⟩
    ·have e:(⟨⟨(s.data.toList.drop l).take (h - l)⟩⟩:ByteArray)=s.extract l h:=by
      apply ByteArray.ext;apply Array.ext';simp [ByteArray.data_extract,List.extract_eq_take_drop]
     rw [e];simp [VR]
    ·simp [execOp,ho,Instr.sliceAt,Instr.slice,bP hu,hx,hmx,h7]
   ·simp at hf
 ·trivial
theorem aiV {t:TypeId} {l c:Operand} (ho:o.op = .makeSlice t l c):jH P o (AO P t l c):=by
 unfold AO;split
 ·rename_i e hu
  split
  ·rename_i i hi
   split
   ·rename_i z hz
    cases hc:(Nat.ble 1 i.size&&Nat.ble 1 i.bytes&&Nat.beq z.cells.size i.size&&flat z&&z.cells.toList.all scalar) with
    | false=>exact True.intro
    | true=>
     rw [ak];simp only [aA] at hc;obtain ⟨⟨⟨⟨h1,h2⟩,h3⟩,h4⟩,h5⟩:=hc;have hn:1<=i.size:=fR h1;have hb:1<=i.bytes:=fR h2;have hzs:z.cells.size=i.size:=bu h3;rw [ij] at h5;intro ρ ev dc obj mk he hf;simp only [List.map,FL] at hf;split at hf
     ·rename_i k1 l0 k2 c0 e1
      simp only [List.cons.injEq,and_true] at e1;cases hk:(Nat.ble l0 c0&&Nat.ble (i.bytes * c0) 281474976710656) with
      | false=>rw [hk] at hf; simp at hf
      | true=>
       rw [hk,ak] at hf;obtain ⟨CF,hk2⟩:=Bool.and_eq_true_iff.1 hk;have hle:l0<=c0:=fR CF;have hbc:i.bytes * c0<=281474976710656:=fR hk2;simp only [di,fS] at hf;obtain ⟨rfl,rfl⟩:=hf;have hl:=he l (by simp);have uR:=he c (by simp);rw [e1.1] at hl;rw [e1.2] at uR;have hl:=hl.cU;have uR:=uR.cU;have e2:madeCells z.cells (c0 * i.size)=⟨iG z.cells.toList c0⟩:=by
        unfold madeCells;rw [<- hzs];exact Vx z.cells c0 (by omega)
       have hc0:c0<=i.bytes * c0:=Nat.le_mul_of_pos_left _ hb;have av6:∀ (z:List Value) (k:Nat),(iG z k).length=k * z.length:=by
        intro z k
        induction k with
        | zero=>simp [iG]
        | succ k ih=>simp [iG,ih,Nat.succ_mul,Nat.add_comm]
       have av7:∀ (z:List Value) (k:Nat) (v:Value),v∈iG z k->v∈z:=by
        intro z k v
        induction k with
        | zero=>simp [iG]
        | succ k ih=>simp only [iG,nI]; exact fun h=>h.elim id ih
       refine ⟨.cells ⟨iG z.cells.toList c0⟩ e,fun b=>.slice (some ⟨b,0,none⟩) l0 c0,⟨_,e,rfl,eo.repeat (JT h4) c0,fun v hv=>h5 v (av7 _ _ _ hv)⟩,fun w=>?_,fun bd n cb mA=>?_⟩
       ·have hr:=run_make (P:=P) w t e i z hu hi hz k1 k2 (l0:Int) (c0:Int) (by omega) (by omega) (by rw [<- Int.natCast_mul]; exact Int.ofNat_le.2 hbc) (by omega)
        have uz:dc l = .int k1 (l0:Int):=hl;have hc' : dc c = .int k2 (c0:Int):=uR;simp only [Int.toNat_natCast,e2] at hr;simp [execOp,ho,uz,hc',hr]
       ·simp only [VR]
        refine ⟨trivial,hle,_,⟨cb,0,none⟩,c0,mA,aU _,fun _=>rfl,?_,rfl⟩;show 0+0+c0 * i.size<=(iG z.cells.toList c0).length;rw [av6];simp [hzs]
     ·simp at hf
   ·trivial
  ·trivial
 ·trivial
theorem arU {t:TypeId} {x:Operand} (ho:o.op = .makeInterface t x):jH P o (aal P t x):=by
 unfold aal;split
 ·trivial
 ·rename_i d hu hd
  intro ρ ev dc v he hf;simp [aqF] at hf;subst hf;refine ⟨.iface t (dc x),by simp only [VR]; exact ⟨_,he x (by simp),rfl⟩,fun w=>?_⟩;simp only [execOp,ho,Instr.makeInterface,Sem.run_bind,bP hd,ko];cases d <;> first | rfl | exact absurd rfl (hu _)
 ·trivial
theorem XA {ρ:Ren} {s:List Value->Sem Value} {vs cX:List Value} {v:Value} (hv:eo ρ vs cX) (h:NA P s vs=some v):VR ρ v v/\∀ w,(s cX).run P w = .ok v w:=by
 unfold NA at h;cases hf:yv vs with
 | false=>rw [hf] at h; simp at h
 | true=>
  rw [hf,ak] at h;obtain ⟨u,hu,h⟩:=dh.1 h;cases hfu:flat u with
  | false=>rw [hfu] at h; simp at h
  | true=>
   rw [hfu] at h;simp at h;subst h;rw [eo.qW hf hv];exact ⟨VR.of_flat hfu,fun w=>iM hu w⟩
theorem aul {argTypes:Array TypeId} {args:Array Operand} (ho:o.op = .call ⟨.builtin .min,args,argTypes⟩):jH P o (.pure (NA P fun vs=>Builtin.min_ #[] 0 ⟨vs⟩) args.toList):=by
 intro ρ ev dc v he hf;obtain ⟨h1,h2⟩:=XA he.map hf;refine ⟨v,h1,fun w=>?_⟩;have h3:=h2 w;simp only [Builtin.min_] at h3;simp only [execOp,ho,resolve,Sem.run_bind,Sem.run_pure,ko,invoke,builtin,Builtin.min_,pN];simp only [h3,ko]
theorem aum {argTypes:Array TypeId} {args:Array Operand} (ho:o.op = .call ⟨.builtin .max,args,argTypes⟩):jH P o (.pure (NA P fun vs=>Builtin.max_ #[] 0 ⟨vs⟩) args.toList):=by
 intro ρ ev dc v he hf;obtain ⟨h1,h2⟩:=XA he.map hf;refine ⟨v,h1,fun w=>?_⟩;have h3:=h2 w;simp only [Builtin.max_] at h3;simp only [execOp,ho,resolve,Sem.run_bind,Sem.run_pure,ko,invoke,builtin,Builtin.max_,pN];simp only [h3,ko]
theorem ab9 {ρ:Ren} {x x' : Value} {k:Nat} (hx:VR ρ x x') (h:ab6 x=some k):Builtin.lenOf x' = Sem.pure k:=by
 unfold ab6 at h;split at h
 ·obtain ⟨a',c',rfl⟩:=afy hx
  simp at h; subst h; rfl
 ·have:=hx.rI
  subst this;simp at h; subst h; rfl
 ·simp at h
theorem Fi {ρ:Ren} {A:St} {base:Nat} {w:World} {n k:Nat} {x x' : Value} {new:List Value} (hs:Rel ρ A.get A.members base w) (hx:VR ρ x x') (h:y4 A n k x=some new)
  (hk:∀ m,ab6 x=some m->k<=m) (hn:1<=n):∃ cR,eo ρ new cR/\(∀ v∈new,scalar v=true)/\new.length=k * n/\(Builtin.firstCells n k x').run P w = .ok cR.toArray w:=by
 unfold y4 at h;split at h
 ·rename_i a len cap
  obtain ⟨Gn,Hj,lc,a',c',hl,uR,K6,pM,rfl⟩:=hx.na;have hkl:=hk len rfl;obtain ⟨cu,h1,h2,h3,h4⟩:=y6 (P:=P) hs h hl;refine ⟨cu,h1,h3,h2,?_⟩;simp only [Builtin.firstCells];by_cases hc:c' = 0
  ·have yp:k=0:=by omega
   subst yp;have xL:new = []:=by rw [Nat.zero_mul] at h2; exact List.eq_nil_of_length_eq_zero h2
   subst xL;rw [h1.cw,Nat.zero_mul];exact run_loadCells_list w a' [] (by simp)
  ·rw [K6 hc]; exact h4
 ·rename_i len cap
  have:=hx.jr;subst this;cases hb:Nat.beq k 0 with
  | false=>rw [hb] at h; simp at h
  | true=>
   rw [hb] at h;simp at h;subst h;have yp:=bu hb;subst yp;exact ⟨[],.nil,by simp,by simp,run_firstCells_none w n 0 len cap⟩
 ·rename_i s
  have:=hx.rI;subst this;cases hb:Nat.beq n 1 with
  | false=>rw [hb] at h; simp at h
  | true=>
   rw [hb] at h;simp at h;have hn1:=bu hb;subst hn1;have ug:=hk s.size rfl;have fZ:s.data.size=s.size:=rfl;have fl:∀ l:List UInt8,eo ρ (l.map fun b=>Value.int .u8 b.toNat) (l.map fun b=>Value.int .u8 b.toNat):=by
    intro l
    induction l with
    | nil=>exact .nil
    | cons x l ih=>exact .cons (by simp [VR]) ih
   subst h;refine ⟨((s.data.toList.take k).map fun b=>.int .u8 b.toNat),by simpa using fl (s.data.toList.take k),?_,?_,?_⟩
   ·intro v hv
    obtain ⟨b,_,rfl⟩:=List.mem_map.1 (by first | exact hv | exact List.mem_of_mem_take hv);rfl
   ·simp; omega
   ·simp only [Builtin.firstCells]
    rw [Sem.run_pure];congr 1;apply Array.ext';simp [ByteArray.data_extract,List.extract_eq_take_drop]
 ·simp at h
theorem y7 (t u ty e:TypeId) (i:TypeInfo) (ht:P.underlying t=some (.slice e)) (hi:P.info? e=some i) (hu:NC P u=true) (base:Option Addr) (eF rH:Nat) (x:Value) (n:Nat) (news:List Value)
  (hlen:Builtin.lenOf x=Sem.pure n) (w:World) (vR:(Builtin.firstCells i.size n x).run P w = .ok news.toArray w) (Gq:eF+n<=rH) :
  (Builtin.append_ #[t,u] ty #[.slice base eF rH,x]).run P w=(((match base with | some a=>storeCells (a.add (eF * i.size)) news | none=>pure ():Sem Unit).run P w).andThen fun _ w=>.ok (.slice base (eF+n) rH) w):=by
 have hk:(∃ e',P.underlying u=some (.slice e'))\/P.underlying u=some .string:=by
  unfold NC at hu;split at hu
  ·rename_i e' h; exact .inl ⟨_,h⟩
  ·rename_i h; exact .inr h
  ·simp at hu
 rcases hk with ⟨e',hk⟩ | hk <;> cases base <;> simp [Builtin.append_,bP ht,bP hk,sizeOf,typeInfo,hi,hlen,Gq,vR]
theorem aar (t u ty e:TypeId) (i:TypeInfo) (z:Value) (ht:P.underlying t=some (.slice e)) (hi:P.info? e=some i) (hz:i.zero=some z) (hu:NC P u=true) (base:Option Addr) (eF rH:Nat)
  (x:Value) (n:Nat) (aca news:List Value) (hlen:Builtin.lenOf x=Sem.pure n) (w:World) (hold:(Builtin.firstCells i.size eF (.slice base eF rH)).run P w.drew = .ok aca.toArray w.drew)
  (vR:(Builtin.firstCells i.size n x).run P w.drew = .ok news.toArray w.drew) (hg:rH < eF+n) (h63:eF+n<=17592186044416) (pM:Builtin.nextslicecap (eF+n) rH * i.bytes<=281474976710656) :
  (Builtin.append_ #[t,u] ty #[.slice base eF rH,x]).run P w =
   .ok (.slice (some ⟨w.heap.size,0,none⟩) (eF+n) (grownCap w (eF+n) rH e))
    (w.drew.alloc (.cells ((aca++news).toArray++Builtin.zeroCells z.cells (grownCap w (eF+n) rH e - (eF+n))) e)):=by
 have hk:(∃ e',P.underlying u=some (.slice e'))\/P.underlying u=some .string:=by
  unfold NC at hu;split at hu
  ·rename_i e' h; exact .inl ⟨_,h⟩
  ·rename_i h; exact .inr h
  ·simp at hu
 have hn : ¬ (eF+n<=rH):=by omega
 have av8 : ¬ (9223372036854775807 < ((eF:Int)+(n:Int))):=by omega
 have av9 : ¬ (281474976710656 < Builtin.nextslicecap (eF+n) rH * i.bytes):=by omega
 rcases hk with ⟨e',hk⟩ | hk <;>
  (simp [Builtin.append_,bP ht,bP hk,sizeOf,typeInfo,zeroValue,hi,hz,hlen,hn,av8,av9,Question.forced,vR,hold,newRow,grownCap]
   congr 2;apply Array.ext';simp [List.append_assoc])
theorem afB {ρ:Ren} {A:St} {base:Nat} {w:World} (hs:vD ρ A base w) (b lo hi:Nat) (L:List Nat):l8 base ρ A w ρ (A.kill b lo hi L) w:=by
 obtain ⟨hl1,nj⟩:=L7 b lo hi L A;have PZ:∀ x o,(A.kill b lo hi L).get x=some o->o≠.dead->A.get x=some o:=by
  intro x o hx hd;rw [Eg] at hx;split at hx
  ·simp at hx; exact absurd hx.symm hd
  ·exact hx
 have hm:∀ o:cO,o.gf=true->o≠.dead:=by intro o h e; subst e; simp [cO.gf] at h
 refine ⟨⟨.Hi (fun x o hx hd=>hs.rel.obj (PZ x o hx hd) hd) (fun b1 b2 o1 o2 l1 l2 de g1 g2 m1 m2=>hs.rel.apart b1 b2 o1 o2 l1 l2 de (PZ _ _ g1 (hm _ m1)) (PZ _ _ g2 (hm _ m2)) m1 m2) (fun x o bA f hx hk=>?_),fun x l h=>?_,hs.size,hs.JQ⟩,
  fun _ _=>rfl,.refl _ _ _,by simp,hl1,fun x _ hx=>?_,fun k _ h=>?_⟩
 ·rw [KY]; exact hs.rel.b5 x o bA f (PZ x o hx (by intro e; subst e; simp [cO.nD] at hk)) hk
 ·rw [NH]; exact hs.lW x l h
 ·cases Classical.em ((A.kill b lo hi L).get x=A.get x) with
  | inl h=>exact h
  | inr h=>have:=nj x h; omega
 ·obtain ⟨x,o,l,hx,hm',hr,e⟩:=h
  exact ⟨x,o,l,PZ x o hx (hm _ hm'),hm',hr,e⟩
theorem Ma (A:St) (bA f:Nat) (cs:List Value) (n x:Nat):(A.grow bA f cs n).get x=if x=A.next then some (.row cs n true (some (bA,f))) else A.get x:=by
 simp [St.grow]
theorem AX (A:St) (bA f:Nat) (cs:List Value) (n g:Nat):(A.grow bA f cs n).members g=if g=bA then A.next::A.members bA else A.members g:=by
 simp only [St.grow,St.Fg,St.lh]
theorem afC {ρ:Ren} {A:St} {base:Nat} {w:World} {cs cu:List Value} {c:Array Value} {n bA f:Nat} (T:TypeId) (hs:vD ρ A base w) (hc:eo ρ cs cu) (h1:∀ v∈cs,scalar v=true)
  (as0:∀ (j:Nat) (v:Value),cu[j]? = some v->c[j]? = some v) (fZ:cs.length<=c.size) :
  l8 base ρ A w (ρ.set A.next ⟨w.heap.size,0,c.size,n⟩) (A.grow bA f cs n) (w.alloc (.cells c T)):=by
 refine Ik (o:=.row cs n true (some (bA,f))) hs (fun x=>Ma _ _ _ _ _ _) (fun g x h=>?_) (fun g f' h=>?_) (by simp [St.grow]) (by simp [St.grow]) (fun x hx _=>by rw [Ma,av (by omega)]) rfl ?_
 ·rw [AX]; split
  ·rename_i e; subst e; simp [h]
  ·exact h
 ·simp [cO.nD] at h; rw [AX,h.1]; simp
 ·refine ⟨fun i v hi=>?_,fun h=>by simp at h,fun _=>hs.size,fun _ j hj=>?_,by simpa using fZ,fun _ h=>by simp at h,rfl,by simp,fun _ _ j=>by simp only; rw [World.frozen?_alloc_new]⟩
  ·obtain ⟨v',h2,h3⟩:=hc.get hi
   refine ⟨v',?_,h3.mono (hs.NI _),h1 v (jD hi)⟩;rw [bM,World.cell?_alloc_new];exact as0 i v' h2
  ·simp only at hj ⊢
   rw [World.cell?_alloc_new,World.frozen?_alloc_new];refine ⟨?_,rfl⟩;rw [Array.getElem?_eq_getElem (by omega)];rfl
theorem alj {ρ:Ren} {A:St} {base:Nat} {w:World} {b j3 s cg bA f:Nat} {cs iW ux new cR:List Value} {l:Loc}
  (hs:vD ρ A base w) (hg:A.get b=some (.row cs cg true (some (bA,f)))) (mA:ρ b=some l)
  (hold:eo ρ iW ux) (XB:∀ v∈iW,scalar v=true) (hol:iW.length=s) (JE:∀ j v',ux[j]? = some v'->w.cell? ⟨l.cb,l.eB+j3+j,none⟩=some v')
  (xL:eo ρ new cR) (hn1:∀ v∈new,scalar v=true) (pM:l.eB+j3+s+new.length<=l.CP) :
  l8 base ρ A w (ρ.set A.next ⟨l.cb,l.eB+j3,l.CP,cg⟩) ((A.kill A.next (f+(j3+s)) (f+(j3+s)+new.length) (A.members bA)).grow bA (f+j3) (iW++new) cg) (w.setCells l.cb (l.eB+j3+s) cR):=by
 obtain ⟨l',uz,ok⟩:=hs.rel.row _ _ _ _ _ hg;rw [mA] at uz; simp at uz; subst uz;have PY:cR.length=new.length:=xL.length;have hovl:ux.length=s:=by rw [hold.length,hol]
 have XC:b < A.next:=hs.lW b l mA;have SD:cO.gf (.row cs cg true (some (bA,f)))=true:=rfl;have hB:∀ x,((A.kill A.next (f+(j3+s)) (f+(j3+s)+new.length) (A.members bA)).grow bA (f+j3) (iW++new) cg).get x =
   if x=A.next then some (.row (iW++new) cg true (some (bA,f+j3))) else (A.kill A.next (f+(j3+s)) (f+(j3+s)+new.length) (A.members bA)).get x:=by
  intro x; rw [Ma,NH]
 have hBm:∀ g,((A.kill A.next (f+(j3+s)) (f+(j3+s)+new.length) (A.members bA)).grow bA (f+j3) (iW++new) cg).members g=if g=bA then A.next::A.members bA else A.members g:=by
  intro g; rw [AX,NH,KY]
 have hBn:((A.kill A.next (f+(j3+s)) (f+(j3+s)+new.length) (A.members bA)).grow bA (f+j3) (iW++new) cg).next=A.next+1:=by
  simp [St.grow]
 have hkl:=L7 A.next (f+(j3+s)) (f+(j3+s)+new.length) (A.members bA) A;have hBl:((A.kill A.next (f+(j3+s)) (f+(j3+s)+new.length) (A.members bA)).grow bA (f+j3) (iW++new) cg).low=(A.kill A.next (f+(j3+s)) (f+(j3+s)+new.length) (A.members bA)).low:=rfl;have hAK:∀ x,x≠A.next->(A.kill A.next (f+(j3+s)) (f+(j3+s)+new.length) (A.members bA)).get x=if x∈A.members bA/\rV (A.get x) (f+(j3+s)) (f+(j3+s)+new.length)=true then some .dead else A.get x:=by
  intro x hx; rw [Eg]; simp [hx]
 generalize ((A.kill A.next (f+(j3+s)) (f+(j3+s)+new.length) (A.members bA)).grow bA (f+j3) (iW++new) cg)=B at hB hBm hBn hBl;generalize (A.kill A.next (f+(j3+s)) (f+(j3+s)+new.length) (A.members bA))=K at hB hBl hkl hAK;have hle:=hs.NI (⟨l.cb,l.eB+j3,l.CP,cg⟩:Loc);have r8:∀ x o,x≠A.next->B.get x=some o->o≠.dead->A.get x=some o/\(x∈A.members bA->rV (some o) (f+(j3+s)) (f+(j3+s)+new.length)=false):=by
  intro x o hx ho hd;rw [hB,av hx,hAK x hx] at ho;split at ho
  ·simp at ho; exact absurd ho.symm hd
  ·rename_i hc
   refine ⟨ho,fun hm=>?_⟩;rw [<- ho];cases gR:rV (A.get x) (f+(j3+s)) (f+(j3+s)+new.length) with
   | false=>rfl
   | true=>exact absurd ⟨hm,gR⟩ hc
 have rb:∀ x:Addr,(x.block=l.cb->x.spot=none->x.off < l.eB+j3+s\/l.eB+j3+s+cR.length<=x.off)->(w.setCells l.cb (l.eB+j3+s) cR).cell? x=w.cell? x:=
  fun x h=>World.cell?_setCells_out _ _ _ _ _ h
 have afr:∀ x,((w.setCells l.cb (l.eB+j3+s) cR).cell? x).isSome=(w.cell? x).isSome:=fun x=>Eh _ _ _ _ _;have hfr:∀ x,(w.setCells l.cb (l.eB+j3+s) cR).frozen? x=w.frozen? x:=fun x=>World.frozen?_setCells _ _ _ _ _;have fZ:(w.setCells l.cb (l.eB+j3+s) cR).heap.size=w.heap.size:=Ii _ _ _ _;have hmd:∀ o:cO,o.gf=true->o≠.dead:=by intro o h e; subst e; simp [cO.gf] at h
 have CT:∀ x o l2,A.get x=some o->o.gf=true->ρ x=some l2->l2.cb=l.cb->∃ f2,o.nD=some (bA,f2)/\l2.eB+f=l.eB+f2:=by
  intro x o l2 hx hm hr Vv;by_cases Xy:x=b
  ·subst Xy
   rw [hg] at hx; simp at hx; subst hx;rw [mA] at hr; simp at hr; subst hr;exact ⟨f,rfl,rfl⟩
  ·obtain ⟨g,f1,f2,e1,e2,e3⟩:=hs.rel.apart x b _ _ l2 l Xy hx hg hm SD hr mA Vv
   simp [cO.nD] at e2;obtain ⟨rfl,rfl⟩:=e2;exact ⟨f1,e1,e3⟩
 have L8:∀ x nN e2 JR uw l2,x≠A.next->B.get x=some (.row nN e2 JR uw)->ρ x=some l2->ss ρ base w l2 nN e2 JR uw->∀ i,i < nN.length->
   (w.setCells l.cb (l.eB+j3+s) cR).cell? ⟨l2.cb,l2.eB+i,none⟩=w.cell? ⟨l2.cb,l2.eB+i,none⟩:=by
  intro x nN e2 JR uw l2 hx lr asU lj i hi;refine rb _ (fun hbl _=>?_);simp only at hbl ⊢;obtain ⟨hA,gR⟩:=r8 x _ hx lr (by simp);cases JR with
  | false=>have h3:=lj.wI rfl; have h4:=ok.gf rfl; omega
  | true=>
   obtain ⟨f2,e1,e3⟩:=CT x _ l2 hA rfl asU hbl;simp only [cO.nD] at e1;subst e1;have hm:=hs.rel.b5 x _ bA f2 hA rfl;have:=Xx rfl (gR hm);rw [PY];omega
 refine ⟨⟨.Hi ?_ ?_ ?_,?_,?_,hs.JQ.mono (hs.NI _)⟩,?_,⟨(vQ _ _ _ _).1,(vQ _ _ _ _).2.1,(vQ _ _ _ _).2.2,Nat.le_of_eq fZ.symm,?_⟩,?_,?_,?_,?_⟩
 ·intro x o lr hd
  by_cases hx:x=A.next
  ·subst hx
   rw [hB,aY rfl] at lr;simp at lr;subst lr;refine ⟨_,Ren.pw _ _ _,fun i v hi=>?_,fun h=>by simp at h,fun _=>ok.gf rfl,fun _ j hj=>?_,?_,fun _ h=>by simp at h,rfl,by rw [fZ]; exact ok.pG,fun _ h2 j=>by rw [hfr]; exact ok.mark rfl (by rw [ok.cg]; exact h2) j⟩
   ·have mj:eo ρ (iW++new) (ux++cR):=hold.append xL
    obtain ⟨v',h2,h3⟩:=mj.get hi;refine ⟨v',?_,h3.mono hle,?_⟩
    ·rw [List.getElem?_append] at h2
     split at h2
     ·rename_i bG
      rw [rb _ (fun _ _=>by simp only; omega)];exact JE i v' h2
     ·rename_i hge
      have bG:i - ux.length < cR.length:=(dq.1 h2).1;have:=World.cell?_setCells_in l.cb cR (l.eB+j3+s) w (fun j hj=>(ok.there rfl (l.eB+j3+s+j) (by rw [PY] at hj; omega)).1) (i - ux.length) bG;have e:l.eB+j3+s+(i - ux.length)=l.eB+j3+i:=by omega
      rw [e] at this;rw [dr bG] at h2;exact this.trans h2
    ·rcases nI.1 (jD hi) with h | h
     ·exact XB v h
     ·exact hn1 v h
   ·rw [afr,hfr]; exact ok.there rfl j hj
   ·simp only [nH,hol]; omega
  ·obtain ⟨hA,gR⟩:=r8 x o hx lr hd
   obtain ⟨l2,yr,lj⟩:=hs.rel.obj hA hd;refine ⟨l2,hle _ _ yr,?_⟩;cases o with
   | row nN e2 JR uw=>
    have lj:ss ρ base w l2 nN e2 JR uw:=lj;refine ⟨fun i v hi=>?_,lj.wI,lj.gf,fun h j hj=>?_,lj.fits,lj.ends,lj.cg,by rw [fZ]; exact lj.pG,fun h1 h2 j=>by rw [hfr]; exact lj.mark h1 h2 j⟩
    ·obtain ⟨v',h3,h4,h5⟩:=lj.cells i v hi
     exact ⟨v',by rw [L8 x _ _ _ _ l2 hx lr yr lj i (dq.1 hi).1]; exact h3,h4.mono hle,h5⟩
    ·rw [afr,hfr]; exact lj.there h j hj
   | map es=>
    have lj:afp ρ base w l2 es:=lj;obtain ⟨bK,clock,h3,h4⟩:=lj.pG;refine ⟨lj.gf,bK,clock,?_,h4.mono hle⟩;rw [nL]
    ·exact h3
    ·intro e
     obtain ⟨_,e1,_⟩:=CT x _ l2 hA rfl yr e;simp [cO.nD] at e1
   | iter st pos=>
    have lj:Xu base w l2 st pos:=lj;refine ⟨lj.gf,lj.pG.1,?_⟩;rw [nL]
    ·exact lj.pG.2
    ·intro e
     obtain ⟨_,e1,_⟩:=CT x _ l2 hA rfl yr e;simp [cO.nD] at e1
   | dead=>exact absurd rfl hd
   | loop st0 e0 t0 ps0 a0 c0=>
    have lj:Xv ρ base w l2 st0 e0 t0 ps0 a0 c0:=lj;obtain ⟨fn,tmps,D,N,h3,h4⟩:=lj.pG;refine ⟨lj.gf,fn,tmps,D,N,?_,h4.mono hle⟩;rw [nL]
    ·exact h3
    ·intro e
     obtain ⟨_,e1,_⟩:=CT x _ l2 hA rfl yr e;simp [cO.nD] at e1
 ·intro b1 b2 o1 o2 l1 l2 de g1 g2 m1 m2 r1 r2 Vv
  by_cases e1:b1=A.next
  ·have e2:b2≠A.next:=fun e=>de (e1.trans e.symm)
   subst e1;rw [hB,aY rfl] at g1;simp at g1; subst g1;rw [Ren.pw] at r1; simp at r1; subst r1;rw [Ren.lX _ _ e2] at r2;obtain ⟨hA,_⟩:=r8 b2 o2 e2 g2 (hmd _ m2);obtain ⟨f2,k1,k2⟩:=CT b2 o2 l2 hA m2 r2 Vv.symm;exact ⟨bA,f+j3,f2,rfl,k1,by simp only; omega⟩
  ·rw [Ren.lX _ _ e1] at r1
   obtain ⟨hA1,_⟩:=r8 b1 o1 e1 g1 (hmd _ m1);by_cases e2:b2=A.next
   ·subst e2
    rw [hB,aY rfl] at g2;simp at g2; subst g2;rw [Ren.pw] at r2; simp at r2; subst r2;obtain ⟨f2,k1,k2⟩:=CT b1 o1 l1 hA1 m1 r1 Vv;exact ⟨bA,f2,f+j3,k1,rfl,by simp only; omega⟩
   ·rw [Ren.lX _ _ e2] at r2
    obtain ⟨hA2,_⟩:=r8 b2 o2 e2 g2 (hmd _ m2);exact hs.rel.apart b1 b2 o1 o2 l1 l2 de hA1 hA2 m1 m2 r1 r2 Vv
 ·intro x o g fx hx hk
  rw [hBm];by_cases e:x=A.next
  ·subst e
   rw [hB,aY rfl] at hx;simp at hx; subst hx;simp [cO.nD] at hk;rw [aY hk.1.symm];simp
  ·have:=hs.rel.b5 x o g fx (r8 x o e hx (by intro e; subst e; simp [cO.nD] at hk)).1 hk
   split
   ·rename_i e2; subst e2; simp [this]
   ·exact this
 ·intro x l2 h
  rw [hBn];by_cases e:x=A.next
  ·omega
  ·rw [Ren.lX _ _ e] at h; have:=hs.lW x l2 h; omega
 ·rw [fZ]; exact hs.size
 ·intro x hx; exact Ren.lX _ _ (by omega)
 ·intro k hk hn
  exact nL _ (fun e=>hn ⟨b,_,l,hg,rfl,mA,e.symm⟩) _ _ _
 ·omega
 ·rw [hBl]; exact hkl.1
 ·intro x hx hxl
  rw [hB,av (by omega)];cases Classical.em (K.get x=A.get x) with
  | inl h=>exact h
  | inr h=>have:=hkl.2 x h; omega
 ·rintro k hk ⟨x,o,l2,hx,hm,hr,rfl⟩
  by_cases e:x=A.next
  ·subst e
   rw [Ren.pw] at hr; simp at hr; subst hr;exact ⟨b,_,l,hg,rfl,mA,rfl⟩
  ·rw [Ren.lX _ _ e] at hr
   exact ⟨x,o,l2,(r8 x o e hx (hmd _ hm)).1,hm,hr,rfl⟩
theorem arV {a:Addr} (h:dp a=true):a.spot=none:=by
 unfold dp at h;simpa using h
theorem adD (w:World) (a:Addr) (n:Nat) (cs:List Value) (h:∀ j,j < n->(w.cell? (a.add j)).isSome=true) (hr:(loadCells a n).run P w = .ok cs.toArray w) (j:Nat) (v:Value) (hj:cs[j]? = some v) :
  w.cell? (a.add j)=some v:=by
 have h1:=run_loadCells (P:=P) w a n (fun j=>(w.cell? (a.add j)).getD undef) (fun j hj=>by
  have:=h j hj;cases hc:w.cell? (a.add j) with
  | none=>rw [hc] at this; simp at this
  | some u=>rfl)
 rw [hr] at h1;simp only [Result.ok.injEq,and_true] at h1;have h2:cs=(List.range n).map fun j=>(w.cell? (a.add j)).getD undef:=by
  have:=congrArg Array.toList h1;simpa using this
 rw [h2,CG] at hj;cases hq:(List.range n)[j]? with
 | none=>rw [hq] at hj; simp at hj
 | some m=>
  rw [hq] at hj;have bG:j < n:=by have:=(dq.1 hq).1; simpa using this
  have hm:m=j:=by rw [List.getElem?_range bG] at hq; simpa using hq.symm
  subst hm;simp at hj;have:=h m bG;cases hc:w.cell? (a.add m) with
  | none=>rw [hc] at this; simp at this
  | some u=>rw [hc] at hj; simpa using hj
theorem am1 (z:Array Value) (n:Nat):(Builtin.zeroCells z n).size=n * z.size:=size_zeroCells z n
theorem afD {ρ:Ren} {A B:St} {base:Nat} {w:World} {t u ty e:TypeId} {i:TypeInfo} {z s x s' x' v:Value} (ht:P.underlying t=some (.slice e)) (hi:P.info? e=some i) (hz:i.zero=some z) (hu:NC P u=true)
  (hn:1<=i.size) (hzs:z.cells.size=i.size) (Qq:vD ρ A base w) (hsv:VR ρ s s') (hxv:VR ρ x x') (hf:lP i.size i.bytes A [s,x] = some (v,B)) :
  ∃ bd v' w',(Builtin.append_ #[t,u] ty #[s',x']).run P w = .ok v' w'/\VR bd v v'/\l8 base ρ A w bd B w':=by
 unfold lP at hf;split at hf
 ·rename_i bs eF rH x0 e0
  simp at e0;obtain ⟨rfl,rfl⟩:=e0;obtain ⟨k,hk,hf⟩:=dh.1 hf;have hlen:=ab9 hxv hk;have hkk:∀ m,ab6 x=some m->k<=m:=fun m h=>by rw [hk] at h; simp at h; omega
  cases Gq:Nat.ble (eF+k) rH with
  | true=>
   rw [Gq,ak] at hf;have Gq:=fR Gq;obtain ⟨new,xL,hf⟩:=dh.1 hf;obtain ⟨cR,h1,h2,h3,h4⟩:=Fi (P:=P) Qq.rel hxv xL hkk hn;cases bs with
   | none=>
    simp at hf;obtain ⟨rfl,rfl⟩:=hf;have:=hsv.jr;subst this;have hr:=y7 (P:=P) t u ty e i ht hi hu none eF rH x' k cR hlen w h4 Gq;exact ⟨ρ,_,w,by rw [hr]; rfl,by simp [VR],.refl Qq⟩
   | some a=>
    simp only at hf;cases hpa:dp a with
    | false=>rw [hpa] at hf; simp at hf
    | true=>
     rw [hpa,ak] at hf;cases yp:Nat.beq k 0 with
     | true=>
      rw [yp,ak] at hf;simp at hf;obtain ⟨rfl,rfl⟩:=hf;have yp:=bu yp;obtain ⟨Gn,Hj,lc,a',c',hl,uR,K6,pM,rfl⟩:=hsv.na;have hr:=y7 (P:=P) t u ty e i ht hi hu (some a') eF c' x' k cR hlen w h4 (by omega);have Qr:cR = []:=List.eq_nil_of_length_eq_zero (by rw [h1.length,h3,yp,Nat.zero_mul]);refine ⟨ρ,.slice (some a') (eF+k) c',w,?_,?_,.refl Qq⟩
      ·rw [hr,Qr]
       rfl
      ·simp only [VR]
       exact ⟨Gn,by omega,lc,a',c',hl,uR,K6,pM,rfl⟩
     | false=>
     rw [yp,ba] at hf;obtain ⟨B',gR,hf⟩:=cS.1 hf;simp at hf;obtain ⟨rfl,rfl⟩:=hf;obtain ⟨Gn,Hj,lc,a',c',hl,uR,K6,pM,rfl⟩:=hsv.na;have hr:=y7 (P:=P) t u ty e i ht hi hu (some a') eF c' x' k cR hlen w h4 (by omega);obtain ⟨w',h5,h6⟩:=Fh (P:=P) (a:=⟨a.block,a.off+eF * i.size,none⟩) Qq gR hl h1;have mX:(storeCells (a'.add (eF * i.size)) cR).run P w = .ok () w':=by
      by_cases hc:c' = 0
      ·have:cR = []:=by
        apply List.eq_nil_of_length_eq_zero;rw [h1.length,h3];have:k=0:=by omega
        subst this; omega
       subst this;exact h5
      ·rw [K6 hc,mh]
       simp only at h5;rw [Hg];exact h5
     refine ⟨ρ,.slice (some a') (eF+k) c',w',?_,?_,h6⟩
     ·rw [hr]
      simp only [mX,ko]
     ·simp only [VR]
      exact ⟨Gn,Gq,lc,a',c',hl,uR,K6,pM,rfl⟩
  | false=>
   rw [Gq,ba] at hf;have Gq:rH < eF+k:=by
    have : ¬ (eF+k<=rH):=fun h=>by rw [Nat.ble_eq_true_of_le h] at Gq; simp at Gq
    omega
   cases hc:(Nat.ble ((eF+k) * i.bytes) 140737488355328&&Nat.ble (eF+k) 17592186044416&&xh A i.size rH bs) with
   | false=>rw [hc] at hf; simp at hf
   | true=>
    rw [hc,ak] at hf;simp only [aA] at hc;obtain ⟨⟨Gp,xD⟩,hex⟩:=hc;have Gp:=fR Gp;have xD:=fR xD;have alk:(eF+k) * i.bytes<=140737488355328:=Gp;obtain ⟨new,xL,hf⟩:=dh.1 hf;obtain ⟨cR,h1,h2,h3,h4⟩:=Fi (P:=P) Qq.rel hxv xL hkk hn;have hdr:=l8.drew (w:=w) Qq;obtain ⟨as1,g1,g2,g3,g4⟩:=Fi (P:=P) hdr.kC.rel hxv xL hkk hn;have as2:∀ (bs' : Option Addr) (c' : Nat) (aca aas:List Value) (bA f:Nat) (K:St),K=A\/(∃ x lo hi L,K=A.kill x lo hi L)->eo ρ aca aas->(∀ v∈aca,scalar v=true)->aca.length=eF * i.size->
      (Builtin.firstCells i.size eF (.slice bs' eF c')).run P w.drew = .ok aas.toArray w.drew->c' < eF+k->
      ∃ bd v' w',(Builtin.append_ #[t,u] ty #[.slice bs' eF c',x']).run P w = .ok v' w'/\VR bd (.slice (some ⟨A.next,0,none⟩) (eF+k) (eF+k)) v'/\l8 base ρ A w bd (K.grow bA f (aca++new) i.size) w':=by
     intro bs' c' aca aas bA f K hK ho XB hol mX bG;have hr:=aar (P:=P) t u ty e i z ht hi hz hu bs' eF c' x' k aas as1 hlen w mX g4 bG xD (growslice_fits bG alk);have hge:=grownCap_ge w (eF+k) c' e;have hkg:l8 base ρ A w ρ K w.drew:=by
      rcases hK with rfl | ⟨x,lo,hi,L,rfl⟩
      ·exact hdr
      ·exact (afB Qq x lo hi L).trans (l8.drew (afB Qq x lo hi L).kC)
     have hKn:K.next=A.next:=by
      rcases hK with rfl | ⟨x,lo,hi,L,rfl⟩
      ·rfl
      ·simp
     have NK:((aas++as1).toArray++Builtin.zeroCells z.cells (grownCap w (eF+k) c' e - (eF+k))).size=grownCap w (eF+k) c' e * i.size:=by
      rw [Array.size_append,am1,hzs,List.size_toArray,nH,ho.length,g1.length,hol,g3];rw [<- Nat.add_mul,<- Nat.add_mul];congr 1; omega
     have AW:=afC (w:=w.drew) (n:=i.size) (bA:=bA) (f:=f) (c:=(aas++as1).toArray++Builtin.zeroCells z.cells (grownCap w (eF+k) c' e - (eF+k))) e hkg.kC (ho.append g1)
      (fun v hv=>(nI.1 hv).elim (XB v) (g2 v)) (fun j v hj=>by
       rw [Array.getElem?_append_left (by have:=(dq.1 hj).1; simpa using this)];simpa using hj) (by
       rw [NK,nH,hol,g3,<- Nat.add_mul];exact Nat.mul_le_mul_right _ hge)
     refine ⟨_,_,_,hr,?_,hkg.trans AW⟩;simp only [VR];refine ⟨trivial,aU _,_,⟨w.heap.size,0,none⟩,grownCap w (eF+k) c' e,by rw [hKn]; exact Ren.pw _ _ _,hge,fun _=>rfl,?_,rfl⟩;rw [NK];show 0+0+grownCap w (eF+k) c' e * i.size<=grownCap w (eF+k) c' e * i.size;omega
    unfold Ig at hf;cases bs with
    | none=>
     simp only at hf;cases hs0:Nat.beq eF 0 with
     | false=>rw [hs0] at hf; simp at hf
     | true=>
      rw [hs0,ak] at hf;simp at hf;obtain ⟨rfl,rfl⟩:=hf;have hs0:=bu hs0;have:=hsv.jr;subst this;have NL:Builtin.firstCells i.size eF (.slice none eF rH)=pure #[]:=rfl;exact as2 none rH [] [] A.next 0 A (.inl rfl) .nil (by simp) (by rw [hs0]; simp) (by rw [NL]; rfl) Gq
    | some a=>
     simp only at hf;cases hpa:dp a with
     | false=>rw [hpa] at hf; simp at hf
     | true=>
      rw [hpa,ak] at hf;have Gn:=arV hpa;obtain ⟨_,Hj,lc,a',c',hl,uR,K6,pM,rfl⟩:=hsv.na;obtain ⟨iW,hold,hf⟩:=dh.1 hf;obtain ⟨ux,q1,q2,q3,q4⟩:=y6 (P:=P) hdr.kC.rel hold hl;have mX:(Builtin.firstCells i.size eF (.slice (some a') eF c')).run P w.drew = .ok ux.toArray w.drew:=by
       simp only [Builtin.firstCells];by_cases hc:c' = 0
       ·have hs0:eF=0:=by omega
        subst hs0;have Qr:iW = []:=by rw [Nat.zero_mul] at q2; exact List.eq_nil_of_length_eq_zero q2
        subst Qr;rw [q1.cw,Nat.zero_mul];exact run_loadCells_list w.drew a' [] (by simp)
       ·rw [K6 hc]; exact q4
      split at hf
      ·rename_i cs cg own cp hg
       cases hez:Nat.beq cg i.size with
       | false=>rw [hez] at hf; simp at hf
       | true=>
        rw [hez,ak] at hf;have hez:=bu hez;subst hez;obtain ⟨l2,nj,ok⟩:=Qq.rel.row _ _ _ _ _ hg;rw [hl] at nj; simp at nj; subst nj;have hle:lc.cg=i.size:=ok.cg;cases cp with
        | none=>
         simp only at hf;cases own with
         | false=>simp at hf
         | true=>
          simp at hf;obtain ⟨rfl,rfl⟩:=hf;have hxe:a.off+rH * i.size=cs.length:=by
           unfold xh at hex;simp only [hg] at hex;exact bu hex
          have hends:=ok.ends rfl rfl;have hc' : c' < eF+k:=by
           have h9:c' * i.size<=rH * i.size:=by rw [hle] at pM; omega
           have:=Nat.le_of_mul_le_mul_right h9 (by omega);omega
          exact as2 (some a') c' iW ux A.next 0 A (.inl rfl) q1 q3 q2 mX hc'
        | some p=>
         obtain ⟨bA,f⟩:=p;simp only at hf;cases own with
         | false=>simp at hf
         | true=>
          simp at hf;obtain ⟨rfl,rfl⟩:=hf;by_cases hc' : c' < eF+k
          ·exact as2 (some a') c' iW ux bA (f+a.off) _ (.inr ⟨_,_,_,_,rfl⟩) q1 q3 q2 mX hc'
          ·
           have de:c'≠0:=by omega
           have ha:=K6 de;subst ha;have hr:=y7 (P:=P) t u ty e i ht hi hu (some ⟨lc.cb,lc.eB+a.off,none⟩) eF c' x' k cR hlen w h4 (by omega);have su:lc.eB+a.off+eF * i.size+new.length<=lc.CP:=by
            rw [h3];rw [hle] at pM;have h9:(eF+k) * i.size<=c' * i.size:=Nat.mul_le_mul_right _ (by omega);rw [Nat.add_mul] at h9;omega
           have PY:cR.length=new.length:=h1.length;obtain ⟨am2,p1,p2,p3,p4⟩:=y6 (P:=P) Qq.rel hold hl;have JE:∀ (j:Nat) (v' : Value),am2[j]? = some v'->w.cell? ⟨lc.cb,lc.eB+a.off+j,none⟩=some v':=by
            intro j v' hj;have bG:j < eF * i.size:=by have:=(dq.1 hj).1; rw [p1.length,p2] at this; exact this
            have rb:=(ok.there rfl (lc.eB+a.off+j) (by omega)).1;have:=adD (P:=P) w ⟨lc.cb,lc.eB+a.off,none⟩ (eF * i.size) am2 (fun j hj=>by rw [mh]; exact (ok.there rfl (lc.eB+a.off+j) (by omega)).1) p4 j v' hj;rwa [mh] at this
           have AW:=alj (w:=w) (j3:=a.off) (s:=eF * i.size) Qq hg hl p1 p3 p2 JE h1 h2 su;have gR:(storeCells ((⟨lc.cb,lc.eB+a.off,none⟩:Addr).add (eF * i.size)) cR).run P w = .ok () (w.setCells lc.cb (lc.eB+a.off+eF * i.size) cR):=by
            rw [mh];exact run_storeCells_cells (P:=P) lc.cb (lc.eB+a.off+eF * i.size) cR 0 w (fun j hj=>(ok.there rfl _ (by rw [PY] at hj; omega)).1) (fun j hj=>(ok.there rfl _ (by rw [PY] at hj; omega)).2) (fun v Ij=>by
             obtain ⟨j,hj⟩:=List.getElem?_of_mem Ij;have bG:j < new.length:=by rw [<- PY]; exact (dq.1 hj).1
             obtain ⟨u,hu⟩:∃ u,new[j]? = some u:=⟨new[j],dr bG⟩
             obtain ⟨v2,h7,h8⟩:=h1.get hu;rw [hj] at h7; simp at h7; subst h7;exact h8.scalar (h2 u (jD hu)))
           refine ⟨_,.slice (some ⟨lc.cb,lc.eB+a.off,none⟩) (eF+k) c',_,by rw [hr]; simp only [gR,ko],?_,AW⟩;simp only [VR];refine ⟨trivial,aU _,_,_,c',Ren.pw _ _ _,by omega,fun _=>rfl,?_,rfl⟩;show lc.eB+a.off+0+c' * i.size<=lc.CP;rw [hle] at pM;omega
      ·simp at hf
 ·simp at hf
theorem arW {argTypes:Array TypeId} {t u:TypeId} (h:argTypes.toList = [t,u]):argTypes = #[t,u]:=by
 apply Array.ext';simpa using h
theorem apl {argTypes:Array TypeId} {args:Array Operand} (ho:o.op = .call ⟨.builtin .append,args,argTypes⟩):jH P o (ND P argTypes.toList args.toList):=by
 unfold ND;split
 ·rename_i t u CS
  split
  ·rename_i e ht
   split
   ·rename_i i hi
    split
    ·rename_i z hz
     cases hc:(Nat.ble 1 i.size&&Nat.beq z.cells.size i.size&&NC P u) with
     | false=>exact True.intro
     | true=>
      rw [ak];simp only [aA] at hc;obtain ⟨⟨h1,h2⟩,h3⟩:=hc;intro ρ A B base w ev dc v hs he hf;have hf0:=hf;unfold lP at hf0;split at hf0
      ·rename_i bs eF rH x e1
       have hm:=he.map;rw [e1] at hm hf;obtain ⟨s',r1,e2,hsv,hm⟩:=hm.cons_inv;obtain ⟨x',r2,e3,hxv,hm⟩:=hm.cons_inv;have:=hm.cw;subst this e3;obtain ⟨bd,v',w',h4,h5,h6⟩:=afD (ty:=o.type) ht hi hz h3 (fR h1) (bu h2) hs hsv hxv hf;refine ⟨bd,v',.value v',w',?_,rfl,h5,h6⟩;have e4:args.map dc = #[s',x']:=by apply Array.ext'; simpa using e2
       have e5:=arW CS;subst e5;simp only [execOp,ho,Sem.run_bind,resolve,Sem.run_pure,ko,invoke,builtin,e4,h4]
      ·simp at hf0
    ·trivial
   ·trivial
  ·trivial
 ·trivial
theorem as3 {argTypes:Array TypeId} {args:Array Operand} (ho:o.op = .call ⟨.builtin .copy,args,argTypes⟩):jH P o (Xr P argTypes.toList args.toList):=by
 unfold Xr;split
 ·rename_i t rest CS
  have Ph:argTypes[0]? = some t:=by rw [<- Array.getElem?_toList,CS]; rfl
  split
  ·rename_i e ht
   split
   ·rename_i n hn
    cases D3:Nat.ble 1 n with
    | false=>exact True.intro
    | true=>
     rw [ak];have D3:1<=n:=fR D3;intro ρ A B base w ev dc v hs he hf;unfold afl at hf;split at hf
     ·rename_i bs Xq dCap x e1
      have hm:=he.map;rw [e1] at hm;obtain ⟨s',r1,e2,hsv,hm⟩:=hm.cons_inv;obtain ⟨x',r2,e3,hxv,hm⟩:=hm.cons_inv;have:=hm.cw;subst this e3;have e4:args.map dc = #[s',x']:=by apply Array.ext'; simpa using e2
      obtain ⟨k,hk,hf⟩:=dh.1 hf;have hlen:=ab9 hxv hk;obtain ⟨new,xL,hf⟩:=dh.1 hf;obtain ⟨cR,h1,h2,h3,h4⟩:=Fi (P:=P) hs.rel hxv xL (fun m h=>by rw [hk] at h; simp at h; subst h; exact Nat.min_le_left _ _) D3;cases bs with
      | none=>
       simp at hf;obtain ⟨rfl,rfl⟩:=hf;have:=hsv.jr;subst this;refine ⟨ρ,goInt (Nat.min k Xq),.value (goInt (Nat.min k Xq)),w,?_,rfl,VR.of_flat rfl,.refl hs⟩;simp [execOp,ho,resolve,invoke,builtin,e4,Builtin.copy_,Ph,bP ht,hlen,pU hn,h4]
      | some a=>
       simp only at hf;obtain ⟨B',gR,hf⟩:=cS.1 hf;simp at hf;obtain ⟨rfl,rfl⟩:=hf;obtain ⟨Gn,Hj,lc,a',c',hl,uR,K6,pM,rfl⟩:=hsv.na;obtain ⟨w',h5,h6⟩:=Fh (P:=P) hs gR hl h1;have mX:(storeCells a' cR).run P w = .ok () w':=by
        by_cases hc:c' = 0
        ·have:cR = []:=by
          apply List.eq_nil_of_length_eq_zero;rw [h1.length,h3];have:Xq=0:=by omega
          subst this; simp
         subst this;exact h5
        ·rw [K6 hc]; exact h5
       refine ⟨ρ,goInt (Nat.min k Xq),.value (goInt (Nat.min k Xq)),w',?_,rfl,VR.of_flat rfl,h6⟩;simp [execOp,ho,resolve,invoke,builtin,e4,Builtin.copy_,Ph,bP ht,hlen,pU hn,h4,mX]
     ·simp at hf
   ·trivial
  ·trivial
 ·trivial
end
end Go.aB
end
section
namespace Go.aB
open Go
section
variable {P:Program} {o:Oper}
theorem CU {ρ:Ren} {A:St} {base:Nat} {w:World} {r:Nat} {es pQ:List (Value×Value)} {FN:Array MapEntry} {Fj:Nat} {l:Loc} (hs:vD ρ A base w) (hg:A.get r=some (.map es)) (mA:ρ r=some l)
  (hm:j8 ρ pQ FN.toList):l8 base ρ A w ρ (A.put r (.map pQ)) { w with heap:=w.heap.setIfInBounds l.cb (.map FN Fj) }:=by
 obtain ⟨l',uz,ok⟩:=hs.rel.map _ _ hg;rw [mA] at uz; simp at uz; subst uz;obtain ⟨bK,clock,rf,_⟩:=ok.pG;have bG:l.cb < w.heap.size:=(vM.1 rf).1;have K9:cO.gf (.map es)=true:=rfl;have hold:∀ k,k≠l.cb->(w.heap.setIfInBounds l.cb (.map FN Fj))[k]? = w.heap[k]?:=fun k hk=>by
  rw [Array.getElem?_setIfInBounds_ne (Ne.symm hk)]
 have fZ:(w.heap.setIfInBounds l.cb (.map FN Fj)).size=w.heap.size:=by simp
 have hB:∀ x,(A.put r (.map pQ)).get x=if x=r then some (.map pQ) else A.get x:=fun x=>St.cz _ _ _ _;have hmd:∀ o:cO,o.gf=true->o≠.dead:=by intro o h e; subst e; simp [cO.gf] at h
 have L8:∀ x o l2,x≠r->A.get x=some o->o≠.dead->ρ x=some l2->K0 ρ base w l2 o->l2.cb≠l.cb:=by
  intro x o l2 hx lr hd yr lj e;cases hmo:o.gf with
  | true=>
   obtain ⟨_,_,_,_,e1,_⟩:=hs.rel.apart x r o _ l2 l hx lr hg hmo K9 yr mA e;simp [cO.nD] at e1
  | false=>
   cases o with
   | row cs cg own cp=>
    have lj:ss ρ base w l2 cs cg own cp:=lj;have h1:own=false:=hmo;have:=lj.wI h1;have:=ok.gf;omega
   | map _=>simp [cO.gf] at hmo
   | iter _ _=>simp [cO.gf] at hmo
   | dead=>exact hd rfl
   | loop _ _ _ _ _ _=>simp [cO.gf] at hmo
 refine ⟨⟨.Hi ?_ ?_ ?_,fun b l2 h=>hs.lW b l2 h,by simpa using hs.size,hs.JQ⟩,fun _ _=>rfl,⟨rfl,rfl,rfl,Nat.le_of_eq fZ.symm,fun k hk hn=>hold k (fun e=>hn ⟨r,_,l,hg,K9,mA,e.symm⟩)⟩,aU _,Nat.min_le_left _ _,fun x hx hxl=>?_,?_⟩
 ·intro x o lr hd
  rw [hB] at lr;split at lr
  ·rename_i e; subst e; simp at lr; subst lr
   refine ⟨l,mA,ok.gf,FN,Fj,?_,hm⟩;show (w.heap.setIfInBounds l.cb (.map FN Fj))[l.cb]? = _;rw [Array.getElem?_setIfInBounds_self_of_lt bG]
  ·rename_i e
   obtain ⟨l2,yr,lj⟩:=hs.rel.obj lr hd;exact ⟨l2,yr,lj.ik (Ren.le_refl _) (hold _ (L8 x o l2 e lr hd yr lj)) (Nat.le_of_eq fZ.symm)⟩
 ·have PZ:∀ x o,(A.put r (.map pQ)).get x=some o->o.gf=true->∃ o',A.get x=some o'/\o'.gf=true/\o'.nD=o.nD:=by
   intro x o hx hm;rw [hB] at hx;split at hx
   ·rename_i e; subst e; simp at hx; subst hx; exact ⟨_,hg,rfl,rfl⟩
   ·exact ⟨o,hx,hm,rfl⟩
  intro b1 b2 o1 o2 l1 l2 de g1 g2 m1 m2 r1 r2 Vv;obtain ⟨p1,q1,n1,k1⟩:=PZ _ _ g1 m1;obtain ⟨p2,q2,n2,k2⟩:=PZ _ _ g2 m2;rw [<- k1,<- k2];exact hs.rel.apart b1 b2 p1 p2 l1 l2 de q1 q2 n1 n2 r1 r2 Vv
 ·intro x o bA f lr hk
  rw [hB] at lr;split at lr
  ·rename_i e; subst e; simp at lr; subst lr; simp [cO.nD] at hk
  ·exact hs.rel.b5 x o bA f lr hk
 ·rw [St.afq] at hxl
  have:Nat.min A.low r<=r:=Nat.min_le_right _ _;rw [hB,av (by omega)]
 ·rintro k hk ⟨x,o,l2,lr,hm,yr,rfl⟩
  rw [hB] at lr;split at lr
  ·rename_i e; subst e
   rw [mA] at yr; simp at yr; subst yr;exact ⟨x,_,l,hg,K9,mA,rfl⟩
  ·exact ⟨x,o,l2,lr,hm,yr,rfl⟩
theorem j8.length {ρ:Ren} : ∀ {es:List (Value×Value)} {l:List MapEntry},j8 ρ es l->l.length=es.length
 | [],l,h=>by simp only [j8] at h; subst h; rfl
 | (k,v)::es,l,h=>by
  simp only [j8] at h;obtain ⟨e,r,rfl,_,_,h⟩:=h;simp [j8.length h]
theorem j8.get {ρ:Ren} : ∀ {es:List (Value×Value)} {l:List MapEntry},j8 ρ es l->∀ (i:Nat) (k v:Value),es[i]? = some (k,v)->∃ e,l[i]? = some e/\VR ρ k e.key/\VR ρ v e.val
 | [],l,h,i,k,v,hi=>by simp at hi
 | (k,v)::es,l,h,i,k',v',hi=>by
  simp only [j8] at h;obtain ⟨e,r,rfl,h1,h2,h⟩:=h;cases i with
  | zero=>simp at hi; obtain ⟨rfl,rfl⟩:=hi; exact ⟨e,rfl,h1,h2⟩
  | succ i=>simp at hi; simpa using j8.get h i k' v' hi
theorem j8.append {ρ:Ren} : ∀ {es:List (Value×Value)} {l:List MapEntry} {k v:Value} {e:MapEntry},j8 ρ es l->VR ρ k e.key->VR ρ v e.val->j8 ρ (es++[(k,v)]) (l++[e])
 | [],l,k,v,e,h,h1,h2=>by
  simp only [j8] at h; subst h;simp only [List.nil_append,j8];exact ⟨e,[],rfl,h1,h2,rfl⟩
 | (k0,v0)::es,l,k,v,e,h,h1,h2=>by
  simp only [j8] at h;obtain ⟨e0,r,rfl,h3,h4,h⟩:=h;simp only [List.cons_append,j8];exact ⟨e0,r++[e],rfl,h3,h4,j8.append h h1 h2⟩
theorem j8.modify {ρ:Ren} : ∀ {es:List (Value×Value)} {l:List MapEntry} {k v:Value} (f:MapEntry->MapEntry) (i:Nat),j8 ρ es l->(∀ e,VR ρ k (f e).key/\VR ρ v (f e).val)->j8 ρ (es.set i (k,v)) (l.modify i f)
 | [],l,k,v,f,i,h,_=>by simp only [j8] at h; subst h; simp [j8]
 | (k0,v0)::es,l,k,v,f,i,h,hf=>by
  simp only [j8] at h;obtain ⟨e0,r,rfl,h3,h4,h⟩:=h;cases i with
  | zero=>simp only [List.set_cons_zero,List.modify_zero_cons,j8]; exact ⟨_,r,rfl,(hf e0).1,(hf e0).2,h⟩
  | succ i=>simp only [List.set_cons_succ,List.modify_succ_cons,j8]; exact ⟨e0,_,rfl,h3,h4,j8.modify f i h hf⟩
theorem j8.erase {ρ:Ren} : ∀ {es:List (Value×Value)} {l:List MapEntry} (i:Nat),j8 ρ es l->j8 ρ (es.eraseIdx i) (l.eraseIdx i)
 | [],l,i,h=>by simp only [j8] at h; subst h; simp [j8]
 | (k0,v0)::es,l,i,h=>by
  simp only [j8] at h;obtain ⟨e0,r,rfl,h3,h4,h⟩:=h;cases i with
  | zero=>simpa using h
  | succ i=>simp only [List.eraseIdx_cons_succ,j8]; exact ⟨e0,_,rfl,h3,h4,j8.erase i h⟩
def FR (ρ:Ren):Option (Nat×Value)->Option (Nat×Value)->Prop
 | none,r=>r=none
 | some (i,v),r=>∃ v',r=some (i,v')/\VR ρ v v'
theorem XD {ρ:Ren} (d:TypeDesc) (k:Value):∀ (es:List (Value×Value)) (l:List MapEntry) (i:Nat),j8 ρ es l->xi es=true->
  (Ef d k es i=none->Instr.findNow d k l i=none)/\∀ r,Ef d k es i=some r->∃ r',Instr.findNow d k l i=some r'/\FR ρ r r'
 | [],l,i,h,_=>by
  simp only [j8] at h; subst h;exact ⟨fun h=>by simp [Ef] at h,fun r hr=>by simp [Ef] at hr; subst hr; exact ⟨none,rfl,rfl⟩⟩
 | (k0,v0)::es,l,i,h,hf=>by
  simp only [j8] at h;obtain ⟨e0,r0,rfl,h3,h4,h⟩:=h;simp only [xi,aA] at hf;have hk:e0.key=k0:=h3.qW hf.1;have ih:=XD d k es r0 (i+1) h hf.2;simp only [Ef,Instr.findNow,hk];cases hsn:Instr.sameNow d k k0 with
  | none=>exact ⟨fun _=>rfl,fun r hr=>by simp at hr⟩
  | some b=>
   cases b with
   | true=>exact ⟨fun h=>by simp at h,fun r hr=>by simp at hr; subst hr; exact ⟨_,rfl,_,rfl,h4⟩⟩
   | false=>exact ih
theorem XE {ρ:Ren} (kt:TypeId) (k:Value):∀ (es:List (Value×Value)) (l:List MapEntry) (i:Nat),j8 ρ es l->xi es=true->
  ∀ r,LY P kt k es i=some r->∃ r',(∀ w,(Instr.findAsking kt k l i).run P w = .ok r' w)/\FR ρ r r'
 | [],l,i,h,_=>by
  simp only [j8] at h; subst h;intro r hr;simp [LY] at hr; subst hr; exact ⟨none,fun w=>rfl,rfl⟩
 | (k0,v0)::es,l,i,h,hf=>by
  simp only [j8] at h;obtain ⟨e0,r0,rfl,h3,h4,h⟩:=h;simp only [xi,aA] at hf;have hk:e0.key=k0:=h3.qW hf.1;intro r hr;simp only [LY] at hr;split at hr
  ·rename_i he
   simp at hr; subst hr;refine ⟨some (i,e0.val),fun w=>?_,_,rfl,h4⟩;simp [Instr.findAsking,hk,iM he w]
  ·rename_i he
   obtain ⟨r',h5,h6⟩:=XE kt k es r0 (i+1) h hf.2 r hr;refine ⟨r',fun w=>?_,h6⟩;simp only [Instr.findAsking,hk,Sem.run_bind,iM he w,ko];exact h5 w
  ·simp at hr
theorem NM {ρ:Ren} {kt:TypeId} {d:TypeDesc} {k:Value} {es:List (Value×Value)} {l:List MapEntry} {r:Option (Nat×Value)} (hd:P.underlying kt=some d) (h:j8 ρ es l) (hf:xi es=true) (hr:afm P kt d k es=some r) :
  ∃ r',(∀ w,(Instr.findKey kt k l).run P w = .ok r' w)/\FR ρ r r':=by
 have hn:=XD d k es l 0 h hf;unfold afm at hr;split at hr
 ·rename_i q hq
  simp at hr; subst hr;obtain ⟨r',h1,h2⟩:=hn.2 _ hq;refine ⟨r',fun w=>?_,h2⟩;simp only [Instr.findKey,Sem.run_bind,bP hd,ko,h1];rfl
 ·rename_i hq
  have h1:=hn.1 hq;obtain ⟨r',h2,h3⟩:=XE kt k es l 0 h hf r hr;refine ⟨r',fun w=>?_,h3⟩;simp only [Instr.findKey,Sem.run_bind,bP hd,ko,h1];exact h2 w
theorem Hk {ρ:Ren} {kt:TypeId} {b:Bool} {k k' : Value} {es:List (Value×Value)} (h:KW P kt b k es=true) (hk:VR ρ k k'):k' = k/\flat k=true/\xi es=true/\∀ w,(Instr.checkKey b 10000 kt k).run P w = .ok () w:=by
 unfold KW at h;simp only [aA] at h;obtain ⟨⟨h1,h2⟩,h3⟩:=h;cases hp:dy P (Instr.checkKey b 10000 kt k) with
 | none=>rw [hp] at h3; simp at h3
 | some u=>exact ⟨hk.qW h1,h1,h2,fun w=>iM hp w⟩
theorem j8.isEmpty {ρ:Ren} {es:List (Value×Value)} {l:Array MapEntry} (h:j8 ρ es l.toList):l.isEmpty=es.isEmpty:=by
 have:=h.length;cases es with
 | nil=>simp at this; simpa using this
 | cons e es=>simp at this; simp; intro h; rw [h] at this; simp at this
theorem VR.Qs {ρ:Ren} {r:Nat} {v:Value} (h:VR ρ (.map (some r)) v):∃ l,ρ r=some l/\v = .map (some l.cb):=by simpa only [VR] using h
theorem VR.Hl {ρ:Ren} {v:Value} (h:VR ρ (.map none) v):v = .map none:=by simpa only [VR] using h
theorem VR.akg {ρ:Ren} {ok b:Bool} {v v' : Value} (h:VR ρ v v'):VR ρ (akg ok v b) (if ok then .tuple #[v',.bool b] else v'):=by
 cases ok with
 | true=>exact VR.mkTuple (.cons h (.cons (VR.of_flat rfl) .nil))
 | false=>exact h
theorem am3 {t:TypeId} {r:Option Operand} (ho:o.op = .makeMap t r):jH P o (Ql P t r):=by
 unfold Ql;split
 ·rename_i kt et hu
  intro ρ ev dc obj mk he hf;have lD:obj = .map []/\mk=fun n=>.map (some n):=by
   unfold aam at hf;split at hf
   ·simp at hf; exact ⟨hf.1.symm,hf.2.symm⟩
   ·simp at hf; exact ⟨hf.1.symm,hf.2.symm⟩
   ·simp at hf
  obtain ⟨rfl,rfl⟩:=lD;refine ⟨.map #[] 0,fun n=>.map (some n),rfl,fun w=>?_,fun bd n cb h=>by simp only [VR]; exact ⟨_,h,rfl⟩⟩;cases r with
  | none=>simp [execOp,ho,Instr.makeMap]
  | some x=>
   have hx:=he x (by simp [gS]);unfold aam at hf;simp only [gS,List.map] at hf;split at hf
   ·rename_i e; simp at e
   ·rename_i k n e
    simp at e;rw [e] at hx;simp [execOp,ho,Instr.makeMap,hx.cU,bP hu,asInt,asIntOf]
   ·simp at hf
 ·trivial
theorem Mb {ρ:Ren} {kt et:TypeId} {d:TypeDesc} {z v k k' : Value} {ok:Bool} {es:List (Value×Value)} {l:Array MapEntry} (hd:P.underlying kt=some d) (hz:vN P et=some z) (hzf:flat z=true)
  (hm:j8 ρ es l.toList) (hk:VR ρ k k') (h:NF P kt d z ok k es=some v) :
  ∃ v',VR ρ v v'/\∀ w,(do
   Instr.checkKey l.isEmpty 10000 kt k'
   let (v,b) <- match <- Instr.findKey kt k' l.toList with
    | some (_,v)=>pure (v,true)
    | none=>pure (<- zeroValue et,false)
   pure (if ok then Value.tuple #[v,.bool b] else v):Sem Value).run P w = .ok v' w:=by
 unfold NF at h;cases hc:KW P kt es.isEmpty k es with
 | false=>rw [hc] at h; simp at h
 | true=>
  rw [hc,ak] at h;obtain ⟨rfl,_,hkf,hch⟩:=Hk hc hk;obtain ⟨r,hr,rfl⟩:=cS.1 h;obtain ⟨r',h1,h2⟩:=NM hd hm hkf hr;rw [hm.isEmpty];cases r with
  | none=>
   have h2:r' = none:=h2;subst h2;refine ⟨_,VR.akg (VR.of_flat hzf),fun w=>?_⟩;simp [hch,h1,SE hz]
  | some p=>
   obtain ⟨i,u⟩:=p;obtain ⟨u',rfl,h3⟩:=h2;refine ⟨_,VR.akg h3,fun w=>?_⟩;simp [hch,h1]
theorem apm {t:TypeId} {x ix:Operand} {ok:Bool} (ho:o.op = .lookup t x ix ok):jH P o (Vq P t x ix ok):=by
 unfold Vq;split
 ·rename_i kt et hu
  split
  ·rename_i d z hd hz
   cases hzf:flat z with
   | false=>exact True.intro
   | true=>
    rw [ak];intro ρ A base w ev dc v hs he hf;have hx:=he x (by simp);have hk:=he ix (by simp);simp only [List.map] at hf;unfold amS at hf;split at hf
    ·rename_i k e
     simp at e;obtain ⟨e1,e2⟩:=e;rw [e1] at hx;have hx:=hx.Hl;rw [<- e2] at hf;obtain ⟨v',h1,h2⟩:=Mb (ρ:=ρ) (l:=#[]) hd hz hzf (by simp [j8]) hk hf;refine ⟨v',h1,?_⟩;have h2:=h2 w;simp only [execOp,ho,Instr.lookup,Sem.run_bind,bP hu,ko,hx,Sem.run_pure] at h2 ⊢;exact congrArg (fun r:Result Value=>r.andThen fun a w'=>Result.ok (Next.value a) w') h2
    ·rename_i r k e
     simp at e;obtain ⟨e1,e2⟩:=e;rw [e1] at hx;rw [<- e2] at hf;obtain ⟨lc,hl,hx⟩:=hx.Qs;split at hf
     ·rename_i es hg
      obtain ⟨l2,nj,lj⟩:=hs.map _ _ hg;rw [hl] at nj; simp at nj; subst nj;obtain ⟨bK,clock,rf,hm⟩:=lj.pG;obtain ⟨v',h1,h2⟩:=Mb (l:=bK) hd hz hzf hm hk hf;refine ⟨v',h1,?_⟩;have h2:=h2 w;simp only [execOp,ho,Instr.lookup,Sem.run_bind,bP hu,ko,hx,MapKept.run_getObj_map rf,Sem.run_pure] at h2 ⊢;exact congrArg (fun r:Result Value=>r.andThen fun a w'=>Result.ok (Next.value a) w') h2
     ·simp at hf
    ·simp at hf
  ·trivial
 ·trivial
theorem XF {ρ:Ren} {A B:St} {base:Nat} {w:World} {t kt et:TypeId} {d:TypeDesc} {m k x m' k' x' v:Value} (hu:P.underlying t=some (.map kt et)) (hd:P.underlying kt=some d) (hs:vD ρ A base w)
  (hm:VR ρ m m') (hk:VR ρ k k') (hx:VR ρ x x') (h:Qk P kt d A [m,k,x] = some (v,B)):v=undef/\∃ w',(Instr.mapUpdate t m' k' x').run P w = .ok () w'/\l8 base ρ A w ρ B w':=by
 unfold Qk at h;split at h
 ·rename_i r k0 x0 e
  simp at e;obtain ⟨rfl,rfl,rfl⟩:=e;obtain ⟨lc,hl,rfl⟩:=hm.Qs;split at h
  ·rename_i es hg
   obtain ⟨l2,nj,lj⟩:=hs.rel.map _ _ hg;rw [hl] at nj; simp at nj; subst nj;obtain ⟨bK,clock,rf,hmr⟩:=lj.pG;cases hc:KW P kt false k es with
   | false=>rw [hc] at h; simp at h
   | true=>
    rw [hc,ak] at h;obtain ⟨rfl,hkf0,hkf,hch⟩:=Hk hc hk;obtain ⟨q,hq,h⟩:=dh.1 h;obtain ⟨r',h1,h2⟩:=NM hd hmr hkf hq;cases q with
    | none=>
     have h2:r' = none:=h2;subst h2;simp at h;obtain ⟨rfl,rfl⟩:=h;refine ⟨rfl,_,?_,CU (FN:=bK.push { key:=k',val:=x',born:=clock }) (Fj:=clock+1) hs hg hl (by rw [Array.toList_push]; exact hmr.append hk hx)⟩;simp [Instr.mapUpdate,bP hu,MapKept.run_getObj_map rf,hch,h1,MapKept.run_setObj_map _ rf]
    | some p=>
     obtain ⟨i,u⟩:=p;obtain ⟨u',rfl,h3⟩:=h2;simp only at h;cases hsb:Instr.sameBits 10000 (alb es i k') k' with
     | false=>rw [hsb] at h; simp at h
     | true=>
      rw [hsb] at h;simp at h;obtain ⟨rfl,rfl⟩:=h;have hold:((bK[i]?).map (·.key)).getD k' = alb es i k':=by
       unfold alb;cases hi:es[i]? with
       | none=>
        have:bK[i]? = none:=by
         rw [Array.getElem?_eq_none_iff];have:=aeO.1 hi;rw [<- Array.length_toList,hmr.length]; exact this
        rw [this]; rfl
       | some p=>
        obtain ⟨k1,v1⟩:=p;obtain ⟨e,h5,h6,h7⟩:=hmr.get i k1 v1 hi;have h5' : bK[i]? = some e:=by simpa using h5
        have CF:flat k1=true:=by
         have key:∀ (es:List (Value×Value)) (i:Nat),xi es=true->es[i]? = some (k1,v1)->flat k1=true:=by
          intro es
          induction es with
          | nil=>intro i _ h; simp at h
          | cons e es ih=>
           intro i hk h;simp only [xi,aA] at hk;cases i with
           | zero=>simp at h; subst h; exact hk.1
           | succ i=>exact ih i hk.2 (by simpa using h)
         exact key es i hkf hi
        rw [h5'];simp only [Option.map_some,ee];exact h6.qW CF
      refine ⟨rfl,_,?_,CU (FN:=bK.modify i fun e=>{ e with key:=k',val:=x' }) (Fj:=clock) hs hg hl (by rw [Array.toList_modify]; exact hmr.modify _ i fun e=>⟨hk,hx⟩)⟩;simp [Instr.mapUpdate,bP hu,MapKept.run_getObj_map rf,hch,h1,hold,Instr.keyThatStays,hsb,MapKept.run_setObj_map _ rf]
  ·simp at h
 ·simp at h
theorem T1 {t:TypeId} {m k x:Operand} (ho:o.op = .mapUpdate t m k x\/o.op = .insert t m k x):jH P o (Fe P t m k x):=by
 unfold Fe;split
 ·rename_i kt et hu
  split
  ·rename_i d hd
   intro ρ A B base w ev dc v hs he hf;simp only [List.map] at hf;obtain ⟨rfl,w',h1,h2⟩:=XF hu hd hs (he m (by simp)) (he k (by simp)) (he x (by simp)) hf;refine ⟨ρ,undef,.skip,w',?_,rfl,VR.of_flat (by simp [undef,flat,Nv,yv]),h2⟩;rcases ho with ho | ho <;> simp [execOp,ho,h1]
  ·trivial
 ·trivial
theorem yy:flat lV=true:=rfl
theorem apn {argTypes:Array TypeId} {args:Array Operand} (ho:o.op = .call ⟨.builtin .delete,args,argTypes⟩):jH P o (Vr P argTypes.toList args.toList):=by
 unfold Vr;split
 ·rename_i t rest CS
  have Ph:argTypes[0]? = some t:=by rw [<- Array.getElem?_toList,CS]; rfl
  split
  ·rename_i kt et hu
   split
   ·rename_i d hd
    intro ρ A B base w ev dc v hs he hf;have hm:=he.map;unfold amT at hf;split at hf
    ·rename_i k e1
     rw [e1] at hm;obtain ⟨m',r1,e2,hmv,hm⟩:=hm.cons_inv;obtain ⟨k',r2,e3,hkv,hm⟩:=hm.cons_inv;have:=hm.cw;subst this e3;have e4:args.map dc = #[m',k']:=by apply Array.ext'; simpa using e2
     have:=hmv.Hl;subst this;cases hc:KW P kt true k [] with
     | false=>rw [hc] at hf; simp at hf
     | true=>
      rw [hc] at hf;simp at hf;obtain ⟨rfl,rfl⟩:=hf;obtain ⟨rfl,_,hkf,hch⟩:=Hk hc hkv;refine ⟨ρ,lV,.value lV,w,?_,rfl,VR.of_flat yy,.refl hs⟩;simp [execOp,ho,resolve,invoke,builtin,e4,Builtin.delete_,Ph,bP hu,hch,lV]
    ·rename_i r k e1
     rw [e1] at hm;obtain ⟨m',r1,e2,hmv,hm⟩:=hm.cons_inv;obtain ⟨k',r2,e3,hkv,hm⟩:=hm.cons_inv;have:=hm.cw;subst this e3;have e4:args.map dc = #[m',k']:=by apply Array.ext'; simpa using e2
     obtain ⟨lc,hl,rfl⟩:=hmv.Qs;split at hf
     ·rename_i es hg
      obtain ⟨l2,nj,lj⟩:=hs.rel.map _ _ hg;rw [hl] at nj; simp at nj; subst nj;obtain ⟨bK,clock,rf,hmr⟩:=lj.pG;cases hc:KW P kt es.isEmpty k es with
      | false=>rw [hc] at hf; simp at hf
      | true=>
       rw [hc,ak] at hf;obtain ⟨rfl,_,hkf,hch⟩:=Hk hc hkv;obtain ⟨q,hq,Mc⟩:=cS.1 hf;obtain ⟨r',h1,h2⟩:=NM hd hmr hkf hq;rw [<- hmr.isEmpty] at hch;cases q with
       | none=>
        have h2:r' = none:=h2;subst h2;simp at Mc;obtain ⟨rfl,rfl⟩:=Mc;refine ⟨ρ,lV,.value lV,_,?_,rfl,VR.of_flat yy,CU (FN:=bK) (Fj:=clock) hs hg hl hmr⟩;simp [execOp,ho,resolve,invoke,builtin,e4,Builtin.delete_,Ph,bP hu,MapKept.run_getObj_map rf,hch,h1,MapKept.run_setObj_map _ rf,lV]
       | some p=>
        obtain ⟨i,u⟩:=p;obtain ⟨u',rfl,h3⟩:=h2;simp at Mc;obtain ⟨rfl,rfl⟩:=Mc;refine ⟨ρ,lV,.value lV,_,?_,rfl,VR.of_flat yy,CU (FN:=bK.eraseIdxIfInBounds i) (Fj:=clock) hs hg hl (by rw [Array.toList_eraseIdxIfInBounds]; exact hmr.erase i)⟩;simp [execOp,ho,resolve,invoke,builtin,e4,Builtin.delete_,Ph,bP hu,MapKept.run_getObj_map rf,hch,h1,MapKept.run_setObj_map _ rf,lV]
     ·simp at hf
    ·simp at hf
   ·trivial
  ·trivial
 ·trivial
theorem arX {argTypes:Array TypeId} {args:Array Operand} (ho:o.op = .call ⟨.builtin .clear,args,argTypes⟩):jH P o (aan P argTypes.toList args.toList):=by
 unfold aan;split
 ·rename_i t CS
  have Ph:argTypes[0]? = some t:=by rw [<- Array.getElem?_toList,CS]; rfl
  split
  ·rename_i kt et hu
   intro ρ A B base w ev dc v hs he hf;have hm:=he.map;unfold afn at hf;split at hf
   ·rename_i e1
    simp at hf;obtain ⟨rfl,rfl⟩:=hf;rw [e1] at hm;obtain ⟨m',r1,e2,hmv,hm⟩:=hm.cons_inv;have:=hm.cw;subst this;have e4:args.map dc = #[m']:=by apply Array.ext'; simpa using e2
    have:=hmv.Hl;subst this;refine ⟨ρ,lV,.value lV,w,?_,rfl,VR.of_flat yy,.refl hs⟩;simp [execOp,ho,resolve,invoke,builtin,e4,Builtin.clear_,Ph,bP hu,lV]
   ·rename_i r e1
    rw [e1] at hm;obtain ⟨m',r1,e2,hmv,hm⟩:=hm.cons_inv;have:=hm.cw;subst this;have e4:args.map dc = #[m']:=by apply Array.ext'; simpa using e2
    obtain ⟨lc,hl,rfl⟩:=hmv.Qs;split at hf
    ·rename_i es hg
     simp at hf;obtain ⟨rfl,rfl⟩:=hf;obtain ⟨l2,nj,lj⟩:=hs.rel.map _ _ hg;rw [hl] at nj; simp at nj; subst nj;obtain ⟨bK,clock,rf,hmr⟩:=lj.pG;refine ⟨ρ,lV,.value lV,_,?_,rfl,VR.of_flat yy,CU (FN:=#[]) (Fj:=clock) hs hg hl rfl⟩;simp [execOp,ho,resolve,invoke,builtin,e4,Builtin.clear_,Ph,bP hu,MapKept.run_getObj_map rf,MapKept.run_setObj_map _ rf,lV]
    ·simp at hf
   ·simp at hf
  ·rename_i e hu
   split
   ·rename_i z hz
    cases hzc:(flat z&&Nat.ble 1 z.cells.size) with
    | false=>exact True.intro
    | true=>
     rw [ak];obtain ⟨hz1,Il⟩:=Bool.and_eq_true_iff.1 hzc;have Il:=fR Il;intro ρ A B base w ev dc v hs he hf;have hm:=he.map;unfold akh at hf;split at hf
     ·rename_i n c e1
      simp at hf;obtain ⟨rfl,rfl⟩:=hf;rw [e1] at hm;obtain ⟨m',r1,e2,hmv,hm⟩:=hm.cons_inv;have:=hm.cw;subst this;have e4:args.map dc = #[m']:=by apply Array.ext'; simpa using e2
      have:=hmv.jr;subst this;refine ⟨ρ,lV,.value lV,w,?_,rfl,VR.of_flat yy,.refl hs⟩;simp [execOp,ho,resolve,invoke,builtin,e4,Builtin.clear_,Ph,bP hu,lV]
     ·rename_i a n c e1
      rw [e1] at hm;obtain ⟨m',r1,e2,hmv,hm⟩:=hm.cons_inv;have:=hm.cw;subst this;have e4:args.map dc = #[m']:=by apply Array.ext'; simpa using e2
      obtain ⟨Gn,Hj,lc,a',c',hl,uR,K6,pM,rfl⟩:=hmv.na;cases hn:Nat.beq n 0 with
      | true=>
       rw [hn] at hf;simp at hf;obtain ⟨rfl,rfl⟩:=hf;have:=bu hn;subst this;refine ⟨ρ,lV,.value lV,w,?_,rfl,VR.of_flat yy,.refl hs⟩;simp [execOp,ho,resolve,invoke,builtin,e4,Builtin.clear_,Ph,bP hu,lV]
      | false=>
       rw [hn,ba] at hf;have hn0:=Nat.ne_of_beq_eq_false hn;obtain ⟨B',gR,hf⟩:=cS.1 hf;simp at hf;obtain ⟨rfl,rfl⟩:=hf;obtain ⟨w',h5,h6⟩:=Fh (P:=P) hs gR hl ((JT hz1).repeat n);have:=K6 (by omega);subst this;have e5:Builtin.zeroCells z.cells n=⟨iG z.cells.toList n⟩:=Vx z.cells n Il;refine ⟨ρ,lV,.value lV,w',?_,rfl,VR.of_flat yy,h6⟩;obtain ⟨m,rfl⟩:=Nat.exists_eq_succ_of_ne_zero hn0;simp [execOp,ho,resolve,invoke,builtin,e4,Builtin.clear_,Ph,bP hu,SE hz,e5,h5,lV]
     ·simp at hf
   ·trivial
  ·trivial
 ·trivial
theorem aun {argTypes:Array TypeId} {args:Array Operand} (ho:o.op = .call ⟨.builtin .len,args,argTypes⟩):jH P o (aeS P argTypes.toList args.toList):=by
 unfold aeS;split
 ·rename_i t et
  have CS:argTypes[0]? = some t:=by rw [<- Array.getElem?_toList,et]; rfl
  split
  ·rename_i e hu; exact arT ho CS hu
  ·rename_i hu; exact apk ho CS hu
  ·rename_i kt et' hu
   intro ρ A base w ev dc v hs he hf;have hm:=he.map;unfold amU at hf;split at hf
   ·rename_i e1
    rw [e1] at hm;obtain ⟨y,ys,e2,h1,h2⟩:=hm.cons_inv;have:=h2.cw;subst this;simp at hf; subst hf;have:=h1.Hl;subst this;refine ⟨_,VR.of_flat rfl,?_⟩;have e3:(args.map dc)[0]? = some (.map none):=by rw [pN,e2]; rfl
    simp [execOp,ho,resolve,invoke,builtin,Builtin.len_,CS,e3,bP hu,goInt]
   ·rename_i r e1
    rw [e1] at hm;obtain ⟨y,ys,e2,h1,h2⟩:=hm.cons_inv;have:=h2.cw;subst this;obtain ⟨lc,hl,rfl⟩:=h1.Qs;split at hf
    ·rename_i es hg
     simp at hf; subst hf;obtain ⟨l2,nj,lj⟩:=hs.map _ _ hg;rw [hl] at nj; simp at nj; subst nj;obtain ⟨bK,clock,rf,hmr⟩:=lj.pG;refine ⟨_,VR.of_flat rfl,?_⟩;have e3:(args.map dc)[0]? = some (.map (some lc.cb)):=by rw [pN,e2]; rfl
     have fZ:bK.size=es.length:=by rw [<- Array.length_toList,hmr.length]
     simp [execOp,ho,resolve,invoke,builtin,Builtin.len_,CS,e3,bP hu,goInt,MapKept.run_getObj_map rf,fZ]
    ·simp at hf
   ·simp at hf
  ·trivial
 ·trivial
end
end Go.aB
end
section
namespace Go.aB
open Go
section
variable {P:Program} {o:Oper}
theorem alm {l:List UInt8} : ∀ {cs:List Value},JO cs=some l->cs=mg l:=by
 intro cs
 induction cs generalizing l with
 | nil=>intro h; simp [JO] at h; subst h; rfl
 | cons c cs ih=>
  intro h;cases c with
  | int k n=>
   cases k <;> cases n <;> simp only [JO] at h <;> try (simp at h; done)
   rename_i m;cases hb:Nat.blt m 256 with
   | false=>rw [hb] at h; simp at h
   | true=>
    rw [hb,ak] at h;obtain ⟨r,hr,rfl⟩:=cS.1 h;rw [cq] at hb;rw [ih hr];simp only [mg,List.map_cons,List.cons.injEq,and_true];have:(UInt8.ofNat m).toNat=m:=by simp; omega
    rw [this];rfl
  | _=>simp [JO] at h
theorem aiW {ρ:Ren} (l:List UInt8):eo ρ (mg l) (mg l):=by
 induction l with
 | nil=>exact .nil
 | cons x l ih=>exact .cons (by simp [VR]) ih
theorem Qt:∀ (l:List UInt8),yv (mg l)=true
 | []=>rfl
 | x::l=>by show (true&&yv (mg l))=true; rw [Qt l]; rfl
theorem afE {e:TypeId} (h:isByte P e=true):P.underlying e=some (.int .u8):=by
 unfold isByte at h;split at h
 ·rename_i h'; exact h'
 ·simp at h
theorem adE {ρ:Ren} {A:St} {base:Nat} {w:World} {cs cu:List Value} {c:Array Value} {n bA f:Nat} {fr:Nat×Nat} (T:TypeId) (hn1:n=1) (hs:vD ρ A base w) (hc:eo ρ cs cu) (h1:∀ v∈cs,scalar v=true)
  (as0:∀ (j:Nat) (v:Value),cu[j]? = some v->c[j]? = some v) (fZ:cs.length<=c.size) (hfr:c.size<=fr.1) :
  l8 base ρ A w (ρ.set A.next ⟨w.heap.size,0,c.size,n⟩) (A.grow bA f cs n) (w.alloc (.cells c T fr)):=by
 refine Ik (o:=.row cs n true (some (bA,f))) hs (fun x=>Ma _ _ _ _ _ _) (fun g x h=>?_) (fun g f' h=>?_) (by simp [St.grow]) (by simp [St.grow]) (fun x hx _=>by rw [Ma,av (by omega)]) rfl ?_
 ·rw [AX]; split
  ·rename_i e; subst e; simp [h]
  ·exact h
 ·simp [cO.nD] at h; rw [AX,h.1]; simp
 ·refine ⟨fun i v hi=>?_,fun h=>by simp at h,fun _=>hs.size,fun _ j hj=>?_,by simpa using fZ,fun _ h=>by simp at h,rfl,by simp,fun _ h=>absurd hn1 h⟩
  ·obtain ⟨v',h2,h3⟩:=hc.get hi
   refine ⟨v',?_,h3.mono (hs.NI _),h1 v (jD hi)⟩;rw [bM,World.cell?_alloc_mark];exact as0 i v' h2
  ·simp only at hj ⊢
   rw [World.cell?_alloc_mark];refine ⟨?_,?_⟩
   ·rw [Array.getElem?_eq_getElem (by omega)]
    rfl
   ·have:(w.alloc (.cells c T fr)).heap[w.heap.size]? = some (.cells c T fr):=by
     show (w.heap.push (.cells c T fr))[w.heap.size]? = _;simp
    simp only [World.frozen?,this];have BQ : ¬ (fr.1<=j):=by omega
    simp [BQ]
theorem aat {ρ:Ren} {A:St} {base:Nat} {w:World} {src dst e:TypeId} {x x' v:Value} (hs:Rel ρ A.get A.members base w) (h1:P.underlying src=some (.slice e)) (h2:P.underlying dst=some .string) (he:P.underlying e=some (.int .u8))
  (hx:VR ρ x x') (h:Ih A [x] = some v):VR ρ v v/\(convert src dst x').run P w = .ok v w:=by
 unfold Ih at h;split at h
 ·rename_i n c e1
  simp at e1; subst e1;simp at h; subst h;have:=hx.jr;subst this;refine ⟨VR.of_flat rfl,?_⟩;rw [run_convert_bytes_string w src dst e none n c h1 he h2];rfl
 ·rename_i a n c e1
  simp at e1; subst e1;obtain ⟨l,hl,rfl⟩:=cS.1 h;obtain ⟨cs,K5,hb⟩:=dh.1 hl;have:=alm hb;subst this;obtain ⟨Gn,Hj,lc,a',c',mA,uR,K6,pM,rfl⟩:=hx.na;obtain ⟨cu,q1,q2,q3,q4⟩:=y6 (P:=P) hs K5 mA;have as4:cu=mg l:=q1.qW (Qt l);subst as4;have hlen:l.length=n:=by simpa [mg] using q2
  refine ⟨VR.of_flat rfl,?_⟩;rw [run_convert_bytes_string w src dst e (some a') n c' h1 he h2];have Gr:(loadCells a' n).run P w = .ok (mg l).toArray w:=by
   by_cases hc:c' = 0
   ·have hn0:n=0:=by omega
    subst hn0;have:l = []:=List.eq_nil_of_length_eq_zero hlen;subst this;exact run_loadCells_list w a' [] (by simp)
   ·rw [K6 hc]; exact q4
  have xD:mg l=(l.map (fun b=>(b.toNat:Int))).map (Value.int .u8):=by simp [mg]
  rw [xD] at Gr;rw [run_bytesToString w a' n c' _ Gr,foldl_push_byteCells];have he0:ByteArray.empty.data = #[]:=rfl;rw [he0];simp
 ·simp at h
theorem aau {ρ:Ren} {A B:St} {base:Nat} {w:World} {src dst e:TypeId} {x x' v:Value} (hs:vD ρ A base w) (h1:P.underlying src=some .string) (h2:P.underlying dst=some (.slice e)) (he:P.underlying e=some (.int .u8))
  (hx:VR ρ x x') (h:NG A [x] = some (v,B)):∃ bd v' w',(convert src dst x').run P w = .ok v' w'/\VR bd v v'/\l8 base ρ A w bd B w':=by
 unfold NG at h;split at h
 ·rename_i s e1
  simp at e1; subst e1;simp at h;obtain ⟨rfl,rfl⟩:=h;have:=hx.rI;subst this;have hr:=run_bytes_of_string (P:=P) w src dst e s h1 h2 he;have hge:=grownCap_ge w s.size 0 e;have hds:s.data.size=s.size:=rfl;have NK:(bytesRow s (grownCap w s.size 0 e)).size=grownCap w s.size 0 e:=by
   unfold bytesRow;simp [hds];omega
  have hdr:=l8.drew (w:=w) hs;have AW:=adE (w:=w.drew) (n:=1) (bA:=A.next) (f:=0) (c:=bytesRow s (grownCap w s.size 0 e)) (fr:=((bytesRow s (grownCap w s.size 0 e)).size,(bytesRow s (grownCap w s.size 0 e)).size+1)) e rfl hdr.kC
   (aiW s.data.toList) (fun v hv=>by
    obtain ⟨b,_,rfl⟩:=List.mem_map.1 hv;rfl) (fun j v hj=>by
    unfold bytesRow;have bG:j < s.data.size:=by
     have:=(dq.1 hj).1;simpa [mg] using this
    rw [Array.getElem?_append_left (by simpa using bG)];simpa [mg] using hj) (by rw [NK]; simp [mg,hds]; exact hge) (aU _)
  refine ⟨_,_,_,hr,?_,hdr.trans AW⟩;simp only [VR];refine ⟨trivial,aU _,_,⟨w.heap.size,0,none⟩,grownCap w s.size 0 e,Ren.pw _ _ _,hge,fun _=>rfl,?_,rfl⟩;rw [NK];show 0+0+grownCap w s.size 0 e * 1<=grownCap w s.size 0 e;omega
 ·simp at h
theorem as5 {src dst:TypeId} {x:Operand} (ho:o.op = .convert src dst x):jH P o (FM P src dst x):=by
 unfold FM;split
 ·rename_i e h1 h2
  cases hb:isByte P e with
  | false=>exact True.intro
  | true=>
   rw [ak];intro ρ A base w ev dc v hs he hf;obtain ⟨h3,h4⟩:=aat hs h1 h2 (afE hb) (he x (by simp)) hf;exact ⟨v,h3,by simp [execOp,ho,h4]⟩
 ·rename_i e h1 h2
  cases hb:isByte P e with
  | false=>exact True.intro
  | true=>
   rw [ak];intro ρ A B base w ev dc v hs he hf;obtain ⟨bd,v',w',h3,h4,h5⟩:=aau hs h1 h2 (afE hb) (he x (by simp)) hf;exact ⟨bd,v',.value v',w',by simp [execOp,ho,h3],rfl,h4,h5⟩
 ·rename_i h1 h2
  intro ρ ev dc v he hf;simp only [List.map] at hf;unfold afo at hf;split at hf
  ·rename_i s e
   simp at e hf;subst hf;have hx:=he x (by simp);rw [e] at hx;refine ⟨_,VR.of_flat rfl,fun w=>?_⟩;simp [execOp,ho,convert,bP h1,bP h2,hx.rI]
  ·simp at hf
 ·exact amY ho
theorem aiX {ρ:Ren} {A:St} {base:Nat} {w:World} {r:Nat} {s:List UInt8} {pos XG:Nat} {l:Loc} (hs:vD ρ A base w) (hg:A.get r=some (.iter s pos)) (mA:ρ r=some l) :
  l8 base ρ A w ρ (A.put r (.iter s XG)) { w with heap:=w.heap.setIfInBounds l.cb (.stringIter ⟨⟨s⟩⟩ XG) }:=by
 obtain ⟨l',uz,ok⟩:=hs.rel.iter _ _ _ hg;rw [mA] at uz; simp at uz; subst uz;obtain ⟨Pj,rf⟩:=ok.pG;have bG:l.cb < w.heap.size:=(vM.1 rf).1;have K9:cO.gf (.iter s pos)=true:=rfl;have hold:∀ k,k≠l.cb->(w.heap.setIfInBounds l.cb (.stringIter ⟨⟨s⟩⟩ XG))[k]? = w.heap[k]?:=fun k hk=>by
  rw [Array.getElem?_setIfInBounds_ne (Ne.symm hk)]
 have fZ:(w.heap.setIfInBounds l.cb (.stringIter ⟨⟨s⟩⟩ XG)).size=w.heap.size:=by simp
 have hB:∀ x,(A.put r (.iter s XG)).get x=if x=r then some (.iter s XG) else A.get x:=fun x=>St.cz _ _ _ _;have hmd:∀ o:cO,o.gf=true->o≠.dead:=by intro o h e; subst e; simp [cO.gf] at h
 have L8:∀ x o l2,x≠r->A.get x=some o->o≠.dead->ρ x=some l2->K0 ρ base w l2 o->l2.cb≠l.cb:=by
  intro x o l2 hx lr hd yr lj e;cases hmo:o.gf with
  | true=>
   obtain ⟨_,_,_,_,e1,_⟩:=hs.rel.apart x r o _ l2 l hx lr hg hmo K9 yr mA e;simp [cO.nD] at e1
  | false=>
   cases o with
   | row cs cg own cp=>
    have lj:ss ρ base w l2 cs cg own cp:=lj;have h1:own=false:=hmo;have:=lj.wI h1;have:=ok.gf;omega
   | map _=>simp [cO.gf] at hmo
   | iter _ _=>simp [cO.gf] at hmo
   | dead=>exact hd rfl
   | loop _ _ _ _ _ _=>simp [cO.gf] at hmo
 refine ⟨⟨.Hi ?_ ?_ ?_,fun b l2 h=>hs.lW b l2 h,by simpa using hs.size,hs.JQ⟩,fun _ _=>rfl,⟨rfl,rfl,rfl,Nat.le_of_eq fZ.symm,fun k hk hn=>hold k (fun e=>hn ⟨r,_,l,hg,K9,mA,e.symm⟩)⟩,aU _,Nat.min_le_left _ _,fun x hx hxl=>?_,?_⟩
 ·intro x o lr hd
  rw [hB] at lr;split at lr
  ·rename_i e; subst e; simp at lr; subst lr
   refine ⟨l,mA,ok.gf,Pj,?_⟩;show (w.heap.setIfInBounds l.cb (.stringIter ⟨⟨s⟩⟩ XG))[l.cb]? = _;rw [Array.getElem?_setIfInBounds_self_of_lt bG]
  ·rename_i e
   obtain ⟨l2,yr,lj⟩:=hs.rel.obj lr hd;exact ⟨l2,yr,lj.ik (Ren.le_refl _) (hold _ (L8 x o l2 e lr hd yr lj)) (Nat.le_of_eq fZ.symm)⟩
 ·have PZ:∀ x o,(A.put r (.iter s XG)).get x=some o->o.gf=true->∃ o',A.get x=some o'/\o'.gf=true/\o'.nD=o.nD:=by
   intro x o hx hm;rw [hB] at hx;split at hx
   ·rename_i e; subst e; simp at hx; subst hx; exact ⟨_,hg,rfl,rfl⟩
   ·exact ⟨o,hx,hm,rfl⟩
  intro b1 b2 o1 o2 l1 l2 de g1 g2 m1 m2 r1 r2 Vv;obtain ⟨p1,q1,n1,k1⟩:=PZ _ _ g1 m1;obtain ⟨p2,q2,n2,k2⟩:=PZ _ _ g2 m2;rw [<- k1,<- k2];exact hs.rel.apart b1 b2 p1 p2 l1 l2 de q1 q2 n1 n2 r1 r2 Vv
 ·intro x o bA f lr hk
  rw [hB] at lr;split at lr
  ·rename_i e; subst e; simp at lr; subst lr; simp [cO.nD] at hk
  ·exact hs.rel.b5 x o bA f lr hk
 ·rw [St.afq] at hxl
  have:Nat.min A.low r<=r:=Nat.min_le_right _ _;rw [hB,av (by omega)]
 ·rintro k hk ⟨x,o,l2,lr,hm,yr,rfl⟩
  rw [hB] at lr;split at lr
  ·rename_i e; subst e
   rw [mA] at yr; simp at yr; subst yr;exact ⟨x,_,l,hg,K9,mA,rfl⟩
  ·exact ⟨x,o,l2,lr,hm,yr,rfl⟩
theorem arY {t:TypeId} {x:Operand} (ho:o.op = .range t x):jH P o (aao P t x):=by
 unfold aao;split
 ·rename_i hu
  intro ρ ev dc obj mk he hf;simp only [List.map] at hf;unfold aqG at hf;split at hf
  ·rename_i s e
   simp at e;have hx:=he x (by simp);rw [e] at hx;have hx:=hx.rI;simp at hf;obtain ⟨rfl,rfl⟩:=hf;refine ⟨.stringIter s 0,fun n=>.pointer (some ⟨n,0,none⟩),?_,fun w=>?_,fun bd n cb h=>VR.BO (a:=⟨n,0,none⟩) rfl h⟩
   ·show Obj.stringIter s 0 = .stringIter ⟨⟨s.data.toList⟩⟩ 0
    rfl
   ·simp [execOp,ho,Instr.range,bP hu,hx]
  ·simp at hf
 ·trivial
theorem Md {w:World} {r:Nat} {s:ByteArray} {pos:Nat} (hb:w.heap[r]? = some (.stringIter s pos)):(getObj r).run P w = .ok (.stringIter s pos) w:=by
 simp [getObj,Sem.run,hb]
theorem aav {w:World} {r:Nat} {s:ByteArray} {pos:Nat} (o:Obj) (hb:w.heap[r]? = some (.stringIter s pos)):(setObj r o).run P w = .ok () { w with heap:=w.heap.setIfInBounds r o }:=by
 simp [setObj,Sem.run,hb]
theorem as6 {it:Operand} {b:Bool} (ho:o.op = .next it b):jH P o (cond b (.act apd [it]) .bad):=by
 cases b with
 | false=>trivial
 | true=>
  rw [ak];intro ρ A B base w ev dc v hs he hf;simp only [List.map] at hf;unfold apd at hf;split at hf
  ·rename_i a e
   simp at e;have hx:=he it (by simp);rw [e] at hx;obtain ⟨Gn,l,hl,hx⟩:=hx.j9;cases ha0:Nat.beq a.off 0 with
   | false=>rw [ha0] at hf; simp at hf
   | true=>
    rw [ha0,ak] at hf;have ha0:=bu ha0;split at hf
    ·rename_i s pos hg
     obtain ⟨l2,nj,ok⟩:=hs.rel.iter _ _ _ hg;rw [hl] at nj; simp at nj; subst nj;obtain ⟨Pj,rf⟩:=ok.pG;have fZ:(⟨⟨s⟩⟩:ByteArray).size=s.length:=rfl;rw [Pj,ha0] at hx;cases bG:Nat.blt pos s.length with
     | true=>
      rw [bG,ak] at hf;rw [cq] at bG;split at hf;rename_i c width awa;simp at hf;obtain ⟨rfl,rfl⟩:=hf;refine ⟨ρ,.tuple #[.bool true,.int .i64 (Int.ofNat pos),.int .i32 c],.value _,_,?_,rfl,VR.of_flat rfl,aiX (XG:=pos+width) hs hg hl⟩;simp [execOp,ho,Instr.next,hx,Md rf,fZ,bG,awa,aav _ rf,goInt]
     | false=>
      rw [bG,ba] at hf;have hge : ¬ pos < s.length:=fun h=>by rw [<- cq] at h; rw [h] at bG; simp at bG
      simp at hf;obtain ⟨rfl,rfl⟩:=hf;refine ⟨ρ,.tuple #[.bool false],.value _,w,?_,rfl,VR.of_flat rfl,.refl hs⟩;simp [execOp,ho,Instr.next,hx,Md rf,fZ,hge]
    ·simp at hf
  ·simp at hf
theorem tB (P:Program) (o:Oper):jH P o (compile P o.op):=by
 cases ho:o.op with
 | move x=>exact asV ho
 | assign x=>exact apg ho
 | pick c a b=>exact asW ho
 | alloc t=>exact arN ho
 | box t x=>exact auj ho
 | build t parts=>exact arS ho
 | buildSlice t len parts=>exact afx ho
 | load t a=>exact asX ho
 | store t a x=>exact arO ho
 | nilCheck x=>exact alf ho
 | binOp op t x y yt=>exact auk ho
 | unOp op t x=>exact avs ho
 | convert src dst x=>exact as5 ho
 | makeFunc fn first cap=>exact alg ho
 | fieldAddr s x f=>exact aiS ho
 | field t x f=>exact arP ho
 | indexAddr t x ix=>exact aiT ho
 | index t x ix=>exact arQ ho
 | extract t i=>exact amZ ho
 | slice t x lo hi mx=>exact ok_slice ho
 | makeSlice t l c=>exact aiV ho
 | makeInterface t x=>exact arU ho
 | range t x=>exact arY ho
 | next it b=>exact as6 ho
 | makeMap t r=>exact am3 ho
 | lookup t x ix ok=>exact apm ho
 | mapUpdate t m k x=>exact T1 (.inl ho)
 | insert t m k x=>exact T1 (.inr ho)
 | call c=>
  show jH P o (CN P c);unfold CN;split
  ·rename_i f hf; exact asZ ho hf
  ·rename_i b hb
   obtain ⟨callee,args,argTypes⟩:=c;simp only at hb;subst hb;unfold JP;split
   ·exact aun ho
   ·exact aul ho
   ·exact aum ho
   ·exact apl ho
   ·exact as3 ho
   ·exact apn ho
   ·exact arX ho
   ·trivial
  ·trivial
 | _=>trivial
end
end Go.aB
end
section
namespace Go.aB
noncomputable section
open Go
abbrev Fr (r:Option Nat):Fence:={ Fence.wide with round:=r }
def Ren.res (ρ:Ren) (n:Nat):Ren:=fun b=>if b < n then ρ b else none
theorem Ren.aeV {ρ:Ren} {n b:Nat} (h:b < n):ρ.res n b=ρ b:=by unfold Ren.res; rw [aY h]
theorem Vt.under {ρ:Ren} {n:Nat} {fn CE:Fn} (hu:ald n fn=true) (h:Vt ρ fn CE):Vt (ρ.res n) fn CE:=by
 cases fn with
 | yield r=>
  obtain ⟨l,h1,h2⟩:=h;simp only [ald] at hu;rw [cq] at hu;exact ⟨l,by rw [Ren.aeV hu]; exact h1,h2⟩
 | _=>exact h
mutual
theorem VR.under {ρ:Ren} {n:Nat} : ∀ {v v' : Value},aB.under n v=true->VR ρ v v'->VR (ρ.res n) v v'
 | .bool b,v,_,hv=>by simpa [VR] using hv
 | .int k n,v,_,hv=>by simpa [VR] using hv
 | .float k x,v,_,hv=>by simpa [VR] using hv
 | .complex k x y,v,_,hv=>by simpa [VR] using hv
 | .string s,v,_,hv=>by simpa [VR] using hv
 | .pointer none,v,_,hv=>by simpa [VR] using hv
 | .pointer (some a),v,hu,hv=>by
  simp only [aB.under] at hu;rw [cq] at hu;simp only [VR] at hv ⊢;rw [Ren.aeV hu];exact hv
 | .slice none n c,v,_,hv=>by simpa [VR] using hv
 | .slice (some a) n c,v,hu,hv=>by
  simp only [aB.under] at hu;rw [cq] at hu;simp only [VR] at hv ⊢;rw [Ren.aeV hu];exact hv
 | .map none,v,_,hv=>by simpa [VR] using hv
 | .map (some r),v,hu,hv=>by
  simp only [aB.under] at hu;rw [cq] at hu;simp only [VR] at hv ⊢;rw [Ren.aeV hu];exact hv
 | .chan _,_,_,_=>by simp [VR]
 | .func fn f c,v,hu,hv=>by
  simp only [aB.under,aA] at hu;simp only [VR] at hv ⊢;obtain ⟨f',c',h2,h3,CE,h4,h5⟩:=hv;exact ⟨f',c',uy.under hu.1.2 h2,uy.under hu.2 h3,CE,Vt.under hu.1.1 h4,h5⟩
 | .nilFunc,v,_,hv=>by simpa [VR] using hv
 | .iface t x,v,hu,hv=>by
  simp only [aB.under] at hu;simp only [VR] at hv ⊢;obtain ⟨x',h2,h3⟩:=hv;exact ⟨x',VR.under hu h2,h3⟩
 | .nilIface,v,_,hv=>by simpa [VR] using hv
 | .agg cs,v,hu,hv=>by
  simp only [aB.under] at hu;simp only [VR] at hv ⊢;obtain ⟨x',h2,h3⟩:=hv;exact ⟨x',uy.under hu h2,h3⟩
 | .tuple cs,v,hu,hv=>by
  simp only [aB.under] at hu;simp only [VR] at hv ⊢;obtain ⟨x',h2,h3⟩:=hv;exact ⟨x',uy.under hu h2,h3⟩
theorem uy.under {ρ:Ren} {n:Nat} : ∀ {v v' : Array Value},aB.SB n v=true->uy ρ v v'->uy (ρ.res n) v v'
 | ⟨l⟩,a,hu,hv=>by simp only [aB.SB] at hu; simp only [uy] at hv ⊢; exact eo.under hu hv
theorem eo.under {ρ:Ren} {n:Nat} : ∀ {v v' : List Value},aB.aeT n v=true->eo ρ v v'->eo (ρ.res n) v v'
 | [],l,_,hv=>by simpa [eo] using hv
 | x::xs,l,hu,hv=>by
  simp only [aB.aeT,aA] at hu;simp only [eo] at hv ⊢;obtain ⟨y,ys,e,h1,h2⟩:=hv;exact ⟨y,ys,e,VR.under hu.1 h1,eo.under hu.2 h2⟩
end
theorem NN {acc:List Nat} {j:Nat} : ∀ {es:List Edge},Nat.testBit (vO acc es) j=true->∃ e∈es,binds e=true/\(j=e.on\/rX acc e.on j=true)
 | [],h=>by simp [vO] at h
 | e::es,h=>by
  simp only [vO] at h;cases hb:binds e with
  | false=>
   rw [hb,ba] at h;obtain ⟨e',h1,h2⟩:=NN h;exact ⟨e',by simp [h1],h2⟩
  | true=>
   rw [hb,ak] at h;have e1:∀ a b:Nat,Nat.lor a b=a ||| b:=fun _ _=>rfl;have e2:Nat.shiftLeft 1 e.on=1 <<< e.on:=rfl;rw [e1,e1,e2,Nat.testBit_or,Nat.testBit_or,uD,uD] at h;rcases h with (h | h) | h
   ·refine ⟨e,by simp,hb,.inl ?_⟩
    rw [Nat.one_shiftLeft,Nat.testBit_two_pow] at h;exact (Sy h).symm
   ·exact ⟨e,by simp,hb,.inr h⟩
   ·obtain ⟨e',h1,h2⟩:=NN h
    exact ⟨e',by simp [h1],h2⟩
theorem acb:∀ (os:List Oper) (acc:List Nat),∃ r,fF acc os=acc++r/\r.length=os.length
 | [],acc=>⟨[],by simp [fF]⟩
 | o::os,acc=>by
  obtain ⟨r,h1,h2⟩:=acb os (acc++[vO acc o.after.toList]);exact ⟨vO acc o.after.toList::r,by simp [fF,h1],by simp [h2]⟩
theorem akk:∀ (os:List Oper) (acc:List Nat) (i j:Nat) (o:Oper),os[i]? = some o->(∀ e∈o.after.toList,binds e=true->e.on < acc.length+i)->
  rX (fF acc os) (acc.length+i) j=true->∃ e∈o.after.toList,binds e=true/\(j=e.on\/rX (fF acc os) e.on j=true)
 | [],acc,i,j,o,ho,_,_=>by simp at ho
 | o0::os,acc,0,j,o,ho,hf,h=>by
  simp at ho;subst ho;obtain ⟨r,h1,_⟩:=acb os (acc++[vO acc o0.after.toList]);have e0:fF acc (o0::os)=acc++[vO acc o0.after.toList]++r:=by simp only [fF]; exact h1
  rw [e0] at h ⊢;have e1:(acc++[vO acc o0.after.toList]++r).getD (acc.length+0) 0=vO acc o0.after.toList:=by simp [List.getD]
  unfold rX at h;rw [e1] at h;obtain ⟨e,h2,h3,h4⟩:=NN h;refine ⟨e,h2,h3,h4.imp id fun h5=>?_⟩;have bG:=hf e h2 h3;unfold rX at h5 ⊢;have:(acc++[vO acc o0.after.toList]++r).getD e.on 0=acc.getD e.on 0:=by
   simp only [List.getD,List.append_assoc];rw [r7 (by simpa using bG)]
  rw [this];exact h5
 | o0::os,acc,i+1,j,o,ho,hf,h=>by
  have hlen:(acc++[vO acc o0.after.toList]).length+i=acc.length+(i+1):=by simp; omega
  have:=akk os (acc++[vO acc o0.after.toList]) i j o (by simpa using ho) (by rw [hlen]; exact hf) (by rw [hlen]; exact h);simpa only [fF] using this
structure tC (P:Program) (all:List Oper):Prop where
 back:∀ i o,all[i]? = some o->∀ e∈o.after.toList,binds e=true->e.on < i
 apart:∀ i j x y,all[i]? = some y->all[j]? = some x->j < i->Gm P all x y=true->rX (fF [] all) i j=true
theorem T3 {P:Program} {all:List Oper} {b:List Nat} {i:Nat} {y:Oper} : ∀ (xs:List Oper) (k:Nat),L5 P all b i y xs k=true->∀ (j:Nat) (x:Oper),xs[j]? = some x->k+j < i->Gm P all x y=true->rX b i (k+j)=true
 | [],k,_,j,x,hx,_,_=>by simp at hx
 | x0::xs,k,h,0,x,hx,bG,hc=>by
  simp at hx;subst hx;simp only [L5,aA,uD,mz] at h;rcases h.1 with (h1 | h1) | h1
  ·have:=fR h1; omega
  ·rw [hc] at h1; simp at h1
  ·exact h1
 | x0::xs,k,h,j+1,x,hx,bG,hc=>by
  simp only [L5,aA] at h;have:=T3 xs (k+1) h.2 j x (by simpa using hx) (by omega) hc;rwa [show k+1+j=k+(j+1) by omega] at this
theorem BR {P:Program} {all:List Oper} {b:List Nat} : ∀ (os:List Oper) (k:Nat),AU P all b os k=true->∀ (i:Nat) (o:Oper),os[i]? = some o->
  (∀ e∈o.after.toList,binds e=true->e.on < k+i)/\L5 P all b (k+i) o all 0=true
 | [],k,_,i,o,ho=>by simp at ho
 | o0::os,k,h,0,o,ho=>by
  simp at ho;subst ho;simp only [AU,aA,ij] at h;refine ⟨fun e he hb=>?_,h.1.2⟩;have:=h.1.1 e he;rw [hb] at this;simp at this;exact this
 | o0::os,k,h,i+1,o,ho=>by
  simp only [AU,aA] at h;have:=BR os (k+1) h.2 i o (by simpa using ho);rwa [show k+1+i=k+(i+1) by omega] at this
theorem Gs {P:Program} {all:List Oper} (h:L6 P all=true):tC P all:=by
 unfold L6 at h;refine ⟨fun i o ho=>?_,fun i j x y hy hx bG hc=>?_⟩
 ·have:=(BR all 0 h i o ho).1
  simpa using this
 ·have:=T3 all 0 (BR all 0 h i y hy).2 j x hx (by simpa using bG) hc
  simpa using this
def r9 (all:List Oper) (S:Nat->Bool):Prop:=∀ i j,S i=true->rX (fF [] all) i j=true->S j=true
def xj (all:List Oper) (S:Nat->Bool) (i:Nat):Prop:=∀ o,all[i]? = some o->∀ e∈o.after.toList,binds e=true->S e.on=true
theorem r9.ready {P:Program} {all:List Oper} (hf:tC P all) {S:Nat->Bool} (hc:r9 all S) {i:Nat} {o:Oper} (ho:all[i]? = some o) (hr:xj all S i):∀ j,rX (fF [] all) i j=true->S j=true:=by
 intro j hj;obtain ⟨e,h1,h2,h3⟩:=akk all [] i j o ho (by simpa using hf.back i o ho) (by simpa using hj);have hs:=hr o ho e h1 h2;rcases h3 with rfl | h3
 ·exact hs
 ·exact hc _ _ hs h3
def cY (S:Nat->Bool) (i:Nat):Nat->Bool:=fun j=>S j||Nat.beq j i
theorem r9.insert {P:Program} {all:List Oper} (hf:tC P all) {S:Nat->Bool} (hc:r9 all S) {i:Nat} {o:Oper} (ho:all[i]? = some o) (hr:xj all S i):r9 all (cY S i):=by
 intro a b h1 h2;simp only [cY,uD] at h1 ⊢;rcases h1 with h1 | h1
 ·exact .inl (hc a b h1 h2)
 ·have:=bu h1
  subst this;exact .inl (hc.ready hf ho hr b h2)
theorem akl (e:Edge):Region.binds .any e=binds e:=by
 unfold Region.binds binds;cases e.ground <;> rfl
theorem JV {all:List Oper} {b5:Array Bool} {i:Nat} (h:i∈Region.ready .any ⟨all⟩ b5):i < all.length/\b5.getD i true=false/\xj all (fun j=>b5.getD j false) i:=by
 unfold Region.ready at h;rw [List.mem_filter,Nu] at h;obtain ⟨h1,h2⟩:=h;simp only [aA,mz] at h2;refine ⟨by simpa using h1,h2.1,fun o ho e he hb=>?_⟩;have e1:(⟨all⟩:Array Oper)[i]? = some o:=by simpa using ho
 rw [e1] at h2;simp only [Option.map_some,ee] at h2;have:=Array.all_eq_true'.1 h2.2 e (by simpa using he);rw [akl,hb] at this;simpa using this
theorem afF {P:Program} {all:List Oper} (hf:tC P all) {b5:Array Bool} (hl:b5.size=all.length) (h:Region.ready .any ⟨all⟩ b5 = []):∀ i,i < all.length->b5.getD i false=true:=by
 intro i
 induction i using Nat.strongRecOn with
 | _ i ih=>
  intro hi;cases hc:b5.getD i false with
  | true=>rfl
  | false=>
   exfalso;obtain ⟨o,ho⟩:∃ o,all[i]? = some o:=⟨_,dr hi⟩
   have hm:i∈Region.ready .any ⟨all⟩ b5:=by
    unfold Region.ready;rw [List.mem_filter,Nu];refine ⟨by simpa using hi,?_⟩;have e1:(⟨all⟩:Array Oper)[i]? = some o:=by simpa using ho
    rw [e1];have e2:b5.getD i true=false:=by
     have:i < b5.size:=by omega
     simpa [jC,this] using hc
    simp only [e2,Fa,Bl,Option.map_some,ee];rw [Array.all_eq_true'];intro e he;cases hb:binds e with
    | false=>rw [akl,hb]; rfl
    | true=>
     have bG:=hf.back i o ho e (by simpa using he) hb;rw [ih e.on bG (by omega)];simp
   rw [h] at hm;simp at hm
theorem count_set:∀ (l:List Bool) (i:Nat),l[i]? = some false->((l.set i true).filter (!·)).length+1=(l.filter (!·)).length
 | [],i,h=>by simp at h
 | x::l,0,h=>by
  simp at h;subst h;simp
 | x::l,i+1,h=>by
  have:=count_set l i (by simpa using h);cases x <;> simp at this ⊢ <;> omega
theorem am4 {P:Program} {all:List Oper} {r:Option Nat} (hf:tC P all) {Q:Exit->Act->World->Prop} (I:(Nat->Bool)->Act->World->Prop) (hI:∀ S S' a w,(∀ i,i < all.length->S i=S' i)->I S a w->I S' a w)
  (step:∀ S a w i o,I S a w->r9 all S->all[i]? = some o->S i=false->xj all S i->(∀ j,S j=true->j < all.length)->wpOpIn (Fr r) 0 P ⟨all⟩ Q i (I (cY S i)) a w)
  (fin:∀ S a w,(∀ i,i < all.length->S i=true)->I S a w->Q .normal a w) :
  ∀ (fuel:Nat) (b5:Array Bool) (a:Act) (w:World),b5.size=all.length->(b5.toList.filter (!·)).length=fuel->r9 all (fun j=>b5.getD j false)->I (fun j=>b5.getD j false) a w->wpAnyIn (Fr r) 0 P .any ⟨all⟩ Q fuel b5 a w
 | 0,b5,a,w,hs,hn,hc,h=>by
  have mj:∀ i,i < all.length->b5.getD i false=true:=by
   intro i hi;have:i < b5.size:=by omega
   cases hb:b5.getD i false with
   | true=>rfl
   | false=>
    exfalso;have hg:b5[i] = false:=by simpa [jC,this] using hb
    have hm:b5[i]∈b5.toList.filter (!·):=by
     rw [List.mem_filter];exact ⟨by simp,by simp [hg]⟩
    rw [pR.1 hn] at hm;simp at hm
  refine ⟨?_,fin _ a w mj h⟩;cases hr:Region.ready .any ⟨all⟩ b5 with
  | nil=>rfl
  | cons i r=>
   have:=JV (all:=all) (b5:=b5) (i:=i) (by rw [hr]; simp);have h1:=mj i this.1;have h2:b5.getD i true=true:=by
    have bG:i < b5.size:=by omega
    simpa [jC,bG] using h1
   rw [h2] at this;simp at this
 | fuel+1,b5,a,w,hs,hn,hc,h=>by
  refine ⟨fun hr=>fin _ a w (afF hf hs hr) h,fun i hi=>?_⟩;obtain ⟨bG,hl,yz⟩:=JV hi;obtain ⟨o,ho⟩:∃ o,all[i]? = some o:=⟨_,dr bG⟩
  have Qu:i < b5.size:=by omega
  have rO:b5.getD i false=false:=by simpa [jC,Qu] using hl
  have afG:∀ j,j < all.length->cY (fun j=>b5.getD j false) i j=(b5.setIfInBounds i true).getD j false:=by
   intro j hj;by_cases e:j=i
   ·subst e
    simp [cY,jC,Qu]
   ·have:Nat.beq j i=false:=by
     cases hb:Nat.beq j i with
     | false=>rfl
     | true=>exact absurd (bu hb) e
    simp [cY,this,jC,Array.getElem?_setIfInBounds_ne (Ne.symm e)]
  refine wpOpIn_mono (fun a' w' h'=>?_) (step _ a w i o h hc ho rO yz (fun j hj=>by
   rcases Nat.lt_or_ge j all.length with h1 | h1
   ·exact h1
   ·have:b5.getD j false=false:=by
     rw [jC,Array.getElem?_eq_none (by omega)];rfl
    rw [this] at hj; simp at hj))
  refine am4 hf I hI step fin fuel _ a' w' (by simpa using hs) ?_ ?_ (hI _ _ a' w' afG h')
  ·rw [Array.toList_setIfInBounds]
   have:=count_set b5.toList i (by simpa [jC,Qu] using rO);omega
  ·intro x y hx hy
   have hb:∀ z,(b5.setIfInBounds i true).getD z false=true↔cY (fun j=>b5.getD j false) i z=true:=by
    intro z;rcases Nat.lt_or_ge z all.length with h1 | h1
    ·rw [afG z h1]
    ·have e1:(b5.setIfInBounds i true).getD z false=false:=by
      rw [jC,Array.getElem?_eq_none (by simp; omega)];rfl
     have e2:b5.getD z false=false:=by
      rw [jC,Array.getElem?_eq_none (by omega)];rfl
     have e3:Nat.beq z i=false:=by
      cases hb:Nat.beq z i with
      | false=>rfl
      | true=>have:=bu hb; omega
     simp [cY,e1,e2,e3]
   rw [hb] at hx ⊢;exact hc.insert hf ho yz x y hx hy
theorem Hm {P:Program} {all:List Oper} (hf:tC P all) {Q:Exit->Act->World->Prop} (I:(Nat->Bool)->Act->World->Prop) (hI:∀ S S' a w,(∀ i,i < all.length->S i=S' i)->I S a w->I S' a w)
  (step:∀ S a w i o,I S a w->r9 all S->all[i]? = some o->S i=false->xj all S i->(∀ j,S j=true->j < all.length)->wpOp P ⟨all⟩ Q i (I (cY S i)) a w)
  (fin:∀ S a w,(∀ i,i < all.length->S i=true)->I S a w->Q .normal a w) :
  ∀ (fuel:Nat) (b5:Array Bool) (a:Act) (w:World),b5.size=all.length->(b5.toList.filter (!·)).length=fuel->r9 all (fun j=>b5.getD j false)->I (fun j=>b5.getD j false) a w->wpAny P .any ⟨all⟩ Q fuel b5 a w
 | 0,b5,a,w,hs,hn,hc,h=>by
  have mj:∀ i,i < all.length->b5.getD i false=true:=by
   intro i hi;have:i < b5.size:=by omega
   cases hb:b5.getD i false with
   | true=>rfl
   | false=>
    exfalso;have hg:b5[i] = false:=by simpa [jC,this] using hb
    have hm:b5[i]∈b5.toList.filter (!·):=by
     rw [List.mem_filter];exact ⟨by simp,by simp [hg]⟩
    rw [pR.1 hn] at hm;simp at hm
  refine ⟨?_,fin _ a w mj h⟩;cases hr:Region.ready .any ⟨all⟩ b5 with
  | nil=>rfl
  | cons i r=>
   have:=JV (all:=all) (b5:=b5) (i:=i) (by rw [hr]; simp);have h1:=mj i this.1;have h2:b5.getD i true=true:=by
    have bG:i < b5.size:=by omega
    simpa [jC,bG] using h1
   rw [h2] at this;simp at this
 | fuel+1,b5,a,w,hs,hn,hc,h=>by
  refine ⟨fun hr=>fin _ a w (afF hf hs hr) h,fun i hi=>?_⟩;obtain ⟨bG,hl,yz⟩:=JV hi;obtain ⟨o,ho⟩:∃ o,all[i]? = some o:=⟨_,dr bG⟩
  have Qu:i < b5.size:=by omega
  have rO:b5.getD i false=false:=by simpa [jC,Qu] using hl
  have afG:∀ j,j < all.length->cY (fun j=>b5.getD j false) i j=(b5.setIfInBounds i true).getD j false:=by
   intro j hj;by_cases e:j=i
   ·subst e
    simp [cY,jC,Qu]
   ·have:Nat.beq j i=false:=by
     cases hb:Nat.beq j i with
     | false=>rfl
     | true=>exact absurd (bu hb) e
    simp [cY,this,jC,Array.getElem?_setIfInBounds_ne (Ne.symm e)]
  refine wpOp_mono (fun a' w' h'=>?_) (step _ a w i o h hc ho rO yz (fun j hj=>by
   rcases Nat.lt_or_ge j all.length with h1 | h1
   ·exact h1
   ·have:b5.getD j false=false:=by
     rw [jC,Array.getElem?_eq_none (by omega)];rfl
    rw [this] at hj; simp at hj))
  refine Hm hf I hI step fin fuel _ a' w' (by simpa using hs) ?_ ?_ (hI _ _ a' w' afG h')
  ·rw [Array.toList_setIfInBounds]
   have:=count_set b5.toList i (by simpa [jC,Qu] using rO);omega
  ·intro x y hx hy
   have hb:∀ z,(b5.setIfInBounds i true).getD z false=true↔cY (fun j=>b5.getD j false) i z=true:=by
    intro z;rcases Nat.lt_or_ge z all.length with h1 | h1
    ·rw [afG z h1]
    ·have e1:(b5.setIfInBounds i true).getD z false=false:=by
      rw [jC,Array.getElem?_eq_none (by simp; omega)];rfl
     have e2:b5.getD z false=false:=by
      rw [jC,Array.getElem?_eq_none (by omega)];rfl
     have e3:Nat.beq z i=false:=by
      cases hb:Nat.beq z i with
      | false=>rfl
      | true=>have:=bu hb; omega
     simp [cY,e1,e2,e3]
   rw [hb] at hx ⊢;exact hc.insert hf ho yz x y hx hy
def avu (all:List Oper) (i:Nat):Option Tmp:=(all[i]?).bind (·.dst)
end
end Go.aB
end
section
namespace Go.aB
noncomputable section
open Go
def Quiet (A0:St) (R:List Rec):Prop:=∀ r∈R,r.nx=A0.next/\(r.did = .val\/∃ f vs,r.did = .read f vs)
def lS (R:List Rec) (S:Nat->Bool):Option Nat:=asT (R.filter fun r=>S r.i)
def XH (A0:St) (R:List Rec) (S:Nat->Bool):St:=avq A0 R (lS R S)
def writer (all:List Oper) (R:List Rec) (S:Nat->Bool) (x:Nat):Option Rec:=R.find? fun r=>S r.i&&(avu all r.i==some x)
def valOf (all:List Oper) (t0:Tm) (R:List Rec) (S:Nat->Bool) (x:Nat):Value:=
 match writer all R S x with
 | some r=>r.v
 | none=>(t0.get x).getD undef
def awb (all:List Oper) (A0:St) (R:List Rec) (S:Nat->Bool) (x:Nat):Nat:=
 match writer all R S x with
 | some r=>r.nx
 | none=>A0.next
structure Inv (all:List Oper) (A0:St) (t0:Tm) (R:List Rec) (N:Nat) (d0:List Deferred) (base:Nat) (ρ0:Ren) (w0:World) (S:Nat->Bool) (a:Act) (w:World) (ρ:Ren):Prop where
 size:a.tmps.size=N
 defers:a.defers=d0
 tm:∀ x,VR (ρ.res (awb all A0 R S x)) (valOf all t0 R S x) (a.tmps.getD x undef)
 core:l8 base ρ0 A0 w0 (ρ.res (XH A0 R S).next) (XH A0 R S) w
 news:∀ r∈R,S r.i=true->∀ id o,r.did = .make id o->asS (fF [] all) (lS R S) r.i=false->
  ∃ c cb,ρ id=some (afs o cb)/\aft (ρ.res r.nx) o c/\w.heap[cb]? = some c/\w0.heap.size<=cb/\¬ Img (ρ.res (XH A0 R S).next) (XH A0 R S) cb
 newsApart:∀ r∈R,∀ s∈R,S r.i=true->S s.i=true->∀ id o id' o',r.did = .make id o->s.did = .make id' o'->asS (fF [] all) (lS R S) r.i=false->asS (fF [] all) (lS R S) s.i=false->
  r.i≠s.i->∀ l l',ρ id=some l->ρ id' = some l'->l.cb≠l'.cb
 unborn:∀ r∈R,S r.i=false->∀ id o,r.did = .make id o->ρ id=none
 lW:∀ bl l,ρ bl=some l->bl < (XH A0 R S).next\/∃ r∈R,S r.i=true/\∃ o,r.did = .make bl o
section
variable {P:Program} {call:Vs} {all:List Oper} {A0:St} {t0:Tm} {R:List Rec} {N:Nat} {d0:List Deferred} {base:Nat} {ρ0:Ren} {w0:World}
theorem l9 {x:Nat} : ∀ {xs:List Operand},Operand.tmp x∈xs->x∈tA xs
 | [],h=>by simp at h
 | .tmp t::xs,h=>by
  rcases fA.1 h with h | h
  ·simp at h; subst h; simp [tA]
  ·simp [tA,l9 h]
 | .const _::xs,h=>by
  rcases fA.1 h with h | h
  ·simp at h
  ·simpa [tA] using l9 h
 | .global _::xs,h=>by
  rcases fA.1 h with h | h
  ·simp at h
  ·simpa [tA] using l9 h
 | .func _::xs,h=>by
  rcases fA.1 h with h | h
  ·simp at h
  ·simpa [tA] using l9 h
end
end
end Go.aB
end
section
namespace Go.aB
noncomputable section
open Go
theorem vD.ik {ρ bd:Ren} {A:St} {base:Nat} {w w' : World} (hs:vD ρ A base w) (hle:ρ.le bd) (awc:∀ b l,bd b=some l->b < A.next) (hw:∀ k,k < w.heap.size->w'.heap[k]? = w.heap[k]?) (fZ:w.heap.size<=w'.heap.size):vD bd A base w':=by
 have aaw:∀ b o l,A.get b=some o->o≠.dead->bd b=some l->ρ b=some l:=by
  intro b o l hg hd hr;obtain ⟨l',h1,_⟩:=hs.rel.obj hg hd;have:=hle _ _ h1;rw [hr] at this; simp at this; subst this;exact h1
 refine ⟨.Hi (fun b o hg hd=>?_) ?_ hs.rel.b5,awc,o9 hs.size fZ,hs.JQ.mono hle⟩
 ·obtain ⟨l,h1,h2⟩:=hs.rel.obj hg hd
  exact ⟨l,hle _ _ h1,h2.ik hle (hw _ (h2.lt hd)) fZ⟩
 ·intro b1 b2 o1 o2 l1 l2 de g1 g2 m1 m2 r1 r2 Vv
  exact hs.rel.apart b1 b2 o1 o2 l1 l2 de g1 g2 m1 m2 (aaw b1 o1 l1 g1 (by intro e; subst e; simp [cO.gf] at m1) r1) (aaw b2 o2 l2 g2 (by intro e; subst e; simp [cO.gf] at m2) r2) Vv
section
variable {P:Program} {call:Vs} {all:List Oper} {A0:St} {t0:Tm} {R:List Rec} {N:Nat} {d0:List Deferred} {base:Nat} {ρ0:Ren} {w0:World}
end
end
end Go.aB
end
section
namespace Go.aB
noncomputable section
open Go
theorem VR.undef {ρ:Ren} : VR ρ undef undef:=VR.of_flat (by simp [Go.undef,flat,Nv,yv])
section
variable {P:Program} {call:Vs} {all:List Oper} {A0:St} {t0:Tm} {R:List Rec} {N:Nat} {d0:List Deferred} {base:Nat} {ρ0:Ren} {w0:World}
end
end
end Go.aB
end
section
namespace Go.aB
noncomputable section
open Go
variable {P:Program} {call:Vs} {all:List Oper} {A0:St}
end
end Go.aB
end
section
namespace Go.aB
noncomputable section
open Go
theorem put_defers (a:Act) (dst:Option Tmp) (v:Value):(a.put dst v).defers=a.defers:=by cases dst <;> rfl
def ae.out:ae->Exit
 | .normal=>.normal
 | .exit id=>.exit id
 | .goto l=>.goto l
 | .ret=>.ret
def mark (D:Nat):Deferred:={ target:=.collected D,args:=#[] }
section
variable {P:Program} {b:Frame} {a:Act} {k:List Item} {cs:List Frame} {w:World}
end
def aeW (a:Act):ResultVar->Sem Value
 | .tmp t=>pure (a.tmps.getD t undef)
 | .cell ad ty=>do loadVar ty (<- asAddr (a.tmps.getD ad undef))
theorem acd (fn:Func) (a:Act):results fn a.tmps=(do let vs <- fn.results.mapM (aeW a); pure (if h:vs.size=1 then vs[0] else .tuple vs)):=by
 unfold results;congr 1
theorem nP {n m:Nat} (h:n<=m):∀ (c:Code),codeOk n c=true->codeOk m c=true
 | .region id ops d,hc=>by
  simp only [codeOk,ij] at hc ⊢;intro o ho;have:=hc o ho;unfold KX at this ⊢;split at this
  ·rename_i d e
   rw [cq] at this ⊢;omega
  ·rfl
 | .seq a b,hc=>by simp only [codeOk,aA] at hc ⊢; exact ⟨nP h a hc.1,nP h b hc.2⟩
 | .cond _ a b,hc=>by simp only [codeOk,aA] at hc ⊢; exact ⟨nP h a hc.1,nP h b hc.2⟩
 | .block _ a,hc=>nP h a hc
 | .loop a,hc=>nP h a hc
 | .rangeFunc _ ps a b,hc=>by
  simp only [codeOk,aA,ij,cq] at hc ⊢;exact ⟨fun p hp=>nK (hc.1 p hp) h,nP h a hc.2.1,nP h b hc.2.2⟩
 | .scope a,hc=>nP h a hc
 | .skip,_ | .exit _,_ | .label _,_ | .goto _,_ | .ret,_ | .refuse _,_=>rfl
def Im (gl:List (Nat×List Value×Nat)) (b:Nat):Option Loc:=if b < gB then some (match gl.find? (fun x=>Nat.beq x.1 b) with | some x=>⟨b,0,x.2.1.length,x.2.2⟩ | none=>⟨b,0,0,0⟩) else none
theorem aiY (gl:List (Nat×List Value×Nat)):amW (Im gl):=fun g hg=>by
 unfold Im;rw [aY hg];split <;> exact ⟨_,rfl,rfl,rfl⟩
theorem afH:∀ (gl:List (Nat×List Value×Nat)) (b:Nat),(aap gl).get b=match gl.find? (fun x=>Nat.beq x.1 b) with | some x=>some (.row x.2.1 x.2.2 false none) | none=>none
 | [],b=>by simp [aap]
 | (g,cs,e)::gl,b=>by
  simp only [aap,Trie.qV,List.find?_cons];cases hb:Nat.beq g b with
  | true=>simp [bu hb]
  | false=>rw [av (fun e=>by subst e; simp at hb)]; exact afH gl b
def auo (w:World) (gl:List (Nat×List Value×Nat)):Prop:=∀ x∈gl,x.1 < gB/\x.1 < w.heap.size/\x.2.1.all (fun v=>flat v&&scalar v)=true/\∀ i v,x.2.1[i]? = some v->w.cell? ⟨x.1,i,none⟩=some v
theorem vD.am5 {w:World} {gl:List (Nat×List Value×Nat)} (h:auo w gl):vD (Im gl) (St.JQ gl) w.heap.size w:=by
 have hg:∀ b o,(St.JQ gl).get b=some o->∃ x∈gl,x.1=b/\gl.find? (fun x=>Nat.beq x.1 b)=some x/\o = .row x.2.1 x.2.2 false none:=by
  intro b o e;have e:(aap gl).get b=some o:=e;rw [afH] at e;split at e
  ·rename_i x hx
   simp at e;have:=List.find?_some hx;exact ⟨x,List.mem_of_find?_eq_some hx,bu this,hx,e.symm⟩
  ·simp at e
 refine ⟨⟨fun b cs cg own cp e=>?_,fun b es e=>?_,fun b s pos e=>?_,fun b st ex t ps c d e=>?_,fun b1 b2 o1 o2 l1 l2 _ e1 _ m=>?_,fun b o bA f e k=>?_⟩,fun b l e=>?_,aU _,aiY gl⟩
 ·obtain ⟨x,hx,rfl,hf,he⟩:=hg _ _ e
  simp at he;obtain ⟨rfl,rfl,rfl,rfl⟩:=he;obtain ⟨h1,h2,h3,h4⟩:=h x hx;refine ⟨⟨x.1,0,x.2.1.length,x.2.2⟩,by unfold Im; rw [aY h1,hf],⟨fun i v hi=>?_,fun _=>h2,fun h=>by simp at h,fun h=>by simp at h,by simp,fun h=>by simp at h,rfl,h2,fun h=>by simp at h⟩⟩;have:=ij.1 h3 v (jD hi);simp only [aA] at this;exact ⟨v,by simpa using h4 i v hi,VR.of_flat this.1,this.2⟩
 ·obtain ⟨x,_,_,_,he⟩:=hg _ _ e; simp at he
 ·obtain ⟨x,_,_,_,he⟩:=hg _ _ e; simp at he
 ·obtain ⟨x,_,_,_,he⟩:=hg _ _ e; simp at he
 ·obtain ⟨x,_,_,_,he⟩:=hg _ _ e1; subst he; simp [cO.gf] at m
 ·obtain ⟨x,_,_,_,he⟩:=hg _ _ e; subst he; simp [cO.nD] at k
 ·unfold Im at e
  split at e
  ·rename_i hb; exact hb
  ·simp at e
theorem vD.empty (w:World):vD (Im []) St.empty w.heap.size w:=vD.am5 (gl:=[]) (fun _ h=>by simp at h)
end
end Go.aB
end
section
namespace Go.K
open Go Go.aB
noncomputable section
inductive Mk where
 | any
 | exact
 | bA (b:Nat)
inductive KV where
 | int (k:IntKind) (n:Int)
 | bool (b:Bool)
 | str (s:ByteArray)
 | agg (cs:List KV)
 | nb (vs:List KV)
 | ts (T:TypeId) (m:Mk) (n:Nat) (es:List KV) (acc:Nat->KV)
 | tp (T Tc:TypeId) (i k:Nat) (es:List KV) (acc:Nat->KV)
 | al (T:TypeId) (b o n:Nat)
 | ap (T Tc:TypeId) (b i k:Nat)
 | ptr (b off:Nat)
 | sl (b off len cap:Nat)
 | G1
 | lY
 | CV
 | map (b:Nat)
 | fn (f:Fn) (first cap:List KV)
 | Ip
 | iface (t:TypeId) (v:KV)
 | Iq
 | ao
instance:Inhabited KV:=⟨.ao⟩
inductive kV where
 | row (cs:List KV) (cg:Nat)
 | map (es:List (KV×KV))
 | bA (top sz:Nat)
 | arr (v:KV)
 | kW (v:KV)
 | dead
structure aw where
 heap:Trie kV
 next:Nat
def aw.empty:aw:=⟨.leaf,0⟩
def aw.get (A:aw) (b:Nat):Option kV:=A.heap.get b
def aw.new (A:aw) (o:kV):aw:=⟨A.heap.set o A.next,Nat.succ A.next⟩
def aw.put (A:aw) (b:Nat) (o:kV):aw:=⟨A.heap.set o b,A.next⟩
abbrev bO:=Trie KV
def nm {α:Type} : List (Nat×α)->Trie α
 | []=>.leaf
 | p::ps=>(nm ps).set p.2 p.1
def KV.cells:KV->List KV
 | .agg cs=>cs
 | v=>[v]
def one:KV->Bool
 | .agg _ | .nb _ | .ao=>false
 | _=>true
def uE:KV:=.nb []
inductive KR (α:Type) where
 | no
 | ok (v:α)
 | lQ (c:Bool) (v:α)
 | br (c:Bool) (x y:KR α)
def KR.run {α R:Type} (r:KR α) (k:α->Option R):Option R:=
 KR.rec (motive:=fun _=>Option R) none (fun v=>k v) (fun c v=>Bool.rec (motive:=fun _=>Option R) none (k v) c) (fun c _ _ rx ry=>Bool.rec (motive:=fun _=>Option R) ry rx c) r
def KR.map {α β:Type} (f:α->β):KR α->KR β
 | .no=>.no
 | .ok v=>.ok (f v)
 | .lQ c v=>.lQ c (f v)
 | .br c x y=>.br c (x.map f) (y.map f)
def KR.of {α:Type} : Option α->KR α
 | some v=>.ok v
 | none=>.no
inductive CK where
 | int (k:IntKind)
 | bool
 | str
 | slice (t:TypeId)
 | other
structure Lay where
 agg:Bool
 ks:List CK
def dI {α:Type} (l:List α):Nat->List α
 | 0=>[]
 | n+1=>l++dI l n
def Qv (f:TypeId->Option Lay):List Field->Nat->Option (List CK)
 | [],_=>some []
 | fd::fs,off=>cond (Nat.beq fd.offset off) ((f fd.type).bind fun l=>(Qv f fs (off+l.ks.length)).map fun r=>l.ks++r) none
def lay (P:Program):Nat->TypeId->Option Lay
 | 0,_=>none
 | n+1,t=>match P.underlying t with
  | some (.int k)=>some ⟨false,[.int k]⟩
  | some .bool=>some ⟨false,[.bool]⟩
  | some .string=>some ⟨false,[.str]⟩
  | some (.slice e)=>some ⟨false,[.slice e]⟩
  | some (.struct fs)=>(Qv (lay P n) fs.toList 0).map fun ks=>⟨true,ks⟩
  | some (.array len e)=>(lay P n e).map fun l=>⟨true,dI l.ks len⟩
  | some _=>some ⟨false,[.other]⟩
  | none=>none
def bB (P:Program) (t:TypeId):Lay:=(lay P 12 t).getD ⟨false,[]⟩
def kindOk:CK->KV->Bool
 | .int k,.int k' _=>decide (k=k')
 | .bool,.bool _=>true
 | .str,.str _=>true
 | .slice t,.ts t' .any _ _ _=>Nat.beq t t'
 | _,_=>false
def aK:List CK->List KV->Bool
 | [],[]=>true
 | k::ks,v::vs=>kindOk k v&&aK ks vs
 | _,_=>false
def cP (l:Lay):KV->Bool
 | .agg cs=>l.agg&&aK l.ks cs
 | .nb _=>false
 | v=>!l.agg&&aK l.ks [v]
def ga (l:Lay):List KV->Bool
 | []=>true
 | e::es=>cP l e&&ga l es
def ay:KV->Int
 | .int _ n=>n
 | _=>0
def dj:KV->Bool
 | .bool b=>b
 | _=>false
def strOf:KV->ByteArray
 | .str s=>s
 | _=>ByteArray.empty
def awd:KV->List KV
 | .ts _ _ _ es _=>es
 | _=>[]
def lenOf:KV->Nat
 | .ts _ _ n _ _=>n
 | _=>0
def Av:KV->Nat->KV
 | .ts _ _ _ _ acc=>acc
 | _=>fun _=>.ao
def leaf (c:CK) (v:KV):KV:=
 CK.rec (motive:=fun _=>KV) (fun k=>.int k (ay v)) (.bool (dj v)) (.str (strOf v)) (fun t=>.ts t .any (lenOf v) (awd v) (Av v)) v c
def leaves (e:KV):List CK->Nat->List KV
 | [],_=>[]
 | c::cs,k=>leaf c (e.cells.getD k .ao)::leaves e cs (Nat.succ k)
def P0 (agg:Bool) (cs:List KV):KV:=Bool.rec (motive:=fun _=>KV) (cs.headD .ao) (.agg cs) agg
def NP:List CK->Bool
 | []=>true
 | .other::_=>false
 | _::cs=>NP cs
mutual
def iH:Value->KV
 | .bool b=>.bool b
 | .int k n=>.int k n
 | .string s=>.str s
 | .pointer none=>.G1
 | .slice none 0 0=>.lY
 | .map none=>.CV
 | .nilFunc=>.Ip
 | .nilIface=>.Iq
 | .agg cs=>.agg (ofA cs)
 | .tuple cs=>.nb (ofA cs)
 | _=>.ao
def ofA:Array Value->List KV
 | ⟨l⟩=>ofL l
def ofL:List Value->List KV
 | []=>[]
 | v::vs=>iH v::ofL vs
end
abbrev FP:=List KV->KR KV
abbrev FR:=aw->List KV->KR KV
abbrev FA:=aw->List KV->KR (KV×aw)
inductive tD where
 | pure (f:FP) (xs:List Operand)
 | read (f:FR) (xs:List Operand)
 | act (f:FA) (xs:List Operand)
 | look (f:FP) (xs:List Operand)
 | Ei (g:FuncId) (f:List KV->KR KV) (xs:List Operand)
 | Ir (g:FuncId) (f:List KV->KR KV) (xs:List Operand)
 | call (f:Operand) (args:List Operand)
 | bad
def aln:FP
 | [x]=>.ok x
 | _=>.no
def alo:FP
 | [.bool b]=>.br b (.ok (.bool true)) (.ok (.bool false))
 | [x]=>.ok x
 | _=>.no
def apo:FP
 | [.bool t,.bool a,.bool b]=>.ok (.bool (cond t a b))
 | [.bool t,a,b]=>.ok (cond t a b)
 | _=>.no
def jM:List KV->Bool
 | []=>true
 | v::vs=>one v&&jM vs
def yA {α:Type} : Nat->List α->Option (List α)
 | 0,_=>some []
 | _+1,[]=>none
 | n+1,x::xs=>(yA n xs).map (x::·)
def Ej {α:Type} : Nat->List α->List α
 | 0,l=>l
 | _+1,[]=>[]
 | n+1,_::xs=>Ej n xs
def mB {α:Type} : Nat->List α->List α->Option (List α)
 | 0,l,[]=>some l
 | 0,[],_::_=>none
 | 0,_::l,v::vs=>(mB 0 l vs).map (v::·)
 | _+1,[],[]=>some []
 | _+1,[],_::_=>none
 | n+1,x::l,vs=>(mB n l vs).map (x::·)
def ace (n:Nat) (z:List KV):FA:=fun A _=>.ok (.ptr A.next 0,A.new (.row z n))
def rP (P:Program) (t:TypeId):tD:=
 match vN P t with
 | some z=>cond (flat z&&z.cells.toList.all scalar&&jM (iH z).cells) (.act (ace (pL P t) (iH z).cells) []) .bad
 | none=>.bad
def am6 (n:Nat):FA:=fun A xs=>
 match xs with
 | [v]=>cond (jM v.cells) (.ok (.ptr A.next 0,A.new (.row v.cells n))) .no
 | _=>.no
def aax (place:Nat->Option (Nat×Nat)):List KV->List (Nat×KV)->Option (List KV)
 | cells,[]=>some cells
 | cells,(i,v)::rest=>
  match place i with
  | some (off,size)=>cond (Nat.beq v.cells.length size&&Nat.ble 1 size) ((mB off cells v.cells).bind fun cs=>aax place cs rest) none
  | none=>none
def Ap:List Nat->List KV->List (Nat×KV)
 | i::is,v::vs=>(i,v)::Ap is vs
 | _,_=>[]
def xM:KV->Bool
 | .ao=>false
 | _=>true
def SF (place:Nat->Option (Nat×Nat)) (z:List KV) (is:List Nat):FP:=fun vs=>
 match aax place z (Ap is vs) with
 | some cs=>cond (vs.all xM) (.ok (.agg cs)) .no
 | none=>.no
def vS (P:Program) (t:TypeId) (is:List Nat) (xs:List Operand):tD:=
 match vN P t,P.underlying t with
 | some z,some (.struct fields)=>
  match placesOf P fields.toList with
  | some l=>cond (flat z&&jM (iH z).cells) (.pure (SF (Xn l) (iH z).cells is) xs) .bad
  | none=>.bad
 | some z,some (.array _ e)=>
  match size? P e with
  | some n=>cond (flat z&&jM (iH z).cells) (.pure (SF (Cg n) (iH z).cells is) xs) .bad
  | none=>.bad
 | _,_=>.bad
def qX:Nat->KV:=fun _=>.ao
def ef (es:List KV):Nat->KV:=fun i=>es.getD i .ao
def oY (c:CK) (v:KV):KV:=
 match c,v with
 | .slice t,.lY=>.ts t .any 0 [] qX
 | .slice t,.ts t' _ n es acc=>cond (Nat.beq t t') (.ts t .any n es acc) .ao
 | c,v=>cond (kindOk c v) v .ao
def CW:List CK->List KV->List KV
 | c::cs,v::vs=>oY c v::CW cs vs
 | _,_=>[]
def fe (l:Lay) (v:KV):KV:=
 match v with
 | .agg cs=>cond (l.agg&&Nat.beq cs.length l.ks.length) (.agg (CW l.ks cs)) .ao
 | v=>cond l.agg .ao (match l.ks with
  | [c]=>oY c v
  | _=>.ao)
def setAt (es:List KV) (i:Nat) (v:KV):List KV:=
 match i,es with
 | 0,_::es=>v::es
 | n+1,e::es=>e::setAt es n v
 | _,[]=>[]
def Gt (es:List KV):List (Nat×KV)->List KV
 | []=>es
 | (i,v)::rest=>Gt (setAt es i v) rest
def Qw (l:Lay) (e:TypeId) (z:KV) (len:Nat) (is:List Nat):FP:=fun vs=>
 let es:=Gt (dI [z] len) ((Ap is vs).map fun p=>(p.1,fe l p.2))
 cond (vs.all xM&&ga l (vs.map (fe l))&&ga l es) (.ok (.ts e .exact len es (ef es))) .no
def Vy (l:Lay) (e:TypeId) (z:KV) (len:Nat) (is:List Nat):FA:=fun A vs=>
 let es:=Gt (dI [z] len) ((Ap is vs).map fun p=>(p.1,fe l p.2))
 cond (vs.all xM&&ga l (vs.map (fe l))&&ga l es) (.ok (.al e A.next 0 len,A.new (.arr (.ts e .any len es (ef es))))) .no
def Ek (n:Nat):List Nat->Bool
 | []=>true
 | i::is=>Nat.blt i n&&Ek n is
def Vz (n:Nat) (z:List KV) (len:Nat) (is:List Nat):FA:=fun A vs=>
 match aax (Cg n) (dI z len) (Ap is vs) with
 | some cs=>cond (vs.all xM&&jM cs) (.ok (.sl A.next 0 len len,A.new (.row cs n))) .no
 | none=>.no
def mC (P:Program) (mt:TypeId->Bool) (t:TypeId) (len:Nat) (is:List Nat) (xs:List Operand):tD:=
 match P.underlying t with
 | some (.slice e)=>
  match P.info? e,vN P e with
  | some i,some z=>cond (Nat.ble (len * i.size) 16777216&&Nat.beq z.cells.size i.size&&Nat.ble 1 i.size&&flat z&&Nat.beq (bB P e).ks.length i.size&&Ek len is)
    (cond (NP (bB P e).ks) (cond (mt (e+3000000)) (.act (Vy (bB P e) e (fe (bB P e) (iH z)) len is) xs) (.look (Qw (bB P e) e (fe (bB P e) (iH z)) len is) xs)) (cond (jM (iH z).cells) (.act (Vz i.size (iH z).cells len is) xs) .bad)) .bad
  | _,_=>.bad
 | _=>.bad
def rowAt (A:aw) (b:Nat):Option (List KV):=
 match A.get b with
 | some (.row cs _)=>some cs
 | _=>none
def Lb (A:aw) (b:Nat):Option KV:=
 match A.get b with
 | some (.arr v)=>some v
 | some (.kW v)=>some v
 | _=>none
def aeX (P:Program) (t Tc:TypeId):Bool:=Nat.beq Tc t&&NP (bB P t).ks&&decide (Xm P t=some (bB P t).agg)&&decide (size? P t=some (bB P t).ks.length)&&((bB P t).agg||Nat.beq (bB P t).ks.length 1)
def putCells (P:Program) (T:TypeId) (k:Nat) (e:KV) (vs:List KV):Option KV:=(mB k (leaves e (bB P T).ks 0) vs).map fun cs=>P0 (bB P T).agg cs
def cB (acc:Nat->KV) (i:Nat) (v:KV):Nat->KV:=fun j=>cond (Nat.beq j i) v (acc j)
def aqI (T:TypeId) (n i:Nat) (es:List KV) (acc:Nat->KV) (e:KV):KV:=.ts T .any n (setAt es i e) (cB acc i e)
def aay (P:Program) (t:TypeId):FR:=fun A xs=>
 match xs with
 | [.ptr b off]=>
  match Xm P t,size? P t with
  | some ag,some n=>match (rowAt A b).bind fun cs=>yA n (Ej off cs) with
   | some l=>cond ag (.ok (.agg l)) (match l with | [v]=>.ok v | _=>.no)
   | none=>.no
  | _,_=>.no
 | [.tp _ Tc i k _ acc]=>
  cond (aeX P t Tc) (.ok (P0 (bB P t).agg (leaves (acc i) (bB P t).ks k))) .no
 | [.ap T Tc b i k]=>match Lb A b with
  | some (.ts T' _ _ _ acc)=>cond (Nat.beq T T'&&aeX P t Tc) (.ok (P0 (bB P t).agg (leaves (acc i) (bB P t).ks k))) .no
  | _=>.no
 | _=>.no
def XI (P:Program) (t:TypeId):FA:=fun A xs=>
 match xs with
 | [.ptr b off,v]=>
  cond (decide (some v.cells.length=size? P t)&&jM v.cells)
   (match A.get b with
   | some (.row cs cg)=>match mB off cs v.cells with
    | some cu=>.ok (uE,A.put b (.row cu cg))
    | none=>.no
   | _=>.no) .no
 | [.ap T Tc b i k,v]=>
  match A.get b with
  | some (.arr (.ts T' _ n es acc))=>
   cond (Nat.beq T T'&&Nat.beq Tc t&&cP (bB P t) (fe (bB P t) v)&&decide (size? P t=some (bB P t).ks.length))
    (match putCells P T k (acc i) (fe (bB P t) v).cells with
    | some e=>.ok (uE,A.put b (.arr (aqI T n i es acc e)))
    | none=>.no) .no
  | _=>.no
 | _=>.no
def afI:FP
 | [.ptr b off]=>.ok (.ptr b off)
 | [.tp T Tc i k es acc]=>.ok (.tp T Tc i k es acc)
 | [.ap T Tc b i k]=>.ok (.ap T Tc b i k)
 | [.fn (.func f) first cap]=>.ok (.fn (.func f) first cap)
 | _=>.no
abbrev akm (k:IntKind) (a b:Int):Nat:=(BitVec.ofInt k.bits a &&& BitVec.ofInt k.bits b).toNat
abbrev bOr (k:IntKind) (a b:Int):Nat:=(BitVec.ofInt k.bits a ||| BitVec.ofInt k.bits b).toNat
abbrev awe (k:IntKind) (a b:Int):Nat:=(BitVec.ofInt k.bits a ^^^ BitVec.ofInt k.bits b).toNat
abbrev as7 (k:IntKind) (a b:Int):Nat:=(BitVec.ofInt k.bits a &&& ~~~ BitVec.ofInt k.bits b).toNat
def opI (op:BinOp) (k:IntKind) (a b:Int):KR KV:=
 match op with
 | .add=>.ok (.int k (k.wrap (a+b)))
 | .sub=>.ok (.int k (k.wrap (a - b)))
 | .mul=>.ok (.int k (k.wrap (a * b)))
 | .eql=>.ok (.bool (a==b))
 | .neq=>.ok (.bool (a != b))
 | .lss=>.ok (.bool (decide (a < b)))
 | .leq=>.ok (.bool (decide (a<=b)))
 | .gtr=>.ok (.bool (decide (a > b)))
 | .geq=>.ok (.bool (decide (a >= b)))
 | .quo=>.lQ (!(decide (b=0))) (.int k (k.wrap (a.tdiv b)))
 | .rem=>.lQ (!(decide (b=0))) (.int k (a.tmod b))
 | .and=>.ok (.int k (k.wrap (akm k a b)))
 | .or=>.ok (.int k (k.wrap (bOr k a b)))
 | .xor=>.ok (.int k (k.wrap (awe k a b)))
 | .andNot=>.ok (.int k (k.wrap (as7 k a b)))
 | _=>.no
def awf (op:BinOp) (k:IntKind) (a b:Int):KR KV:=
 match op with
 | .shl=>.lQ (!(decide (b < 0))) (.int k (k.wrap (a * 2 ^ (min b.toNat k.bits))))
 | .shr=>.lQ (!(decide (b < 0))) (.int k (a.fdiv (2 ^ (min b.toNat k.bits))))
 | _=>.no
def am7:BinOp->Bool
 | .shl | .shr=>true
 | _=>false
def eqK:KV->KV->Option Bool
 | .int k a,.int k' b=>cond (decide (k=k')) (some (a==b)) none
 | .bool a,.bool b=>some (a==b)
 | .str a,.str b=>some (a==b)
 | _,_=>none
def vJ:List KV->List KV->Option Bool
 | [],[]=>some true
 | x::xs,y::ys=>match eqK x y,vJ xs ys with
  | some a,some b=>some (a&&b)
  | _,_=>none
 | _,_=>none
def G2 (P:Program):Nat->TypeId->Bool
 | 0,_=>false
 | n+1,t=>(match P.info? t,lay P (n+1) t with
   | some i,some l=>Nat.beq i.size l.ks.length
   | _,_=>false)&&match P.underlying t with
  | some (.int _) | some .bool | some .string=>true
  | some (.struct fs) => !(P.stoodInHeld t) && fs.toList.all fun f => !(f.name == "_") && G2 P n f.type
  | some (.array _ e)=>G2 P n e
  | _=>false
def aqJ (P:Program) (t:TypeId) (x y:KV):Option Bool:=
 match x,y with
 | .agg xs,.agg ys=>cond ((bB P t).agg&&G2 P 12 t&&!(P.eqGuardType P.depth t)&&aK (bB P t).ks xs&&aK (bB P t).ks ys) (vJ xs ys) none
 | .bool a,.bool b=>match P.underlying t with
  | some .bool=>some (a==b)
  | _=>none
 | .lY,.lY=>match P.underlying t with
  | some (.slice _)=>some true
  | _=>none
 | .ts _ _ n _ _,.lY=>match P.underlying t with
  | some (.slice _)=>cond (Nat.beq n 0) none (some false)
  | _=>none
 | .lY,.ts _ _ n _ _=>match P.underlying t with
  | some (.slice _)=>cond (Nat.beq n 0) none (some false)
  | _=>none
 | .G1,.G1=>match P.underlying t with
  | some (.pointer _)=>some true
  | _=>none
 | .ptr _ _,.G1=>match P.underlying t with
  | some (.pointer _)=>some false
  | _=>none
 | .G1,.ptr _ _=>match P.underlying t with
  | some (.pointer _)=>some false
  | _=>none
 | _,_=>none
def aqK (P:Program) (t:TypeId):Bool:=match P.underlying t with
 | some (.slice _)=>true
 | _=>false
def as8 (P:Program) (op:BinOp) (t:TypeId):FP
 | [.int j a,.int k b]=>cond (am7 op) (awf op j a b) (cond (decide (j=k)) (opI op j a b) .no)
 | [.str a,.str b]=>match op with
  | .eql=>.ok (.bool (a.toList==b.toList))
  | .neq=>.ok (.bool !(a.toList==b.toList))
  | .lss=>.ok (.bool (Op.bytesLess a.toList b.toList))
  | .add=>.lQ (Nat.ble (a.size+b.size) 9223372036854775807) (.str (a++b))
  | _=>.no
 | [.ts _ _ n _ _,.lY]=>match op with
  | .eql=>cond (aqK P t) (.lQ (Nat.blt 0 n) (.bool false)) .no
  | .neq=>cond (aqK P t) (.lQ (Nat.blt 0 n) (.bool true)) .no
  | _=>.no
 | [x,y]=>match op,aqJ P t x y with
  | .eql,some b=>.ok (.bool b)
  | .neq,some b=>.ok (.bool !b)
  | _,_=>.no
 | _=>.no
def kUn (op:UnOp):FP
 | [.bool b]=>match op with
  | .not=>.ok (.bool !b)
  | _=>.no
 | [.int k n]=>match op with
  | .neg=>.ok (.int k (k.wrap (0 - n)))
  | .xor=>.ok (.int k (k.wrap (BitVec.ofInt k.bits (if k.signed then -1 else k.max) ^^^ BitVec.ofInt k.bits n).toNat))
  | _=>.no
 | _=>.no
def aqL (k:IntKind):FP
 | [.int _ n]=>.ok (.int k (k.wrap n))
 | _=>.no
def aqM:FP
 | [.str s]=>.ok (.str s)
 | _=>.no
def byteOf:KV->UInt8
 | .int _ n=>UInt8.ofNat n.toNat
 | _=>0
def aqN:KV->Bool
 | .int .u8 n=>decide (0<=n)&&decide (n < 256)
 | _=>false
def NQ:FP
 | [.lY]=>.ok (.str ⟨⟨[]⟩⟩)
 | [.ts _ _ _ es _]=>.lQ (es.all aqN) (.str ⟨⟨es.map byteOf⟩⟩)
 | _=>.no
def VA (e:TypeId):FP
 | [.str s]=>.ok (.ts e .any s.size (s.data.toList.map fun b=>.int .u8 b.toNat) (fun i=>.int .u8 (s.data.toList.getD i 0).toNat))
 | _=>.no
def rh (P:Program) (src dst:TypeId) (x:Operand):tD:=
 match P.underlying src,P.underlying dst with
 | some (.int _),some (.int k)=>.pure (aqL k) [x]
 | some .string,some .string=>.pure aqM [x]
 | some (.slice e),some .string=>cond (isByte P e) (.read (fun _=>NQ) [x]) .bad
 | some .string,some (.slice e)=>cond (isByte P e) (.look (VA e) [x]) .bad
 | _,_=>.bad
def NR (f:Fn) (k:Nat):FP:=fun vs=>
 match yA k vs with
 | some first=>.ok (.fn f first (Ej k vs))
 | none=>.no
def acf (s:TypeId) (off:Nat) (ft:TypeId) (Aq:Bool):FP
 | [.ptr b o]=>.ok (.ptr b (o+off))
 | [.tp T Tc i k es acc]=>cond (Nat.beq Tc s&&Aq) (.ok (.tp T ft i (k+off) es acc)) .no
 | [.ap T Tc b i k]=>cond (Nat.beq Tc s&&Aq) (.ok (.ap T ft b i (k+off))) .no
 | _=>.no
def as9:CK->CK->Bool
 | .int a,.int b=>decide (a=b)
 | .bool,.bool=>true
 | .str,.str=>true
 | .slice a,.slice b=>Nat.beq a b
 | .other,.other=>true
 | _,_=>false
def El:List CK->List CK->Bool
 | [],[]=>true
 | a::aw9,b::bs=>as9 a b&&El aw9 bs
 | _,_=>false
def aeY (P:Program) (s:TypeId) (off:Nat) (ft:TypeId):Bool:=
 match yA (bB P ft).ks.length (Ej off (bB P s).ks) with
 | some l=>El l (bB P ft).ks
 | none=>false
def nQ (P:Program) (s:TypeId) (x:Operand) (f:Nat):tD:=
 match y5 P s f with
 | some fd=>match size? P fd.type with
  | some (_+1)=>.pure (acf s fd.offset fd.type (aeY P s fd.offset fd.type)) [x]
  | _=>.bad
 | none=>.bad
def aaz (P:Program) (t:TypeId) (cs:List KV) (off:Nat):Option KV:=
 match Xm P t with
 | some true=>(size? P t).bind fun n=>(yA n (Ej off cs)).map fun l=>.agg l
 | some false=>(Ej off cs).head?
 | none=>none
def aqO (P:Program) (fd:Field):FP
 | [.agg cs]=>.of (aaz P fd.type cs fd.offset)
 | _=>.no
def vT (P:Program) (t:TypeId) (x:Operand) (f:Nat):tD:=
 match y5 P t f with
 | some fd=>.pure (aqO P fd) [x]
 | none=>.bad
def inR (i:Int) (n:Nat):Bool:=decide (0<=i)&&decide (i < (n:Int))
def aqP {α:Type} (i:Int) (f:Nat->KR α) (m:Nat):Nat->KR α:=Nat.rec (motive:=fun _=>Nat->KR α) (fun _=>.no) (fun _ ih j=>.br (decide (i=(j:Int))) (f j) (ih (Nat.succ j))) m
def afJ (P:Program) (t:TypeId) (len n:Nat) (e:TypeId):FP
 | [.ptr b o,.int _ i]=>cond (Nat.ble len 8) (aqP i (fun j=>.ok (.ptr b (o+j * n))) len 0) (.lQ (inR i len) (.ptr b (o+i.toNat * n)))
 | [.tp T Tc j k es acc,.int _ i]=>cond (Nat.beq Tc t&&El (bB P t).ks (dI (bB P e).ks len)&&Nat.beq (bB P e).ks.length n) (.lQ (inR i len) (.tp T e j (k+i.toNat * n) es acc)) .no
 | [.ap T Tc b j k,.int _ i]=>cond (Nat.beq Tc t&&El (bB P t).ks (dI (bB P e).ks len)&&Nat.beq (bB P e).ks.length n) (.lQ (inR i len) (.ap T e b j (k+i.toNat * n))) .no
 | _=>.no
def akn (e n:Nat) (Aq:Bool):FP
 | [.sl b o len _,.int _ i]=>.lQ (inR i len) (.ptr b (o+i.toNat * n))
 | [.ts T _ m es acc,.int _ i]=>cond (Nat.beq T e&&Aq) (.lQ (inR i m) (.tp T T i.toNat 0 es acc)) .no
 | [.al T b o m,.int _ i]=>cond (Nat.beq T e&&Aq) (.lQ (inR i m) (.ap T T b (o+i.toNat) 0)) .no
 | _=>.no
def nR (P:Program) (t:TypeId) (x ix:Operand):tD:=
 match P.underlying t with
 | some (.array len e)=>match size? P e with
  | some n=>.pure (afJ P t len n e) [x,ix]
  | none=>.bad
 | some (.slice e)=>match size? P e with
  | some n=>.pure (akn e n (Nat.beq (bB P e).ks.length n)) [x,ix]
  | none=>.bad
 | _=>.bad
def VB (P:Program) (len n:Nat) (e:TypeId):FP
 | [.agg cs,.int _ i]=>cond (Nat.ble len 8) (aqP i (fun j=>.of (aaz P e cs (j * n))) len 0) (match aaz P e cs (i.toNat * n) with
  | some v=>.lQ (inR i len) v
  | none=>.no)
 | _=>.no
def afK:FP
 | [.str s,.int _ i]=>.lQ (inR i s.size) (.int .u8 ((s.data.toList.getD i.toNat 0).toNat))
 | _=>.no
def vU (P:Program) (t:TypeId) (x ix:Operand):tD:=
 match P.underlying t with
 | some (.array len e)=>match size? P e with
  | some n=>.pure (VB P len n e) [x,ix]
  | none=>.bad
 | some .string=>.pure afK [x,ix]
 | _=>.bad
def ako {α:Type} : Nat->List α->Option α
 | _,[]=>none
 | 0,x::_=>some x
 | n+1,_::xs=>ako n xs
def akp (i:Nat):FP
 | [.nb vs]=>.of (ako i vs)
 | _=>.no
def aqQ:FP
 | [.ts _ _ n _ _]=>.ok (.int .i64 (n:Int))
 | [.sl _ _ n _]=>.ok (.int .i64 (n:Int))
 | [.al _ _ _ n]=>.ok (.int .i64 (n:Int))
 | [.lY]=>.ok (.int .i64 0)
 | _=>.no
def am8:FP
 | [.str s]=>.ok (.int .i64 (s.size:Int))
 | _=>.no
def afL (P:Program) (argTypes:List TypeId) (args:List Operand):tD:=
 match argTypes with
 | [t]=>match P.underlying t with
  | some (.slice _)=>.pure aqQ args
  | some .string=>.pure am8 args
  | _=>.bad
 | _=>.bad
def Mf (mx:Bool):FP
 | [.int j a,.int k b]=>cond (decide (j=k)) (.ok (.int j (cond mx (max a b) (min a b)))) .no
 | [.int j a,.int k b,.int l c]=>cond (decide (j=k)&&decide (j=l)) (.ok (.int j (cond mx (max (max a b) c) (min (min a b) c)))) .no
 | _=>.no
def XJ (len:Nat) (lo hi:Bool):List KV->Option (Int×Int)
 | []=>cond (lo||hi) none (some (0,len))
 | [.int _ x]=>cond (lo&&!hi) (some (x,len)) (cond (!lo&&hi) (some (0,x)) none)
 | [.int _ x,.int _ y]=>cond (lo&&hi) (some (x,y)) none
 | _=>none
def aaA (P:Program) (n:Nat) (lo hi:Bool):FR:=fun A xs=>
 match xs with
 | .ts T _ m es acc::r=>match XJ m lo hi r with
  | some (x,y)=>cond (Nat.beq (bB P T).ks.length n) (.lQ (decide (0<=x)&&decide (x<=y)&&decide (y<=(m:Int))) (.ts T .any (y.toNat - x.toNat) ((es.drop x.toNat).take (y.toNat - x.toNat)) (fun i=>acc (x.toNat+i)))) .no
  | none=>.no
 | .sl b o len cap::r=>match A.get b with
  | some (.row _ cg)=>match XJ len lo hi r with
   | some (x,y)=>cond (Nat.beq cg n) (.lQ (decide (0<=x)&&decide (x<=y)&&decide (y<=(len:Int))&&decide (len<=cap)) (.sl b (o+x.toNat * n) (y.toNat - x.toNat) (cap - x.toNat))) .no
   | none=>.no
  | _=>.no
 | .al T b o m::r=>match Lb A b with
  | some (.ts T' _ _ _ _)=>match XJ m lo hi r with
   | some (x,y)=>cond (Nat.beq (bB P T).ks.length n&&Nat.beq T T') (.lQ (decide (0<=x)&&decide (x<=y)&&decide (y<=(m:Int))) (.al T b (o+x.toNat) (y.toNat - x.toNat))) .no
   | none=>.no
  | _=>.no
 | _=>.no
def VE (len n:Nat) (lo hi:Bool):FR:=fun A xs=>
 match xs with
 | .ptr b o::r=>match A.get b with
  | some (.row cs cg)=>match XJ len lo hi r with
   | some (x,y)=>cond (Nat.beq cg n&&Nat.ble (o+len * n) cs.length) (.lQ (decide (0<=x)&&decide (x<=y)&&decide (y<=(len:Int))) (.sl b (o+x.toNat * n) (y.toNat - x.toNat) (len - x.toNat))) .no
   | none=>.no
  | _=>.no
 | _=>.no
def VF (lo hi:Bool):FP
 | .str s::r=>match XJ s.size lo hi r with
  | some (x,y)=>.lQ (decide (0<=x)&&decide (x<=y)&&decide (y<=(s.size:Int))) (.str ⟨⟨(s.data.toList.drop x.toNat).take (y.toNat - x.toNat)⟩⟩)
  | none=>.no
 | _=>.no
def vV (P:Program) (t:TypeId) (x:Operand) (lo hi mx:Option Operand):tD:=
 match P.underlying t with
 | some (.slice e)=>match size? P e with
  | some n=>cond (Nat.ble 1 n&&mx.isNone) (.read (aaA P n lo.isSome hi.isSome) (x::(gS lo++gS hi))) .bad
  | none=>.bad
 | some (.array len e)=>match size? P e with
  | some n=>cond (Nat.ble 1 n&&mx.isNone) (.read (VE len n lo.isSome hi.isSome) (x::(gS lo++gS hi))) .bad
  | none=>.bad
 | some .string=>cond mx.isNone (.pure (VF lo.isSome hi.isSome) (x::(gS lo++gS hi))) .bad
 | _=>.bad
def kD (b n m:Nat):Bool:=Nat.ble ((n+m) * b) 140737488355328&&Nat.ble (n+m) 17592186044416
def bz (top n:Nat):Bool:=Nat.beq top n
def aH (n:Nat) (f g:Nat->KV):Nat->KV:=fun i=>cond (Nat.blt i n) (f i) (g (i - n))
def XK (e sz b n:Nat) (base:List KV) (ab:Nat->KV) (A:aw) (f m:Nat) (new:List KV) (an:Nat->KV) (more:Bool):KR (KV×aw):=
 .lQ (more&&kD b n m)
  (.ts e (.bA f) (n+m) (base++new) (aH n ab an),A.put f (.bA (n+m) sz))
def Qx (e sz b:Nat):FA:=fun A xs=>
 match xs with
 | [.lY,.ts e' _ m new an]=>cond (Nat.beq e e') (XK e sz b 0 [] qX (A.new (.bA 0 sz)) A.next m new an true) .no
 | [.ts e1 .exact n es ab,.ts e' _ m new an]=>cond (Nat.beq e e'&&Nat.beq e e1) (XK e sz b n es ab (A.new (.bA 0 sz)) A.next m new an (Nat.blt 0 m)) .no
 | [.ts e1 (.bA f) n es ab,.ts e' _ m new an]=>match A.get f with
  | some (.bA top sz')=>cond (Nat.beq e e'&&Nat.beq e e1&&Nat.beq sz' sz) (XK e sz b n es ab A f m new an (bz top n)) .no
  | _=>.no
 | _=>.no
def akq (o:Nat) (acc:Nat->KV):Nat->KV:=
 match o with
 | 0=>acc
 | o+1=>fun i=>acc (o+1+i)
theorem alp (o:Nat) (acc:Nat->KV):akq o acc=fun i=>acc (o+i):=by
 cases o with
 | zero=>funext i; show acc i=acc (0+i); rw [bM]
 | succ o=>rfl
def alq (A:aw) (T b o n:Nat):Option KV:=
 match Lb A b with
 | some (.ts T' _ _ es acc)=>cond (Nat.beq T T') (some (.ts T .any n ((es.drop o).take n) (akq o acc))) none
 | _=>none
def Qy (A:aw) (v:KV):Option KV:=
 match v with
 | .al T b o n=>alq A T b o n
 | .ts T m n es acc=>some (.ts T m n es acc)
 | _=>none
def aqR (b n m:Nat):Bool:=Nat.ble ((n+m) * b) 140737488355328&&Nat.ble (n+m) 17592186044416
def aeZ (e b n:Nat) (base:List KV) (ab:Nat->KV) (A:aw) (m:Nat) (new:List KV) (an:Nat->KV) (more:Bool):KR (KV×aw):=
 .lQ (more&&aqR b n m) (.al e A.next 0 (n+m),A.new (.arr (.ts e .any (n+m) (base++new) (aH n ab an))))
def HZ (e b:Nat):FA:=fun A xs=>
 match xs with
 | [.lY,.ts e' _ m new an]=>cond (Nat.beq e e') (aeZ e b 0 [] qX A m new an true) .no
 | [.al e1 f o n,.ts e' _ m new an]=>match A.get f with
  | some (.arr (.ts e2 _ _ es acc))=>cond (Nat.beq e e'&&Nat.beq e e1&&Nat.beq e e2) (aeZ e b n (es.take n) acc (A.put f .dead) m new an (Nat.beq o 0)) .no
  | _=>.no
 | _=>.no
def ata:KV->Bool
 | .al _ _ _ _=>true
 | _=>false
def Mg (e sz b:Nat) (mt:Bool):FA:=fun A xs=>
 match xs with
 | [x,y]=>match Qy A y with
  | some y'=>cond (ata x) (HZ e b A [x,y']) (cond mt (HZ e b A [x,y']) (Qx e sz b A [x,y']))
  | none=>.no
 | _=>.no
def JW (P:Program) (mt:TypeId->Bool) (argTypes:List TypeId) (args:List Operand):tD:=
 match argTypes with
 | [t,u]=>
  match P.underlying t,P.underlying u with
  | some (.slice e),some (.slice _)=>
   match P.info? e with
   | some i=>match i.zero with
    | some z=>cond (Nat.ble 1 i.size&&Nat.beq z.cells.size i.size&&Nat.beq (bB P e).ks.length i.size) (.act (Mg e i.size i.bytes (mt e)) args) .bad
    | none=>.bad
   | none=>.bad
  | _,_=>.bad
 | _=>.bad
def Qz (n b:Nat) (z:List KV):FA:=fun A xs=>
 match xs with
 | [.int _ l,.int _ c]=>.lQ (decide (0<=l)&&decide (l<=c)&&Nat.ble (b * c.toNat) 281474976710656) (.sl A.next 0 l.toNat c.toNat,A.new (.row (dI z c.toNat) n))
 | _=>.no
def afM (A:aw) (v:KV):KV×aw:=
 match v with
 | .al T b o n=>match A.get b with
  | some (.arr (.ts T' m N es acc))=>cond (Nat.beq T T') (.ts T .any n ((es.drop o).take n) (fun i=>acc (o+i)),A.put b (.kW (.ts T' m N es acc))) (.ao,A)
  | some (.kW (.ts T' _ _ es acc))=>cond (Nat.beq T T') (.ts T .any n ((es.drop o).take n) (fun i=>acc (o+i)),A) (.ao,A)
  | _=>(.ao,A)
 | v=>(v,A)
def aaB (A:aw):List KV->List KV×aw
 | []=>([],A)
 | v::vs=>((afM A v).1::(aaB (afM A v).2 vs).1,(aaB (afM A v).2 vs).2)
def akr (A:aw) (v:KV):KV×aw:=
 match v with
 | .agg cs=>(.agg (aaB A cs).1,(aaB A cs).2)
 | v=>afM A v
def Ar (A:aw):List KV->List KV×aw
 | []=>([],A)
 | v::vs=>((akr A v).1::(Ar (akr A v).2 vs).1,(Ar (akr A v).2 vs).2)
def aaC (T b:Nat) (z:KV):FA:=fun A xs=>
 match xs with
 | [.int _ l,.int _ c]=>.lQ (decide (0<=l)&&decide (l<=c)&&Nat.ble (b * c.toNat) 281474976710656) (.al T A.next 0 l.toNat,A.new (.arr (.ts T .any c.toNat (dI [z] c.toNat) (fun _=>z))))
 | _=>.no
def alr (T b:Nat) (z:KV):FP:=fun xs=>
 match xs with
 | [.int _ l,.int _ c]=>.lQ (decide (0<=l)&&decide (l<=c)&&Nat.ble (b * c.toNat) 281474976710656) (.ts T .any l.toNat (dI [z] l.toNat) (fun _=>z))
 | _=>.no
def yC (P:Program) (mt:TypeId->Bool) (t:TypeId) (l c:Operand):tD:=
 match P.underlying t with
 | some (.slice e)=>
  match P.info? e with
  | some i=>match i.zero with
   | some z=>cond (mt (e+1000000)) (cond (Nat.ble 1 i.size&&Nat.ble 1 i.bytes&&Nat.beq z.cells.size i.size&&flat z&&z.cells.toList.all scalar&&Nat.beq (bB P e).ks.length i.size&&cP (bB P e) (fe (bB P e) (iH z))) (.look (alr e i.bytes (fe (bB P e) (iH z))) [l,c]) .bad) <| cond (mt e) (cond (Nat.ble 1 i.size&&Nat.ble 1 i.bytes&&Nat.beq z.cells.size i.size&&flat z&&z.cells.toList.all scalar&&Nat.beq (bB P e).ks.length i.size&&cP (bB P e) (fe (bB P e) (iH z))) (.act (aaC e i.bytes (fe (bB P e) (iH z))) [l,c]) .bad) <| cond (Nat.ble 1 i.size&&Nat.ble 1 i.bytes&&Nat.beq z.cells.size i.size&&flat z&&z.cells.toList.all scalar&&jM (iH z).cells) (.act (Qz i.size i.bytes (iH z).cells) [l,c]) .bad
   | none=>.bad
  | none=>.bad
 | _=>.bad
def CX (es:List KV) (o:Nat) (new:List KV):List KV:=es.take o++new++es.drop (o+new.length)
def aJ (o k:Nat) (f g:Nat->KV):Nat->KV:=fun i=>cond (Nat.blt i o) (f i) (cond (Nat.blt i (o+k)) (g (i - o)) (f i))
def apq (e:Nat):FA:=fun A xs=>
 match xs with
 | [.al e1 b o n,y]=>match Qy A y,A.get b with
  | some (.ts e' _ m new an),some (.arr (.ts e2 _ N es acc))=>cond (Nat.beq e e'&&Nat.beq e e1&&Nat.beq e e2)
    (.ok (.int .i64 (Nat.min m n:Nat),A.put b (.arr (.ts e .any N (CX es o (new.take (Nat.min m n))) (aJ o (Nat.min m n) acc an))))) .no
  | _,_=>.no
 | _=>.no
def SG (P:Program) (argTypes:List TypeId) (args:List Operand):tD:=
 match argTypes with
 | [t,u]=>
  match P.underlying t,P.underlying u with
  | some (.slice e),some (.slice _)=>match size? P e with
   | some n=>cond (Nat.ble 1 n&&Nat.beq (bB P e).ks.length n) (.act (apq e) args) .bad
   | none=>.bad
  | _,_=>.bad
 | _=>.bad
def CY (P:Program) (mt:TypeId->Bool) (b:Builtin) (argTypes:List TypeId) (args:List Operand):tD:=
 match b with
 | .len=>afL P argTypes args
 | .min=>.pure (Mf false) args
 | .max=>.pure (Mf true) args
 | .append=>JW P mt argTypes args
 | .copy=>SG P argTypes args
 | _=>.bad
inductive CZ where
 | no
 | out (e:ae) (t:bO) (A:aw)
 | br (c:Bool) (x y:CZ)
 | once
inductive xE where
 | no
 | out (v:KV) (A:aw)
 | br (c:Bool) (x y:xE)
structure am9 where
 ac:FuncId->Option (List KV->aw->xE)
 mt:TypeId->Bool
 fz:Bool
 eg:Bool
def am9.none:am9:=⟨fun _=>.none,fun _=>false,false,false⟩
structure fE where
 pc:FuncId->Option (List KV->KR KV)
 lp:FuncId->Nat->Option (bO->aw->CZ)
 x:am9
def fE.none:fE:=⟨fun _=>.none,fun _ _=>.none,.none⟩
def ax (P:Program) (f:KV->KV) (t:TypeId) (e:KV):KV:=P0 (bB P t).agg ((leaves e (bB P t).ks 0).map f)
def ai (P:Program) (d:Nat):KV->KV:=Nat.rec (motive:=fun _=>KV->KV) (fun v=>v) (fun _ ih v=>match v with
 | .ts t _ n _ acc=>.ts t .any n ((List.range n).map fun i=>ax P ih t (acc i)) (fun i=>ax P ih t (acc i))
 | v=>v) d
def aj:Nat:=6
def XL (P:Program) (t:TypeId) (v:KV):KV:=cond (cP (bB P t) (fe (bB P t) v)) (ax P (ai P aj) t (fe (bB P t) v)) .ao
def normArgs (P:Program):List TypeId->List KV->List KV
 | t::ts,v::vs=>XL P t v::normArgs P ts vs
 | _,_=>[]
def aG (P:Program) (g:FuncId):List TypeId:=match P.funcs.toList[g]? with
 | some fn=>fn.params.toList
 | none=>[]
def fE.ana (cfg:fE) (g:FuncId):Bool:=cfg.x.fz||cfg.x.mt (2000000+g)
def np (P:Program) (cfg:fE) (c:Call):tD:=
 match c.callee with
 | .value (.func g)=>match cfg.pc g with
  | some F=>cond (cfg.ana g) (.Ir g (fun vs=>cond (Nat.beq vs.length (aG P g).length) (F (normArgs P (aG P g) vs)) .no) c.args.toList)
    (.Ei g (fun vs=>cond (Nat.beq vs.length (aG P g).length) (F (normArgs P (aG P g) vs)) .no) c.args.toList)
  | none=>.call (.func g) c.args.toList
 | .value f=>.call f c.args.toList
 | .builtin b=>CY P cfg.x.mt b c.argTypes.toList c.args.toList
 | .invoke _ _=>.bad
def AY:Fn->Bool
 | .yield _=>true
 | _=>false
def cm (P:Program) (cfg:fE):Op->tD
 | .move x=>.pure aln [x]
 | .assign x=>.pure (cond cfg.x.eg alo aln) [x]
 | .pick c a b=>.pure apo [c,a,b]
 | .alloc t=>rP P t
 | .box t x=>.act (am6 (pL P t)) [x]
 | .build t parts=>vS P t (parts.toList.map (·.1)) (parts.toList.map (·.2))
 | .buildSlice t len parts=>mC P cfg.x.mt t len (parts.toList.map (·.1)) (parts.toList.map (·.2))
 | .load t a=>.read (aay P t) [a]
 | .store t a x=>.act (XI P t) [a,x]
 | .nilCheck x=>.pure afI [x]
 | .binOp op t x y _=>.pure (as8 P op t) [x,y]
 | .unOp op _ x=>.pure (kUn op) [x]
 | .convert src dst x=>rh P src dst x
 | .makeFunc fn first cap=>cond (AY fn) .bad (.pure (NR fn first.size) (first.toList++cap.toList))
 | .fieldAddr s x f=>nQ P s x f
 | .field t x f=>vT P t x f
 | .indexAddr t x ix=>nR P t x ix
 | .index t x ix=>vU P t x ix
 | .extract t ix=>.pure (akp ix) [t]
 | .slice t x lo hi mx=>vV P t x lo hi mx
 | .makeSlice t l c=>yC P cfg.x.mt t l c
 | .call c=>np P cfg c
 | _=>.bad
def mc (t:bO):Operand->KV
 | .tmp i=>(t.get i).getD .ao
 | .const v=>cond (flat v) (iH v) .ao
 | .global _=>.ao
 | .func f=>.fn (.func f) [] []
def mZ (t:bO):List Operand->List KV
 | []=>[]
 | x::xs=>mc t x::mZ t xs
def rY (t:bO) (dst:Option Tmp) (v:KV):bO:=
 match dst with
 | some d=>t.set v d
 | none=>t
def Iu (args:List KV):KV->Option (FuncId×List KV)
 | .fn (.func g) first cap=>some (g,first++args++cap)
 | _=>none
inductive BK where
 | bool (b:Bool)
 | nb
 | no
def xF:KV->BK
 | .bool b=>.bool b
 | .nb _=>.nb
 | _=>.no
section
variable {R:Type}
abbrev px (R:Type):=FuncId->List KV->aw->(KV->aw->Option R)->Option R
def QA (bR:px R) (t:bO) (A:aw) (k:KV->aw->Option R) (ins:tD):Option R:=
 tD.rec (motive:=fun _=>Option R)
  (fun f xs=>(f (mZ t xs)).run fun v=>k v A)
  (fun f xs=>(f A (mZ t xs)).run fun v=>k v A)
  (fun f xs=>(f A (mZ t xs)).run fun p=>k p.1 p.2)
  (fun f xs=>(f (mZ t xs)).run fun v=>k v A)
  (fun _ f xs=>(f (mZ t xs)).run fun v=>k v A)
  (fun _ f xs=>(f (Ar A (mZ t xs)).1).run fun v=>k v (Ar A (mZ t xs)).2)
  (fun f args=>Option.rec (motive:=fun _=>Option R) none (fun p=>bR p.1 p.2 A k) (Iu (mZ t args) (mc t f)))
  none ins
def anb (t:bO) (d:Option Tmp) (want:Bool) (yes no:bO->Option R):Option R:=
 Option.rec (motive:=fun _=>Option R) none (fun d=>BK.rec (motive:=fun _=>Option R)
  (fun b=>Bool.rec (motive:=fun _=>Option R)
   (Bool.rec (motive:=fun _=>Option R) (yes (t.set (.bool false) d)) (no (t.set (.bool false) d)) want)
   (Bool.rec (motive:=fun _=>Option R) (no (t.set (.bool true) d)) (yes (t.set (.bool true) d)) want) b)
  (no t) none (xF ((t.get d).getD .ao))) d
def BS (P:Program) (cfg:fE) (bR:px R) (all:List Oper) (o:Oper) (k:bO->aw->Option R) (t:bO) (A:aw):Option R:=
 Option.rec (motive:=fun _=>Option R) (QA bR t A (fun v A=>k (rY t o.dst v) A) (cm P cfg o.op))
  (fun g=>anb t ((all[g.1]?).bind (·.dst)) g.2 (fun t=>QA bR t A (fun v A=>k (rY t o.dst v) A) (cm P cfg o.op)) (fun t=>k (rY t o.dst uE) A)) o.guard
def vK (P:Program) (cfg:fE) (bR:px R) (all:List Oper) (k:bO->aw->Option R) (os:List Oper):bO->aw->Option R:=
 List.rec (motive:=fun _=>bO->aw->Option R) k (fun o _ ih=>BS P cfg bR all o ih) os
abbrev KE (R:Type):=ae->bO->aw->Option R
def als (t:bO) (c:Operand) (f g:bO->Option R):Option R:=
 match c with
 | .tmp d=>BK.rec (motive:=fun _=>Option R) (fun b=>Bool.rec (motive:=fun _=>Option R) (g (t.set (.bool false) d)) (f (t.set (.bool true) d)) b) none none (xF ((t.get d).getD .ao))
 | c=>BK.rec (motive:=fun _=>Option R) (fun b=>Bool.rec (motive:=fun _=>Option R) (g t) (f t) b) none none (xF (mc t c))
def dE (i:tD):Nat:=tD.rec (motive:=fun _=>Nat) (fun _ _=>0) (fun _ _=>1) (fun _ _=>3) (fun _ _=>0) (fun _ _ _=>0) (fun _ _ _=>3) (fun _ _=>9) 9 i
def ae0:tD->List Operand
 | .pure _ xs=>xs
 | .read _ xs=>xs
 | .act _ xs=>xs
 | .look _ xs=>xs
 | .Ei _ _ xs=>xs
 | .Ir _ _ xs=>xs
 | .call f xs=>f::xs
 | .bad=>[]
def pe (P:Program) (cfg:fE) (all:List Oper) (o:Oper):List Tmp:=HX all o++tA (ae0 (cm P cfg o.op))
def vW (P:Program) (cfg:fE) (all:List Oper) (x y:Oper):Bool:=Qm x.dst (pe P cfg all y)||Qm y.dst (pe P cfg all x)||Xs x.dst y.dst
def Lc (P:Program) (cfg:fE) (all:List Oper) (x y:Oper):Bool:=
 vW P cfg all x y||(Nat.ble 3 (dE (cm P cfg x.op))&&!(Nat.beq (dE (cm P cfg y.op)) 0))||(Nat.ble 3 (dE (cm P cfg y.op))&&!(Nat.beq (dE (cm P cfg x.op)) 0))
def SH:Op->Bool
 | .alloc _=>true
 | .box _ _=>true
 | .call c=>match c.callee with
  | .builtin .append=>true
  | _=>false
 | _=>false
def XM:Op->Option Operand
 | .store _ a _=>some a
 | _=>none
def aqS:Op->Option Operand
 | .load _ a=>some a
 | _=>none
def yD (i:Nat) (x:Operand):List Oper->Nat->Bool
 | [],_=>true
 | o::os,j=>(Nat.blt j i||!(Qm o.dst (tA [x])))&&yD i x os (Nat.succ j)
def NS (i:Nat) (x:Option Operand) (all:List Oper):Bool:=
 match x with
 | some x=>yD i x all 0
 | none=>true
def NT (x y:Oper):Option (Option Operand×Operand):=
 match aqS y.op with
 | some a=>cond (SH x.op) (some (none,a)) (match XM x.op with
  | some a2=>some (some a2,a)
  | none=>none)
 | none=>none
def acg (all:List Oper) (j:Nat) (x:Oper) (i:Nat) (y:Oper):Option (Option Operand×Operand):=
 match NT x y with
 | some p=>cond (yD i p.2 all 0&&NS j p.1 all) (some p) none
 | none=>match NT y x with
  | some p=>cond (yD j p.2 all 0&&NS i p.1 all) (some p) none
  | none=>none
def Mh (t:bO) (nx:Nat) (p:Option Operand×Operand):Bool:=
 match mc t p.2 with
 | .tp _ _ _ _ _ _=>true
 | .ptr b _=>Nat.blt b nx&&(match p.1 with
  | some a2=>(match mc t a2 with
   | .ptr b2 _=>!(Nat.beq b b2)
   | .ap _ _ _ _ _=>true
   | _=>false)
  | none=>true)
 | _=>false
def VG (t:bO) (nx:Nat) (l:List (Option Operand×Operand)):Bool:=List.rec (motive:=fun _=>Bool) true (fun p _ ih=>Bool.rec false ih (Mh t nx p)) l
def FO (P:Program) (cfg:fE) (all:List Oper) (b:List Nat) (i:Nat) (y:Oper):List Oper->Nat->List (Option Operand×Operand)
 | [],_=>[]
 | x::xs,j=>cond (Nat.ble i j||!Lc P cfg all x y||rX b i j) (FO P cfg all b i y xs (Nat.succ j)) (match acg all j x i y with
  | some p=>p::FO P cfg all b i y xs (Nat.succ j)
  | none=>FO P cfg all b i y xs (Nat.succ j))
def aaD (P:Program) (cfg:fE) (all:List Oper) (b:List Nat):List Oper->Nat->List (Option Operand×Operand)
 | [],_=>[]
 | o::os,i=>FO P cfg all b i o all 0++aaD P cfg all b os (Nat.succ i)
def VH (P:Program) (cfg:fE) (all:List Oper):Bool:=all.all fun o=>!(Nat.ble 3 (dE (cm P cfg o.op)))||SH o.op||(XM o.op).isSome
def Ld (P:Program) (cfg:fE) (all:List Oper):List (Option Operand×Operand):=aaD P cfg all (fF [] all) all 0
def SI (P:Program) (cfg:fE) (all:List Oper) (b:List Nat) (i:Nat) (y:Oper):List Oper->Nat->Bool
 | [],_=>true
 | x::xs,j=>(Nat.ble i j||!Lc P cfg all x y||rX b i j||(!vW P cfg all x y&&(acg all j x i y).isSome))&&SI P cfg all b i y xs (Nat.succ j)
def Mi (P:Program) (cfg:fE) (all:List Oper) (b:List Nat):List Oper->Nat->Bool
 | [],_=>true
 | o::os,i=>SI P cfg all b i o all 0&&Mi P cfg all b os (Nat.succ i)
def anc (P:Program) (cfg:fE) (all:List Oper):Bool:=L6 P all&&all.all (fun o=>Nat.ble (dE (cm P cfg o.op)) 3)&&Mi P cfg all (fF [] all) all 0&&((Ld P cfg all).isEmpty||VH P cfg all)
def jk (o:Oper):Option (TypeId×Tmp):=
 match o.op,o.guard,o.dst with
 | .alloc T,none,some d=>some (T,d)
 | _,_,_=>none
def y8 (d:Tmp):List Oper->Bool
 | []=>false
 | o::os=>(match jk o with
  | some (_,e)=>Nat.beq d e
  | none=>false)||y8 d os
def uT (all:List Oper) (o:Oper):Option (TypeId×Tmp×Operand):=
 match o.op,o.guard,o.dst with
 | .store T (.tmp d) x,none,none=>cond (y8 d all) (some (T,d,x)) none
 | _,_,_=>none
def sv (all:List Oper) (o:Oper):Bool:=(jk o).isSome||(uT all o).isSome
def uU (all:List Oper) (d:Tmp):List Oper->Option (TypeId×Operand)
 | []=>none
 | o::os=>match uT all o with
  | some (T,e,x)=>cond (Nat.beq d e) (some (T,x)) (uU all d os)
  | none=>uU all d os
def Mj (i:Nat) (d:Tmp):List Oper->Nat->Bool
 | [],_=>true
 | o::os,j=>(Nat.beq j i||!(Qm o.dst [d]))&&Mj i d os (Nat.succ j)
def Em (all:List Oper) (i:Nat) (d:Tmp):List Oper->Nat->Bool
 | [],_=>true
 | o::os,j=>(Nat.beq j i||(match uT all o with
  | some (_,e,_)=>!(Nat.beq d e)
  | none=>true))&&Em all i d os (Nat.succ j)
def QB (all:List Oper):List Oper->Nat->Bool
 | [],_=>true
 | o::os,i=>(match jk o with
  | some (_,d)=>Mj i d all 0
  | none=>true)&&(match uT all o with
  | some (_,d,x)=>yD i x all 0&&Em all i d all 0&&y8 d (all.take i)&&!(Qm (some d) (tA [x]))
  | none=>true)&&QB all os (Nat.succ i)
def H0 (P:Program) (cfg:fE) (all:List Oper) (b:List Nat) (i:Nat) (y:Oper):List Oper->Nat->Bool
 | [],_=>true
 | x::xs,j=>(Nat.ble i j||!vW P cfg all x y||rX b i j)&&H0 P cfg all b i y xs (Nat.succ j)
def Ci (P:Program) (cfg:fE) (all:List Oper) (b:List Nat):List Oper->Nat->Bool
 | [],_=>true
 | o::os,i=>H0 P cfg all b i o all 0&&Ci P cfg all b os (Nat.succ i)
def Ml (o:Oper):Option (Operand×List Operand):=
 match o.op,o.guard with
 | .call c,none=>match c.callee with
  | .value (.tmp d)=>some (.tmp d,c.args.toList)
  | _=>none
 | _,_=>none
def Hn (P:Program) (cfg:fE) (t:bO) (p:Operand×List Operand):tD:=
 match mc t p.1 with
 | .fn (.func g) [] []=>match cfg.pc g with
  | some F=>.Ei g (fun vs=>cond (Nat.beq vs.length (aG P g).length) (F (normArgs P (aG P g) vs)) .no) p.2
  | none=>.bad
 | _=>.bad
def XN (P:Program) (cfg:fE) (all:List Oper):Bool:=L6 P all&&all.all (fun o=>sv all o||Nat.ble (dE (cm P cfg o.op)) 1||(Ml o).isSome)&&Ci P cfg all (fF [] all) all 0&&QB all all 0
def apr (P:Program) (cfg:fE) (bR:px R) (all:List Oper) (o:Oper) (k:bO->aw->Option R) (t:bO) (A:aw):Option R:=
 Bool.rec (motive:=fun _=>Option R) (Option.rec (motive:=fun _=>Option R) (BS P cfg bR all o k t A) (fun p=>QA bR t A (fun v A=>k (rY t o.dst v) A) (Hn P cfg t p)) (Ml o)) (k (rY t o.dst .ao) A) (sv all o)
def afN (P:Program) (cfg:fE) (bR:px R) (all:List Oper) (k:bO->aw->Option R) (os:List Oper):bO->aw->Option R:=
 List.rec (motive:=fun _=>bO->aw->Option R) k (fun o _ ih=>apr P cfg bR all o ih) os
def y9 (P:Program) (all:List Oper) (t:bO) (T:TypeId) (d:Tmp):Option (List KV):=
 match vN P T with
 | some z=>cond (flat z&&z.cells.toList.all scalar&&jM (iH z).cells&&decide (some (iH z).cells.length=size? P T)) (match uU all d all with
  | some (T',x)=>cond (Nat.beq T T'&&decide (some (mc t x).cells.length=size? P T)&&jM (mc t x).cells) (some (mc t x).cells) none
  | none=>some (iH z).cells) none
 | none=>none
def ach (P:Program) (all:List Oper) (t0:bO) (k:bO->aw->Option R) (os:List Oper):bO->aw->Option R:=
 List.rec (motive:=fun _=>bO->aw->Option R) k (fun o _ ih t A=>Option.rec (motive:=fun _=>Option R) (ih t A) (fun p=>
  Option.rec (motive:=fun _=>Option R) none (fun cs=>ih (t.set (.ptr A.next 0) p.2) (A.new (.row cs (pL P p.1)))) (y9 P all t0 p.1 p.2)) (jk o)) os
def atb (P:Program) (cfg:fE) (o:Oper):Bool:=
 match cm P cfg o.op with
 | .call _ _=>true
 | _=>false
def aks (P:Program) (cfg:fE):List Oper->Nat->Option Nat
 | [],_=>none
 | o::os,i=>cond (atb P cfg o) (some i) (aks P cfg os (Nat.succ i))
def Mm (P:Program) (cfg:fE) (b:List Nat) (i:Nat):List Oper->Nat->Bool
 | [],_=>true
 | q::os,j=>cond (Nat.beq j i) true (cond (Nat.blt j i) (cond (Nat.beq (dE (cm P cfg q.op)) 0) true (rX b i j)) (rX b j i))&&Mm P cfg b i os (Nat.succ j)
def Mn (P:Program) (cfg:fE) (b:List Nat) (all:List Oper):List Oper->Nat->Bool
 | [],_=>true
 | o::os,i=>cond (Nat.ble (dE (cm P cfg o.op)) 1) true (Mm P cfg b i all 0)&&Mn P cfg b all os (Nat.succ i)
def NU (P:Program) (cfg:fE) (all:List Oper):Bool:=
 match aks P cfg all 0 with
 | some _=>L6 P all&&Ci P cfg all (fF [] all) all 0&&Mn P cfg (fF [] all) all all 0
 | none=>false
def afO (P:Program) (cfg:fE) (bR:px R) (ops:List Oper) (draw:Bool) (k:bO->aw->Option R):bO->aw->Option R:=
 Bool.rec (motive:=fun _=>bO->aw->Option R) (vK P cfg bR ops k ops) (Bool.rec (motive:=fun _=>bO->aw->Option R)
  (Bool.rec (motive:=fun _=>bO->aw->Option R)
   (Bool.rec (motive:=fun _=>bO->aw->Option R) (fun _ _=>none) (afN P cfg bR ops (fun t A=>ach P ops t k ops t A) ops) (XN P cfg ops))
   (vK P cfg bR ops k ops) (NU P cfg ops))
  (fun t A=>vK P cfg bR ops (fun t' A'=>Bool.rec (motive:=fun _=>Option R) none (k t' A') (VG t' A.next (Ld P cfg ops))) ops t A) (anc P cfg ops)) draw
def VI (k:KE R) (f:bO->aw->Option R):KE R:=fun e t A=>ae.rec (motive:=fun _=>Option R) (f t A) (fun i=>k (.exit i) t A) (fun l=>k (.goto l) t A) (k .ret t A) e
def aqT (id:Nat) (k:KE R):KE R:=fun e t A=>ae.rec (motive:=fun _=>Option R) (k .normal t A) (fun i=>Bool.rec (motive:=fun _=>Option R) (k (.exit i) t A) (k .normal t A) (Nat.beq i id)) (fun l=>k (.goto l) t A) (k .ret t A) e
def afP (k:KE R):KE R:=fun e t A=>ae.rec (motive:=fun _=>Option R) (k .normal t A) (fun i=>k (.exit i) t A) (fun _=>none) (k .ret t A) e
def aaE (g:KE R->bO->aw->Option R) (k:KE R) (L:Nat):bO->aw->Option R:=
 Nat.rec (motive:=fun _=>bO->aw->Option R) (fun _ _=>none) (fun _ ih=>g (VI k ih)) L
def xE.run (k:KV->aw->Option R) (x:xE):Option R:=xE.rec (motive:=fun _=>Option R) none (fun v A=>k v A) (fun c _ _ rx ry=>Bool.rec (motive:=fun _=>Option R) ry rx c) x
def CZ.run (k:KE R) (x:CZ):Option R:=CZ.rec (motive:=fun _=>Option R) none (fun e t A=>k e t A) (fun c _ _ rx ry=>Bool.rec (motive:=fun _=>Option R) ry rx c) none x
def VJ (F:bO->aw->CZ) (k:KE R) (t:bO) (A:aw):Option R:=(F t A).run k
def alu (x:CZ):Bool:=CZ.rec (motive:=fun _=>Bool) false (fun _ _ _=>false) (fun _ _ _ _ _=>false) true x
def aaF (g:KE R->bO->aw->Option R) (F:bO->aw->CZ) (k:KE R) (L:Nat):bO->aw->Option R:=
 Nat.rec (motive:=fun _=>bO->aw->Option R) (fun t A=>VJ F k t A) (fun _ ih t A=>Bool.rec (motive:=fun _=>Option R) (VJ F k t A) (g (VI k ih) t A) (alu (F t A))) L
def iI:Nat:=10000000000000
def rZ (P:Program) (cfg:fE) (bR:px R) (L:Nat) (f:FuncId) (c:Code):Nat->KE R->bO->aw->Option R:=
 Code.rec (motive:=fun _=>Nat->KE R->bO->aw->Option R) (fun _ k t A=>k .normal t A)
  (fun _ ops d _ k=>afO P cfg bR ops.toList d (fun t A=>k .normal t A))
  (fun _ _ a b p k=>a (2 * p) (VI k fun t A=>b (2 * p+1) k t A))
  (fun c _ _ a b p k t A=>als t c (fun t=>a (2 * p) k t A) (fun t=>b (2 * p+1) k t A))
  (fun id _ g p k=>g (2 * p) (aqT id k))
  (fun _ g p k=>Option.rec (motive:=fun _=>bO->aw->Option R) (aaE (g (2 * p)) k L) (fun F=>aaF (g (2 * p)) F k L) (cfg.lp f p))
  (fun _ _ _ _ _ _ _ _ _ _=>none) (fun id _ k t A=>k (.exit id) t A) (fun _ g p k=>g (2 * p) (afP k)) (fun _ _ k t A=>k .normal t A) (fun l _ k t A=>k (.goto l) t A) (fun _ k t A=>k .ret t A) (fun _ _ _ _ _=>none) c
def pO:List KV->Nat->bO->bO
 | [],_,t=>t
 | v::vs,i,t=>pO vs (Nat.succ i) (t.set v i)
def Mo (P:Program) (A:aw) (t:bO):List ResultVar->Option (List KV)
 | []=>some []
 | .tmp x::rs=>(Mo P A t rs).map (mc t (.tmp x)::·)
 | .cell a ty::rs=>match aay P ty A [mc t (.tmp a)] with
  | .ok v=>(Mo P A t rs).map (v::·)
  | _=>none
def Iv:List KV->KV
 | [v]=>v
 | vs=>.nb vs
def ane (P:Program) (fn:Func) (k:List KV->aw->Option R):KE R:=fun e t A=>
 ae.rec (motive:=fun _=>Option R) (Option.rec (motive:=fun _=>Option R) none (fun vs=>k vs A) (Mo P A t fn.results.toList)) (fun _=>none) (fun _=>none) (Option.rec (motive:=fun _=>Option R) none (fun vs=>k vs A) (Mo P A t fn.results.toList)) e
def aaG (P:Program) (cfg:fE) (bR:px R) (L:Nat) (f:FuncId) (args:List KV) (A:aw) (k:List KV->aw->Option R):Option R:=
 match P.funcs.toList[f]? with
 | some fn=>match fn.body with
  | some c=>rZ P cfg bR L f c 1 (ane P fn k) (pO args 0 .leaf) A
  | none=>none
 | none=>none
def JX (P:Program) (cfg:fE) (L:Nat) (n:Nat):px R:=
 Nat.rec (motive:=fun _=>px R) (fun _ _ _ _=>none) (fun _ ih f args A k=>
  Bool.rec (motive:=fun _=>Option R) none (Option.rec (motive:=fun _=>Option R) (aaG P cfg ih L f args A fun vs B=>k (Iv vs) B) (fun F=>xE.run k (F args A)) (cfg.x.ac f)) (Nat.blt f yB)) n
end
def za (P:Program):List TypeId->List KV->List KV
 | t::ts,v::vs=>XL P t v::za P ts vs
 | _,_=>[]
def uW (P:Program) (g:FuncId):List TypeId:=match P.funcs.toList[g]? with
 | some fn=>fn.resultTypes.toList
 | none=>[]
def cD (P:Program) (cfg:fE) (L n:Nat) (f:FuncId) (args:List KV):Option KV:=
 aaG P cfg (JX P cfg L n) L f args .empty fun vs A=>Bool.rec (motive:=fun _=>Option KV) none (some (Iv (za P (uW P f) (Ar A vs).1))) (Nat.beq vs.length (uW P f).length)
end
end Go.K
end
