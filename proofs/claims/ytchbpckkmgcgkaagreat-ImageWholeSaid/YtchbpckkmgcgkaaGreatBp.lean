/- Part of the proof of ImageWhole: the machine, shown to be the model's, and plain models. No conditions. -/
import Derived.Test.YtchbpckkmgcgkaaGreatAp
import Derived.Laws.Slices
import Derived.Laws.MakeOwn
import Derived.Laws.AppendOwn
import Derived.MapKept
import Derived.Laws.IdiomStrings
import Derived.OrdersIn
import Derived.LoopNIn
import Derived.RangeFuncRecord
import Derived.Scope
set_option linter.unusedSimpArgs false
set_option linter.unusedVariables false
section
namespace Go.aF
open Go
section
variable {P:Program} {o:Oper}
theorem lu {ρ:a7} {y y' : Nat} {v v' : Value} {r:Nat} (hv:VR ρ v v') (h:bnd y v=some r) (hy:y<=y') :
  r<=y/\∀ code w,(Instr.sliceBound v' y' code).run P w = .ok r w:=by
 unfold bnd at h;split at h
 ·rename_i k i
  obtain ⟨rfl,bt⟩:=EU h;have:=hv.dR;subst this;have hle:r<=y:=by omega
  refine ⟨hle,fun code w=>?_⟩;have:=run_sliceBound (P:=P) w k (r:Int) y' code (by omega) (by omega);simpa using this
 ·simp at h
theorem M4 {ρ:a7} {ev df:Operand->Value} {lo hi mx:Option Operand} {len cap agz l h m:Nat} (he:BZ ρ ev df (hM lo++hM hi++hM mx))
  (hb:xy len cap lo.isSome hi.isSome mx.isSome ((hM lo++hM hi++hM mx).map ev)=some (l,h,m)) (hc:cap<=agz) (MP:len<=cap) :
  l<=h/\h<=m/\m<=cap/\m<=(cond mx.isSome m agz)/\(cond mx.isSome m agz)<=agz/\(mx.isSome=false->m=cap)/\∀ b w,(Instr.sliceBounds b len agz (lo.map df) (hi.map df) (mx.map df)).run P w = .ok (l,h,cond mx.isSome m agz) w:=by
 cases lo with
 | none=>
  cases hi with
  | none=>
   cases mx with
   | none=>
    simp [hM,xy] at hb;obtain ⟨rfl,rfl,rfl⟩:=hb;exact ⟨by omega,MP,aW _,hc,aW _,fun _=>rfl,fun b w=>by simp [Instr.sliceBounds]⟩
   | some x=>simp [hM,xy] at hb
  | some y=>
   cases mx with
   | none=>
    simp only [hM,Option.isSome,List.nil_append,py,List.map,xy,de] at hb;obtain ⟨r,hr,hb⟩:=hb;simp at hb;obtain ⟨rfl,rfl,rfl⟩:=hb;obtain ⟨h1,h2⟩:=lu (P:=P) (he y (by simp [hM])) hr hc;exact ⟨by omega,h1,aW _,hc,aW _,fun _=>rfl,fun b w=>by simp [Instr.sliceBounds,h2]⟩
   | some z=>
    simp only [hM,Option.isSome,List.nil_append,List.map,List.cons_append,xy,dr,de] at hb;obtain ⟨r,hr,q,hq,hb⟩:=hb;simp at hb;obtain ⟨rfl,rfl,rfl⟩:=hb;obtain ⟨h1,h2⟩:=lu (P:=P) (he z (by simp [hM])) hr hc;obtain ⟨h3,h4⟩:=lu (P:=P) (he y (by simp [hM])) hq (aW _);exact ⟨by omega,h3,h1,aW _,by simp; omega,fun h=>by simp at h,fun b w=>by simp [Instr.sliceBounds,h2,h4]⟩
 | some x=>
  cases hi with
  | none=>
   cases mx with
   | none=>
    simp only [hM,Option.isSome,py,List.map,xy,de] at hb;obtain ⟨r,hr,hb⟩:=hb;simp at hb;obtain ⟨rfl,rfl,rfl⟩:=hb;obtain ⟨h1,h2⟩:=lu (P:=P) (he x (by simp [hM])) hr (aW _);exact ⟨h1,MP,aW _,hc,aW _,fun _=>rfl,fun b w=>by simp [Instr.sliceBounds,h2]⟩
   | some x=>simp [hM,xy] at hb
  | some y=>
   cases mx with
   | none=>
    simp only [hM,Option.isSome,py,List.map,List.cons_append,List.nil_append,xy,dr,de] at hb;obtain ⟨r,hr,q,hq,hb⟩:=hb;simp at hb;obtain ⟨rfl,rfl,rfl⟩:=hb;obtain ⟨h1,h2⟩:=lu (P:=P) (he y (by simp [hM])) hr hc;obtain ⟨h3,h4⟩:=lu (P:=P) (he x (by simp [hM])) hq (aW _);exact ⟨h3,h1,aW _,hc,aW _,fun _=>rfl,fun b w=>by simp [Instr.sliceBounds,h2,h4]⟩
   | some z=>
    simp only [hM,Option.isSome,List.map,List.cons_append,List.nil_append,xy,dr,de] at hb;obtain ⟨r,hr,q,hq,s,hs,hb⟩:=hb;simp at hb;obtain ⟨rfl,rfl,rfl⟩:=hb;obtain ⟨h1,h2⟩:=lu (P:=P) (he z (by simp [hM])) hr hc;obtain ⟨h3,h4⟩:=lu (P:=P) (he y (by simp [hM])) hq (aW _);obtain ⟨h5,h6⟩:=lu (P:=P) (he x (by simp [hM])) hs (aW _);exact ⟨h5,h3,h1,aW _,by simp; omega,fun h=>by simp at h,fun b w=>by simp [Instr.sliceBounds,h2,h4,h6]⟩
theorem agA {A:St} {b n:Nat} (h:HN A b n=true):∃ cs own bV,A.get b=some (.row cs n own bV):=by
 unfold HN at h;split at h
 ·rename_i cs cc own bV hg
  have:=bm h;subst this;exact ⟨cs,own,bV,hg⟩
 ·simp at h
theorem ok_slice {t:TypeId} {x:Operand} {lo hi mx:Option Operand} (ho:o.op = .slice t x lo hi mx):js P o (O4 P t x lo hi mx):=by
 unfold O4;split
 ·rename_i e hu
  split
  ·rename_i n hn
   cases Pe:Nat.ble 1 n with
   | false=>exact True.intro
   | true=>
    rw [ai];have Pe:1<=n:=gD Pe;intro ρ A base w ev df v hs he hf;have hx:=he x (by simp);have hsl:P.underlying t=some (.slice (P.elem t))->True:=fun _=>trivial;simp only [List.map,Ed] at hf;split at hf
    ·rename_i len cap vs e1
     simp only [List.cons.injEq] at e1;obtain ⟨e1,e2⟩:=e1;rw [e1] at hx;have hx:=hx.kH;subst e2;obtain ⟨⟨l,h,m⟩,hb,rfl⟩:=de.1 hf;by_cases MP:len<=cap
     ·obtain ⟨h1,h2,h3,h4,h5,h6,h7⟩:=M4 (P:=P) he.tail hb (aW _) MP
      have hm:cond mx.isSome m cap=m:=by cases hmx:mx.isSome <;> simp; exact (h6 hmx).symm
      refine ⟨.slice none (h - l) (m - l),by simp [VR],?_⟩;simp [execOp,ho,Instr.sliceAt,Instr.slice,bI hu,hx,h7,hm,rL hn]
     ·
      have key:∀ b w,(Instr.sliceBounds b len cap (lo.map df) (hi.map df) (mx.map df)).run P w = .ok (l,h,m) w:=by
       intro b w;have asc:cap<=len:=by omega
       cases lo with
       | none=>
        cases hi with
        | none=>
         cases mx with
         | none=>simp [hM,xy] at hb; obtain ⟨rfl,rfl,rfl⟩:=hb; simp [Instr.sliceBounds]
         | some x=>simp [hM,xy] at hb
        | some y=>
         cases mx with
         | none=>
          simp only [hM,Option.isSome,List.nil_append,py,List.map,xy,de] at hb;obtain ⟨r,hr,hb⟩:=hb;simp at hb;obtain ⟨rfl,rfl,rfl⟩:=hb;have:=(lu (P:=P) (he y (by simp [hM])) hr (aW _)).2;simp [Instr.sliceBounds,this]
         | some z=>
          simp only [hM,Option.isSome,List.nil_append,List.map,List.cons_append,xy,dr,de] at hb;obtain ⟨r,hr,q,hq,hb⟩:=hb;simp at hb;obtain ⟨rfl,rfl,rfl⟩:=hb;have h2:=(lu (P:=P) (he z (by simp [hM])) hr (aW _)).2;have h4:=(lu (P:=P) (he y (by simp [hM])) hq (aW _)).2;simp [Instr.sliceBounds,h2,h4]
       | some x'=>
        cases hi with
        | none=>
         cases mx with
         | none=>
          simp only [hM,Option.isSome,py,List.map,xy,de] at hb;obtain ⟨r,hr,hb⟩:=hb;simp at hb;obtain ⟨rfl,rfl,rfl⟩:=hb;have:=(lu (P:=P) (he x' (by simp [hM])) hr (aW _)).2;simp [Instr.sliceBounds,this]
         | some x=>simp [hM,xy] at hb
        | some y=>
         cases mx with
         | none=>
          simp only [hM,Option.isSome,py,List.map,List.cons_append,List.nil_append,xy,dr,de] at hb;obtain ⟨r,hr,q,hq,hb⟩:=hb;simp at hb;obtain ⟨rfl,rfl,rfl⟩:=hb;have h2:=(lu (P:=P) (he y (by simp [hM])) hr (aW _)).2;have h4:=(lu (P:=P) (he x' (by simp [hM])) hq (aW _)).2;simp [Instr.sliceBounds,h2,h4]
         | some z=>
          simp only [hM,Option.isSome,List.map,List.cons_append,List.nil_append,xy,dr,de] at hb;obtain ⟨r,hr,q,hq,s,hs',hb⟩:=hb;simp at hb;obtain ⟨rfl,rfl,rfl⟩:=hb;have h2:=(lu (P:=P) (he z (by simp [hM])) hr (aW _)).2;have h4:=(lu (P:=P) (he y (by simp [hM])) hq (aW _)).2;have h6:=(lu (P:=P) (he x' (by simp [hM])) hs' (aW _)).2;simp [Instr.sliceBounds,h2,h4,h6]
      refine ⟨.slice none (h - l) (m - l),by simp [VR],?_⟩;simp [execOp,ho,Instr.sliceAt,Instr.slice,bI hu,hx,key,rL hn]
    ·rename_i a len cap vs e1
     simp only [List.cons.injEq] at e1;obtain ⟨e1,e2⟩:=e1;rw [e1] at hx;subst e2;obtain ⟨A9,MP,lc,a',c',hl,yo,TZ,sW,h'⟩:=hx.rZ;cases hg:(dC a&&HN A a.block n) with
     | false=>rw [hg] at hf; simp at hf
     | true=>
      rw [hg,ai] at hf;obtain ⟨_,ZW⟩:=Bool.and_eq_true_iff.1 hg;obtain ⟨cs,own,bV,lD⟩:=agA ZW;obtain ⟨l2,qf,ok⟩:=hs.row _ _ _ _ _ lD;rw [hl] at qf; simp at qf; subst qf;have hez:lc.cc=n:=ok.cc;obtain ⟨⟨l,h,m⟩,hb,rfl⟩:=de.1 hf;obtain ⟨h1,h2,h3,h4,h5,h6,h7⟩:=M4 (P:=P) he.tail hb yo MP;generalize hm' : cond mx.isSome m c' = m' at h4 h5 h7;refine ⟨.slice (some (if m' = l then a' else a'.add (l * n))) (h - l) (m' - l),?_,?_⟩
      ·simp only [VR]
       refine ⟨trivial,by omega,lc,_,m' - l,hl,by omega,fun eY=>?_,?_,rfl⟩
       ·rw [ay (by omega),TZ (by omega),nR]
        simp only [HL]
       ·rw [hez]
        rw [hez] at sW;have e5:l * n+(m' - l) * n=m' * n:=by rw [<- Nat.add_mul]; congr 1; omega
        have e6:m' * n<=c' * n:=Nat.mul_le_mul_right _ h5;omega
      ·simp only [execOp,ho,Instr.sliceAt,Instr.slice,Sem.run_bind,bI hu,n8,h',h7,rL hn]
       by_cases hml:m' = l <;> simp [hml]
    ·simp at hf
  ·trivial
 ·rename_i len e hu
  split
  ·rename_i n hn
   cases Pe:Nat.ble 1 n with
   | false=>exact True.intro
   | true=>
    rw [ai];intro ρ A base w ev df v hs he hf;have hx:=he x (by simp);simp only [List.map,QX] at hf;split at hf
    ·rename_i a vs e1
     simp only [List.cons.injEq] at e1;obtain ⟨e1,e2⟩:=e1;rw [e1] at hx;subst e2;obtain ⟨A9,lc,hl,h'⟩:=hx.kc;cases hg:(dC a&&HN A a.block n&&Nat.ble (a.off+len * n) (ZJ A a.block)) with
     | false=>rw [hg] at hf; simp at hf
     | true=>
      rw [hg,ai] at hf;simp only [aD] at hg;obtain ⟨⟨_,ZW⟩,hlen⟩:=hg;obtain ⟨cs,own,bV,lD⟩:=agA ZW;obtain ⟨l2,qf,ok⟩:=hs.row _ _ _ _ _ lD;rw [hl] at qf; simp at qf; subst qf;have hez:lc.cc=n:=ok.cc;have hlen:=gD hlen;have Ip:ZJ A a.block=cs.length:=by unfold ZJ; rw [lD]
      rw [Ip] at hlen;have hft:=ok.fits;obtain ⟨⟨l,h,m⟩,hb,rfl⟩:=de.1 hf;obtain ⟨h1,h2,h3,h4,h5,h6,h7⟩:=M4 (P:=P) he.tail hb (aW _) (aW _);have hm:cond mx.isSome m len=m:=by cases hmx:mx.isSome <;> simp; exact (h6 hmx).symm
      rw [hm] at h7;refine ⟨.slice (some (if m=l then ⟨lc.cb,lc.fe+a.off,none⟩ else (⟨lc.cb,lc.fe+a.off,none⟩:Addr).add (l * n))) (h - l) (m - l),?_,?_⟩
      ·simp only [VR]
       refine ⟨trivial,by omega,lc,_,m - l,hl,aW _,fun eY=>?_,?_,rfl⟩
       ·rw [ay (by omega),nR]
        simp only [HL]
       ·rw [hez]
        have e5:l * n+(m - l) * n=m * n:=by rw [<- Nat.add_mul]; congr 1; omega
        have e6:m * n<=len * n:=Nat.mul_le_mul_right _ h3;omega
      ·simp only [execOp,ho,Instr.sliceAt,Sem.run_bind,bI hu,n8,h',Instr.sureAddr,Sem.run_pure,h7,rL hn]
    ·simp at hf
  ·trivial
 ·rename_i hu
  cases hmx:mx with
  | some z=>exact True.intro
  | none=>
   show js P o (.pure (K8 lo.isSome hi.isSome) (x::(hM lo++hM hi)));intro ρ ev df v he hf;have hx:=he x (by simp);simp only [List.map,K8] at hf;split at hf
   ·rename_i s vs e1
    simp only [List.cons.injEq] at e1;obtain ⟨e1,e2⟩:=e1;rw [e1] at hx;have hx:=hx.sX;subst e2;obtain ⟨⟨l,h,m⟩,hb,rfl⟩:=de.1 hf;have Iq:BZ ρ ev df (hM lo++hM hi++hM (none:Option Operand)):=by simpa [hM] using he.tail
    obtain ⟨h1,h2,h3,h4,h5,h6,h7⟩:=M4 (P:=P) (mx:=none) Iq (by simpa [hM] using hb) (aW _) (aW _);simp only [Option.isSome_none,aw,Option.map_none] at h7;refine ⟨.string (s.extract l h),?_,fun w=>?_⟩
    ·have e:(⟨⟨(s.data.toList.drop l).take (h - l)⟩⟩:ByteArray)=s.extract l h:=by
      apply ByteArray.ext;apply Array.ext';simp [ByteArray.data_extract,List.extract_eq_take_drop]
     rw [e];simp [VR]
    ·simp [execOp,ho,Instr.sliceAt,Instr.slice,bI hu,hx,hmx,h7]
   ·simp at hf
 ·trivial
theorem ai6 {t:TypeId} {l c:Operand} (ho:o.op = .makeSlice t l c):js P o (CN P t l c):=by
 unfold CN;split
 ·rename_i e hu
  split
  ·rename_i i hi
   split
   ·rename_i z hz
    cases hc:(Nat.ble 1 i.size&&Nat.ble 1 i.bytes&&Nat.beq z.cells.size i.size&&flat z&&z.cells.toList.all scalar) with
    | false=>exact True.intro
    | true=>
     rw [ai];simp only [aD] at hc;obtain ⟨⟨⟨⟨h1,h2⟩,h3⟩,h4⟩,h5⟩:=hc;have hn:1<=i.size:=gD h1;have hb:1<=i.bytes:=gD h2;have hzs:z.cells.size=i.size:=bm h3;rw [iu] at h5;intro ρ ev df obj mk he hf;simp only [List.map,Il] at hf;split at hf
     ·rename_i k1 l0 k2 c0 e1
      simp only [List.cons.injEq,and_true] at e1;cases hk:(Nat.ble l0 c0&&Nat.ble (i.bytes * c0) 281474976710656) with
      | false=>rw [hk] at hf; simp at hf
      | true=>
       rw [hk,ai] at hf;obtain ⟨Pf,hk2⟩:=Bool.and_eq_true_iff.1 hk;have hle:l0<=c0:=gD Pf;have hbc:i.bytes * c0<=281474976710656:=gD hk2;simp only [dG,gF] at hf;obtain ⟨rfl,rfl⟩:=hf;have hl:=he l (by simp);have yo:=he c (by simp);rw [e1.1] at hl;rw [e1.2] at yo;have hl:=hl.dR;have yo:=yo.dR;have e2:madeCells z.cells (c0 * i.size)=⟨ie z.cells.toList c0⟩:=by
        unfold madeCells;rw [<- hzs];exact YC z.cells c0 (by omega)
       have hc0:c0<=i.bytes * c0:=Nat.le_mul_of_pos_left _ hb;have awa:∀ (z:List Value) (k:Nat),(ie z k).length=k * z.length:=by
        intro z k
        induction k with
        | zero=>simp [ie]
        | succ k ih=>simp [ie,ih,Nat.succ_mul,Nat.add_comm]
       have awb:∀ (z:List Value) (k:Nat) (v:Value),v∈ie z k->v∈z:=by
        intro z k v
        induction k with
        | zero=>simp [ie]
        | succ k ih=>simp only [ie,mI]; exact fun h=>h.elim id ih
       refine ⟨.cells ⟨ie z.cells.toList c0⟩ e,fun b=>.slice (some ⟨b,0,none⟩) l0 c0,⟨_,e,rfl,eN.repeat (M3 h4) c0,fun v hv=>h5 v (awb _ _ _ hv)⟩,fun w=>?_,fun a8 n cb ob=>?_⟩
       ·have hr:=run_make (P:=P) w t e i z hu hi hz k1 k2 (l0:Int) (c0:Int) (by omega) (by omega) (by rw [<- Int.natCast_mul]; exact Int.ofNat_le.2 hbc) (by omega)
        have tG:df l = .int k1 (l0:Int):=hl;have hc' : df c = .int k2 (c0:Int):=yo;simp only [bU,e2] at hr;simp [execOp,ho,tG,hc',hr]
       ·simp only [VR]
        refine ⟨trivial,hle,_,⟨cb,0,none⟩,c0,ob,aW _,fun _=>rfl,?_,rfl⟩;show 0+0+c0 * i.size<=(ie z.cells.toList c0).length;rw [awa];simp [hzs]
     ·simp at hf
   ·trivial
  ·trivial
 ·trivial
theorem aqS {t:TypeId} {x:Operand} (ho:o.op = .makeInterface t x):js P o (abZ P t x):=by
 unfold abZ;split
 ·trivial
 ·rename_i d hu hd
  intro ρ ev df v he hf;simp [apO] at hf;subst hf;refine ⟨.iface t (df x),by simp only [VR]; exact ⟨_,he x (by simp),rfl⟩,fun w=>?_⟩;simp only [execOp,ho,Instr.makeInterface,Sem.run_bind,bI hd,n8];cases d <;> first | rfl | exact absurd rfl (hu _)
 ·trivial
theorem ZX {ρ:a7} {s:List Value->Sem Value} {vs cU:List Value} {v:Value} (hv:eN ρ vs cU) (h:QW P s vs=some v):VR ρ v v/\∀ w,(s cU).run P w = .ok v w:=by
 unfold QW at h;cases hf:zM vs with
 | false=>rw [hf] at h; simp at h
 | true=>
  rw [hf,ai] at h;obtain ⟨u,hu,h⟩:=dr.1 h;cases hfu:flat u with
  | false=>rw [hfu] at h; simp at h
  | true=>
   rw [hfu] at h;simp at h;subst h;rw [eN.sn hf hv];exact ⟨VR.of_flat hfu,fun w=>jx hu w⟩
theorem auf {argTypes:Array TypeId} {args:Array Operand} (ho:o.op = .call ⟨.builtin .min,args,argTypes⟩):js P o (.pure (QW P fun vs=>Builtin.min_ #[] 0 ⟨vs⟩) args.toList):=by
 intro ρ ev df v he hf;obtain ⟨h1,h2⟩:=ZX he.map hf;refine ⟨v,h1,fun w=>?_⟩;have h3:=h2 w;simp only [Builtin.min_] at h3;simp only [execOp,ho,resolve,Sem.run_bind,Sem.run_pure,n8,invoke,builtin,Builtin.min_,rA];simp only [h3,n8]
theorem aug {argTypes:Array TypeId} {args:Array Operand} (ho:o.op = .call ⟨.builtin .max,args,argTypes⟩):js P o (.pure (QW P fun vs=>Builtin.max_ #[] 0 ⟨vs⟩) args.toList):=by
 intro ρ ev df v he hf;obtain ⟨h1,h2⟩:=ZX he.map hf;refine ⟨v,h1,fun w=>?_⟩;have h3:=h2 w;simp only [Builtin.max_] at h3;simp only [execOp,ho,resolve,Sem.run_bind,Sem.run_pure,n8,invoke,builtin,Builtin.max_,rA];simp only [h3,n8]
theorem adU {ρ:a7} {x x' : Value} {k:Nat} (hx:VR ρ x x') (h:adR x=some k):Builtin.lenOf x' = Sem.pure k:=by
 unfold adR at h;split at h
 ·obtain ⟨a',c',rfl⟩:=agy hx
  simp at h; subst h; rfl
 ·have:=hx.sX
  subst this;simp at h; subst h; rfl
 ·simp at h
theorem HS {ρ:a7} {A:St} {base:Nat} {w:World} {n k:Nat} {x x' : Value} {new:List Value} (hs:Rel ρ A.get A.members base w) (hx:VR ρ x x') (h:A6 A n k x=some new)
  (hk:∀ m,adR x=some m->k<=m) (hn:1<=n):∃ cO,eN ρ new cO/\(∀ v∈new,scalar v=true)/\new.length=k * n/\(Builtin.firstCells n k x').run P w = .ok cO.toArray w:=by
 unfold A6 at h;split at h
 ·rename_i a len cap
  obtain ⟨A9,MP,lc,a',c',hl,yo,TZ,sW,rfl⟩:=hx.rZ;have hkl:=hk len rfl;obtain ⟨cm,h1,h2,h3,h4⟩:=A8 (P:=P) hs h hl;refine ⟨cm,h1,h3,h2,?_⟩;simp only [Builtin.firstCells];by_cases hc:c' = 0
  ·have MO:k=0:=by omega
   subst MO;have qC:new = []:=by rw [Nat.zero_mul] at h2; exact List.eq_nil_of_length_eq_zero h2
   subst qC;rw [h1.cw,Nat.zero_mul];exact run_loadCells_list w a' [] (by simp)
  ·rw [TZ hc]; exact h4
 ·rename_i len cap
  have:=hx.kH;subst this;cases hb:Nat.beq k 0 with
  | false=>rw [hb] at h; simp at h
  | true=>
   rw [hb] at h;simp at h;subst h;have MO:=bm hb;subst MO;exact ⟨[],.nil,by simp,by simp,run_firstCells_none w n 0 len cap⟩
 ·rename_i s
  have:=hx.sX;subst this;cases hb:Nat.beq n 1 with
  | false=>rw [hb] at h; simp at h
  | true=>
   rw [hb] at h;simp at h;have hn1:=bm hb;subst hn1;have wx:=hk s.size rfl;have gI:s.data.size=s.size:=rfl;have fl:∀ l:List UInt8,eN ρ (l.map fun b=>Value.int .u8 b.toNat) (l.map fun b=>Value.int .u8 b.toNat):=by
    intro l
    induction l with
    | nil=>exact .nil
    | cons x l ih=>exact .cons (by simp [VR]) ih
   subst h;refine ⟨((s.data.toList.take k).map fun b=>.int .u8 b.toNat),by simpa using fl (s.data.toList.take k),?_,?_,?_⟩
   ·intro v hv
    obtain ⟨b,_,rfl⟩:=HK.1 (by first | exact hv | exact List.mem_of_mem_take hv);rfl
   ·simp; omega
   ·simp only [Builtin.firstCells]
    rw [Sem.run_pure];congr 1;apply Array.ext';simp [ByteArray.data_extract,List.extract_eq_take_drop]
 ·simp at h
theorem GF (t u ty e:TypeId) (i:TypeInfo) (ht:P.underlying t=some (.slice e)) (hi:P.info? e=some i) (hu:QY P u=true) (base:Option Addr) (fj tE:Nat) (x:Value) (n:Nat) (news:List Value)
  (hlen:Builtin.lenOf x=Sem.pure n) (w:World) (Ba:(Builtin.firstCells i.size n x).run P w = .ok news.toArray w) (I7:fj+n<=tE) :
  (Builtin.append_ #[t,u] ty #[.slice base fj tE,x]).run P w=(((match base with | some a=>storeCells (a.add (fj * i.size)) news | none=>pure ():Sem Unit).run P w).andThen fun _ w=>.ok (.slice base (fj+n) tE) w):=by
 have hk:(∃ e',P.underlying u=some (.slice e'))\/P.underlying u=some .string:=by
  unfold QY at hu;split at hu
  ·rename_i e' h; exact .inl ⟨_,h⟩
  ·rename_i h; exact .inr h
  ·simp at hu
 rcases hk with ⟨e',hk⟩ | hk <;> cases base <;> simp [Builtin.append_,bI ht,bI hk,sizeOf,typeInfo,hi,hlen,I7,Ba]
theorem ab5 (t u ty e:TypeId) (i:TypeInfo) (z:Value) (ht:P.underlying t=some (.slice e)) (hi:P.info? e=some i) (hz:i.zero=some z) (hu:QY P u=true) (base:Option Addr) (fj tE:Nat)
  (x:Value) (n:Nat) (adV news:List Value) (hlen:Builtin.lenOf x=Sem.pure n) (w:World) (hold:(Builtin.firstCells i.size fj (.slice base fj tE)).run P w.drew = .ok adV.toArray w.drew)
  (Ba:(Builtin.firstCells i.size n x).run P w.drew = .ok news.toArray w.drew) (hg:tE < fj+n) (h63:fj+n<=17592186044416) (sW:Builtin.nextslicecap (fj+n) tE * i.bytes<=281474976710656) :
  (Builtin.append_ #[t,u] ty #[.slice base fj tE,x]).run P w =
   .ok (.slice (some ⟨w.heap.size,0,none⟩) (fj+n) (grownCap w (fj+n) tE e))
    (w.drew.alloc (.cells ((adV++news).toArray++Builtin.zeroCells z.cells (grownCap w (fj+n) tE e - (fj+n))) e)):=by
 have hk:(∃ e',P.underlying u=some (.slice e'))\/P.underlying u=some .string:=by
  unfold QY at hu;split at hu
  ·rename_i e' h; exact .inl ⟨_,h⟩
  ·rename_i h; exact .inr h
  ·simp at hu
 have hn : ¬ (fj+n<=tE):=by omega
 have awc : ¬ (9223372036854775807 < ((fj:Int)+(n:Int))):=by omega
 have awd : ¬ (281474976710656 < Builtin.nextslicecap (fj+n) tE * i.bytes):=by omega
 rcases hk with ⟨e',hk⟩ | hk <;>
  (simp [Builtin.append_,bI ht,bI hk,sizeOf,typeInfo,zeroValue,hi,hz,hlen,hn,awc,awd,Question.forced,Ba,hold,newRow,grownCap]
   congr 2;apply Array.ext';simp [HJ])
theorem agB {ρ:a7} {A:St} {base:Nat} {w:World} (hs:zP ρ A base w) (b lo hi:Nat) (L:List Nat):pw base ρ A w ρ (A.kill b lo hi L) w:=by
 obtain ⟨hl1,qf⟩:=Pb b lo hi L A;have ZT:∀ x o,(A.kill b lo hi L).get x=some o->o≠.dead->A.get x=some o:=by
  intro x o hx hd;rw [GC] at hx;split at hx
  ·simp at hx; exact absurd hx.symm hd
  ·exact hx
 have hm:∀ o:du,o.gJ=true->o≠.dead:=by intro o h e; subst e; simp [du.gJ] at h
 refine ⟨⟨.Q8 (fun x o hx hd=>hs.rel.obj (ZT x o hx hd) hd) (fun b1 b2 o1 o2 l1 l2 eY g1 g2 m1 m2=>hs.rel.apart b1 b2 o1 o2 l1 l2 eY (ZT _ _ g1 (hm _ m1)) (ZT _ _ g2 (hm _ m2)) m1 m2) (fun x o aZ f hx hk=>?_),fun x l h=>?_,hs.size,hs.SL⟩,
  fun _ _=>rfl,.refl _ _ _,by simp,hl1,fun x _ hx=>?_,fun k _ h=>?_⟩
 ·rw [N6]; exact hs.rel.bN x o aZ f (ZT x o hx (by intro e; subst e; simp [du.pC] at hk)) hk
 ·rw [Q6]; exact hs.oC x l h
 ·cases Classical.em ((A.kill b lo hi L).get x=A.get x) with
  | inl h=>exact h
  | inr h=>have:=qf x h; omega
 ·obtain ⟨x,o,l,hx,hm',hr,e⟩:=h
  exact ⟨x,o,l,ZT x o hx (hm _ hm'),hm',hr,e⟩
theorem Pg (A:St) (aZ f:Nat) (cs:List Value) (n x:Nat):(A.grow aZ f cs n).get x=if x=A.next then some (.row cs n true (some (aZ,f))) else A.get x:=by
 simp [St.grow]
theorem CT (A:St) (aZ f:Nat) (cs:List Value) (n g:Nat):(A.grow aZ f cs n).members g=if g=aZ then A.next::A.members aZ else A.members g:=by
 simp only [St.grow,St.HQ,St.oa]
theorem agC {ρ:a7} {A:St} {base:Nat} {w:World} {cs cm:List Value} {c:Array Value} {n aZ f:Nat} (T:TypeId) (hs:zP ρ A base w) (hc:eN ρ cs cm) (h1:∀ v∈cs,scalar v=true)
  (asd:∀ (j:Nat) (v:Value),cm[j]? = some v->c[j]? = some v) (gI:cs.length<=c.size) :
  pw base ρ A w (ρ.set A.next ⟨w.heap.size,0,c.size,n⟩) (A.grow aZ f cs n) (w.alloc (.cells c T)):=by
 refine Le (o:=.row cs n true (some (aZ,f))) hs (fun x=>Pg _ _ _ _ _ _) (fun g x h=>?_) (fun g f' h=>?_) (by simp [St.grow]) (by simp [St.grow]) (fun x hx _=>by rw [Pg,ay (by omega)]) rfl ?_
 ·rw [CT]; split
  ·rename_i e; subst e; simp [h]
  ·exact h
 ·simp [du.pC] at h; rw [CT,h.1]; simp
 ·refine ⟨fun i v hi=>?_,fun h=>by simp at h,fun _=>hs.size,fun _ j hj=>?_,by simpa using gI,fun _ h=>by simp at h,rfl,by simp,fun _ _ j=>by simp only; rw [World.frozen?_alloc_new]⟩
  ·obtain ⟨v',h2,h3⟩:=hc.get hi
   refine ⟨v',?_,h3.mono (hs.Q7 _),h1 v (jj hi)⟩;rw [bh,World.cell?_alloc_new];exact asd i v' h2
  ·simp only at hj ⊢
   rw [World.cell?_alloc_new,World.frozen?_alloc_new];refine ⟨?_,rfl⟩;rw [Array.getElem?_eq_getElem (by omega)];rfl
theorem akZ {ρ:a7} {A:St} {base:Nat} {w:World} {b jP s cc aZ f:Nat} {cs jd vN new cO:List Value} {l:Loc}
  (hs:zP ρ A base w) (hg:A.get b=some (.row cs cc true (some (aZ,f)))) (ob:ρ b=some l)
  (hold:eN ρ jd vN) (ho1:∀ v∈jd,scalar v=true) (hol:jd.length=s) (MQ:∀ j v',vN[j]? = some v'->w.cell? ⟨l.cb,l.fe+jP+j,none⟩=some v')
  (qC:eN ρ new cO) (hn1:∀ v∈new,scalar v=true) (sW:l.fe+jP+s+new.length<=l.ET) :
  pw base ρ A w (ρ.set A.next ⟨l.cb,l.fe+jP,l.ET,cc⟩) ((A.kill A.next (f+(jP+s)) (f+(jP+s)+new.length) (A.members aZ)).grow aZ (f+jP) (jd++new) cc) (w.setCells l.cb (l.fe+jP+s) cO):=by
 obtain ⟨l',tG,ok⟩:=hs.rel.row _ _ _ _ _ hg;rw [ob] at tG; simp at tG; subst tG;have TB:cO.length=new.length:=qC.length;have hovl:vN.length=s:=by rw [hold.length,hol]
 have TD:b < A.next:=hs.oC b l ob;have Wh:du.gJ (.row cs cc true (some (aZ,f)))=true:=rfl;have hB:∀ x,((A.kill A.next (f+(jP+s)) (f+(jP+s)+new.length) (A.members aZ)).grow aZ (f+jP) (jd++new) cc).get x =
   if x=A.next then some (.row (jd++new) cc true (some (aZ,f+jP))) else (A.kill A.next (f+(jP+s)) (f+(jP+s)+new.length) (A.members aZ)).get x:=by
  intro x; rw [Pg,Q6]
 have hBm:∀ g,((A.kill A.next (f+(jP+s)) (f+(jP+s)+new.length) (A.members aZ)).grow aZ (f+jP) (jd++new) cc).members g=if g=aZ then A.next::A.members aZ else A.members g:=by
  intro g; rw [CT,Q6,N6]
 have hBn:((A.kill A.next (f+(jP+s)) (f+(jP+s)+new.length) (A.members aZ)).grow aZ (f+jP) (jd++new) cc).next=A.next+1:=by
  simp [St.grow]
 have hkl:=Pb A.next (f+(jP+s)) (f+(jP+s)+new.length) (A.members aZ) A;have hBl:((A.kill A.next (f+(jP+s)) (f+(jP+s)+new.length) (A.members aZ)).grow aZ (f+jP) (jd++new) cc).low=(A.kill A.next (f+(jP+s)) (f+(jP+s)+new.length) (A.members aZ)).low:=rfl;have hAK:∀ x,x≠A.next->(A.kill A.next (f+(jP+s)) (f+(jP+s)+new.length) (A.members aZ)).get x=if x∈A.members aZ/\vw (A.get x) (f+(jP+s)) (f+(jP+s)+new.length)=true then some .dead else A.get x:=by
  intro x hx; rw [GC]; simp [hx]
 generalize ((A.kill A.next (f+(jP+s)) (f+(jP+s)+new.length) (A.members aZ)).grow aZ (f+jP) (jd++new) cc)=B at hB hBm hBn hBl;generalize (A.kill A.next (f+(jP+s)) (f+(jP+s)+new.length) (A.members aZ))=K at hB hBl hkl hAK;have hle:=hs.Q7 (⟨l.cb,l.fe+jP,l.ET,cc⟩:Loc);have uf:∀ x o,x≠A.next->B.get x=some o->o≠.dead->A.get x=some o/\(x∈A.members aZ->vw (some o) (f+(jP+s)) (f+(jP+s)+new.length)=false):=by
  intro x o hx ho hd;rw [hB,ay hx,hAK x hx] at ho;split at ho
  ·simp at ho; exact absurd ho.symm hd
  ·rename_i hc
   refine ⟨ho,fun hm=>?_⟩;rw [<- ho];cases jN:vw (A.get x) (f+(jP+s)) (f+(jP+s)+new.length) with
   | false=>rfl
   | true=>exact absurd ⟨hm,jN⟩ hc
 have sE:∀ x:Addr,(x.block=l.cb->x.spot=none->x.off < l.fe+jP+s\/l.fe+jP+s+cO.length<=x.off)->(w.setCells l.cb (l.fe+jP+s) cO).cell? x=w.cell? x:=
  fun x h=>World.cell?_setCells_out _ _ _ _ _ h
 have agq:∀ x,((w.setCells l.cb (l.fe+jP+s) cO).cell? x).isSome=(w.cell? x).isSome:=fun x=>GD _ _ _ _ _;have TC:∀ x,(w.setCells l.cb (l.fe+jP+s) cO).frozen? x=w.frozen? x:=fun x=>World.frozen?_setCells _ _ _ _ _;have gI:(w.setCells l.cb (l.fe+jP+s) cO).heap.size=w.heap.size:=Lc _ _ _ _;have hmd:∀ o:du,o.gJ=true->o≠.dead:=by intro o h e; subst e; simp [du.gJ] at h
 have EW:∀ x o l2,A.get x=some o->o.gJ=true->ρ x=some l2->l2.cb=l.cb->∃ f2,o.pC=some (aZ,f2)/\l2.fe+f=l.fe+f2:=by
  intro x o l2 hx hm hr YA;by_cases ZU:x=b
  ·subst ZU
   rw [hg] at hx; simp at hx; subst hx;rw [ob] at hr; simp at hr; subst hr;exact ⟨f,rfl,rfl⟩
  ·obtain ⟨g,f1,f2,e1,e2,e3⟩:=hs.rel.apart x b _ _ l2 l ZU hx hg hm Wh hr ob YA
   simp [du.pC] at e2;obtain ⟨rfl,rfl⟩:=e2;exact ⟨f1,e1,e3⟩
 have agr:∀ x oD e2 M0 wu l2,x≠A.next->B.get x=some (.row oD e2 M0 wu)->ρ x=some l2->Q5 ρ base w l2 oD e2 M0 wu->∀ i,i < oD.length->
   (w.setCells l.cb (l.fe+jP+s) cO).cell? ⟨l2.cb,l2.fe+i,none⟩=w.cell? ⟨l2.cb,l2.fe+i,none⟩:=by
  intro x oD e2 M0 wu l2 hx lB ar6 lC i hi;refine sE _ (fun Yz _=>?_);simp only at Yz ⊢;obtain ⟨hA,jN⟩:=uf x _ hx lB (by simp);cases M0 with
  | false=>have h3:=lC.yn rfl; have h4:=ok.gJ rfl; omega
  | true=>
   obtain ⟨f2,e1,e3⟩:=EW x _ l2 hA rfl ar6 Yz;simp only [du.pC] at e1;subst e1;have hm:=hs.rel.bN x _ aZ f2 hA rfl;have:=ZR rfl (jN hm);rw [TB];omega
 refine ⟨⟨.Q8 ?_ ?_ ?_,?_,?_,hs.SL.mono (hs.Q7 _)⟩,?_,⟨(xL _ _ _ _).1,(xL _ _ _ _).2.1,(xL _ _ _ _).2.2,Nat.le_of_eq gI.symm,?_⟩,?_,?_,?_,?_⟩
 ·intro x o lB hd
  by_cases hx:x=A.next
  ·subst hx
   rw [hB,aV rfl] at lB;simp at lB;subst lB;refine ⟨_,a7.uF _ _ _,fun i v hi=>?_,fun h=>by simp at h,fun _=>ok.gJ rfl,fun _ j hj=>?_,?_,fun _ h=>by simp at h,rfl,by rw [gI]; exact ok.sq,fun _ h2 j=>by rw [TC]; exact ok.mark rfl (by rw [ok.cc]; exact h2) j⟩
   ·have qD:eN ρ (jd++new) (vN++cO):=hold.append qC
    obtain ⟨v',h2,h3⟩:=qD.get hi;refine ⟨v',?_,h3.mono hle,?_⟩
    ·rw [List.getElem?_append] at h2
     split at h2
     ·rename_i bt
      rw [sE _ (fun _ _=>by simp only; omega)];exact MQ i v' h2
     ·rename_i hge
      have bt:i - vN.length < cO.length:=(dD.1 h2).1;have:=World.cell?_setCells_in l.cb cO (l.fe+jP+s) w (fun j hj=>(ok.there rfl (l.fe+jP+s+j) (by rw [TB] at hj; omega)).1) (i - vN.length) bt;have e:l.fe+jP+s+(i - vN.length)=l.fe+jP+i:=by omega
      rw [e] at this;rw [dF bt] at h2;exact this.trans h2
    ·rcases mI.1 (jj hi) with h | h
     ·exact ho1 v h
     ·exact hn1 v h
   ·rw [agq,TC]; exact ok.there rfl j hj
   ·simp only [n7,hol]; omega
  ·obtain ⟨hA,jN⟩:=uf x o hx lB hd
   obtain ⟨l2,zR,lC⟩:=hs.rel.obj hA hd;refine ⟨l2,hle _ _ zR,?_⟩;cases o with
   | row oD e2 M0 wu=>
    have lC:Q5 ρ base w l2 oD e2 M0 wu:=lC;refine ⟨fun i v hi=>?_,lC.yn,lC.gJ,fun h j hj=>?_,lC.fits,lC.ends,lC.cc,by rw [gI]; exact lC.sq,fun h1 h2 j=>by rw [TC]; exact lC.mark h1 h2 j⟩
    ·obtain ⟨v',h3,h4,h5⟩:=lC.cells i v hi
     exact ⟨v',by rw [agr x _ _ _ _ l2 hx lB zR lC i (dD.1 hi).1]; exact h3,h4.mono hle,h5⟩
    ·rw [agq,TC]; exact lC.there h j hj
   | map es=>
    have lC:ago ρ base w l2 es:=lC;obtain ⟨bC,clock,h3,h4⟩:=lC.sq;refine ⟨lC.gJ,bC,clock,?_,h4.mono hle⟩;rw [pD]
    ·exact h3
    ·intro e
     obtain ⟨_,e1,_⟩:=EW x _ l2 hA rfl zR e;simp [du.pC] at e1
   | iter st pos=>
    have lC:ZO base w l2 st pos:=lC;refine ⟨lC.gJ,lC.sq.1,?_⟩;rw [pD]
    ·exact lC.sq.2
    ·intro e
     obtain ⟨_,e1,_⟩:=EW x _ l2 hA rfl zR e;simp [du.pC] at e1
   | dead=>exact absurd rfl hd
   | loop st0 e0 t0 ps0 a0 c0=>
    have lC:ZP ρ base w l2 st0 e0 t0 ps0 a0 c0:=lC;obtain ⟨fn,tmps,D,N,h3,h4⟩:=lC.sq;refine ⟨lC.gJ,fn,tmps,D,N,?_,h4.mono hle⟩;rw [pD]
    ·exact h3
    ·intro e
     obtain ⟨_,e1,_⟩:=EW x _ l2 hA rfl zR e;simp [du.pC] at e1
 ·intro b1 b2 o1 o2 l1 l2 eY g1 g2 m1 m2 r1 r2 YA
  by_cases e1:b1=A.next
  ·have e2:b2≠A.next:=fun e=>eY (e1.trans e.symm)
   subst e1;rw [hB,aV rfl] at g1;simp at g1; subst g1;rw [a7.uF] at r1; simp at r1; subst r1;rw [a7.qH _ _ e2] at r2;obtain ⟨hA,_⟩:=uf b2 o2 e2 g2 (hmd _ m2);obtain ⟨f2,k1,k2⟩:=EW b2 o2 l2 hA m2 r2 YA.symm;exact ⟨aZ,f+jP,f2,rfl,k1,by simp only; omega⟩
  ·rw [a7.qH _ _ e1] at r1
   obtain ⟨hA1,_⟩:=uf b1 o1 e1 g1 (hmd _ m1);by_cases e2:b2=A.next
   ·subst e2
    rw [hB,aV rfl] at g2;simp at g2; subst g2;rw [a7.uF] at r2; simp at r2; subst r2;obtain ⟨f2,k1,k2⟩:=EW b1 o1 l1 hA1 m1 r1 YA;exact ⟨aZ,f2,f+jP,k1,rfl,by simp only; omega⟩
   ·rw [a7.qH _ _ e2] at r2
    obtain ⟨hA2,_⟩:=uf b2 o2 e2 g2 (hmd _ m2);exact hs.rel.apart b1 b2 o1 o2 l1 l2 eY hA1 hA2 m1 m2 r1 r2 YA
 ·intro x o g fx hx hk
  rw [hBm];by_cases e:x=A.next
  ·subst e
   rw [hB,aV rfl] at hx;simp at hx; subst hx;simp [du.pC] at hk;rw [aV hk.1.symm];simp
  ·have:=hs.rel.bN x o g fx (uf x o e hx (by intro e; subst e; simp [du.pC] at hk)).1 hk
   split
   ·rename_i e2; subst e2; simp [this]
   ·exact this
 ·intro x l2 h
  rw [hBn];by_cases e:x=A.next
  ·omega
  ·rw [a7.qH _ _ e] at h; have:=hs.oC x l2 h; omega
 ·rw [gI]; exact hs.size
 ·intro x hx; exact a7.qH _ _ (by omega)
 ·intro k hk hn
  exact pD _ (fun e=>hn ⟨b,_,l,hg,rfl,ob,e.symm⟩) _ _ _
 ·omega
 ·rw [hBl]; exact hkl.1
 ·intro x hx hxl
  rw [hB,ay (by omega)];cases Classical.em (K.get x=A.get x) with
  | inl h=>exact h
  | inr h=>have:=hkl.2 x h; omega
 ·rintro k hk ⟨x,o,l2,hx,hm,hr,rfl⟩
  by_cases e:x=A.next
  ·subst e
   rw [a7.uF] at hr; simp at hr; subst hr;exact ⟨b,_,l,hg,rfl,ob,rfl⟩
  ·rw [a7.qH _ _ e] at hr
   exact ⟨x,o,l2,(uf x o e hx (hmd _ hm)).1,hm,hr,rfl⟩
theorem aqT {a:Addr} (h:dC a=true):a.spot=none:=by
 unfold dC at h;simpa using h
theorem ae4 (w:World) (a:Addr) (n:Nat) (cs:List Value) (h:∀ j,j < n->(w.cell? (a.add j)).isSome=true) (hr:(loadCells a n).run P w = .ok cs.toArray w) (j:Nat) (v:Value) (hj:cs[j]? = some v) :
  w.cell? (a.add j)=some v:=by
 have h1:=run_loadCells (P:=P) w a n (fun j=>(w.cell? (a.add j)).getD undef) (fun j hj=>by
  have:=h j hj;cases hc:w.cell? (a.add j) with
  | none=>rw [hc] at this; simp at this
  | some u=>rfl)
 rw [hr] at h1;simp only [Result.ok.injEq,and_true] at h1;have h2:cs=(List.range n).map fun j=>(w.cell? (a.add j)).getD undef:=by
  have:=congrArg Array.toList h1;simpa using this
 rw [h2,AZ] at hj;cases hq:(List.range n)[j]? with
 | none=>rw [hq] at hj; simp at hj
 | some m=>
  rw [hq] at hj;have bt:j < n:=by have:=(dD.1 hq).1; simpa using this
  have hm:m=j:=by rw [List.getElem?_range bt] at hq; simpa using hq.symm
  subst hm;simp at hj;have:=h m bt;cases hc:w.cell? (a.add m) with
  | none=>rw [hc] at this; simp at this
  | some u=>rw [hc] at hj; simpa using hj
theorem amt (z:Array Value) (n:Nat):(Builtin.zeroCells z n).size=n * z.size:=size_zeroCells z n
theorem agD {ρ:a7} {A B:St} {base:Nat} {w:World} {t u ty e:TypeId} {i:TypeInfo} {z s x s' x' v:Value} (ht:P.underlying t=some (.slice e)) (hi:P.info? e=some i) (hz:i.zero=some z) (hu:QY P u=true)
  (hn:1<=i.size) (hzs:z.cells.size=i.size) (XA:zP ρ A base w) (hsv:VR ρ s s') (hxv:VR ρ x x') (hf:pB i.size i.bytes A [s,x] = some (v,B)) :
  ∃ a8 v' w',(Builtin.append_ #[t,u] ty #[s',x']).run P w = .ok v' w'/\VR a8 v v'/\pw base ρ A w a8 B w':=by
 unfold pB at hf;split at hf
 ·rename_i bs fj tE x0 e0
  simp at e0;obtain ⟨rfl,rfl⟩:=e0;obtain ⟨k,hk,hf⟩:=dr.1 hf;have hlen:=adU hxv hk;have hkk:∀ m,adR x=some m->k<=m:=fun m h=>by rw [hk] at h; simp at h; omega
  cases I7:Nat.ble (fj+k) tE with
  | true=>
   rw [I7,ai] at hf;have I7:=gD I7;obtain ⟨new,qC,hf⟩:=dr.1 hf;obtain ⟨cO,h1,h2,h3,h4⟩:=HS (P:=P) XA.rel hxv qC hkk hn;cases bs with
   | none=>
    simp at hf;obtain ⟨rfl,rfl⟩:=hf;have:=hsv.kH;subst this;have hr:=GF (P:=P) t u ty e i ht hi hu none fj tE x' k cO hlen w h4 I7;exact ⟨ρ,_,w,by rw [hr]; rfl,by simp [VR],.refl XA⟩
   | some a=>
    simp only at hf;cases hpa:dC a with
    | false=>rw [hpa] at hf; simp at hf
    | true=>
     rw [hpa,ai] at hf;obtain ⟨B',jN,hf⟩:=de.1 hf;simp at hf;obtain ⟨rfl,rfl⟩:=hf;obtain ⟨A9,MP,lc,a',c',hl,yo,TZ,sW,rfl⟩:=hsv.rZ;have hr:=GF (P:=P) t u ty e i ht hi hu (some a') fj c' x' k cO hlen w h4 (by omega);obtain ⟨w',h5,h6⟩:=HR (P:=P) (a:=⟨a.block,a.off+fj * i.size,none⟩) XA jN hl h1;have qh:(storeCells (a'.add (fj * i.size)) cO).run P w = .ok () w':=by
      by_cases hc:c' = 0
      ·have:cO = []:=by
        apply List.eq_nil_of_length_eq_zero;rw [h1.length,h3];have:k=0:=by omega
        subst this; omega
       subst this;exact h5
      ·rw [TZ hc,nR]
       simp only at h5;rw [HL];exact h5
     refine ⟨ρ,.slice (some a') (fj+k) c',w',?_,?_,h6⟩
     ·rw [hr]
      simp only [qh,n8]
     ·simp only [VR]
      exact ⟨A9,I7,lc,a',c',hl,yo,TZ,sW,rfl⟩
  | false=>
   rw [I7,aw] at hf;have I7:tE < fj+k:=by
    have : ¬ (fj+k<=tE):=fun h=>by rw [Nat.ble_eq_true_of_le h] at I7; simp at I7
    omega
   cases hc:(Nat.ble ((fj+k+512) * i.bytes) 17592186044416&&Nat.ble (fj+k) 17592186044416&&yI A i.size tE bs) with
   | false=>rw [hc] at hf; simp at hf
   | true=>
    rw [hc,ai] at hf;simp only [aD] at hc;obtain ⟨⟨EE,vy⟩,hex⟩:=hc;have EE:=gD EE;have vy:=gD vy;have ak0:(fj+k) * i.bytes<=140737488355328:=by
     rw [Nat.add_mul] at EE; omega
    obtain ⟨new,qC,hf⟩:=dr.1 hf;obtain ⟨cO,h1,h2,h3,h4⟩:=HS (P:=P) XA.rel hxv qC hkk hn;have hdr:=pw.drew (w:=w) XA;obtain ⟨ase,g1,g2,g3,g4⟩:=HS (P:=P) hdr.kV.rel hxv qC hkk hn;have asf:∀ (bs' : Option Addr) (c' : Nat) (adV ab6:List Value) (aZ f:Nat) (K:St),K=A\/(∃ x lo hi L,K=A.kill x lo hi L)->eN ρ adV ab6->(∀ v∈adV,scalar v=true)->adV.length=fj * i.size->
      (Builtin.firstCells i.size fj (.slice bs' fj c')).run P w.drew = .ok ab6.toArray w.drew->c' < fj+k->
      ∃ a8 v' w',(Builtin.append_ #[t,u] ty #[.slice bs' fj c',x']).run P w = .ok v' w'/\VR a8 (.slice (some ⟨A.next,0,none⟩) (fj+k) (fj+k)) v'/\pw base ρ A w a8 (K.grow aZ f (adV++new) i.size) w':=by
     intro bs' c' adV ab6 aZ f K hK ho ho1 hol qh bt;have hr:=ab5 (P:=P) t u ty e i z ht hi hz hu bs' fj c' x' k ab6 ase hlen w qh g4 bt vy (growslice_fits bt ak0);have hge:=grownCap_ge w (fj+k) c' e;have hkg:pw base ρ A w ρ K w.drew:=by
      rcases hK with rfl | ⟨x,lo,hi,L,rfl⟩
      ·exact hdr
      ·exact (agB XA x lo hi L).trans (pw.drew (agB XA x lo hi L).kV)
     have hKn:K.next=A.next:=by
      rcases hK with rfl | ⟨x,lo,hi,L,rfl⟩
      ·rfl
      ·simp
     have Rb:((ab6++ase).toArray++Builtin.zeroCells z.cells (grownCap w (fj+k) c' e - (fj+k))).size=grownCap w (fj+k) c' e * i.size:=by
      rw [Array.size_append,amt,hzs,List.size_toArray,n7,ho.length,g1.length,hol,g3];rw [<- Nat.add_mul,<- Nat.add_mul];congr 1; omega
     have hgo:=agC (w:=w.drew) (n:=i.size) (aZ:=aZ) (f:=f) (c:=(ab6++ase).toArray++Builtin.zeroCells z.cells (grownCap w (fj+k) c' e - (fj+k))) e hkg.kV (ho.append g1)
      (fun v hv=>(mI.1 hv).elim (ho1 v) (g2 v)) (fun j v hj=>by
       rw [Array.getElem?_append_left (by have:=(dD.1 hj).1; simpa using this)];simpa using hj) (by
       rw [Rb,n7,hol,g3,<- Nat.add_mul];exact Nat.mul_le_mul_right _ hge)
     refine ⟨_,_,_,hr,?_,hkg.trans hgo⟩;simp only [VR];refine ⟨trivial,aW _,_,⟨w.heap.size,0,none⟩,grownCap w (fj+k) c' e,by rw [hKn]; exact a7.uF _ _ _,hge,fun _=>rfl,?_,rfl⟩;rw [Rb];show 0+0+grownCap w (fj+k) c' e * i.size<=grownCap w (fj+k) c' e * i.size;omega
    unfold K9 at hf;cases bs with
    | none=>
     simp only at hf;cases hs0:Nat.beq fj 0 with
     | false=>rw [hs0] at hf; simp at hf
     | true=>
      rw [hs0,ai] at hf;simp at hf;obtain ⟨rfl,rfl⟩:=hf;have hs0:=bm hs0;have:=hsv.kH;subst this;have Rc:Builtin.firstCells i.size fj (.slice none fj tE)=pure #[]:=rfl;exact asf none tE [] [] A.next 0 A (.inl rfl) .nil (by simp) (by rw [hs0]; simp) (by rw [Rc]; rfl) I7
    | some a=>
     simp only at hf;cases hpa:dC a with
     | false=>rw [hpa] at hf; simp at hf
     | true=>
      rw [hpa,ai] at hf;have A9:=aqT hpa;obtain ⟨_,MP,lc,a',c',hl,yo,TZ,sW,rfl⟩:=hsv.rZ;obtain ⟨jd,hold,hf⟩:=dr.1 hf;obtain ⟨vN,q1,q2,q3,q4⟩:=A8 (P:=P) hdr.kV.rel hold hl;have qh:(Builtin.firstCells i.size fj (.slice (some a') fj c')).run P w.drew = .ok vN.toArray w.drew:=by
       simp only [Builtin.firstCells];by_cases hc:c' = 0
       ·have hs0:fj=0:=by omega
        subst hs0;have asg:jd = []:=by rw [Nat.zero_mul] at q2; exact List.eq_nil_of_length_eq_zero q2
        subst asg;rw [q1.cw,Nat.zero_mul];exact run_loadCells_list w.drew a' [] (by simp)
       ·rw [TZ hc]; exact q4
      split at hf
      ·rename_i cs cc own bV hg
       cases hez:Nat.beq cc i.size with
       | false=>rw [hez] at hf; simp at hf
       | true=>
        rw [hez,ai] at hf;have hez:=bm hez;subst hez;obtain ⟨l2,qf,ok⟩:=XA.rel.row _ _ _ _ _ hg;rw [hl] at qf; simp at qf; subst qf;have hle:lc.cc=i.size:=ok.cc;cases bV with
        | none=>
         simp only at hf;cases own with
         | false=>simp at hf
         | true=>
          simp at hf;obtain ⟨rfl,rfl⟩:=hf;have hxe:a.off+tE * i.size=cs.length:=by
           unfold yI at hex;simp only [hg] at hex;exact bm hex
          have hends:=ok.ends rfl rfl;have hc' : c' < fj+k:=by
           have h9:c' * i.size<=tE * i.size:=by rw [hle] at sW; omega
           have:=Nat.le_of_mul_le_mul_right h9 (by omega);omega
          exact asf (some a') c' jd vN A.next 0 A (.inl rfl) q1 q3 q2 qh hc'
        | some p=>
         obtain ⟨aZ,f⟩:=p;simp only at hf;cases own with
         | false=>simp at hf
         | true=>
          simp at hf;obtain ⟨rfl,rfl⟩:=hf;by_cases hc' : c' < fj+k
          ·exact asf (some a') c' jd vN aZ (f+a.off) _ (.inr ⟨_,_,_,_,rfl⟩) q1 q3 q2 qh hc'
          ·
           have eY:c'≠0:=by omega
           have ha:=TZ eY;subst ha;have hr:=GF (P:=P) t u ty e i ht hi hu (some ⟨lc.cb,lc.fe+a.off,none⟩) fj c' x' k cO hlen w h4 (by omega);have Gi:lc.fe+a.off+fj * i.size+new.length<=lc.ET:=by
            rw [h3];rw [hle] at sW;have h9:(fj+k) * i.size<=c' * i.size:=Nat.mul_le_mul_right _ (by omega);rw [Nat.add_mul] at h9;omega
           have TB:cO.length=new.length:=h1.length;obtain ⟨apQ,p1,p2,p3,p4⟩:=A8 (P:=P) XA.rel hold hl;have MQ:∀ (j:Nat) (v' : Value),apQ[j]? = some v'->w.cell? ⟨lc.cb,lc.fe+a.off+j,none⟩=some v':=by
            intro j v' hj;have bt:j < fj * i.size:=by have:=(dD.1 hj).1; rw [p1.length,p2] at this; exact this
            have sE:=(ok.there rfl (lc.fe+a.off+j) (by omega)).1;have:=ae4 (P:=P) w ⟨lc.cb,lc.fe+a.off,none⟩ (fj * i.size) apQ (fun j hj=>by rw [nR]; exact (ok.there rfl (lc.fe+a.off+j) (by omega)).1) p4 j v' hj;rwa [nR] at this
           have hgo:=akZ (w:=w) (jP:=a.off) (s:=fj * i.size) XA hg hl p1 p3 p2 MQ h1 h2 Gi;have jN:(storeCells ((⟨lc.cb,lc.fe+a.off,none⟩:Addr).add (fj * i.size)) cO).run P w = .ok () (w.setCells lc.cb (lc.fe+a.off+fj * i.size) cO):=by
            rw [nR];exact run_storeCells_cells (P:=P) lc.cb (lc.fe+a.off+fj * i.size) cO 0 w (fun j hj=>(ok.there rfl _ (by rw [TB] at hj; omega)).1) (fun j hj=>(ok.there rfl _ (by rw [TB] at hj; omega)).2) (fun v ZV=>by
             obtain ⟨j,hj⟩:=List.getElem?_of_mem ZV;have bt:j < new.length:=by rw [<- TB]; exact (dD.1 hj).1
             obtain ⟨u,hu⟩:∃ u,new[j]? = some u:=⟨new[j],dF bt⟩
             obtain ⟨v2,h7,h8⟩:=h1.get hu;rw [hj] at h7; simp at h7; subst h7;exact h8.scalar (h2 u (jj hu)))
           refine ⟨_,.slice (some ⟨lc.cb,lc.fe+a.off,none⟩) (fj+k) c',_,by rw [hr]; simp only [jN,n8],?_,hgo⟩;simp only [VR];refine ⟨trivial,aW _,_,_,c',a7.uF _ _ _,by omega,fun _=>rfl,?_,rfl⟩;show lc.fe+a.off+0+c' * i.size<=lc.ET;rw [hle] at sW;omega
      ·simp at hf
 ·simp at hf
theorem aqU {argTypes:Array TypeId} {t u:TypeId} (h:argTypes.toList = [t,u]):argTypes = #[t,u]:=by
 apply Array.ext';simpa using h
theorem aoB {argTypes:Array TypeId} {args:Array Operand} (ho:o.op = .call ⟨.builtin .append,args,argTypes⟩):js P o (QZ P argTypes.toList args.toList):=by
 unfold QZ;split
 ·rename_i t u EV
  split
  ·rename_i e ht
   split
   ·rename_i i hi
    split
    ·rename_i z hz
     cases hc:(Nat.ble 1 i.size&&Nat.beq z.cells.size i.size&&QY P u) with
     | false=>exact True.intro
     | true=>
      rw [ai];simp only [aD] at hc;obtain ⟨⟨h1,h2⟩,h3⟩:=hc;intro ρ A B base w ev df v hs he hf;have hf0:=hf;unfold pB at hf0;split at hf0
      ·rename_i bs fj tE x e1
       have hm:=he.map;rw [e1] at hm hf;obtain ⟨s',r1,e2,hsv,hm⟩:=hm.cons_inv;obtain ⟨x',r2,e3,hxv,hm⟩:=hm.cons_inv;have:=hm.cw;subst this e3;obtain ⟨a8,v',w',h4,h5,h6⟩:=agD (ty:=o.type) ht hi hz h3 (gD h1) (bm h2) hs hsv hxv hf;refine ⟨a8,v',.value v',w',?_,rfl,h5,h6⟩;have e4:args.map df = #[s',x']:=by apply Array.ext'; simpa using e2
       have e5:=aqU EV;subst e5;simp only [execOp,ho,Sem.run_bind,resolve,Sem.run_pure,n8,invoke,builtin,e4,h4]
      ·simp at hf0
    ·trivial
   ·trivial
  ·trivial
 ·trivial
theorem ash {argTypes:Array TypeId} {args:Array Operand} (ho:o.op = .call ⟨.builtin .copy,args,argTypes⟩):js P o (ZL P argTypes.toList args.toList):=by
 unfold ZL;split
 ·rename_i t rest EV
  have SM:argTypes[0]? = some t:=by rw [<- Array.getElem?_toList,EV]; rfl
  split
  ·rename_i e ht
   split
   ·rename_i n hn
    cases Pe:Nat.ble 1 n with
    | false=>exact True.intro
    | true=>
     rw [ai];have Pe:1<=n:=gD Pe;intro ρ A B base w ev df v hs he hf;unfold agk at hf;split at hf
     ·rename_i bs ZK dCap x e1
      have hm:=he.map;rw [e1] at hm;obtain ⟨s',r1,e2,hsv,hm⟩:=hm.cons_inv;obtain ⟨x',r2,e3,hxv,hm⟩:=hm.cons_inv;have:=hm.cw;subst this e3;have e4:args.map df = #[s',x']:=by apply Array.ext'; simpa using e2
      obtain ⟨k,hk,hf⟩:=dr.1 hf;have hlen:=adU hxv hk;obtain ⟨new,qC,hf⟩:=dr.1 hf;obtain ⟨cO,h1,h2,h3,h4⟩:=HS (P:=P) hs.rel hxv qC (fun m h=>by rw [hk] at h; simp at h; subst h; exact Nat.min_le_left _ _) Pe;cases bs with
      | none=>
       simp at hf;obtain ⟨rfl,rfl⟩:=hf;have:=hsv.kH;subst this;refine ⟨ρ,goInt (Nat.min k ZK),.value (goInt (Nat.min k ZK)),w,?_,rfl,VR.of_flat rfl,.refl hs⟩;simp [execOp,ho,resolve,invoke,builtin,e4,Builtin.copy_,SM,bI ht,hlen,rL hn,h4]
      | some a=>
       simp only at hf;obtain ⟨B',jN,hf⟩:=de.1 hf;simp at hf;obtain ⟨rfl,rfl⟩:=hf;obtain ⟨A9,MP,lc,a',c',hl,yo,TZ,sW,rfl⟩:=hsv.rZ;obtain ⟨w',h5,h6⟩:=HR (P:=P) hs jN hl h1;have qh:(storeCells a' cO).run P w = .ok () w':=by
        by_cases hc:c' = 0
        ·have:cO = []:=by
          apply List.eq_nil_of_length_eq_zero;rw [h1.length,h3];have:ZK=0:=by omega
          subst this; simp
         subst this;exact h5
        ·rw [TZ hc]; exact h5
       refine ⟨ρ,goInt (Nat.min k ZK),.value (goInt (Nat.min k ZK)),w',?_,rfl,VR.of_flat rfl,h6⟩;simp [execOp,ho,resolve,invoke,builtin,e4,Builtin.copy_,SM,bI ht,hlen,rL hn,h4,qh]
     ·simp at hf
   ·trivial
  ·trivial
 ·trivial
end
end Go.aF
end
section
namespace Go.aF
open Go
section
variable {P:Program} {o:Oper}
theorem EX {ρ:a7} {A:St} {base:Nat} {w:World} {r:Nat} {es tH:List (Value×Value)} {JR:Array MapEntry} {HT:Nat} {l:Loc} (hs:zP ρ A base w) (hg:A.get r=some (.map es)) (ob:ρ r=some l)
  (hm:j9 ρ tH JR.toList):pw base ρ A w ρ (A.put r (.map tH)) { w with heap:=w.heap.setIfInBounds l.cb (.map JR HT) }:=by
 obtain ⟨l',tG,ok⟩:=hs.rel.map _ _ hg;rw [ob] at tG; simp at tG; subst tG;obtain ⟨bC,clock,sF,_⟩:=ok.sq;have bt:l.cb < w.heap.size:=(EN.1 sF).1;have Oa:du.gJ (.map es)=true:=rfl;have hold:∀ k,k≠l.cb->(w.heap.setIfInBounds l.cb (.map JR HT))[k]? = w.heap[k]?:=fun k hk=>by
  rw [Array.getElem?_setIfInBounds_ne (Ne.symm hk)]
 have gI:(w.heap.setIfInBounds l.cb (.map JR HT)).size=w.heap.size:=by simp
 have hB:∀ x,(A.put r (.map tH)).get x=if x=r then some (.map tH) else A.get x:=fun x=>St.cr _ _ _ _;have hmd:∀ o:du,o.gJ=true->o≠.dead:=by intro o h e; subst e; simp [du.gJ] at h
 have agr:∀ x o l2,x≠r->A.get x=some o->o≠.dead->ρ x=some l2->N8 ρ base w l2 o->l2.cb≠l.cb:=by
  intro x o l2 hx lB hd zR lC e;cases hmo:o.gJ with
  | true=>
   obtain ⟨_,_,_,_,e1,_⟩:=hs.rel.apart x r o _ l2 l hx lB hg hmo Oa zR ob e;simp [du.pC] at e1
  | false=>
   cases o with
   | row cs cc own bV=>
    have lC:Q5 ρ base w l2 cs cc own bV:=lC;have h1:own=false:=hmo;have:=lC.yn h1;have:=ok.gJ;omega
   | map _=>simp [du.gJ] at hmo
   | iter _ _=>simp [du.gJ] at hmo
   | dead=>exact hd rfl
   | loop _ _ _ _ _ _=>simp [du.gJ] at hmo
 refine ⟨⟨.Q8 ?_ ?_ ?_,fun b l2 h=>hs.oC b l2 h,by simpa using hs.size,hs.SL⟩,fun _ _=>rfl,⟨rfl,rfl,rfl,Nat.le_of_eq gI.symm,fun k hk hn=>hold k (fun e=>hn ⟨r,_,l,hg,Oa,ob,e.symm⟩)⟩,aW _,Nat.min_le_left _ _,fun x hx hxl=>?_,?_⟩
 ·intro x o lB hd
  rw [hB] at lB;split at lB
  ·rename_i e; subst e; simp at lB; subst lB
   refine ⟨l,ob,ok.gJ,JR,HT,?_,hm⟩;show (w.heap.setIfInBounds l.cb (.map JR HT))[l.cb]? = _;rw [Array.getElem?_setIfInBounds_self_of_lt bt]
  ·rename_i e
   obtain ⟨l2,zR,lC⟩:=hs.rel.obj lB hd;exact ⟨l2,zR,lC.pF (a7.le_refl _) (hold _ (agr x o l2 e lB hd zR lC)) (Nat.le_of_eq gI.symm)⟩
 ·have ZT:∀ x o,(A.put r (.map tH)).get x=some o->o.gJ=true->∃ o',A.get x=some o'/\o'.gJ=true/\o'.pC=o.pC:=by
   intro x o hx hm;rw [hB] at hx;split at hx
   ·rename_i e; subst e; simp at hx; subst hx; exact ⟨_,hg,rfl,rfl⟩
   ·exact ⟨o,hx,hm,rfl⟩
  intro b1 b2 o1 o2 l1 l2 eY g1 g2 m1 m2 r1 r2 YA;obtain ⟨p1,q1,n1,k1⟩:=ZT _ _ g1 m1;obtain ⟨p2,q2,n2,k2⟩:=ZT _ _ g2 m2;rw [<- k1,<- k2];exact hs.rel.apart b1 b2 p1 p2 l1 l2 eY q1 q2 n1 n2 r1 r2 YA
 ·intro x o aZ f lB hk
  rw [hB] at lB;split at lB
  ·rename_i e; subst e; simp at lB; subst lB; simp [du.pC] at hk
  ·exact hs.rel.bN x o aZ f lB hk
 ·rw [St.agp] at hxl
  have:Nat.min A.low r<=r:=Nat.min_le_right _ _;rw [hB,ay (by omega)]
 ·rintro k hk ⟨x,o,l2,lB,hm,zR,rfl⟩
  rw [hB] at lB;split at lB
  ·rename_i e; subst e
   rw [ob] at zR; simp at zR; subst zR;exact ⟨x,_,l,hg,Oa,ob,rfl⟩
  ·exact ⟨x,o,l2,lB,hm,zR,rfl⟩
theorem j9.length {ρ:a7} : ∀ {es:List (Value×Value)} {l:List MapEntry},j9 ρ es l->l.length=es.length
 | [],l,h=>by simp only [j9] at h; subst h; rfl
 | (k,v)::es,l,h=>by
  simp only [j9] at h;obtain ⟨e,r,rfl,_,_,h⟩:=h;simp [j9.length h]
theorem j9.get {ρ:a7} : ∀ {es:List (Value×Value)} {l:List MapEntry},j9 ρ es l->∀ (i:Nat) (k v:Value),es[i]? = some (k,v)->∃ e,l[i]? = some e/\VR ρ k e.key/\VR ρ v e.val
 | [],l,h,i,k,v,hi=>by simp at hi
 | (k,v)::es,l,h,i,k',v',hi=>by
  simp only [j9] at h;obtain ⟨e,r,rfl,h1,h2,h⟩:=h;cases i with
  | zero=>simp at hi; obtain ⟨rfl,rfl⟩:=hi; exact ⟨e,rfl,h1,h2⟩
  | succ i=>simp at hi; simpa using j9.get h i k' v' hi
theorem j9.append {ρ:a7} : ∀ {es:List (Value×Value)} {l:List MapEntry} {k v:Value} {e:MapEntry},j9 ρ es l->VR ρ k e.key->VR ρ v e.val->j9 ρ (es++[(k,v)]) (l++[e])
 | [],l,k,v,e,h,h1,h2=>by
  simp only [j9] at h; subst h;simp only [List.nil_append,j9];exact ⟨e,[],rfl,h1,h2,rfl⟩
 | (k0,v0)::es,l,k,v,e,h,h1,h2=>by
  simp only [j9] at h;obtain ⟨e0,r,rfl,h3,h4,h⟩:=h;simp only [List.cons_append,j9];exact ⟨e0,r++[e],rfl,h3,h4,j9.append h h1 h2⟩
theorem j9.modify {ρ:a7} : ∀ {es:List (Value×Value)} {l:List MapEntry} {k v:Value} (f:MapEntry->MapEntry) (i:Nat),j9 ρ es l->(∀ e,VR ρ k (f e).key/\VR ρ v (f e).val)->j9 ρ (es.set i (k,v)) (l.modify i f)
 | [],l,k,v,f,i,h,_=>by simp only [j9] at h; subst h; simp [j9]
 | (k0,v0)::es,l,k,v,f,i,h,hf=>by
  simp only [j9] at h;obtain ⟨e0,r,rfl,h3,h4,h⟩:=h;cases i with
  | zero=>simp only [List.set_cons_zero,List.modify_zero_cons,j9]; exact ⟨_,r,rfl,(hf e0).1,(hf e0).2,h⟩
  | succ i=>simp only [List.set_cons_succ,List.modify_succ_cons,j9]; exact ⟨e0,_,rfl,h3,h4,j9.modify f i h hf⟩
theorem j9.erase {ρ:a7} : ∀ {es:List (Value×Value)} {l:List MapEntry} (i:Nat),j9 ρ es l->j9 ρ (es.eraseIdx i) (l.eraseIdx i)
 | [],l,i,h=>by simp only [j9] at h; subst h; simp [j9]
 | (k0,v0)::es,l,i,h=>by
  simp only [j9] at h;obtain ⟨e0,r,rfl,h3,h4,h⟩:=h;cases i with
  | zero=>simpa using h
  | succ i=>simp only [List.eraseIdx_cons_succ,j9]; exact ⟨e0,_,rfl,h3,h4,j9.erase i h⟩
def FR (ρ:a7):Option (Nat×Value)->Option (Nat×Value)->Prop
 | none,r=>r=none
 | some (i,v),r=>∃ v',r=some (i,v')/\VR ρ v v'
theorem ZY {ρ:a7} (d:TypeDesc) (k:Value):∀ (es:List (Value×Value)) (l:List MapEntry) (i:Nat),j9 ρ es l->yJ es=true->
  (GB d k es i=none->Instr.findNow d k l i=none)/\∀ r,GB d k es i=some r->∃ r',Instr.findNow d k l i=some r'/\FR ρ r r'
 | [],l,i,h,_=>by
  simp only [j9] at h; subst h;exact ⟨fun h=>by simp [GB] at h,fun r hr=>by simp [GB] at hr; subst hr; exact ⟨none,rfl,rfl⟩⟩
 | (k0,v0)::es,l,i,h,hf=>by
  simp only [j9] at h;obtain ⟨e0,r0,rfl,h3,h4,h⟩:=h;simp only [yJ,aD] at hf;have hk:e0.key=k0:=h3.sn hf.1;have ih:=ZY d k es r0 (i+1) h hf.2;simp only [GB,Instr.findNow,hk];cases hsn:Instr.sameNow d k k0 with
  | none=>exact ⟨fun _=>rfl,fun r hr=>by simp at hr⟩
  | some b=>
   cases b with
   | true=>exact ⟨fun h=>by simp at h,fun r hr=>by simp at hr; subst hr; exact ⟨_,rfl,_,rfl,h4⟩⟩
   | false=>exact ih
theorem ZZ {ρ:a7} (kt:TypeId) (k:Value):∀ (es:List (Value×Value)) (l:List MapEntry) (i:Nat),j9 ρ es l->yJ es=true->
  ∀ r,O5 P kt k es i=some r->∃ r',(∀ w,(Instr.findAsking kt k l i).run P w = .ok r' w)/\FR ρ r r'
 | [],l,i,h,_=>by
  simp only [j9] at h; subst h;intro r hr;simp [O5] at hr; subst hr; exact ⟨none,fun w=>rfl,rfl⟩
 | (k0,v0)::es,l,i,h,hf=>by
  simp only [j9] at h;obtain ⟨e0,r0,rfl,h3,h4,h⟩:=h;simp only [yJ,aD] at hf;have hk:e0.key=k0:=h3.sn hf.1;intro r hr;simp only [O5] at hr;split at hr
  ·rename_i he
   simp at hr; subst hr;refine ⟨some (i,e0.val),fun w=>?_,_,rfl,h4⟩;simp [Instr.findAsking,hk,jx he w]
  ·rename_i he
   obtain ⟨r',h5,h6⟩:=ZZ kt k es r0 (i+1) h hf.2 r hr;refine ⟨r',fun w=>?_,h6⟩;simp only [Instr.findAsking,hk,Sem.run_bind,jx he w,n8];exact h5 w
  ·simp at hr
theorem Rd {ρ:a7} {kt:TypeId} {d:TypeDesc} {k:Value} {es:List (Value×Value)} {l:List MapEntry} {r:Option (Nat×Value)} (hd:P.underlying kt=some d) (h:j9 ρ es l) (hf:yJ es=true) (hr:agl P kt d k es=some r) :
  ∃ r',(∀ w,(Instr.findKey kt k l).run P w = .ok r' w)/\FR ρ r r':=by
 have hn:=ZY d k es l 0 h hf;unfold agl at hr;split at hr
 ·rename_i q hq
  simp at hr; subst hr;obtain ⟨r',h1,h2⟩:=hn.2 _ hq;refine ⟨r',fun w=>?_,h2⟩;simp only [Instr.findKey,Sem.run_bind,bI hd,n8,h1];rfl
 ·rename_i hq
  have h1:=hn.1 hq;obtain ⟨r',h2,h3⟩:=ZZ kt k es l 0 h hf r hr;refine ⟨r',fun w=>?_,h3⟩;simp only [Instr.findKey,Sem.run_bind,bI hd,n8,h1];exact h2 w
theorem Kj {ρ:a7} {kt:TypeId} {b:Bool} {k k' : Value} {es:List (Value×Value)} (h:N4 P kt b k es=true) (hk:VR ρ k k'):k' = k/\flat k=true/\yJ es=true/\∀ w,(Instr.checkKey b 10000 kt k).run P w = .ok () w:=by
 unfold N4 at h;simp only [aD] at h;obtain ⟨⟨h1,h2⟩,h3⟩:=h;cases hp:dP P (Instr.checkKey b 10000 kt k) with
 | none=>rw [hp] at h3; simp at h3
 | some u=>exact ⟨hk.sn h1,h1,h2,fun w=>jx hp w⟩
theorem j9.isEmpty {ρ:a7} {es:List (Value×Value)} {l:Array MapEntry} (h:j9 ρ es l.toList):l.isEmpty=es.isEmpty:=by
 have:=h.length;cases es with
 | nil=>simp at this; simpa using this
 | cons e es=>simp at this; simp; intro h; rw [h] at this; simp at this
theorem VR.Uc {ρ:a7} {r:Nat} {v:Value} (h:VR ρ (.map (some r)) v):∃ l,ρ r=some l/\v = .map (some l.cb):=by simpa only [VR] using h
theorem VR.Kk {ρ:a7} {v:Value} (h:VR ρ (.map none) v):v = .map none:=by simpa only [VR] using h
theorem VR.ajR {ρ:a7} {ok b:Bool} {v v' : Value} (h:VR ρ v v'):VR ρ (ajR ok v b) (if ok then .tuple #[v',.bool b] else v'):=by
 cases ok with
 | true=>exact VR.mkTuple (.cons h (.cons (VR.of_flat rfl) .nil))
 | false=>exact h
theorem amu {t:TypeId} {r:Option Operand} (ho:o.op = .makeMap t r):js P o (TX P t r):=by
 unfold TX;split
 ·rename_i kt et hu
  intro ρ ev df obj mk he hf;have mi:obj = .map []/\mk=fun n=>.map (some n):=by
   unfold ab0 at hf;split at hf
   ·simp at hf; exact ⟨hf.1.symm,hf.2.symm⟩
   ·simp at hf; exact ⟨hf.1.symm,hf.2.symm⟩
   ·simp at hf
  obtain ⟨rfl,rfl⟩:=mi;refine ⟨.map #[] 0,fun n=>.map (some n),rfl,fun w=>?_,fun a8 n cb h=>by simp only [VR]; exact ⟨_,h,rfl⟩⟩;cases r with
  | none=>simp [execOp,ho,Instr.makeMap]
  | some x=>
   have hx:=he x (by simp [hM]);unfold ab0 at hf;simp only [hM,List.map] at hf;split at hf
   ·rename_i e; simp at e
   ·rename_i k n e
    simp at e;rw [e] at hx;simp [execOp,ho,Instr.makeMap,hx.dR,bI hu,asInt,asIntOf]
   ·simp at hf
 ·trivial
theorem Ph {ρ:a7} {kt et:TypeId} {d:TypeDesc} {z v k k' : Value} {ok:Bool} {es:List (Value×Value)} {l:Array MapEntry} (hd:P.underlying kt=some d) (hz:wj P et=some z) (hzf:flat z=true)
  (hm:j9 ρ es l.toList) (hk:VR ρ k k') (h:Q0 P kt d z ok k es=some v) :
  ∃ v',VR ρ v v'/\∀ w,(do
   Instr.checkKey l.isEmpty 10000 kt k'
   let (v,b) <- match <- Instr.findKey kt k' l.toList with
    | some (_,v)=>pure (v,true)
    | none=>pure (<- zeroValue et,false)
   pure (if ok then Value.tuple #[v,.bool b] else v):Sem Value).run P w = .ok v' w:=by
 unfold Q0 at h;cases hc:N4 P kt es.isEmpty k es with
 | false=>rw [hc] at h; simp at h
 | true=>
  rw [hc,ai] at h;obtain ⟨rfl,_,hkf,hch⟩:=Kj hc hk;obtain ⟨r,hr,rfl⟩:=de.1 h;obtain ⟨r',h1,h2⟩:=Rd hd hm hkf hr;rw [hm.isEmpty];cases r with
  | none=>
   have h2:r' = none:=h2;subst h2;refine ⟨_,VR.ajR (VR.of_flat hzf),fun w=>?_⟩;simp [hch,h1,Wi hz]
  | some p=>
   obtain ⟨i,u⟩:=p;obtain ⟨u',rfl,h3⟩:=h2;refine ⟨_,VR.ajR h3,fun w=>?_⟩;simp [hch,h1]
theorem aoC {t:TypeId} {x ix:Operand} {ok:Bool} (ho:o.op = .lookup t x ix ok):js P o (Yv P t x ix ok):=by
 unfold Yv;split
 ·rename_i kt et hu
  split
  ·rename_i d z hd hz
   cases hzf:flat z with
   | false=>exact True.intro
   | true=>
    rw [ai];intro ρ A base w ev df v hs he hf;have hx:=he x (by simp);have hk:=he ix (by simp);simp only [List.map] at hf;unfold amk at hf;split at hf
    ·rename_i k e
     simp at e;obtain ⟨e1,e2⟩:=e;rw [e1] at hx;have hx:=hx.Kk;rw [<- e2] at hf;obtain ⟨v',h1,h2⟩:=Ph (ρ:=ρ) (l:=#[]) hd hz hzf (by simp [j9]) hk hf;refine ⟨v',h1,?_⟩;have h2:=h2 w;simp only [execOp,ho,Instr.lookup,Sem.run_bind,bI hu,n8,hx,Sem.run_pure] at h2 ⊢;exact congrArg (fun r:Result Value=>r.andThen fun a w'=>Result.ok (Next.value a) w') h2
    ·rename_i r k e
     simp at e;obtain ⟨e1,e2⟩:=e;rw [e1] at hx;rw [<- e2] at hf;obtain ⟨lc,hl,hx⟩:=hx.Uc;split at hf
     ·rename_i es hg
      obtain ⟨l2,qf,lC⟩:=hs.map _ _ hg;rw [hl] at qf; simp at qf; subst qf;obtain ⟨bC,clock,sF,hm⟩:=lC.sq;obtain ⟨v',h1,h2⟩:=Ph (l:=bC) hd hz hzf hm hk hf;refine ⟨v',h1,?_⟩;have h2:=h2 w;simp only [execOp,ho,Instr.lookup,Sem.run_bind,bI hu,n8,hx,MapKept.run_getObj_map sF,Sem.run_pure] at h2 ⊢;exact congrArg (fun r:Result Value=>r.andThen fun a w'=>Result.ok (Next.value a) w') h2
     ·simp at hf
    ·simp at hf
  ·trivial
 ·trivial
theorem Z0 {ρ:a7} {A B:St} {base:Nat} {w:World} {t kt et:TypeId} {d:TypeDesc} {m k x m' k' x' v:Value} (hu:P.underlying t=some (.map kt et)) (hd:P.underlying kt=some d) (hs:zP ρ A base w)
  (hm:VR ρ m m') (hk:VR ρ k k') (hx:VR ρ x x') (h:TW P kt d A [m,k,x] = some (v,B)):v=undef/\∃ w',(Instr.mapUpdate t m' k' x').run P w = .ok () w'/\pw base ρ A w ρ B w':=by
 unfold TW at h;split at h
 ·rename_i r k0 x0 e
  simp at e;obtain ⟨rfl,rfl,rfl⟩:=e;obtain ⟨lc,hl,rfl⟩:=hm.Uc;split at h
  ·rename_i es hg
   obtain ⟨l2,qf,lC⟩:=hs.rel.map _ _ hg;rw [hl] at qf; simp at qf; subst qf;obtain ⟨bC,clock,sF,hmr⟩:=lC.sq;cases hc:N4 P kt false k es with
   | false=>rw [hc] at h; simp at h
   | true=>
    rw [hc,ai] at h;obtain ⟨rfl,hkf0,hkf,hch⟩:=Kj hc hk;obtain ⟨q,hq,h⟩:=dr.1 h;obtain ⟨r',h1,h2⟩:=Rd hd hmr hkf hq;cases q with
    | none=>
     have h2:r' = none:=h2;subst h2;simp at h;obtain ⟨rfl,rfl⟩:=h;refine ⟨rfl,_,?_,EX (JR:=bC.push { key:=k',val:=x',born:=clock }) (HT:=clock+1) hs hg hl (by rw [Array.toList_push]; exact hmr.append hk hx)⟩;simp [Instr.mapUpdate,bI hu,MapKept.run_getObj_map sF,hch,h1,MapKept.run_setObj_map _ sF]
    | some p=>
     obtain ⟨i,u⟩:=p;obtain ⟨u',rfl,h3⟩:=h2;simp only at h;cases hsb:Instr.sameBits 10000 (akR es i k') k' with
     | false=>rw [hsb] at h; simp at h
     | true=>
      rw [hsb] at h;simp at h;obtain ⟨rfl,rfl⟩:=h;have hold:((bC[i]?).map (·.key)).getD k' = akR es i k':=by
       unfold akR;cases hi:es[i]? with
       | none=>
        have:bC[i]? = none:=by
         rw [Array.getElem?_eq_none_iff];have:=afN.1 hi;rw [<- Array.length_toList,hmr.length]; exact this
        rw [this]; rfl
       | some p=>
        obtain ⟨k1,v1⟩:=p;obtain ⟨e,h5,h6,h7⟩:=hmr.get i k1 v1 hi;have h5' : bC[i]? = some e:=by simpa using h5
        have Pf:flat k1=true:=by
         have key:∀ (es:List (Value×Value)) (i:Nat),yJ es=true->es[i]? = some (k1,v1)->flat k1=true:=by
          intro es
          induction es with
          | nil=>intro i _ h; simp at h
          | cons e es ih=>
           intro i hk h;simp only [yJ,aD] at hk;cases i with
           | zero=>simp at h; subst h; exact hk.1
           | succ i=>exact ih i hk.2 (by simpa using h)
         exact key es i hkf hi
        rw [h5'];simp only [Option.map_some,bq];exact h6.sn Pf
      refine ⟨rfl,_,?_,EX (JR:=bC.modify i fun e=>{ e with key:=k',val:=x' }) (HT:=clock) hs hg hl (by rw [Array.toList_modify]; exact hmr.modify _ i fun e=>⟨hk,hx⟩)⟩;simp [Instr.mapUpdate,bI hu,MapKept.run_getObj_map sF,hch,h1,hold,Instr.keyThatStays,hsb,MapKept.run_setObj_map _ sF]
  ·simp at h
 ·simp at h
theorem XB {t:TypeId} {m k x:Operand} (ho:o.op = .mapUpdate t m k x\/o.op = .insert t m k x):js P o (HO P t m k x):=by
 unfold HO;split
 ·rename_i kt et hu
  split
  ·rename_i d hd
   intro ρ A B base w ev df v hs he hf;simp only [List.map] at hf;obtain ⟨rfl,w',h1,h2⟩:=Z0 hu hd hs (he m (by simp)) (he k (by simp)) (he x (by simp)) hf;refine ⟨ρ,undef,.skip,w',?_,rfl,VR.of_flat (by simp [undef,flat,QR,zM]),h2⟩;rcases ho with ho | ho <;> simp [execOp,ho,h1]
  ·trivial
 ·trivial
theorem zS:flat nq=true:=rfl
theorem aoD {argTypes:Array TypeId} {args:Array Operand} (ho:o.op = .call ⟨.builtin .delete,args,argTypes⟩):js P o (Yw P argTypes.toList args.toList):=by
 unfold Yw;split
 ·rename_i t rest EV
  have SM:argTypes[0]? = some t:=by rw [<- Array.getElem?_toList,EV]; rfl
  split
  ·rename_i kt et hu
   split
   ·rename_i d hd
    intro ρ A B base w ev df v hs he hf;have hm:=he.map;unfold aml at hf;split at hf
    ·rename_i k e1
     rw [e1] at hm;obtain ⟨m',r1,e2,hmv,hm⟩:=hm.cons_inv;obtain ⟨k',r2,e3,hkv,hm⟩:=hm.cons_inv;have:=hm.cw;subst this e3;have e4:args.map df = #[m',k']:=by apply Array.ext'; simpa using e2
     have:=hmv.Kk;subst this;cases hc:N4 P kt true k [] with
     | false=>rw [hc] at hf; simp at hf
     | true=>
      rw [hc] at hf;simp at hf;obtain ⟨rfl,rfl⟩:=hf;obtain ⟨rfl,_,hkf,hch⟩:=Kj hc hkv;refine ⟨ρ,nq,.value nq,w,?_,rfl,VR.of_flat zS,.refl hs⟩;simp [execOp,ho,resolve,invoke,builtin,e4,Builtin.delete_,SM,bI hu,hch,nq]
    ·rename_i r k e1
     rw [e1] at hm;obtain ⟨m',r1,e2,hmv,hm⟩:=hm.cons_inv;obtain ⟨k',r2,e3,hkv,hm⟩:=hm.cons_inv;have:=hm.cw;subst this e3;have e4:args.map df = #[m',k']:=by apply Array.ext'; simpa using e2
     obtain ⟨lc,hl,rfl⟩:=hmv.Uc;split at hf
     ·rename_i es hg
      obtain ⟨l2,qf,lC⟩:=hs.rel.map _ _ hg;rw [hl] at qf; simp at qf; subst qf;obtain ⟨bC,clock,sF,hmr⟩:=lC.sq;cases hc:N4 P kt es.isEmpty k es with
      | false=>rw [hc] at hf; simp at hf
      | true=>
       rw [hc,ai] at hf;obtain ⟨rfl,_,hkf,hch⟩:=Kj hc hkv;obtain ⟨q,hq,Pj⟩:=de.1 hf;obtain ⟨r',h1,h2⟩:=Rd hd hmr hkf hq;rw [<- hmr.isEmpty] at hch;cases q with
       | none=>
        have h2:r' = none:=h2;subst h2;simp at Pj;obtain ⟨rfl,rfl⟩:=Pj;refine ⟨ρ,nq,.value nq,_,?_,rfl,VR.of_flat zS,EX (JR:=bC) (HT:=clock) hs hg hl hmr⟩;simp [execOp,ho,resolve,invoke,builtin,e4,Builtin.delete_,SM,bI hu,MapKept.run_getObj_map sF,hch,h1,MapKept.run_setObj_map _ sF,nq]
       | some p=>
        obtain ⟨i,u⟩:=p;obtain ⟨u',rfl,h3⟩:=h2;simp at Pj;obtain ⟨rfl,rfl⟩:=Pj;refine ⟨ρ,nq,.value nq,_,?_,rfl,VR.of_flat zS,EX (JR:=bC.eraseIdxIfInBounds i) (HT:=clock) hs hg hl (by rw [Array.toList_eraseIdxIfInBounds]; exact hmr.erase i)⟩;simp [execOp,ho,resolve,invoke,builtin,e4,Builtin.delete_,SM,bI hu,MapKept.run_getObj_map sF,hch,h1,MapKept.run_setObj_map _ sF,nq]
     ·simp at hf
    ·simp at hf
   ·trivial
  ·trivial
 ·trivial
theorem aqV {argTypes:Array TypeId} {args:Array Operand} (ho:o.op = .call ⟨.builtin .clear,args,argTypes⟩):js P o (ab1 P argTypes.toList args.toList):=by
 unfold ab1;split
 ·rename_i t EV
  have SM:argTypes[0]? = some t:=by rw [<- Array.getElem?_toList,EV]; rfl
  split
  ·rename_i kt et hu
   intro ρ A B base w ev df v hs he hf;have hm:=he.map;unfold agm at hf;split at hf
   ·rename_i e1
    simp at hf;obtain ⟨rfl,rfl⟩:=hf;rw [e1] at hm;obtain ⟨m',r1,e2,hmv,hm⟩:=hm.cons_inv;have:=hm.cw;subst this;have e4:args.map df = #[m']:=by apply Array.ext'; simpa using e2
    have:=hmv.Kk;subst this;refine ⟨ρ,nq,.value nq,w,?_,rfl,VR.of_flat zS,.refl hs⟩;simp [execOp,ho,resolve,invoke,builtin,e4,Builtin.clear_,SM,bI hu,nq]
   ·rename_i r e1
    rw [e1] at hm;obtain ⟨m',r1,e2,hmv,hm⟩:=hm.cons_inv;have:=hm.cw;subst this;have e4:args.map df = #[m']:=by apply Array.ext'; simpa using e2
    obtain ⟨lc,hl,rfl⟩:=hmv.Uc;split at hf
    ·rename_i es hg
     simp at hf;obtain ⟨rfl,rfl⟩:=hf;obtain ⟨l2,qf,lC⟩:=hs.rel.map _ _ hg;rw [hl] at qf; simp at qf; subst qf;obtain ⟨bC,clock,sF,hmr⟩:=lC.sq;refine ⟨ρ,nq,.value nq,_,?_,rfl,VR.of_flat zS,EX (JR:=#[]) (HT:=clock) hs hg hl rfl⟩;simp [execOp,ho,resolve,invoke,builtin,e4,Builtin.clear_,SM,bI hu,MapKept.run_getObj_map sF,MapKept.run_setObj_map _ sF,nq]
    ·simp at hf
   ·simp at hf
  ·rename_i e hu
   split
   ·rename_i z hz
    cases hzc:(flat z&&Nat.ble 1 z.cells.size) with
    | false=>exact True.intro
    | true=>
     rw [ai];obtain ⟨Pd,I6⟩:=Bool.and_eq_true_iff.1 hzc;have I6:=gD I6;intro ρ A B base w ev df v hs he hf;have hm:=he.map;unfold ajS at hf;split at hf
     ·rename_i n c e1
      simp at hf;obtain ⟨rfl,rfl⟩:=hf;rw [e1] at hm;obtain ⟨m',r1,e2,hmv,hm⟩:=hm.cons_inv;have:=hm.cw;subst this;have e4:args.map df = #[m']:=by apply Array.ext'; simpa using e2
      have:=hmv.kH;subst this;refine ⟨ρ,nq,.value nq,w,?_,rfl,VR.of_flat zS,.refl hs⟩;simp [execOp,ho,resolve,invoke,builtin,e4,Builtin.clear_,SM,bI hu,nq]
     ·rename_i a n c e1
      rw [e1] at hm;obtain ⟨m',r1,e2,hmv,hm⟩:=hm.cons_inv;have:=hm.cw;subst this;have e4:args.map df = #[m']:=by apply Array.ext'; simpa using e2
      obtain ⟨A9,MP,lc,a',c',hl,yo,TZ,sW,rfl⟩:=hmv.rZ;cases hn:Nat.beq n 0 with
      | true=>
       rw [hn] at hf;simp at hf;obtain ⟨rfl,rfl⟩:=hf;have:=bm hn;subst this;refine ⟨ρ,nq,.value nq,w,?_,rfl,VR.of_flat zS,.refl hs⟩;simp [execOp,ho,resolve,invoke,builtin,e4,Builtin.clear_,SM,bI hu,nq]
      | false=>
       rw [hn,aw] at hf;have hn0:=Nat.ne_of_beq_eq_false hn;obtain ⟨B',jN,hf⟩:=de.1 hf;simp at hf;obtain ⟨rfl,rfl⟩:=hf;obtain ⟨w',h5,h6⟩:=HR (P:=P) hs jN hl ((M3 Pd).repeat n);have:=TZ (by omega);subst this;have e5:Builtin.zeroCells z.cells n=⟨ie z.cells.toList n⟩:=YC z.cells n I6;refine ⟨ρ,nq,.value nq,w',?_,rfl,VR.of_flat zS,h6⟩;obtain ⟨m,rfl⟩:=Nat.exists_eq_succ_of_ne_zero hn0;simp [execOp,ho,resolve,invoke,builtin,e4,Builtin.clear_,SM,bI hu,Wi hz,e5,h5,nq]
     ·simp at hf
   ·trivial
  ·trivial
 ·trivial
theorem auh {argTypes:Array TypeId} {args:Array Operand} (ho:o.op = .call ⟨.builtin .len,args,argTypes⟩):js P o (afS P argTypes.toList args.toList):=by
 unfold afS;split
 ·rename_i t et
  have EV:argTypes[0]? = some t:=by rw [<- Array.getElem?_toList,et]; rfl
  split
  ·rename_i e hu; exact aqR ho EV hu
  ·rename_i hu; exact aoA ho EV hu
  ·rename_i kt et' hu
   intro ρ A base w ev df v hs he hf;have hm:=he.map;unfold amm at hf;split at hf
   ·rename_i e1
    rw [e1] at hm;obtain ⟨y,ys,e2,h1,h2⟩:=hm.cons_inv;have:=h2.cw;subst this;simp at hf; subst hf;have:=h1.Kk;subst this;refine ⟨_,VR.of_flat rfl,?_⟩;have e3:(args.map df)[0]? = some (.map none):=by rw [rA,e2]; rfl
    simp [execOp,ho,resolve,invoke,builtin,Builtin.len_,EV,e3,bI hu,goInt]
   ·rename_i r e1
    rw [e1] at hm;obtain ⟨y,ys,e2,h1,h2⟩:=hm.cons_inv;have:=h2.cw;subst this;obtain ⟨lc,hl,rfl⟩:=h1.Uc;split at hf
    ·rename_i es hg
     simp at hf; subst hf;obtain ⟨l2,qf,lC⟩:=hs.map _ _ hg;rw [hl] at qf; simp at qf; subst qf;obtain ⟨bC,clock,sF,hmr⟩:=lC.sq;refine ⟨_,VR.of_flat rfl,?_⟩;have e3:(args.map df)[0]? = some (.map (some lc.cb)):=by rw [rA,e2]; rfl
     have gI:bC.size=es.length:=by rw [<- Array.length_toList,hmr.length]
     simp [execOp,ho,resolve,invoke,builtin,Builtin.len_,EV,e3,bI hu,goInt,MapKept.run_getObj_map sF,gI]
    ·simp at hf
   ·simp at hf
  ·trivial
 ·trivial
end
end Go.aF
end
section
namespace Go.aF
open Go
section
variable {P:Program} {o:Oper}
theorem ak1 {l:List UInt8} : ∀ {cs:List Value},MX cs=some l->cs=nL l:=by
 intro cs
 induction cs generalizing l with
 | nil=>intro h; simp [MX] at h; subst h; rfl
 | cons c cs ih=>
  intro h;cases c with
  | int k n=>
   cases k <;> cases n <;> simp only [MX] at h <;> try (simp at h; done)
   rename_i m;cases hb:Nat.blt m 256 with
   | false=>rw [hb] at h; simp at h
   | true=>
    rw [hb,ai] at h;obtain ⟨r,hr,rfl⟩:=de.1 h;rw [bZ] at hb;rw [ih hr];simp only [nL,List.map_cons,List.cons.injEq,and_true];have:(UInt8.ofNat m).toNat=m:=by simp; omega
    rw [this];rfl
  | _=>simp [MX] at h
theorem ai7 {ρ:a7} (l:List UInt8):eN ρ (nL l) (nL l):=by
 induction l with
 | nil=>exact .nil
 | cons x l ih=>exact .cons (by simp [VR]) ih
theorem Ud:∀ (l:List UInt8),zM (nL l)=true
 | []=>rfl
 | x::l=>by show (true&&zM (nL l))=true; rw [Ud l]; rfl
theorem agE {e:TypeId} (h:isByte P e=true):P.underlying e=some (.int .u8):=by
 unfold isByte at h;split at h
 ·rename_i h'; exact h'
 ·simp at h
theorem ae5 {ρ:a7} {A:St} {base:Nat} {w:World} {cs cm:List Value} {c:Array Value} {n aZ f:Nat} {fr:Nat×Nat} (T:TypeId) (hn1:n=1) (hs:zP ρ A base w) (hc:eN ρ cs cm) (h1:∀ v∈cs,scalar v=true)
  (asd:∀ (j:Nat) (v:Value),cm[j]? = some v->c[j]? = some v) (gI:cs.length<=c.size) (TC:c.size<=fr.1) :
  pw base ρ A w (ρ.set A.next ⟨w.heap.size,0,c.size,n⟩) (A.grow aZ f cs n) (w.alloc (.cells c T fr)):=by
 refine Le (o:=.row cs n true (some (aZ,f))) hs (fun x=>Pg _ _ _ _ _ _) (fun g x h=>?_) (fun g f' h=>?_) (by simp [St.grow]) (by simp [St.grow]) (fun x hx _=>by rw [Pg,ay (by omega)]) rfl ?_
 ·rw [CT]; split
  ·rename_i e; subst e; simp [h]
  ·exact h
 ·simp [du.pC] at h; rw [CT,h.1]; simp
 ·refine ⟨fun i v hi=>?_,fun h=>by simp at h,fun _=>hs.size,fun _ j hj=>?_,by simpa using gI,fun _ h=>by simp at h,rfl,by simp,fun _ h=>absurd hn1 h⟩
  ·obtain ⟨v',h2,h3⟩:=hc.get hi
   refine ⟨v',?_,h3.mono (hs.Q7 _),h1 v (jj hi)⟩;rw [bh,World.cell?_alloc_mark];exact asd i v' h2
  ·simp only at hj ⊢
   rw [World.cell?_alloc_mark];refine ⟨?_,?_⟩
   ·rw [Array.getElem?_eq_getElem (by omega)]
    rfl
   ·have:(w.alloc (.cells c T fr)).heap[w.heap.size]? = some (.cells c T fr):=by
     show (w.heap.push (.cells c T fr))[w.heap.size]? = _;simp
    simp only [World.frozen?,this];have eH : ¬ (fr.1<=j):=by omega
    simp [eH]
theorem ab7 {ρ:a7} {A:St} {base:Nat} {w:World} {src dst e:TypeId} {x x' v:Value} (hs:Rel ρ A.get A.members base w) (h1:P.underlying src=some (.slice e)) (h2:P.underlying dst=some .string) (he:P.underlying e=some (.int .u8))
  (hx:VR ρ x x') (h:Lb A [x] = some v):VR ρ v v/\(convert src dst x').run P w = .ok v w:=by
 unfold Lb at h;split at h
 ·rename_i n c e1
  simp at e1; subst e1;simp at h; subst h;have:=hx.kH;subst this;refine ⟨VR.of_flat rfl,?_⟩;rw [run_convert_bytes_string w src dst e none n c h1 he h2];rfl
 ·rename_i a n c e1
  simp at e1; subst e1;obtain ⟨l,hl,rfl⟩:=de.1 h;obtain ⟨cs,Q9,hb⟩:=dr.1 hl;have:=ak1 hb;subst this;obtain ⟨A9,MP,lc,a',c',ob,yo,TZ,sW,rfl⟩:=hx.rZ;obtain ⟨cm,q1,q2,q3,q4⟩:=A8 (P:=P) hs Q9 ob;have asi:cm=nL l:=q1.sn (Ud l);subst asi;have hlen:l.length=n:=by simpa [nL] using q2
  refine ⟨VR.of_flat rfl,?_⟩;rw [run_convert_bytes_string w src dst e (some a') n c' h1 he h2];have I8:(loadCells a' n).run P w = .ok (nL l).toArray w:=by
   by_cases hc:c' = 0
   ·have hn0:n=0:=by omega
    subst hn0;have:l = []:=List.eq_nil_of_length_eq_zero hlen;subst this;exact run_loadCells_list w a' [] (by simp)
   ·rw [TZ hc]; exact q4
  have vy:nL l=(l.map (fun b=>(b.toNat:Int))).map (Value.int .u8):=by simp [nL]
  rw [vy] at I8;rw [run_bytesToString w a' n c' _ I8,foldl_push_byteCells];have he0:ByteArray.empty.data = #[]:=rfl;rw [he0];simp
 ·simp at h
theorem ab8 {ρ:a7} {A B:St} {base:Nat} {w:World} {src dst e:TypeId} {x x' v:Value} (hs:zP ρ A base w) (h1:P.underlying src=some .string) (h2:P.underlying dst=some (.slice e)) (he:P.underlying e=some (.int .u8))
  (hx:VR ρ x x') (h:Q3 A [x] = some (v,B)):∃ a8 v' w',(convert src dst x').run P w = .ok v' w'/\VR a8 v v'/\pw base ρ A w a8 B w':=by
 unfold Q3 at h;split at h
 ·rename_i s e1
  simp at e1; subst e1;simp at h;obtain ⟨rfl,rfl⟩:=h;have:=hx.sX;subst this;have hr:=run_bytes_of_string (P:=P) w src dst e s h1 h2 he;have hge:=grownCap_ge w s.size 0 e;have hds:s.data.size=s.size:=rfl;have Rb:(bytesRow s (grownCap w s.size 0 e)).size=grownCap w s.size 0 e:=by
   unfold bytesRow;simp [hds];omega
  have hdr:=pw.drew (w:=w) hs;have hgo:=ae5 (w:=w.drew) (n:=1) (aZ:=A.next) (f:=0) (c:=bytesRow s (grownCap w s.size 0 e)) (fr:=((bytesRow s (grownCap w s.size 0 e)).size,(bytesRow s (grownCap w s.size 0 e)).size+1)) e rfl hdr.kV
   (ai7 s.data.toList) (fun v hv=>by
    obtain ⟨b,_,rfl⟩:=HK.1 hv;rfl) (fun j v hj=>by
    unfold bytesRow;have bt:j < s.data.size:=by
     have:=(dD.1 hj).1;simpa [nL] using this
    rw [Array.getElem?_append_left (by simpa using bt)];simpa [nL] using hj) (by rw [Rb]; simp [nL,hds]; exact hge) (aW _)
  refine ⟨_,_,_,hr,?_,hdr.trans hgo⟩;simp only [VR];refine ⟨trivial,aW _,_,⟨w.heap.size,0,none⟩,grownCap w s.size 0 e,a7.uF _ _ _,hge,fun _=>rfl,?_,rfl⟩;rw [Rb];show 0+0+grownCap w s.size 0 e * 1<=grownCap w s.size 0 e;omega
 ·simp at h
theorem asj {src dst:TypeId} {x:Operand} (ho:o.op = .convert src dst x):js P o (Im P src dst x):=by
 unfold Im;split
 ·rename_i e h1 h2
  cases hb:isByte P e with
  | false=>exact True.intro
  | true=>
   rw [ai];intro ρ A base w ev df v hs he hf;obtain ⟨h3,h4⟩:=ab7 hs h1 h2 (agE hb) (he x (by simp)) hf;exact ⟨v,h3,by simp [execOp,ho,h4]⟩
 ·rename_i e h1 h2
  cases hb:isByte P e with
  | false=>exact True.intro
  | true=>
   rw [ai];intro ρ A B base w ev df v hs he hf;obtain ⟨a8,v',w',h3,h4,h5⟩:=ab8 hs h1 h2 (agE hb) (he x (by simp)) hf;exact ⟨a8,v',.value v',w',by simp [execOp,ho,h3],rfl,h4,h5⟩
 ·rename_i h1 h2
  intro ρ ev df v he hf;simp only [List.map] at hf;unfold agn at hf;split at hf
  ·rename_i s e
   simp at e hf;subst hf;have hx:=he x (by simp);rw [e] at hx;refine ⟨_,VR.of_flat rfl,fun w=>?_⟩;simp [execOp,ho,convert,bI h1,bI h2,hx.sX]
  ·simp at hf
 ·exact amq ho
theorem ai8 {ρ:a7} {A:St} {base:Nat} {w:World} {r:Nat} {s:List UInt8} {pos Z1:Nat} {l:Loc} (hs:zP ρ A base w) (hg:A.get r=some (.iter s pos)) (ob:ρ r=some l) :
  pw base ρ A w ρ (A.put r (.iter s Z1)) { w with heap:=w.heap.setIfInBounds l.cb (.stringIter ⟨⟨s⟩⟩ Z1) }:=by
 obtain ⟨l',tG,ok⟩:=hs.rel.iter _ _ _ hg;rw [ob] at tG; simp at tG; subst tG;obtain ⟨SN,sF⟩:=ok.sq;have bt:l.cb < w.heap.size:=(EN.1 sF).1;have Oa:du.gJ (.iter s pos)=true:=rfl;have hold:∀ k,k≠l.cb->(w.heap.setIfInBounds l.cb (.stringIter ⟨⟨s⟩⟩ Z1))[k]? = w.heap[k]?:=fun k hk=>by
  rw [Array.getElem?_setIfInBounds_ne (Ne.symm hk)]
 have gI:(w.heap.setIfInBounds l.cb (.stringIter ⟨⟨s⟩⟩ Z1)).size=w.heap.size:=by simp
 have hB:∀ x,(A.put r (.iter s Z1)).get x=if x=r then some (.iter s Z1) else A.get x:=fun x=>St.cr _ _ _ _;have hmd:∀ o:du,o.gJ=true->o≠.dead:=by intro o h e; subst e; simp [du.gJ] at h
 have agr:∀ x o l2,x≠r->A.get x=some o->o≠.dead->ρ x=some l2->N8 ρ base w l2 o->l2.cb≠l.cb:=by
  intro x o l2 hx lB hd zR lC e;cases hmo:o.gJ with
  | true=>
   obtain ⟨_,_,_,_,e1,_⟩:=hs.rel.apart x r o _ l2 l hx lB hg hmo Oa zR ob e;simp [du.pC] at e1
  | false=>
   cases o with
   | row cs cc own bV=>
    have lC:Q5 ρ base w l2 cs cc own bV:=lC;have h1:own=false:=hmo;have:=lC.yn h1;have:=ok.gJ;omega
   | map _=>simp [du.gJ] at hmo
   | iter _ _=>simp [du.gJ] at hmo
   | dead=>exact hd rfl
   | loop _ _ _ _ _ _=>simp [du.gJ] at hmo
 refine ⟨⟨.Q8 ?_ ?_ ?_,fun b l2 h=>hs.oC b l2 h,by simpa using hs.size,hs.SL⟩,fun _ _=>rfl,⟨rfl,rfl,rfl,Nat.le_of_eq gI.symm,fun k hk hn=>hold k (fun e=>hn ⟨r,_,l,hg,Oa,ob,e.symm⟩)⟩,aW _,Nat.min_le_left _ _,fun x hx hxl=>?_,?_⟩
 ·intro x o lB hd
  rw [hB] at lB;split at lB
  ·rename_i e; subst e; simp at lB; subst lB
   refine ⟨l,ob,ok.gJ,SN,?_⟩;show (w.heap.setIfInBounds l.cb (.stringIter ⟨⟨s⟩⟩ Z1))[l.cb]? = _;rw [Array.getElem?_setIfInBounds_self_of_lt bt]
  ·rename_i e
   obtain ⟨l2,zR,lC⟩:=hs.rel.obj lB hd;exact ⟨l2,zR,lC.pF (a7.le_refl _) (hold _ (agr x o l2 e lB hd zR lC)) (Nat.le_of_eq gI.symm)⟩
 ·have ZT:∀ x o,(A.put r (.iter s Z1)).get x=some o->o.gJ=true->∃ o',A.get x=some o'/\o'.gJ=true/\o'.pC=o.pC:=by
   intro x o hx hm;rw [hB] at hx;split at hx
   ·rename_i e; subst e; simp at hx; subst hx; exact ⟨_,hg,rfl,rfl⟩
   ·exact ⟨o,hx,hm,rfl⟩
  intro b1 b2 o1 o2 l1 l2 eY g1 g2 m1 m2 r1 r2 YA;obtain ⟨p1,q1,n1,k1⟩:=ZT _ _ g1 m1;obtain ⟨p2,q2,n2,k2⟩:=ZT _ _ g2 m2;rw [<- k1,<- k2];exact hs.rel.apart b1 b2 p1 p2 l1 l2 eY q1 q2 n1 n2 r1 r2 YA
 ·intro x o aZ f lB hk
  rw [hB] at lB;split at lB
  ·rename_i e; subst e; simp at lB; subst lB; simp [du.pC] at hk
  ·exact hs.rel.bN x o aZ f lB hk
 ·rw [St.agp] at hxl
  have:Nat.min A.low r<=r:=Nat.min_le_right _ _;rw [hB,ay (by omega)]
 ·rintro k hk ⟨x,o,l2,lB,hm,zR,rfl⟩
  rw [hB] at lB;split at lB
  ·rename_i e; subst e
   rw [ob] at zR; simp at zR; subst zR;exact ⟨x,_,l,hg,Oa,ob,rfl⟩
  ·exact ⟨x,o,l2,lB,hm,zR,rfl⟩
theorem aqW {t:TypeId} {x:Operand} (ho:o.op = .range t x):js P o (ab2 P t x):=by
 unfold ab2;split
 ·rename_i hu
  intro ρ ev df obj mk he hf;simp only [List.map] at hf;unfold apP at hf;split at hf
  ·rename_i s e
   simp at e;have hx:=he x (by simp);rw [e] at hx;have hx:=hx.sX;simp at hf;obtain ⟨rfl,rfl⟩:=hf;refine ⟨.stringIter s 0,fun n=>.pointer (some ⟨n,0,none⟩),?_,fun w=>?_,fun a8 n cb h=>VR.Dz (a:=⟨n,0,none⟩) rfl h⟩
   ·show Obj.stringIter s 0 = .stringIter ⟨⟨s.data.toList⟩⟩ 0
    rfl
   ·simp [execOp,ho,Instr.range,bI hu,hx]
  ·simp at hf
 ·trivial
theorem Pk {w:World} {r:Nat} {s:ByteArray} {pos:Nat} (hb:w.heap[r]? = some (.stringIter s pos)):(getObj r).run P w = .ok (.stringIter s pos) w:=by
 simp [getObj,Sem.run,hb]
theorem ab9 {w:World} {r:Nat} {s:ByteArray} {pos:Nat} (o:Obj) (hb:w.heap[r]? = some (.stringIter s pos)):(setObj r o).run P w = .ok () { w with heap:=w.heap.setIfInBounds r o }:=by
 simp [setObj,Sem.run,hb]
theorem asl {it:Operand} {b:Bool} (ho:o.op = .next it b):js P o (cond b (.act aot [it]) .bad):=by
 cases b with
 | false=>trivial
 | true=>
  rw [ai];intro ρ A B base w ev df v hs he hf;simp only [List.map] at hf;unfold aot at hf;split at hf
  ·rename_i a e
   simp at e;have hx:=he it (by simp);rw [e] at hx;obtain ⟨A9,l,hl,hx⟩:=hx.kc;cases ha0:Nat.beq a.off 0 with
   | false=>rw [ha0] at hf; simp at hf
   | true=>
    rw [ha0,ai] at hf;have ha0:=bm ha0;split at hf
    ·rename_i s pos hg
     obtain ⟨l2,qf,ok⟩:=hs.rel.iter _ _ _ hg;rw [hl] at qf; simp at qf; subst qf;obtain ⟨SN,sF⟩:=ok.sq;have gI:(⟨⟨s⟩⟩:ByteArray).size=s.length:=rfl;rw [SN,ha0] at hx;cases bt:Nat.blt pos s.length with
     | true=>
      rw [bt,ai] at hf;rw [bZ] at bt;split at hf;rename_i c width awe;simp at hf;obtain ⟨rfl,rfl⟩:=hf;refine ⟨ρ,.tuple #[.bool true,.int .i64 (Int.ofNat pos),.int .i32 c],.value _,_,?_,rfl,VR.of_flat rfl,ai8 (Z1:=pos+width) hs hg hl⟩;simp [execOp,ho,Instr.next,hx,Pk sF,gI,bt,awe,ab9 _ sF,goInt]
     | false=>
      rw [bt,aw] at hf;have hge : ¬ pos < s.length:=fun h=>by rw [<- bZ] at h; rw [h] at bt; simp at bt
      simp at hf;obtain ⟨rfl,rfl⟩:=hf;refine ⟨ρ,.tuple #[.bool false],.value _,w,?_,rfl,VR.of_flat rfl,.refl hs⟩;simp [execOp,ho,Instr.next,hx,Pk sF,gI,hge]
    ·simp at hf
  ·simp at hf
theorem uW (P:Program) (o:Oper):js P o (compile P o.op):=by
 cases ho:o.op with
 | move x=>exact ar7 ho
 | assign x=>exact aow ho
 | pick c a b=>exact ar8 ho
 | alloc t=>exact aqL ho
 | box t x=>exact aud ho
 | build t parts=>exact aqQ ho
 | buildSlice t len parts=>exact agx ho
 | load t a=>exact ar9 ho
 | store t a x=>exact aqM ho
 | nilCheck x=>exact akV ho
 | binOp op t x y yt=>exact aue ho
 | unOp op t x=>exact avw ho
 | convert src dst x=>exact asj ho
 | makeFunc fn first cap=>exact akW ho
 | fieldAddr s x f=>exact ai3 ho
 | field t x f=>exact aqN ho
 | indexAddr t x ix=>exact ai4 ho
 | index t x ix=>exact aqO ho
 | extract t i=>exact amr ho
 | slice t x lo hi mx=>exact ok_slice ho
 | makeSlice t l c=>exact ai6 ho
 | makeInterface t x=>exact aqS ho
 | range t x=>exact aqW ho
 | next it b=>exact asl ho
 | makeMap t r=>exact amu ho
 | lookup t x ix ok=>exact aoC ho
 | mapUpdate t m k x=>exact XB (.inl ho)
 | insert t m k x=>exact XB (.inr ho)
 | call c=>
  show js P o (ER P c);unfold ER;split
  ·rename_i f hf; exact asb ho hf
  ·rename_i b hb
   obtain ⟨callee,args,argTypes⟩:=c;simp only at hb;subst hb;unfold MZ;split
   ·exact auh ho
   ·exact auf ho
   ·exact aug ho
   ·exact aoB ho
   ·exact ash ho
   ·exact aoD ho
   ·exact aqV ho
   ·trivial
  ·trivial
 | _=>trivial
end
end Go.aF
end
section
namespace Go.aF
noncomputable section
open Go
abbrev Fr (r:Option Nat):Fence:={ Fence.wide with round:=r }
def a7.res (ρ:a7) (n:Nat):a7:=fun b=>if b < n then ρ b else none
theorem a7.afV {ρ:a7} {n b:Nat} (h:b < n):ρ.res n b=ρ b:=by unfold a7.res; rw [aV h]
theorem Yy.under {ρ:a7} {n:Nat} {fn ED:Fn} (hu:akT n fn=true) (h:Yy ρ fn ED):Yy (ρ.res n) fn ED:=by
 cases fn with
 | yield r=>
  obtain ⟨l,h1,h2⟩:=h;simp only [akT] at hu;rw [bZ] at hu;exact ⟨l,by rw [a7.afV hu]; exact h1,h2⟩
 | _=>exact h
mutual
theorem VR.under {ρ:a7} {n:Nat} : ∀ {v v' : Value},aF.under n v=true->VR ρ v v'->VR (ρ.res n) v v'
 | .bool b,v,_,hv=>by simpa [VR] using hv
 | .int k n,v,_,hv=>by simpa [VR] using hv
 | .float k x,v,_,hv=>by simpa [VR] using hv
 | .complex k x y,v,_,hv=>by simpa [VR] using hv
 | .string s,v,_,hv=>by simpa [VR] using hv
 | .pointer none,v,_,hv=>by simpa [VR] using hv
 | .pointer (some a),v,hu,hv=>by
  simp only [aF.under] at hu;rw [bZ] at hu;simp only [VR] at hv ⊢;rw [a7.afV hu];exact hv
 | .slice none n c,v,_,hv=>by simpa [VR] using hv
 | .slice (some a) n c,v,hu,hv=>by
  simp only [aF.under] at hu;rw [bZ] at hu;simp only [VR] at hv ⊢;rw [a7.afV hu];exact hv
 | .map none,v,_,hv=>by simpa [VR] using hv
 | .map (some r),v,hu,hv=>by
  simp only [aF.under] at hu;rw [bZ] at hu;simp only [VR] at hv ⊢;rw [a7.afV hu];exact hv
 | .chan _,_,_,_=>by simp [VR]
 | .func fn f c,v,hu,hv=>by
  simp only [aF.under,aD] at hu;simp only [VR] at hv ⊢;obtain ⟨f',c',h2,h3,ED,h4,h5⟩:=hv;exact ⟨f',c',wm.under hu.1.2 h2,wm.under hu.2 h3,ED,Yy.under hu.1.1 h4,h5⟩
 | .nilFunc,v,_,hv=>by simpa [VR] using hv
 | .iface t x,v,hu,hv=>by
  simp only [aF.under] at hu;simp only [VR] at hv ⊢;obtain ⟨x',h2,h3⟩:=hv;exact ⟨x',VR.under hu h2,h3⟩
 | .nilIface,v,_,hv=>by simpa [VR] using hv
 | .agg cs,v,hu,hv=>by
  simp only [aF.under] at hu;simp only [VR] at hv ⊢;obtain ⟨x',h2,h3⟩:=hv;exact ⟨x',wm.under hu h2,h3⟩
 | .tuple cs,v,hu,hv=>by
  simp only [aF.under] at hu;simp only [VR] at hv ⊢;obtain ⟨x',h2,h3⟩:=hv;exact ⟨x',wm.under hu h2,h3⟩
theorem wm.under {ρ:a7} {n:Nat} : ∀ {v v' : Array Value},aF.Wf n v=true->wm ρ v v'->wm (ρ.res n) v v'
 | ⟨l⟩,a,hu,hv=>by simp only [aF.Wf] at hu; simp only [wm] at hv ⊢; exact eN.under hu hv
theorem eN.under {ρ:a7} {n:Nat} : ∀ {v v' : List Value},aF.afT n v=true->eN ρ v v'->eN (ρ.res n) v v'
 | [],l,_,hv=>by simpa [eN] using hv
 | x::xs,l,hu,hv=>by
  simp only [aF.afT,aD] at hu;simp only [eN] at hv ⊢;obtain ⟨y,ys,e,h1,h2⟩:=hv;exact ⟨y,ys,e,VR.under hu.1 h1,eN.under hu.2 h2⟩
end
theorem Re {acc:List Nat} {j:Nat} : ∀ {es:List Edge},Nat.testBit (xJ acc es) j=true->∃ e∈es,binds e=true/\(j=e.on\/tF acc e.on j=true)
 | [],h=>by simp [xJ] at h
 | e::es,h=>by
  simp only [xJ] at h;cases hb:binds e with
  | false=>
   rw [hb,aw] at h;obtain ⟨e',h1,h2⟩:=Re h;exact ⟨e',by simp [h1],h2⟩
  | true=>
   rw [hb,ai] at h;have e1:∀ a b:Nat,Nat.lor a b=a ||| b:=fun _ _=>rfl;have e2:Nat.shiftLeft 1 e.on=1 <<< e.on:=rfl;rw [e1,e1,e2,Nat.testBit_or,Nat.testBit_or,uR,uR] at h;rcases h with (h | h) | h
   ·refine ⟨e,by simp,hb,.inl ?_⟩
    rw [Nat.one_shiftLeft,Nat.testBit_two_pow] at h;exact (rl h).symm
   ·exact ⟨e,by simp,hb,.inr h⟩
   ·obtain ⟨e',h1,h2⟩:=Re h
    exact ⟨e',by simp [h1],h2⟩
theorem adW:∀ (os:List Oper) (acc:List Nat),∃ r,gb acc os=acc++r/\r.length=os.length
 | [],acc=>⟨[],by simp [gb]⟩
 | o::os,acc=>by
  obtain ⟨r,h1,h2⟩:=adW os (acc++[xJ acc o.after.toList]);exact ⟨xJ acc o.after.toList::r,by simp [gb,h1],by simp [h2]⟩
theorem ajV:∀ (os:List Oper) (acc:List Nat) (i j:Nat) (o:Oper),os[i]? = some o->(∀ e∈o.after.toList,binds e=true->e.on < acc.length+i)->
  tF (gb acc os) (acc.length+i) j=true->∃ e∈o.after.toList,binds e=true/\(j=e.on\/tF (gb acc os) e.on j=true)
 | [],acc,i,j,o,ho,_,_=>by simp at ho
 | o0::os,acc,0,j,o,ho,hf,h=>by
  simp at ho;subst ho;obtain ⟨r,h1,_⟩:=adW os (acc++[xJ acc o0.after.toList]);have e0:gb acc (o0::os)=acc++[xJ acc o0.after.toList]++r:=by simp only [gb]; exact h1
  rw [e0] at h ⊢;have e1:(acc++[xJ acc o0.after.toList]++r).getD (acc.length+0) 0=xJ acc o0.after.toList:=by simp [List.getD]
  unfold tF at h;rw [e1] at h;obtain ⟨e,h2,h3,h4⟩:=Re h;refine ⟨e,h2,h3,h4.imp id fun h5=>?_⟩;have bt:=hf e h2 h3;unfold tF at h5 ⊢;have:(acc++[xJ acc o0.after.toList]++r).getD e.on 0=acc.getD e.on 0:=by
   simp only [List.getD,HJ];rw [ue (by simpa using bt)]
  rw [this];exact h5
 | o0::os,acc,i+1,j,o,ho,hf,h=>by
  have hlen:(acc++[xJ acc o0.after.toList]).length+i=acc.length+(i+1):=by simp; omega
  have:=ajV os (acc++[xJ acc o0.after.toList]) i j o (by simpa using ho) (by rw [hlen]; exact hf) (by rw [hlen]; exact h);simpa only [gb] using this
structure uX (P:Program) (all:List Oper):Prop where
 back:∀ i o,all[i]? = some o->∀ e∈o.after.toList,binds e=true->e.on < i
 apart:∀ i j x y,all[i]? = some y->all[j]? = some x->j < i->I5 P all x y=true->tF (gb [] all) i j=true
theorem XC {P:Program} {all:List Oper} {b:List Nat} {i:Nat} {y:Oper} : ∀ (xs:List Oper) (k:Nat),O8 P all b i y xs k=true->∀ (j:Nat) (x:Oper),xs[j]? = some x->k+j < i->I5 P all x y=true->tF b i (k+j)=true
 | [],k,_,j,x,hx,_,_=>by simp at hx
 | x0::xs,k,h,0,x,hx,bt,hc=>by
  simp at hx;subst hx;simp only [O8,aD,uR,nD] at h;rcases h.1 with (h1 | h1) | h1
  ·have:=gD h1; omega
  ·rw [hc] at h1; simp at h1
  ·exact h1
 | x0::xs,k,h,j+1,x,hx,bt,hc=>by
  simp only [O8,aD] at h;have:=XC xs (k+1) h.2 j x (by simpa using hx) (by omega) hc;rwa [show k+1+j=k+(j+1) by omega] at this
theorem DB {P:Program} {all:List Oper} {b:List Nat} : ∀ (os:List Oper) (k:Nat),CQ P all b os k=true->∀ (i:Nat) (o:Oper),os[i]? = some o->
  (∀ e∈o.after.toList,binds e=true->e.on < k+i)/\O8 P all b (k+i) o all 0=true
 | [],k,_,i,o,ho=>by simp at ho
 | o0::os,k,h,0,o,ho=>by
  simp at ho;subst ho;simp only [CQ,aD,iu] at h;refine ⟨fun e he hb=>?_,h.1.2⟩;have:=h.1.1 e he;rw [hb] at this;simp at this;exact this
 | o0::os,k,h,i+1,o,ho=>by
  simp only [CQ,aD] at h;have:=DB os (k+1) h.2 i o (by simpa using ho);rwa [show k+1+i=k+(i+1) by omega] at this
theorem I9 {P:Program} {all:List Oper} (h:O9 P all=true):uX P all:=by
 unfold O9 at h;refine ⟨fun i o ho=>?_,fun i j x y hy hx bt hc=>?_⟩
 ·have:=(DB all 0 h i o ho).1
  simpa using this
 ·have:=XC all 0 (DB all 0 h i y hy).2 j x hx (by simpa using bt) hc
  simpa using this
def ug (all:List Oper) (S:Nat->Bool):Prop:=∀ i j,S i=true->tF (gb [] all) i j=true->S j=true
def yK (all:List Oper) (S:Nat->Bool) (i:Nat):Prop:=∀ o,all[i]? = some o->∀ e∈o.after.toList,binds e=true->S e.on=true
theorem ug.ready {P:Program} {all:List Oper} (hf:uX P all) {S:Nat->Bool} (hc:ug all S) {i:Nat} {o:Oper} (ho:all[i]? = some o) (hr:yK all S i):∀ j,tF (gb [] all) i j=true->S j=true:=by
 intro j hj;obtain ⟨e,h1,h2,h3⟩:=ajV all [] i j o ho (by simpa using hf.back i o ho) (by simpa using hj);have hs:=hr o ho e h1 h2;rcases h3 with rfl | h3
 ·exact hs
 ·exact hc _ _ hs h3
def da (S:Nat->Bool) (i:Nat):Nat->Bool:=fun j=>S j||Nat.beq j i
theorem ug.insert {P:Program} {all:List Oper} (hf:uX P all) {S:Nat->Bool} (hc:ug all S) {i:Nat} {o:Oper} (ho:all[i]? = some o) (hr:yK all S i):ug all (da S i):=by
 intro a b h1 h2;simp only [da,uR] at h1 ⊢;rcases h1 with h1 | h1
 ·exact .inl (hc a b h1 h2)
 ·have:=bm h1
  subst this;exact .inl (hc.ready hf ho hr b h2)
theorem ajW (e:Edge):Region.binds .any e=binds e:=by
 unfold Region.binds binds;cases e.ground <;> rfl
theorem M5 {all:List Oper} {bN:Array Bool} {i:Nat} (h:i∈Region.ready .any ⟨all⟩ bN):i < all.length/\bN.getD i true=false/\yK all (fun j=>bN.getD j false) i:=by
 unfold Region.ready at h;rw [List.mem_filter,A4] at h;obtain ⟨h1,h2⟩:=h;simp only [aD,nD] at h2;refine ⟨by simpa using h1,h2.1,fun o ho e he hb=>?_⟩;have e1:(⟨all⟩:Array Oper)[i]? = some o:=by simpa using ho
 rw [e1] at h2;simp only [Option.map_some,bq] at h2;have:=Array.all_eq_true'.1 h2.2 e (by simpa using he);rw [ajW,hb] at this;simpa using this
theorem agF {P:Program} {all:List Oper} (hf:uX P all) {bN:Array Bool} (hl:bN.size=all.length) (h:Region.ready .any ⟨all⟩ bN = []):∀ i,i < all.length->bN.getD i false=true:=by
 intro i
 induction i using Nat.strongRecOn with
 | _ i ih=>
  intro hi;cases hc:bN.getD i false with
  | true=>rfl
  | false=>
   exfalso;obtain ⟨o,ho⟩:∃ o,all[i]? = some o:=⟨_,dF hi⟩
   have hm:i∈Region.ready .any ⟨all⟩ bN:=by
    unfold Region.ready;rw [List.mem_filter,A4];refine ⟨by simpa using hi,?_⟩;have e1:(⟨all⟩:Array Oper)[i]? = some o:=by simpa using ho
    rw [e1];have e2:bN.getD i true=false:=by
     have:i < bN.size:=by omega
     simpa [ji,this] using hc
    simp only [e2,rK,MU,Option.map_some,bq];rw [Array.all_eq_true'];intro e he;cases hb:binds e with
    | false=>rw [ajW,hb]; rfl
    | true=>
     have bt:=hf.back i o ho e (by simpa using he) hb;rw [ih e.on bt (by omega)];simp
   rw [h] at hm;simp at hm
theorem count_set:∀ (l:List Bool) (i:Nat),l[i]? = some false->((l.set i true).filter (!·)).length+1=(l.filter (!·)).length
 | [],i,h=>by simp at h
 | x::l,0,h=>by
  simp at h;subst h;simp
 | x::l,i+1,h=>by
  have:=count_set l i (by simpa using h);cases x <;> simp at this ⊢ <;> omega
theorem amv {P:Program} {all:List Oper} {r:Option Nat} (hf:uX P all) {Q:Exit->Act->World->Prop} (I:(Nat->Bool)->Act->World->Prop) (hI:∀ S S' a w,(∀ i,i < all.length->S i=S' i)->I S a w->I S' a w)
  (step:∀ S a w i o,I S a w->ug all S->all[i]? = some o->S i=false->yK all S i->(∀ j,S j=true->j < all.length)->wpOpIn (Fr r) 0 P ⟨all⟩ Q i (I (da S i)) a w)
  (fin:∀ S a w,(∀ i,i < all.length->S i=true)->I S a w->Q .normal a w) :
  ∀ (fuel:Nat) (bN:Array Bool) (a:Act) (w:World),bN.size=all.length->(bN.toList.filter (!·)).length=fuel->ug all (fun j=>bN.getD j false)->I (fun j=>bN.getD j false) a w->wpAnyIn (Fr r) 0 P .any ⟨all⟩ Q fuel bN a w
 | 0,bN,a,w,hs,hn,hc,h=>by
  have qD:∀ i,i < all.length->bN.getD i false=true:=by
   intro i hi;have:i < bN.size:=by omega
   cases hb:bN.getD i false with
   | true=>rfl
   | false=>
    exfalso;have hg:bN[i] = false:=by simpa [ji,this] using hb
    have hm:bN[i]∈bN.toList.filter (!·):=by
     rw [List.mem_filter];exact ⟨by simp,by simp [hg]⟩
    rw [qv.1 hn] at hm;simp at hm
  refine ⟨?_,fin _ a w qD h⟩;cases hr:Region.ready .any ⟨all⟩ bN with
  | nil=>rfl
  | cons i r=>
   have:=M5 (all:=all) (bN:=bN) (i:=i) (by rw [hr]; simp);have h1:=qD i this.1;have h2:bN.getD i true=true:=by
    have bt:i < bN.size:=by omega
    simpa [ji,bt] using h1
   rw [h2] at this;simp at this
 | fuel+1,bN,a,w,hs,hn,hc,h=>by
  refine ⟨fun hr=>fin _ a w (agF hf hs hr) h,fun i hi=>?_⟩;obtain ⟨bt,hl,wy⟩:=M5 hi;obtain ⟨o,ho⟩:∃ o,all[i]? = some o:=⟨_,dF bt⟩
  have Ue:i < bN.size:=by omega
  have ti:bN.getD i false=false:=by simpa [ji,Ue] using hl
  have agG:∀ j,j < all.length->da (fun j=>bN.getD j false) i j=(bN.setIfInBounds i true).getD j false:=by
   intro j hj;by_cases e:j=i
   ·subst e
    simp [da,ji,Ue]
   ·have:Nat.beq j i=false:=by
     cases hb:Nat.beq j i with
     | false=>rfl
     | true=>exact absurd (bm hb) e
    simp [da,this,ji,Array.getElem?_setIfInBounds_ne (Ne.symm e)]
  refine wpOpIn_mono (fun a' w' h'=>?_) (step _ a w i o h hc ho ti wy (fun j hj=>by
   rcases Nat.lt_or_ge j all.length with h1 | h1
   ·exact h1
   ·have:bN.getD j false=false:=by
     rw [ji,Array.getElem?_eq_none (by omega)];rfl
    rw [this] at hj; simp at hj))
  refine amv hf I hI step fin fuel _ a' w' (by simpa using hs) ?_ ?_ (hI _ _ a' w' agG h')
  ·rw [Array.toList_setIfInBounds]
   have:=count_set bN.toList i (by simpa [ji,Ue] using ti);omega
  ·intro x y hx hy
   have hb:∀ z,(bN.setIfInBounds i true).getD z false=true↔da (fun j=>bN.getD j false) i z=true:=by
    intro z;rcases Nat.lt_or_ge z all.length with h1 | h1
    ·rw [agG z h1]
    ·have e1:(bN.setIfInBounds i true).getD z false=false:=by
      rw [ji,Array.getElem?_eq_none (by simp; omega)];rfl
     have e2:bN.getD z false=false:=by
      rw [ji,Array.getElem?_eq_none (by omega)];rfl
     have e3:Nat.beq z i=false:=by
      cases hb:Nat.beq z i with
      | false=>rfl
      | true=>have:=bm hb; omega
     simp [da,e1,e2,e3]
   rw [hb] at hx ⊢;exact hc.insert hf ho wy x y hx hy
theorem Kl {P:Program} {all:List Oper} (hf:uX P all) {Q:Exit->Act->World->Prop} (I:(Nat->Bool)->Act->World->Prop) (hI:∀ S S' a w,(∀ i,i < all.length->S i=S' i)->I S a w->I S' a w)
  (step:∀ S a w i o,I S a w->ug all S->all[i]? = some o->S i=false->yK all S i->(∀ j,S j=true->j < all.length)->wpOp P ⟨all⟩ Q i (I (da S i)) a w)
  (fin:∀ S a w,(∀ i,i < all.length->S i=true)->I S a w->Q .normal a w) :
  ∀ (fuel:Nat) (bN:Array Bool) (a:Act) (w:World),bN.size=all.length->(bN.toList.filter (!·)).length=fuel->ug all (fun j=>bN.getD j false)->I (fun j=>bN.getD j false) a w->wpAny P .any ⟨all⟩ Q fuel bN a w
 | 0,bN,a,w,hs,hn,hc,h=>by
  have qD:∀ i,i < all.length->bN.getD i false=true:=by
   intro i hi;have:i < bN.size:=by omega
   cases hb:bN.getD i false with
   | true=>rfl
   | false=>
    exfalso;have hg:bN[i] = false:=by simpa [ji,this] using hb
    have hm:bN[i]∈bN.toList.filter (!·):=by
     rw [List.mem_filter];exact ⟨by simp,by simp [hg]⟩
    rw [qv.1 hn] at hm;simp at hm
  refine ⟨?_,fin _ a w qD h⟩;cases hr:Region.ready .any ⟨all⟩ bN with
  | nil=>rfl
  | cons i r=>
   have:=M5 (all:=all) (bN:=bN) (i:=i) (by rw [hr]; simp);have h1:=qD i this.1;have h2:bN.getD i true=true:=by
    have bt:i < bN.size:=by omega
    simpa [ji,bt] using h1
   rw [h2] at this;simp at this
 | fuel+1,bN,a,w,hs,hn,hc,h=>by
  refine ⟨fun hr=>fin _ a w (agF hf hs hr) h,fun i hi=>?_⟩;obtain ⟨bt,hl,wy⟩:=M5 hi;obtain ⟨o,ho⟩:∃ o,all[i]? = some o:=⟨_,dF bt⟩
  have Ue:i < bN.size:=by omega
  have ti:bN.getD i false=false:=by simpa [ji,Ue] using hl
  have agG:∀ j,j < all.length->da (fun j=>bN.getD j false) i j=(bN.setIfInBounds i true).getD j false:=by
   intro j hj;by_cases e:j=i
   ·subst e
    simp [da,ji,Ue]
   ·have:Nat.beq j i=false:=by
     cases hb:Nat.beq j i with
     | false=>rfl
     | true=>exact absurd (bm hb) e
    simp [da,this,ji,Array.getElem?_setIfInBounds_ne (Ne.symm e)]
  refine wpOp_mono (fun a' w' h'=>?_) (step _ a w i o h hc ho ti wy (fun j hj=>by
   rcases Nat.lt_or_ge j all.length with h1 | h1
   ·exact h1
   ·have:bN.getD j false=false:=by
     rw [ji,Array.getElem?_eq_none (by omega)];rfl
    rw [this] at hj; simp at hj))
  refine Kl hf I hI step fin fuel _ a' w' (by simpa using hs) ?_ ?_ (hI _ _ a' w' agG h')
  ·rw [Array.toList_setIfInBounds]
   have:=count_set bN.toList i (by simpa [ji,Ue] using ti);omega
  ·intro x y hx hy
   have hb:∀ z,(bN.setIfInBounds i true).getD z false=true↔da (fun j=>bN.getD j false) i z=true:=by
    intro z;rcases Nat.lt_or_ge z all.length with h1 | h1
    ·rw [agG z h1]
    ·have e1:(bN.setIfInBounds i true).getD z false=false:=by
      rw [ji,Array.getElem?_eq_none (by simp; omega)];rfl
     have e2:bN.getD z false=false:=by
      rw [ji,Array.getElem?_eq_none (by omega)];rfl
     have e3:Nat.beq z i=false:=by
      cases hb:Nat.beq z i with
      | false=>rfl
      | true=>have:=bm hb; omega
     simp [da,e1,e2,e3]
   rw [hb] at hx ⊢;exact hc.insert hf ho wy x y hx hy
def avy (all:List Oper) (i:Nat):Option Tmp:=(all[i]?).bind (·.dst)
end
end Go.aF
end
section
namespace Go.aF
noncomputable section
open Go
def Quiet (A0:St) (R:List Rec):Prop:=∀ r∈R,r.nx=A0.next/\(r.did = .val\/∃ f vs,r.did = .read f vs)
def lS (R:List Rec) (S:Nat->Bool):Option Nat:=ar5 (R.filter fun r=>S r.i)
def Z2 (A0:St) (R:List Rec) (S:Nat->Bool):St:=avu A0 R (lS R S)
def writer (all:List Oper) (R:List Rec) (S:Nat->Bool) (x:Nat):Option Rec:=R.find? fun r=>S r.i&&(avy all r.i==some x)
def valOf (all:List Oper) (t0:Tm) (R:List Rec) (S:Nat->Bool) (x:Nat):Value:=
 match writer all R S x with
 | some r=>r.v
 | none=>(t0.get x).getD undef
def awf (all:List Oper) (A0:St) (R:List Rec) (S:Nat->Bool) (x:Nat):Nat:=
 match writer all R S x with
 | some r=>r.nx
 | none=>A0.next
structure Inv (all:List Oper) (A0:St) (t0:Tm) (R:List Rec) (N:Nat) (d0:List Deferred) (base:Nat) (ρ0:a7) (w0:World) (S:Nat->Bool) (a:Act) (w:World) (ρ:a7):Prop where
 size:a.tmps.size=N
 defers:a.defers=d0
 tm:∀ x,VR (ρ.res (awf all A0 R S x)) (valOf all t0 R S x) (a.tmps.getD x undef)
 core:pw base ρ0 A0 w0 (ρ.res (Z2 A0 R S).next) (Z2 A0 R S) w
 news:∀ r∈R,S r.i=true->∀ id o,r.did = .make id o->ar4 (gb [] all) (lS R S) r.i=false->
  ∃ c cb,ρ id=some (ags o cb)/\agt (ρ.res r.nx) o c/\w.heap[cb]? = some c/\w0.heap.size<=cb/\¬ Img (ρ.res (Z2 A0 R S).next) (Z2 A0 R S) cb
 newsApart:∀ r∈R,∀ s∈R,S r.i=true->S s.i=true->∀ id o id' o',r.did = .make id o->s.did = .make id' o'->ar4 (gb [] all) (lS R S) r.i=false->ar4 (gb [] all) (lS R S) s.i=false->
  r.i≠s.i->∀ l l',ρ id=some l->ρ id' = some l'->l.cb≠l'.cb
 unborn:∀ r∈R,S r.i=false->∀ id o,r.did = .make id o->ρ id=none
 oC:∀ bl l,ρ bl=some l->bl < (Z2 A0 R S).next\/∃ r∈R,S r.i=true/\∃ o,r.did = .make bl o
section
variable {P:Program} {call:Yx} {all:List Oper} {A0:St} {t0:Tm} {R:List Rec} {N:Nat} {d0:List Deferred} {base:Nat} {ρ0:a7} {w0:World}
theorem nE {x:Nat} : ∀ {xs:List Operand},Operand.tmp x∈xs->x∈uU xs
 | [],h=>by simp at h
 | .tmp t::xs,h=>by
  rcases fp.1 h with h | h
  ·simp at h; subst h; simp [uU]
  ·simp [uU,nE h]
 | .const _::xs,h=>by
  rcases fp.1 h with h | h
  ·simp at h
  ·simpa [uU] using nE h
 | .global _::xs,h=>by
  rcases fp.1 h with h | h
  ·simp at h
  ·simpa [uU] using nE h
 | .func _::xs,h=>by
  rcases fp.1 h with h | h
  ·simp at h
  ·simpa [uU] using nE h
end
end
end Go.aF
end
section
namespace Go.aF
noncomputable section
open Go
theorem zP.pF {ρ a8:a7} {A:St} {base:Nat} {w w' : World} (hs:zP ρ A base w) (hle:ρ.le a8) (awg:∀ b l,a8 b=some l->b < A.next) (hw:∀ k,k < w.heap.size->w'.heap[k]? = w.heap[k]?) (gI:w.heap.size<=w'.heap.size):zP a8 A base w':=by
 have aca:∀ b o l,A.get b=some o->o≠.dead->a8 b=some l->ρ b=some l:=by
  intro b o l hg hd hr;obtain ⟨l',h1,_⟩:=hs.rel.obj hg hd;have:=hle _ _ h1;rw [hr] at this; simp at this; subst this;exact h1
 refine ⟨.Q8 (fun b o hg hd=>?_) ?_ hs.rel.bN,awg,uO hs.size gI,hs.SL.mono hle⟩
 ·obtain ⟨l,h1,h2⟩:=hs.rel.obj hg hd
  exact ⟨l,hle _ _ h1,h2.pF hle (hw _ (h2.lt hd)) gI⟩
 ·intro b1 b2 o1 o2 l1 l2 eY g1 g2 m1 m2 r1 r2 YA
  exact hs.rel.apart b1 b2 o1 o2 l1 l2 eY g1 g2 m1 m2 (aca b1 o1 l1 g1 (by intro e; subst e; simp [du.gJ] at m1) r1) (aca b2 o2 l2 g2 (by intro e; subst e; simp [du.gJ] at m2) r2) YA
section
variable {P:Program} {call:Yx} {all:List Oper} {A0:St} {t0:Tm} {R:List Rec} {N:Nat} {d0:List Deferred} {base:Nat} {ρ0:a7} {w0:World}
end
end
end Go.aF
end
section
namespace Go.aF
noncomputable section
open Go
theorem VR.undef {ρ:a7} : VR ρ undef undef:=VR.of_flat (by simp [Go.undef,flat,QR,zM])
section
variable {P:Program} {call:Yx} {all:List Oper} {A0:St} {t0:Tm} {R:List Rec} {N:Nat} {d0:List Deferred} {base:Nat} {ρ0:a7} {w0:World}
end
end
end Go.aF
end
section
namespace Go.aF
noncomputable section
open Go
variable {P:Program} {call:Yx} {all:List Oper} {A0:St}
end
end Go.aF
end
section
namespace Go.aF
noncomputable section
open Go
theorem put_defers (a:Act) (dst:Option Tmp) (v:Value):(a.put dst v).defers=a.defers:=by cases dst <;> rfl
def aq.out:aq->Exit
 | .normal=>.normal
 | .exit id=>.exit id
 | .goto l=>.goto l
 | .ret=>.ret
def mark (D:Nat):Deferred:={ target:=.collected D,args:=#[] }
section
variable {P:Program} {b:Frame} {a:Act} {k:List Item} {cs:List Frame} {w:World}
end
def afW (a:Act):ResultVar->Sem Value
 | .tmp t=>pure (a.tmps.getD t undef)
 | .cell ad ty=>do loadVar ty (<- asAddr (a.tmps.getD ad undef))
theorem adX (fn:Func) (a:Act):results fn a.tmps=(do let vs <- fn.results.mapM (afW a); pure (if h:vs.size=1 then vs[0] else .tuple vs)):=by
 unfold results;congr 1
theorem pH {n m:Nat} (h:n<=m):∀ (c:Code),codeOk n c=true->codeOk m c=true
 | .region id ops d,hc=>by
  simp only [codeOk,iu] at hc ⊢;intro o ho;have:=hc o ho;unfold N5 at this ⊢;split at this
  ·rename_i d e
   rw [bZ] at this ⊢;omega
  ·rfl
 | .seq a b,hc=>by simp only [codeOk,aD] at hc ⊢; exact ⟨pH h a hc.1,pH h b hc.2⟩
 | .cond _ a b,hc=>by simp only [codeOk,aD] at hc ⊢; exact ⟨pH h a hc.1,pH h b hc.2⟩
 | .block _ a,hc=>pH h a hc
 | .loop a,hc=>pH h a hc
 | .rangeFunc _ ps a b,hc=>by
  simp only [codeOk,aD,iu,bZ] at hc ⊢;exact ⟨fun p hp=>uQ (hc.1 p hp) h,pH h a hc.2.1,pH h b hc.2.2⟩
 | .scope a,hc=>pH h a hc
 | .skip,_ | .exit _,_ | .label _,_ | .goto _,_ | .ret,_ | .refuse _,_=>rfl
def Lf (gl:List (Nat×List Value×Nat)) (b:Nat):Option Loc:=if b < gB then some (match gl.find? (fun x=>Nat.beq x.1 b) with | some x=>⟨b,0,x.2.1.length,x.2.2⟩ | none=>⟨b,0,0,0⟩) else none
theorem ai9 (gl:List (Nat×List Value×Nat)):amo (Lf gl):=fun g hg=>by
 unfold Lf;rw [aV hg];split <;> exact ⟨_,rfl,rfl,rfl⟩
theorem agH:∀ (gl:List (Nat×List Value×Nat)) (b:Nat),(ab3 gl).get b=match gl.find? (fun x=>Nat.beq x.1 b) with | some x=>some (.row x.2.1 x.2.2 false none) | none=>none
 | [],b=>by simp [ab3]
 | (g,cs,e)::gl,b=>by
  simp only [ab3,Trie.sm,List.find?_cons];cases hb:Nat.beq g b with
  | true=>simp [bm hb]
  | false=>rw [ay (fun e=>by subst e; simp at hb)]; exact agH gl b
def aui (w:World) (gl:List (Nat×List Value×Nat)):Prop:=∀ x∈gl,x.1 < gB/\x.1 < w.heap.size/\x.2.1.all (fun v=>flat v&&scalar v)=true/\∀ i v,x.2.1[i]? = some v->w.cell? ⟨x.1,i,none⟩=some v
theorem zP.amw {w:World} {gl:List (Nat×List Value×Nat)} (h:aui w gl):zP (Lf gl) (St.SL gl) w.heap.size w:=by
 have hg:∀ b o,(St.SL gl).get b=some o->∃ x∈gl,x.1=b/\gl.find? (fun x=>Nat.beq x.1 b)=some x/\o = .row x.2.1 x.2.2 false none:=by
  intro b o e;have e:(ab3 gl).get b=some o:=e;rw [agH] at e;split at e
  ·rename_i x hx
   simp at e;have:=List.find?_some hx;exact ⟨x,List.mem_of_find?_eq_some hx,bm this,hx,e.symm⟩
  ·simp at e
 refine ⟨⟨fun b cs cc own bV e=>?_,fun b es e=>?_,fun b s pos e=>?_,fun b st ex t ps c d e=>?_,fun b1 b2 o1 o2 l1 l2 _ e1 _ m=>?_,fun b o aZ f e k=>?_⟩,fun b l e=>?_,aW _,ai9 gl⟩
 ·obtain ⟨x,hx,rfl,hf,he⟩:=hg _ _ e
  simp at he;obtain ⟨rfl,rfl,rfl,rfl⟩:=he;obtain ⟨h1,h2,h3,h4⟩:=h x hx;refine ⟨⟨x.1,0,x.2.1.length,x.2.2⟩,by unfold Lf; rw [aV h1,hf],⟨fun i v hi=>?_,fun _=>h2,fun h=>by simp at h,fun h=>by simp at h,by simp,fun h=>by simp at h,rfl,h2,fun h=>by simp at h⟩⟩;have:=iu.1 h3 v (jj hi);simp only [aD] at this;exact ⟨v,by simpa using h4 i v hi,VR.of_flat this.1,this.2⟩
 ·obtain ⟨x,_,_,_,he⟩:=hg _ _ e; simp at he
 ·obtain ⟨x,_,_,_,he⟩:=hg _ _ e; simp at he
 ·obtain ⟨x,_,_,_,he⟩:=hg _ _ e; simp at he
 ·obtain ⟨x,_,_,_,he⟩:=hg _ _ e1; subst he; simp [du.gJ] at m
 ·obtain ⟨x,_,_,_,he⟩:=hg _ _ e; subst he; simp [du.pC] at k
 ·unfold Lf at e
  split at e
  ·rename_i hb; exact hb
  ·simp at e
theorem zP.empty (w:World):zP (Lf []) St.empty w.heap.size w:=zP.amw (gl:=[]) (fun _ h=>by simp at h)
end
end Go.aF
end
section
namespace Go.K
open Go Go.aF
noncomputable section
inductive Mk where
 | any
 | exact
 | aZ (b:Nat)
inductive KV where
 | int (k:IntKind) (n:Int)
 | bool (b:Bool)
 | str (s:ByteArray)
 | agg (cs:List KV)
 | lP (vs:List KV)
 | ts (T:TypeId) (m:Mk) (n:Nat) (es:List KV) (acc:Nat->KV)
 | tp (T Tc:TypeId) (i k:Nat) (es:List KV) (acc:Nat->KV)
 | al (T:TypeId) (b o n:Nat)
 | ap (T Tc:TypeId) (b i k:Nat)
 | ptr (b off:Nat)
 | sl (b off len cap:Nat)
 | JS
 | nS
 | EY
 | map (b:Nat)
 | fn (f:Fn) (first cap:List KV)
 | Lg
 | iface (t:TypeId) (v:KV)
 | Lh
 | bG
instance:Inhabited KV:=⟨.bG⟩
inductive lg where
 | row (cs:List KV) (cc:Nat)
 | map (es:List (KV×KV))
 | aZ (top sz:Nat)
 | arr (v:KV)
 | lR (v:KV)
 | dead
structure aB where
 heap:Trie lg
 next:Nat
def aB.empty:aB:=⟨.leaf,0⟩
def aB.get (A:aB) (b:Nat):Option lg:=A.heap.get b
def aB.new (A:aB) (o:lg):aB:=⟨A.heap.set o A.next,Nat.succ A.next⟩
def aB.put (A:aB) (b:Nat) (o:lg):aB:=⟨A.heap.set o b,A.next⟩
abbrev bL:=Trie KV
def oL {α:Type} : List (Nat×α)->Trie α
 | []=>.leaf
 | p::ps=>(oL ps).set p.2 p.1
def KV.cells:KV->List KV
 | .agg cs=>cs
 | v=>[v]
def one:KV->Bool
 | .agg _ | .lP _ | .bG=>false
 | _=>true
def vY:KV:=.lP []
inductive KR (α:Type) where
 | no
 | ok (v:α)
 | nI (c:Bool) (v:α)
 | br (c:Bool) (x y:KR α)
def KR.run {α R:Type} (r:KR α) (k:α->Option R):Option R:=
 KR.rec (motive:=fun _=>Option R) none (fun v=>k v) (fun c v=>Bool.rec (motive:=fun _=>Option R) none (k v) c) (fun c _ _ rx ry=>Bool.rec (motive:=fun _=>Option R) ry rx c) r
def KR.map {α β:Type} (f:α->β):KR α->KR β
 | .no=>.no
 | .ok v=>.ok (f v)
 | .nI c v=>.nI c (f v)
 | .br c x y=>.br c (x.map f) (y.map f)
def KR.of {α:Type} : Option α->KR α
 | some v=>.ok v
 | none=>.no
inductive CK where
 | int (k:IntKind)
 | bool
 | str
 | slice (t:TypeId)
 | other
structure Bb where
 agg:Bool
 ks:List CK
def eR {α:Type} (l:List α):Nat->List α
 | 0=>[]
 | n+1=>l++eR l n
def Uf (f:TypeId->Option Bb):List Field->Nat->Option (List CK)
 | [],_=>some []
 | fd::fs,off=>cond (Nat.beq fd.offset off) ((f fd.type).bind fun l=>(Uf f fs (off+l.ks.length)).map fun r=>l.ks++r) none
def lay (P:Program):Nat->TypeId->Option Bb
 | 0,_=>none
 | n+1,t=>match P.underlying t with
  | some (.int k)=>some ⟨false,[.int k]⟩
  | some .bool=>some ⟨false,[.bool]⟩
  | some .string=>some ⟨false,[.str]⟩
  | some (.slice e)=>some ⟨false,[.slice e]⟩
  | some (.struct fs)=>(Uf (lay P n) fs.toList 0).map fun ks=>⟨true,ks⟩
  | some (.array len e)=>(lay P n e).map fun l=>⟨true,eR l.ks len⟩
  | some _=>some ⟨false,[.other]⟩
  | none=>none
def bu (P:Program) (t:TypeId):Bb:=(lay P 12 t).getD ⟨false,[]⟩
def kindOk:CK->KV->Bool
 | .int k,.int k' _=>decide (k=k')
 | .bool,.bool _=>true
 | .str,.str _=>true
 | .slice t,.ts t' .any _ _ _=>Nat.beq t t'
 | _,_=>false
def aO:List CK->List KV->Bool
 | [],[]=>true
 | k::ks,v::vs=>kindOk k v&&aO ks vs
 | _,_=>false
def cI (l:Bb):KV->Bool
 | .agg cs=>l.agg&&aO l.ks cs
 | .lP _=>false
 | v=>!l.agg&&aO l.ks [v]
def gY (l:Bb):List KV->Bool
 | []=>true
 | e::es=>cI l e&&gY l es
def intOf:KV->Int
 | .int _ n=>n
 | _=>0
def kN:KV->Bool
 | .bool b=>b
 | _=>false
def strOf:KV->ByteArray
 | .str s=>s
 | _=>ByteArray.empty
def awh:KV->List KV
 | .ts _ _ _ es _=>es
 | _=>[]
def lenOf:KV->Nat
 | .ts _ _ n _ _=>n
 | _=>0
def vz:KV->Nat->KV
 | .ts _ _ _ _ acc=>acc
 | _=>fun _=>.bG
def leaf (c:CK) (v:KV):KV:=
 CK.rec (motive:=fun _=>KV) (fun k=>.int k (intOf v)) (.bool (kN v)) (.str (strOf v)) (fun t=>.ts t .any (lenOf v) (awh v) (vz v)) v c
def leaves (e:KV):List CK->Nat->List KV
 | [],_=>[]
 | c::cs,k=>leaf c (e.cells.getD k .bG)::leaves e cs (Nat.succ k)
def TE (agg:Bool) (cs:List KV):KV:=Bool.rec (motive:=fun _=>KV) (cs.headD .bG) (.agg cs) agg
def Rf:List CK->Bool
 | []=>true
 | .other::_=>false
 | _::cs=>Rf cs
mutual
def iR:Value->KV
 | .bool b=>.bool b
 | .int k n=>.int k n
 | .string s=>.str s
 | .pointer none=>.JS
 | .slice none 0 0=>.nS
 | .map none=>.EY
 | .nilFunc=>.Lg
 | .nilIface=>.Lh
 | .agg cs=>.agg (ofA cs)
 | .tuple cs=>.lP (ofA cs)
 | _=>.bG
def ofA:Array Value->List KV
 | ⟨l⟩=>ofL l
def ofL:List Value->List KV
 | []=>[]
 | v::vs=>iR v::ofL vs
end
abbrev FP:=List KV->KR KV
abbrev FR:=aB->List KV->KR KV
abbrev FA:=aB->List KV->KR (KV×aB)
inductive uY where
 | pure (f:FP) (xs:List Operand)
 | read (f:FR) (xs:List Operand)
 | act (f:FA) (xs:List Operand)
 | look (f:FP) (xs:List Operand)
 | GG (g:FuncId) (f:List KV->KR KV) (xs:List Operand)
 | Li (g:FuncId) (f:List KV->KR KV) (xs:List Operand)
 | call (f:Operand) (args:List Operand)
 | bad
def ak2:FP
 | [x]=>.ok x
 | _=>.no
def ak3:FP
 | [.bool b]=>.br b (.ok (.bool true)) (.ok (.bool false))
 | [x]=>.ok x
 | _=>.no
def aoE:FP
 | [.bool t,.bool a,.bool b]=>.ok (.bool (cond t a b))
 | [.bool t,a,b]=>.ok (cond t a b)
 | _=>.no
def jy:List KV->Bool
 | []=>true
 | v::vs=>one v&&jy vs
def zT {α:Type} : Nat->List α->Option (List α)
 | 0,_=>some []
 | _+1,[]=>none
 | n+1,x::xs=>(zT n xs).map (x::·)
def GH {α:Type} : Nat->List α->List α
 | 0,l=>l
 | _+1,[]=>[]
 | n+1,_::xs=>GH n xs
def od {α:Type} : Nat->List α->List α->Option (List α)
 | 0,l,[]=>some l
 | 0,[],_::_=>none
 | 0,_::l,v::vs=>(od 0 l vs).map (v::·)
 | _+1,[],[]=>some []
 | _+1,[],_::_=>none
 | n+1,x::l,vs=>(od n l vs).map (x::·)
def adY (n:Nat) (z:List KV):FA:=fun A _=>.ok (.ptr A.next 0,A.new (.row z n))
def tj (P:Program) (t:TypeId):uY:=
 match wj P t with
 | some z=>cond (flat z&&z.cells.toList.all scalar&&jy (iR z).cells) (.act (adY (rz P t) (iR z).cells) []) .bad
 | none=>.bad
def Ir (n:Nat):FA:=fun A xs=>
 match xs with
 | [v]=>cond (jy v.cells) (.ok (.ptr A.next 0,A.new (.row v.cells n))) .no
 | _=>.no
def acb (place:Nat->Option (Nat×Nat)):List KV->List (Nat×KV)->Option (List KV)
 | cells,[]=>some cells
 | cells,(i,v)::rest=>
  match place i with
  | some (off,size)=>cond (Nat.beq v.cells.length size&&Nat.ble 1 size) ((od off cells v.cells).bind fun cs=>acb place cs rest) none
  | none=>none
def EZ:List Nat->List KV->List (Nat×KV)
 | i::is,v::vs=>(i,v)::EZ is vs
 | _,_=>[]
def Bc:KV->Bool
 | .bG=>false
 | _=>true
def Wj (place:Nat->Option (Nat×Nat)) (z:List KV) (is:List Nat):FP:=fun vs=>
 match acb place z (EZ is vs) with
 | some cs=>cond (vs.all Bc) (.ok (.agg cs)) .no
 | none=>.no
def xM (P:Program) (t:TypeId) (is:List Nat) (xs:List Operand):uY:=
 match wj P t,P.underlying t with
 | some z,some (.struct fields)=>
  match placesOf P fields.toList with
  | some l=>cond (flat z&&jy (iR z).cells) (.pure (Wj (ZH l) (iR z).cells is) xs) .bad
  | none=>.bad
 | some z,some (.array _ e)=>
  match size? P e with
  | some n=>cond (flat z&&jy (iR z).cells) (.pure (Wj (Ec n) (iR z).cells is) xs) .bad
  | none=>.bad
 | _,_=>.bad
def pI:Nat->KV:=fun _=>.bG
def qy (es:List KV):Nat->KV:=fun i=>es.getD i .bG
def qq (c:CK) (v:KV):KV:=
 match c,v with
 | .slice t,.nS=>.ts t .any 0 [] pI
 | .slice t,.ts t' _ n es acc=>cond (Nat.beq t t') (.ts t .any n es acc) .bG
 | c,v=>cond (kindOk c v) v .bG
def E6:List CK->List KV->List KV
 | c::cs,v::vs=>qq c v::E6 cs vs
 | _,_=>[]
def ig (l:Bb) (v:KV):KV:=
 match v with
 | .agg cs=>cond (l.agg&&Nat.beq cs.length l.ks.length) (.agg (E6 l.ks cs)) .bG
 | v=>cond l.agg .bG (match l.ks with
  | [c]=>qq c v
  | _=>.bG)
def setAt (es:List KV) (i:Nat) (v:KV):List KV:=
 match i,es with
 | 0,_::es=>v::es
 | n+1,e::es=>e::setAt es n v
 | _,[]=>[]
def Rg (es:List KV):List (Nat×KV)->List KV
 | []=>es
 | (i,v)::rest=>Rg (setAt es i v) rest
def Ug (l:Bb) (e:TypeId) (z:KV) (len:Nat) (is:List Nat):FP:=fun vs=>
 let es:=Rg (eR [z] len) ((EZ is vs).map fun p=>(p.1,ig l p.2))
 cond (vs.all Bc&&gY l (vs.map (ig l))&&gY l es) (.ok (.ts e .exact len es (qy es))) .no
def KU (n:Nat):List Nat->Bool
 | []=>true
 | i::is=>Nat.blt i n&&KU n is
def YD (n:Nat) (z:List KV) (len:Nat) (is:List Nat):FA:=fun A vs=>
 match acb (Ec n) (eR z len) (EZ is vs) with
 | some cs=>cond (vs.all Bc&&jy cs) (.ok (.sl A.next 0 len len,A.new (.row cs n))) .no
 | none=>.no
def oe (P:Program) (t:TypeId) (len:Nat) (is:List Nat) (xs:List Operand):uY:=
 match P.underlying t with
 | some (.slice e)=>
  match P.info? e,wj P e with
  | some i,some z=>cond (Nat.ble (len * i.size) 16777216&&Nat.beq z.cells.size i.size&&Nat.ble 1 i.size&&flat z&&Nat.beq (bu P e).ks.length i.size&&KU len is)
    (cond (Rf (bu P e).ks) (.look (Ug (bu P e) e (ig (bu P e) (iR z)) len is) xs) (cond (jy (iR z).cells) (.act (YD i.size (iR z).cells len is) xs) .bad)) .bad
  | _,_=>.bad
 | _=>.bad
def rowAt (A:aB) (b:Nat):Option (List KV):=
 match A.get b with
 | some (.row cs _)=>some cs
 | _=>none
def Ob (A:aB) (b:Nat):Option KV:=
 match A.get b with
 | some (.arr v)=>some v
 | some (.lR v)=>some v
 | _=>none
def afX (P:Program) (t Tc:TypeId):Bool:=Nat.beq Tc t&&Rf (bu P t).ks&&decide (ZG P t=some (bu P t).agg)&&decide (size? P t=some (bu P t).ks.length)&&((bu P t).agg||Nat.beq (bu P t).ks.length 1)
def acd (P:Program) (T:TypeId) (k:Nat) (e:KV) (vs:List KV):Option KV:=(od k (leaves e (bu P T).ks 0) vs).map fun cs=>TE (bu P T).agg cs
def xN (acc:Nat->KV) (i:Nat) (v:KV):Nat->KV:=fun j=>cond (Nat.beq j i) v (acc j)
def apR (T:TypeId) (n i:Nat) (es:List KV) (acc:Nat->KV) (e:KV):KV:=.ts T .any n (setAt es i e) (xN acc i e)
def ace (P:Program) (t:TypeId):FR:=fun A xs=>
 match xs with
 | [.ptr b off]=>
  match ZG P t,size? P t with
  | some ag,some n=>match (rowAt A b).bind fun cs=>zT n (GH off cs) with
   | some l=>cond ag (.ok (.agg l)) (match l with | [v]=>.ok v | _=>.no)
   | none=>.no
  | _,_=>.no
 | [.tp _ Tc i k _ acc]=>
  cond (afX P t Tc) (.ok (TE (bu P t).agg (leaves (acc i) (bu P t).ks k))) .no
 | [.ap T Tc b i k]=>match Ob A b with
  | some (.ts T' _ _ _ acc)=>cond (Nat.beq T T'&&afX P t Tc) (.ok (TE (bu P t).agg (leaves (acc i) (bu P t).ks k))) .no
  | _=>.no
 | _=>.no
def Z3 (P:Program) (t:TypeId):FA:=fun A xs=>
 match xs with
 | [.ptr b off,v]=>
  cond (decide (some v.cells.length=size? P t)&&jy v.cells)
   (match A.get b with
   | some (.row cs cc)=>match od off cs v.cells with
    | some cm=>.ok (vY,A.put b (.row cm cc))
    | none=>.no
   | _=>.no) .no
 | [.ap T Tc b i k,v]=>
  match A.get b with
  | some (.arr (.ts T' _ n es acc))=>
   cond (Nat.beq T T'&&Nat.beq Tc t&&cI (bu P t) (ig (bu P t) v)&&decide (size? P t=some (bu P t).ks.length))
    (match acd P T k (acc i) (ig (bu P t) v).cells with
    | some e=>.ok (vY,A.put b (.arr (apR T n i es acc e)))
    | none=>.no) .no
  | _=>.no
 | _=>.no
def agI:FP
 | [.ptr b off]=>.ok (.ptr b off)
 | [.tp T Tc i k es acc]=>.ok (.tp T Tc i k es acc)
 | [.ap T Tc b i k]=>.ok (.ap T Tc b i k)
 | [.fn (.func f) first cap]=>.ok (.fn (.func f) first cap)
 | _=>.no
abbrev awi (k:IntKind) (a b:Int):Nat:=(BitVec.ofInt k.bits a &&& BitVec.ofInt k.bits b).toNat
abbrev bOr (k:IntKind) (a b:Int):Nat:=(BitVec.ofInt k.bits a ||| BitVec.ofInt k.bits b).toNat
abbrev awj (k:IntKind) (a b:Int):Nat:=(BitVec.ofInt k.bits a ^^^ BitVec.ofInt k.bits b).toNat
abbrev asm (k:IntKind) (a b:Int):Nat:=(BitVec.ofInt k.bits a &&& ~~~ BitVec.ofInt k.bits b).toNat
def opI (op:BinOp) (k:IntKind) (a b:Int):KR KV:=
 match op with
 | .add=>.ok (.int k (k.wrap (a+b)))
 | .sub=>.ok (.int k (k.wrap (a - b)))
 | .mul=>.ok (.int k (k.wrap (a * b)))
 | .eql=>.ok (.bool (a==b))
 | .neq=>.ok (.bool (a != b))
 | .lss=>.ok (.bool (decide (a < b)))
 | .leq=>.ok (.bool (decide (a<=b)))
 | .gtr=>.ok (.bool (decide (a > b)))
 | .geq=>.ok (.bool (decide (a >= b)))
 | .quo=>.nI (!(decide (b=0))) (.int k (k.wrap (a.tdiv b)))
 | .rem=>.nI (!(decide (b=0))) (.int k (a.tmod b))
 | .and=>.ok (.int k (k.wrap (awi k a b)))
 | .or=>.ok (.int k (k.wrap (bOr k a b)))
 | .xor=>.ok (.int k (k.wrap (awj k a b)))
 | .andNot=>.ok (.int k (k.wrap (asm k a b)))
 | _=>.no
def awk (op:BinOp) (k:IntKind) (a b:Int):KR KV:=
 match op with
 | .shl=>.nI (!(decide (b < 0))) (.int k (k.wrap (a * 2 ^ (min b.toNat k.bits))))
 | .shr=>.nI (!(decide (b < 0))) (.int k (a.fdiv (2 ^ (min b.toNat k.bits))))
 | _=>.no
def amx:BinOp->Bool
 | .shl | .shr=>true
 | _=>false
def eqK:KV->KV->Option Bool
 | .int k a,.int k' b=>cond (decide (k=k')) (some (a==b)) none
 | .bool a,.bool b=>some (a==b)
 | .str a,.str b=>some (a==b)
 | _,_=>none
def xz:List KV->List KV->Option Bool
 | [],[]=>some true
 | x::xs,y::ys=>match eqK x y,xz xs ys with
  | some a,some b=>some (a&&b)
  | _,_=>none
 | _,_=>none
def JT (P:Program):Nat->TypeId->Bool
 | 0,_=>false
 | n+1,t=>(match P.info? t,lay P (n+1) t with
   | some i,some l=>Nat.beq i.size l.ks.length
   | _,_=>false)&&match P.underlying t with
  | some (.int _) | some .bool | some .string=>true
  | some (.struct fs) => !(P.stoodInHeld t) && fs.toList.all fun f => !(f.name == "_") && JT P n f.type
  | some (.array _ e)=>JT P n e
  | _=>false
def asn (P:Program) (t:TypeId) (x y:KV):Option Bool:=
 match x,y with
 | .agg xs,.agg ys=>cond ((bu P t).agg&&JT P 12 t&&!(P.eqGuardType P.depth t)&&aO (bu P t).ks xs&&aO (bu P t).ks ys) (xz xs ys) none
 | .bool a,.bool b=>match P.underlying t with
  | some .bool=>some (a==b)
  | _=>none
 | .nS,.nS=>match P.underlying t with
  | some (.slice _)=>some true
  | _=>none
 | .ts _ _ n _ _,.nS=>match P.underlying t with
  | some (.slice _)=>cond (Nat.beq n 0) none (some false)
  | _=>none
 | .nS,.ts _ _ n _ _=>match P.underlying t with
  | some (.slice _)=>cond (Nat.beq n 0) none (some false)
  | _=>none
 | .JS,.JS=>match P.underlying t with
  | some (.pointer _)=>some true
  | _=>none
 | .ptr _ _,.JS=>match P.underlying t with
  | some (.pointer _)=>some false
  | _=>none
 | .JS,.ptr _ _=>match P.underlying t with
  | some (.pointer _)=>some false
  | _=>none
 | _,_=>none
def aso (P:Program) (op:BinOp) (t:TypeId):FP
 | [.int j a,.int k b]=>cond (amx op) (awk op j a b) (cond (decide (j=k)) (opI op j a b) .no)
 | [.str a,.str b]=>match op with
  | .eql=>.ok (.bool (a.toList==b.toList))
  | .neq=>.ok (.bool !(a.toList==b.toList))
  | .lss=>.ok (.bool (Op.bytesLess a.toList b.toList))
  | .add=>.nI (Nat.ble (a.size+b.size) 9223372036854775807) (.str (a++b))
  | _=>.no
 | [x,y]=>match op,asn P t x y with
  | .eql,some b=>.ok (.bool b)
  | .neq,some b=>.ok (.bool !b)
  | _,_=>.no
 | _=>.no
def kUn (op:UnOp):FP
 | [.bool b]=>match op with
  | .not=>.ok (.bool !b)
  | _=>.no
 | [.int k n]=>match op with
  | .neg=>.ok (.int k (k.wrap (0 - n)))
  | .xor=>.ok (.int k (k.wrap (BitVec.ofInt k.bits (if k.signed then -1 else k.max) ^^^ BitVec.ofInt k.bits n).toNat))
  | _=>.no
 | _=>.no
def apS (k:IntKind):FP
 | [.int _ n]=>.ok (.int k (k.wrap n))
 | _=>.no
def apT:FP
 | [.str s]=>.ok (.str s)
 | _=>.no
def byteOf:KV->UInt8
 | .int _ n=>UInt8.ofNat n.toNat
 | _=>0
def apU:KV->Bool
 | .int .u8 n=>decide (0<=n)&&decide (n < 256)
 | _=>false
def Rh:FP
 | [.nS]=>.ok (.str ⟨⟨[]⟩⟩)
 | [.ts _ _ _ es _]=>.nI (es.all apU) (.str ⟨⟨es.map byteOf⟩⟩)
 | _=>.no
def YE (e:TypeId):FP
 | [.str s]=>.ok (.ts e .any s.size (s.data.toList.map fun b=>.int .u8 b.toNat) (fun i=>.int .u8 (s.data.toList.getD i 0).toNat))
 | _=>.no
def sG (P:Program) (src dst:TypeId) (x:Operand):uY:=
 match P.underlying src,P.underlying dst with
 | some (.int _),some (.int k)=>.pure (apS k) [x]
 | some .string,some .string=>.pure apT [x]
 | some (.slice e),some .string=>cond (isByte P e) (.read (fun _=>Rh) [x]) .bad
 | some .string,some (.slice e)=>cond (isByte P e) (.look (YE e) [x]) .bad
 | _,_=>.bad
def Ri (f:Fn) (k:Nat):FP:=fun vs=>
 match zT k vs with
 | some first=>.ok (.fn f first (GH k vs))
 | none=>.no
def adZ (s:TypeId) (off:Nat) (ft:TypeId) (B4:Bool):FP
 | [.ptr b o]=>.ok (.ptr b (o+off))
 | [.tp T Tc i k es acc]=>cond (Nat.beq Tc s&&B4) (.ok (.tp T ft i (k+off) es acc)) .no
 | [.ap T Tc b i k]=>cond (Nat.beq Tc s&&B4) (.ok (.ap T ft b i (k+off))) .no
 | _=>.no
def asp:CK->CK->Bool
 | .int a,.int b=>decide (a=b)
 | .bool,.bool=>true
 | .str,.str=>true
 | .slice a,.slice b=>Nat.beq a b
 | .other,.other=>true
 | _,_=>false
def GI:List CK->List CK->Bool
 | [],[]=>true
 | a::aw2,b::bs=>asp a b&&GI aw2 bs
 | _,_=>false
def afY (P:Program) (s:TypeId) (off:Nat) (ft:TypeId):Bool:=
 match zT (bu P ft).ks.length (GH off (bu P s).ks) with
 | some l=>GI l (bu P ft).ks
 | none=>false
def pJ (P:Program) (s:TypeId) (x:Operand) (f:Nat):uY:=
 match A7 P s f with
 | some fd=>match size? P fd.type with
  | some (_+1)=>.pure (adZ s fd.offset fd.type (afY P s fd.offset fd.type)) [x]
  | _=>.bad
 | none=>.bad
def acf (P:Program) (t:TypeId) (cs:List KV) (off:Nat):Option KV:=
 match ZG P t with
 | some true=>(size? P t).bind fun n=>(zT n (GH off cs)).map fun l=>.agg l
 | some false=>(GH off cs).head?
 | none=>none
def apV (P:Program) (fd:Field):FP
 | [.agg cs]=>.of (acf P fd.type cs fd.offset)
 | _=>.no
def xO (P:Program) (t:TypeId) (x:Operand) (f:Nat):uY:=
 match A7 P t f with
 | some fd=>.pure (apV P fd) [x]
 | none=>.bad
def inR (i:Int) (n:Nat):Bool:=decide (0<=i)&&decide (i < (n:Int))
def apW {α:Type} (i:Int) (f:Nat->KR α) (m:Nat):Nat->KR α:=Nat.rec (motive:=fun _=>Nat->KR α) (fun _=>.no) (fun _ ih j=>.br (decide (i=(j:Int))) (f j) (ih (Nat.succ j))) m
def agJ (P:Program) (t:TypeId) (len n:Nat) (e:TypeId):FP
 | [.ptr b o,.int _ i]=>cond (Nat.ble len 8) (apW i (fun j=>.ok (.ptr b (o+j * n))) len 0) (.nI (inR i len) (.ptr b (o+i.toNat * n)))
 | [.tp T Tc j k es acc,.int _ i]=>cond (Nat.beq Tc t&&GI (bu P t).ks (eR (bu P e).ks len)&&Nat.beq (bu P e).ks.length n) (.nI (inR i len) (.tp T e j (k+i.toNat * n) es acc)) .no
 | [.ap T Tc b j k,.int _ i]=>cond (Nat.beq Tc t&&GI (bu P t).ks (eR (bu P e).ks len)&&Nat.beq (bu P e).ks.length n) (.nI (inR i len) (.ap T e b j (k+i.toNat * n))) .no
 | _=>.no
def ajX (e n:Nat) (B4:Bool):FP
 | [.sl b o len _,.int _ i]=>.nI (inR i len) (.ptr b (o+i.toNat * n))
 | [.ts T _ m es acc,.int _ i]=>cond (Nat.beq T e&&B4) (.nI (inR i m) (.tp T T i.toNat 0 es acc)) .no
 | [.al T b o m,.int _ i]=>cond (Nat.beq T e&&B4) (.nI (inR i m) (.ap T T b (o+i.toNat) 0)) .no
 | _=>.no
def pK (P:Program) (t:TypeId) (x ix:Operand):uY:=
 match P.underlying t with
 | some (.array len e)=>match size? P e with
  | some n=>.pure (agJ P t len n e) [x,ix]
  | none=>.bad
 | some (.slice e)=>match size? P e with
  | some n=>.pure (ajX e n (Nat.beq (bu P e).ks.length n)) [x,ix]
  | none=>.bad
 | _=>.bad
def YF (P:Program) (len n:Nat) (e:TypeId):FP
 | [.agg cs,.int _ i]=>cond (Nat.ble len 8) (apW i (fun j=>.of (acf P e cs (j * n))) len 0) (match acf P e cs (i.toNat * n) with
  | some v=>.nI (inR i len) v
  | none=>.no)
 | _=>.no
def agK:FP
 | [.str s,.int _ i]=>.nI (inR i s.size) (.int .u8 ((s.data.toList.getD i.toNat 0).toNat))
 | _=>.no
def xP (P:Program) (t:TypeId) (x ix:Operand):uY:=
 match P.underlying t with
 | some (.array len e)=>match size? P e with
  | some n=>.pure (YF P len n e) [x,ix]
  | none=>.bad
 | some .string=>.pure agK [x,ix]
 | _=>.bad
def ajY {α:Type} : Nat->List α->Option α
 | _,[]=>none
 | 0,x::_=>some x
 | n+1,_::xs=>ajY n xs
def ajZ (i:Nat):FP
 | [.lP vs]=>.of (ajY i vs)
 | _=>.no
def apX:FP
 | [.ts _ _ n _ _]=>.ok (.int .i64 (n:Int))
 | [.sl _ _ n _]=>.ok (.int .i64 (n:Int))
 | [.al _ _ _ n]=>.ok (.int .i64 (n:Int))
 | [.nS]=>.ok (.int .i64 0)
 | _=>.no
def amy:FP
 | [.str s]=>.ok (.int .i64 (s.size:Int))
 | _=>.no
def agL (P:Program) (argTypes:List TypeId) (args:List Operand):uY:=
 match argTypes with
 | [t]=>match P.underlying t with
  | some (.slice _)=>.pure apX args
  | some .string=>.pure amy args
  | _=>.bad
 | _=>.bad
def Pl (mx:Bool):FP
 | [.int j a,.int k b]=>cond (decide (j=k)) (.ok (.int j (cond mx (max a b) (min a b)))) .no
 | [.int j a,.int k b,.int l c]=>cond (decide (j=k)&&decide (j=l)) (.ok (.int j (cond mx (max (max a b) c) (min (min a b) c)))) .no
 | _=>.no
def Z4 (len:Nat) (lo hi:Bool):List KV->Option (Int×Int)
 | []=>cond (lo||hi) none (some (0,len))
 | [.int _ x]=>cond (lo&&!hi) (some (x,len)) (cond (!lo&&hi) (some (0,x)) none)
 | [.int _ x,.int _ y]=>cond (lo&&hi) (some (x,y)) none
 | _=>none
def acg (P:Program) (n:Nat) (lo hi:Bool):FR:=fun A xs=>
 match xs with
 | .ts T _ m es acc::r=>match Z4 m lo hi r with
  | some (x,y)=>cond (Nat.beq (bu P T).ks.length n) (.nI (decide (0<=x)&&decide (x<=y)&&decide (y<=(m:Int))) (.ts T .any (y.toNat - x.toNat) ((es.drop x.toNat).take (y.toNat - x.toNat)) (fun i=>acc (x.toNat+i)))) .no
  | none=>.no
 | .sl b o len cap::r=>match A.get b with
  | some (.row _ cc)=>match Z4 len lo hi r with
   | some (x,y)=>cond (Nat.beq cc n) (.nI (decide (0<=x)&&decide (x<=y)&&decide (y<=(len:Int))&&decide (len<=cap)) (.sl b (o+x.toNat * n) (y.toNat - x.toNat) (cap - x.toNat))) .no
   | none=>.no
  | _=>.no
 | .al T b o m::r=>match Ob A b with
  | some (.ts T' _ _ _ _)=>match Z4 m lo hi r with
   | some (x,y)=>cond (Nat.beq (bu P T).ks.length n&&Nat.beq T T') (.nI (decide (0<=x)&&decide (x<=y)&&decide (y<=(m:Int))) (.al T b (o+x.toNat) (y.toNat - x.toNat))) .no
   | none=>.no
  | _=>.no
 | _=>.no
def YG (len n:Nat) (lo hi:Bool):FR:=fun A xs=>
 match xs with
 | .ptr b o::r=>match A.get b with
  | some (.row cs cc)=>match Z4 len lo hi r with
   | some (x,y)=>cond (Nat.beq cc n&&Nat.ble (o+len * n) cs.length) (.nI (decide (0<=x)&&decide (x<=y)&&decide (y<=(len:Int))) (.sl b (o+x.toNat * n) (y.toNat - x.toNat) (len - x.toNat))) .no
   | none=>.no
  | _=>.no
 | _=>.no
def YH (lo hi:Bool):FP
 | .str s::r=>match Z4 s.size lo hi r with
  | some (x,y)=>.nI (decide (0<=x)&&decide (x<=y)&&decide (y<=(s.size:Int))) (.str ⟨⟨(s.data.toList.drop x.toNat).take (y.toNat - x.toNat)⟩⟩)
  | none=>.no
 | _=>.no
def xQ (P:Program) (t:TypeId) (x:Operand) (lo hi mx:Option Operand):uY:=
 match P.underlying t with
 | some (.slice e)=>match size? P e with
  | some n=>cond (Nat.ble 1 n&&mx.isNone) (.read (acg P n lo.isSome hi.isSome) (x::(hM lo++hM hi))) .bad
  | none=>.bad
 | some (.array len e)=>match size? P e with
  | some n=>cond (Nat.ble 1 n&&mx.isNone) (.read (YG len n lo.isSome hi.isSome) (x::(hM lo++hM hi))) .bad
  | none=>.bad
 | some .string=>cond mx.isNone (.pure (YH lo.isSome hi.isSome) (x::(hM lo++hM hi))) .bad
 | _=>.bad
def ij (b n m:Nat):Bool:=Nat.ble ((n+m+512) * b) 17592186044416&&Nat.ble (n+m) 17592186044416&&(Nat.blt 0 m||Nat.beq n 0)
def ik (top n:Nat):Bool:=Nat.beq top n
def dS (n:Nat) (f g:Nat->KV):Nat->KV:=fun i=>cond (Nat.blt i n) (f i) (g (i - n))
def Z5 (e sz b n:Nat) (base:List KV) (ab:Nat->KV) (A:aB) (f m:Nat) (new:List KV) (an:Nat->KV) (more:Bool):KR (KV×aB):=
 .nI (more&&ij b n m)
  (.ts e (.aZ f) (n+m) (base++new) (dS n ab an),A.put f (.aZ (n+m) sz))
def Uh (e sz b:Nat):FA:=fun A xs=>
 match xs with
 | [.nS,.ts e' _ m new an]=>cond (Nat.beq e e') (Z5 e sz b 0 [] pI (A.new (.aZ 0 sz)) A.next m new an true) .no
 | [.ts e1 .exact n es ab,.ts e' _ m new an]=>cond (Nat.beq e e'&&Nat.beq e e1) (Z5 e sz b n es ab (A.new (.aZ 0 sz)) A.next m new an (Nat.blt 0 m)) .no
 | [.ts e1 (.aZ f) n es ab,.ts e' _ m new an]=>match A.get f with
  | some (.aZ top sz')=>cond (Nat.beq e e'&&Nat.beq e e1&&Nat.beq sz' sz) (Z5 e sz b n es ab A f m new an (ik top n)) .no
  | _=>.no
 | _=>.no
def ak4 (A:aB) (T b o n:Nat):Option KV:=
 match Ob A b with
 | some (.ts T' _ _ es acc)=>cond (Nat.beq T T') (some (.ts T .any n ((es.drop o).take n) (fun i=>acc (o+i)))) none
 | _=>none
def Ui (A:aB) (v:KV):Option KV:=
 match v with
 | .al T b o n=>ak4 A T b o n
 | .ts T m n es acc=>some (.ts T m n es acc)
 | _=>none
def apY (b n m:Nat):Bool:=Nat.ble ((n+m+512) * b) 17592186044416&&Nat.ble (n+m) 17592186044416
def afZ (e b n:Nat) (base:List KV) (ab:Nat->KV) (A:aB) (m:Nat) (new:List KV) (an:Nat->KV) (more:Bool):KR (KV×aB):=
 .nI (more&&apY b n m) (.al e A.next 0 (n+m),A.new (.arr (.ts e .any (n+m) (base++new) (dS n ab an))))
def KW (e b:Nat):FA:=fun A xs=>
 match xs with
 | [.nS,.ts e' _ m new an]=>cond (Nat.beq e e') (afZ e b 0 [] pI A m new an true) .no
 | [.al e1 f o n,.ts e' _ m new an]=>match A.get f with
  | some (.arr (.ts e2 _ _ es acc))=>cond (Nat.beq e e'&&Nat.beq e e1&&Nat.beq e e2) (afZ e b n (es.take n) acc (A.put f .dead) m new an (Nat.beq o 0)) .no
  | _=>.no
 | _=>.no
def asq:KV->Bool
 | .al _ _ _ _=>true
 | _=>false
def Pm (e sz b:Nat) (mt:Bool):FA:=fun A xs=>
 match xs with
 | [x,y]=>match Ui A y with
  | some y'=>cond (asq x) (KW e b A [x,y']) (cond mt (KW e b A [x,y']) (Uh e sz b A [x,y']))
  | none=>.no
 | _=>.no
def M6 (P:Program) (mt:TypeId->Bool) (argTypes:List TypeId) (args:List Operand):uY:=
 match argTypes with
 | [t,u]=>
  match P.underlying t,P.underlying u with
  | some (.slice e),some (.slice _)=>
   match P.info? e with
   | some i=>match i.zero with
    | some z=>cond (Nat.ble 1 i.size&&Nat.beq z.cells.size i.size&&Nat.beq (bu P e).ks.length i.size) (.act (Pm e i.size i.bytes (mt e)) args) .bad
    | none=>.bad
   | none=>.bad
  | _,_=>.bad
 | _=>.bad
def Uj (n b:Nat) (z:List KV):FA:=fun A xs=>
 match xs with
 | [.int _ l,.int _ c]=>.nI (decide (0<=l)&&decide (l<=c)&&Nat.ble (b * c.toNat) 281474976710656) (.sl A.next 0 l.toNat c.toNat,A.new (.row (eR z c.toNat) n))
 | _=>.no
def agM (A:aB) (v:KV):KV×aB:=
 match v with
 | .al T b o n=>match A.get b with
  | some (.arr (.ts T' m N es acc))=>cond (Nat.beq T T') (.ts T .any n ((es.drop o).take n) (fun i=>acc (o+i)),A.put b (.lR (.ts T' m N es acc))) (.bG,A)
  | some (.lR (.ts T' _ _ es acc))=>cond (Nat.beq T T') (.ts T .any n ((es.drop o).take n) (fun i=>acc (o+i)),A) (.bG,A)
  | _=>(.bG,A)
 | v=>(v,A)
def ach (A:aB):List KV->List KV×aB
 | []=>([],A)
 | v::vs=>((agM A v).1::(ach (agM A v).2 vs).1,(ach (agM A v).2 vs).2)
def aj0 (A:aB) (v:KV):KV×aB:=
 match v with
 | .agg cs=>(.agg (ach A cs).1,(ach A cs).2)
 | v=>agM A v
def B5 (A:aB):List KV->List KV×aB
 | []=>([],A)
 | v::vs=>((aj0 A v).1::(B5 (aj0 A v).2 vs).1,(B5 (aj0 A v).2 vs).2)
def aci (T b:Nat) (z:KV):FA:=fun A xs=>
 match xs with
 | [.int _ l,.int _ c]=>.nI (decide (0<=l)&&decide (l<=c)&&Nat.ble (b * c.toNat) 281474976710656) (.al T A.next 0 l.toNat,A.new (.arr (.ts T .any c.toNat (eR [z] c.toNat) (fun _=>z))))
 | _=>.no
def ak5 (T b:Nat) (z:KV):FP:=fun xs=>
 match xs with
 | [.int _ l,.int _ c]=>.nI (decide (0<=l)&&decide (l<=c)&&Nat.ble (b * c.toNat) 281474976710656) (.ts T .any l.toNat (eR [z] l.toNat) (fun _=>z))
 | _=>.no
def zU (P:Program) (mt:TypeId->Bool) (t:TypeId) (l c:Operand):uY:=
 match P.underlying t with
 | some (.slice e)=>
  match P.info? e with
  | some i=>match i.zero with
   | some z=>cond (mt (e+1000000)) (cond (Nat.ble 1 i.size&&Nat.ble 1 i.bytes&&Nat.beq z.cells.size i.size&&flat z&&z.cells.toList.all scalar&&Nat.beq (bu P e).ks.length i.size&&cI (bu P e) (ig (bu P e) (iR z))) (.look (ak5 e i.bytes (ig (bu P e) (iR z))) [l,c]) .bad) <| cond (mt e) (cond (Nat.ble 1 i.size&&Nat.ble 1 i.bytes&&Nat.beq z.cells.size i.size&&flat z&&z.cells.toList.all scalar&&Nat.beq (bu P e).ks.length i.size&&cI (bu P e) (ig (bu P e) (iR z))) (.act (aci e i.bytes (ig (bu P e) (iR z))) [l,c]) .bad) <| cond (Nat.ble 1 i.size&&Nat.ble 1 i.bytes&&Nat.beq z.cells.size i.size&&flat z&&z.cells.toList.all scalar&&jy (iR z).cells) (.act (Uj i.size i.bytes (iR z).cells) [l,c]) .bad
   | none=>.bad
  | none=>.bad
 | _=>.bad
def E7 (es:List KV) (o:Nat) (new:List KV):List KV:=es.take o++new++es.drop (o+new.length)
def nM (o k:Nat) (f g:Nat->KV):Nat->KV:=fun i=>cond (Nat.blt i o) (f i) (cond (Nat.blt i (o+k)) (g (i - o)) (f i))
def aoF (e:Nat):FA:=fun A xs=>
 match xs with
 | [.al e1 b o n,y]=>match Ui A y,A.get b with
  | some (.ts e' _ m new an),some (.arr (.ts e2 _ N es acc))=>cond (Nat.beq e e'&&Nat.beq e e1&&Nat.beq e e2)
    (.ok (.int .i64 (Nat.min m n:Nat),A.put b (.arr (.ts e .any N (E7 es o (new.take (Nat.min m n))) (nM o (Nat.min m n) acc an))))) .no
  | _,_=>.no
 | _=>.no
def Wk (P:Program) (argTypes:List TypeId) (args:List Operand):uY:=
 match argTypes with
 | [t,u]=>
  match P.underlying t,P.underlying u with
  | some (.slice e),some (.slice _)=>match size? P e with
   | some n=>cond (Nat.ble 1 n&&Nat.beq (bu P e).ks.length n) (.act (aoF e) args) .bad
   | none=>.bad
  | _,_=>.bad
 | _=>.bad
def E8 (P:Program) (mt:TypeId->Bool) (b:Builtin) (argTypes:List TypeId) (args:List Operand):uY:=
 match b with
 | .len=>agL P argTypes args
 | .min=>.pure (Pl false) args
 | .max=>.pure (Pl true) args
 | .append=>M6 P mt argTypes args
 | .copy=>Wk P argTypes args
 | _=>.bad
inductive M7 where
 | no
 | out (e:aq) (t:bL) (A:aB)
 | br (c:Bool) (x y:M7)
inductive yY where
 | no
 | out (v:KV) (A:aB)
 | br (c:Bool) (x y:yY)
structure amz where
 ac:FuncId->Option (List KV->aB->yY)
 mt:TypeId->Bool
 fz:Bool
 eg:Bool
def amz.none:amz:=⟨fun _=>.none,fun _=>false,false,false⟩
structure ga where
 pc:FuncId->Option (List KV->KR KV)
 lp:FuncId->Nat->Option (bL->aB->M7)
 x:amz
def ga.none:ga:=⟨fun _=>.none,fun _ _=>.none,.none⟩
def vA (P:Program) (f:KV->KV) (t:TypeId) (e:KV):KV:=TE (bu P t).agg ((leaves e (bu P t).ks 0).map f)
def eJ (P:Program) (d:Nat):KV->KV:=Nat.rec (motive:=fun _=>KV->KV) (fun v=>v) (fun _ ih v=>match v with
 | .ts t _ n _ acc=>.ts t .any n ((List.range n).map fun i=>vA P ih t (acc i)) (fun i=>vA P ih t (acc i))
 | v=>v) d
def iU:Nat:=6
def Z6 (P:Program) (t:TypeId) (v:KV):KV:=cond (cI (bu P t) (ig (bu P t) v)) (vA P (eJ P iU) t (ig (bu P t) v)) .bG
def normArgs (P:Program):List TypeId->List KV->List KV
 | t::ts,v::vs=>Z6 P t v::normArgs P ts vs
 | _,_=>[]
def gw (P:Program) (g:FuncId):List TypeId:=match P.funcs.toList[g]? with
 | some fn=>fn.params.toList
 | none=>[]
def ga.amA (cfg:ga) (g:FuncId):Bool:=cfg.x.fz||cfg.x.mt (2000000+g)
def oM (P:Program) (cfg:ga) (c:Call):uY:=
 match c.callee with
 | .value (.func g)=>match cfg.pc g with
  | some F=>cond (cfg.amA g) (.Li g (fun vs=>cond (Nat.beq vs.length (gw P g).length) (F (normArgs P (gw P g) vs)) .no) c.args.toList)
    (.GG g (fun vs=>cond (Nat.beq vs.length (gw P g).length) (F (normArgs P (gw P g) vs)) .no) c.args.toList)
  | none=>.call (.func g) c.args.toList
 | .value f=>.call f c.args.toList
 | .builtin b=>E8 P cfg.x.mt b c.argTypes.toList c.args.toList
 | .invoke _ _=>.bad
def CU:Fn->Bool
 | .yield _=>true
 | _=>false
def cf (P:Program) (cfg:ga):Op->uY
 | .move x=>.pure ak2 [x]
 | .assign x=>.pure (cond cfg.x.eg ak3 ak2) [x]
 | .pick c a b=>.pure aoE [c,a,b]
 | .alloc t=>tj P t
 | .box t x=>.act (Ir (rz P t)) [x]
 | .build t parts=>xM P t (parts.toList.map (·.1)) (parts.toList.map (·.2))
 | .buildSlice t len parts=>oe P t len (parts.toList.map (·.1)) (parts.toList.map (·.2))
 | .load t a=>.read (ace P t) [a]
 | .store t a x=>.act (Z3 P t) [a,x]
 | .nilCheck x=>.pure agI [x]
 | .binOp op t x y _=>.pure (aso P op t) [x,y]
 | .unOp op _ x=>.pure (kUn op) [x]
 | .convert src dst x=>sG P src dst x
 | .makeFunc fn first cap=>cond (CU fn) .bad (.pure (Ri fn first.size) (first.toList++cap.toList))
 | .fieldAddr s x f=>pJ P s x f
 | .field t x f=>xO P t x f
 | .indexAddr t x ix=>pK P t x ix
 | .index t x ix=>xP P t x ix
 | .extract t ix=>.pure (ajZ ix) [t]
 | .slice t x lo hi mx=>xQ P t x lo hi mx
 | .makeSlice t l c=>zU P cfg.x.mt t l c
 | .call c=>oM P cfg c
 | _=>.bad
def nJ (t:bL):Operand->KV
 | .tmp i=>(t.get i).getD .bG
 | .const v=>cond (flat v) (iR v) .bG
 | .global _=>.bG
 | .func f=>.fn (.func f) [] []
def ox (t:bL):List Operand->List KV
 | []=>[]
 | x::xs=>nJ t x::ox t xs
def tI (t:bL) (dst:Option Tmp) (v:KV):bL:=
 match dst with
 | some d=>t.set v d
 | none=>t
def Lj (args:List KV):KV->Option (FuncId×List KV)
 | .fn (.func g) first cap=>some (g,first++args++cap)
 | _=>none
inductive BK where
 | bool (b:Bool)
 | lP
 | no
def yZ:KV->BK
 | .bool b=>.bool b
 | .lP _=>.lP
 | _=>.no
section
variable {R:Type}
abbrev qI (R:Type):=FuncId->List KV->aB->(KV->aB->Option R)->Option R
def Uk (bJ:qI R) (t:bL) (A:aB) (k:KV->aB->Option R) (ins:uY):Option R:=
 uY.rec (motive:=fun _=>Option R)
  (fun f xs=>(f (ox t xs)).run fun v=>k v A)
  (fun f xs=>(f A (ox t xs)).run fun v=>k v A)
  (fun f xs=>(f A (ox t xs)).run fun p=>k p.1 p.2)
  (fun f xs=>(f (ox t xs)).run fun v=>k v A)
  (fun _ f xs=>(f (ox t xs)).run fun v=>k v A)
  (fun _ f xs=>(f (B5 A (ox t xs)).1).run fun v=>k v (B5 A (ox t xs)).2)
  (fun f args=>Option.rec (motive:=fun _=>Option R) none (fun p=>bJ p.1 p.2 A k) (Lj (ox t args) (nJ t f)))
  none ins
def amB (t:bL) (d:Option Tmp) (want:Bool) (yes no:bL->Option R):Option R:=
 Option.rec (motive:=fun _=>Option R) none (fun d=>BK.rec (motive:=fun _=>Option R)
  (fun b=>Bool.rec (motive:=fun _=>Option R)
   (Bool.rec (motive:=fun _=>Option R) (yes (t.set (.bool false) d)) (no (t.set (.bool false) d)) want)
   (Bool.rec (motive:=fun _=>Option R) (no (t.set (.bool true) d)) (yes (t.set (.bool true) d)) want) b)
  (no t) none (yZ ((t.get d).getD .bG))) d
def DC (P:Program) (cfg:ga) (bJ:qI R) (all:List Oper) (o:Oper) (k:bL->aB->Option R) (t:bL) (A:aB):Option R:=
 Option.rec (motive:=fun _=>Option R) (Uk bJ t A (fun v A=>k (tI t o.dst v) A) (cf P cfg o.op))
  (fun g=>amB t ((all[g.1]?).bind (·.dst)) g.2 (fun t=>Uk bJ t A (fun v A=>k (tI t o.dst v) A) (cf P cfg o.op)) (fun t=>k (tI t o.dst vY) A)) o.guard
def xA (P:Program) (cfg:ga) (bJ:qI R) (all:List Oper) (k:bL->aB->Option R) (os:List Oper):bL->aB->Option R:=
 List.rec (motive:=fun _=>bL->aB->Option R) k (fun o _ ih=>DC P cfg bJ all o ih) os
abbrev KE (R:Type):=aq->bL->aB->Option R
def ak6 (t:bL) (c:Operand) (f g:bL->Option R):Option R:=
 match c with
 | .tmp d=>BK.rec (motive:=fun _=>Option R) (fun b=>Bool.rec (motive:=fun _=>Option R) (g (t.set (.bool false) d)) (f (t.set (.bool true) d)) b) none none (yZ ((t.get d).getD .bG))
 | c=>BK.rec (motive:=fun _=>Option R) (fun b=>Bool.rec (motive:=fun _=>Option R) (g t) (f t) b) none none (yZ (nJ t c))
def ej (i:uY):Nat:=uY.rec (motive:=fun _=>Nat) (fun _ _=>0) (fun _ _=>1) (fun _ _=>3) (fun _ _=>0) (fun _ _ _=>0) (fun _ _ _=>3) (fun _ _=>9) 9 i
def af0:uY->List Operand
 | .pure _ xs=>xs
 | .read _ xs=>xs
 | .act _ xs=>xs
 | .look _ xs=>xs
 | .GG _ _ xs=>xs
 | .Li _ _ xs=>xs
 | .call f xs=>f::xs
 | .bad=>[]
def qz (P:Program) (cfg:ga) (all:List Oper) (o:Oper):List Tmp:=KS all o++uU (af0 (cf P cfg o.op))
def xR (P:Program) (cfg:ga) (all:List Oper) (x y:Oper):Bool:=TY x.dst (qz P cfg all y)||TY y.dst (qz P cfg all x)||ZM x.dst y.dst
def Oc (P:Program) (cfg:ga) (all:List Oper) (x y:Oper):Bool:=
 xR P cfg all x y||(Nat.ble 3 (ej (cf P cfg x.op))&&!(Nat.beq (ej (cf P cfg y.op)) 0))||(Nat.ble 3 (ej (cf P cfg y.op))&&!(Nat.beq (ej (cf P cfg x.op)) 0))
def Wl:Op->Bool
 | .alloc _=>true
 | .box _ _=>true
 | .call c=>match c.callee with
  | .builtin .append=>true
  | _=>false
 | _=>false
def Z7:Op->Option Operand
 | .store _ a _=>some a
 | _=>none
def apZ:Op->Option Operand
 | .load _ a=>some a
 | _=>none
def zV (i:Nat) (x:Operand):List Oper->Nat->Bool
 | [],_=>true
 | o::os,j=>(Nat.blt j i||!(TY o.dst (uU [x])))&&zV i x os (Nat.succ j)
def Rj (i:Nat) (x:Option Operand) (all:List Oper):Bool:=
 match x with
 | some x=>zV i x all 0
 | none=>true
def Rl (x y:Oper):Option (Option Operand×Operand):=
 match apZ y.op with
 | some a=>cond (Wl x.op) (some (none,a)) (match Z7 x.op with
  | some a2=>some (some a2,a)
  | none=>none)
 | none=>none
def ad0 (all:List Oper) (j:Nat) (x:Oper) (i:Nat) (y:Oper):Option (Option Operand×Operand):=
 match Rl x y with
 | some p=>cond (zV i p.2 all 0&&Rj j p.1 all) (some p) none
 | none=>match Rl y x with
  | some p=>cond (zV j p.2 all 0&&Rj i p.1 all) (some p) none
  | none=>none
def Pn (t:bL) (nx:Nat) (p:Option Operand×Operand):Bool:=
 match nJ t p.2 with
 | .tp _ _ _ _ _ _=>true
 | .ptr b _=>Nat.blt b nx&&(match p.1 with
  | some a2=>(match nJ t a2 with
   | .ptr b2 _=>!(Nat.beq b b2)
   | .ap _ _ _ _ _=>true
   | _=>false)
  | none=>true)
 | _=>false
def YI (t:bL) (nx:Nat) (l:List (Option Operand×Operand)):Bool:=List.rec (motive:=fun _=>Bool) true (fun p _ ih=>Bool.rec false ih (Pn t nx p)) l
def Iu (P:Program) (cfg:ga) (all:List Oper) (b:List Nat) (i:Nat) (y:Oper):List Oper->Nat->List (Option Operand×Operand)
 | [],_=>[]
 | x::xs,j=>cond (Nat.ble i j||!Oc P cfg all x y||tF b i j) (Iu P cfg all b i y xs (Nat.succ j)) (match ad0 all j x i y with
  | some p=>p::Iu P cfg all b i y xs (Nat.succ j)
  | none=>Iu P cfg all b i y xs (Nat.succ j))
def acj (P:Program) (cfg:ga) (all:List Oper) (b:List Nat):List Oper->Nat->List (Option Operand×Operand)
 | [],_=>[]
 | o::os,i=>Iu P cfg all b i o all 0++acj P cfg all b os (Nat.succ i)
def YJ (P:Program) (cfg:ga) (all:List Oper):Bool:=all.all fun o=>!(Nat.ble 3 (ej (cf P cfg o.op)))||Wl o.op||(Z7 o.op).isSome
def Od (P:Program) (cfg:ga) (all:List Oper):List (Option Operand×Operand):=acj P cfg all (gb [] all) all 0
def Wm (P:Program) (cfg:ga) (all:List Oper) (b:List Nat) (i:Nat) (y:Oper):List Oper->Nat->Bool
 | [],_=>true
 | x::xs,j=>(Nat.ble i j||!Oc P cfg all x y||tF b i j||(!xR P cfg all x y&&(ad0 all j x i y).isSome))&&Wm P cfg all b i y xs (Nat.succ j)
def Po (P:Program) (cfg:ga) (all:List Oper) (b:List Nat):List Oper->Nat->Bool
 | [],_=>true
 | o::os,i=>Wm P cfg all b i o all 0&&Po P cfg all b os (Nat.succ i)
def amC (P:Program) (cfg:ga) (all:List Oper):Bool:=O9 P all&&all.all (fun o=>Nat.ble (ej (cf P cfg o.op)) 3)&&Po P cfg all (gb [] all) all 0&&((Od P cfg all).isEmpty||YJ P cfg all)
def iM (o:Oper):Option (TypeId×Tmp):=
 match o.op,o.guard,o.dst with
 | .alloc T,none,some d=>some (T,d)
 | _,_,_=>none
def Bd (d:Tmp):List Oper->Bool
 | []=>false
 | o::os=>(match iM o with
  | some (_,e)=>Nat.beq d e
  | none=>false)||Bd d os
def wz (all:List Oper) (o:Oper):Option (TypeId×Tmp×Operand):=
 match o.op,o.guard,o.dst with
 | .store T (.tmp d) x,none,none=>cond (Bd d all) (some (T,d,x)) none
 | _,_,_=>none
def ux (all:List Oper) (o:Oper):Bool:=(iM o).isSome||(wz all o).isSome
def wA (all:List Oper) (d:Tmp):List Oper->Option (TypeId×Operand)
 | []=>none
 | o::os=>match wz all o with
  | some (T,e,x)=>cond (Nat.beq d e) (some (T,x)) (wA all d os)
  | none=>wA all d os
def Pp (i:Nat) (d:Tmp):List Oper->Nat->Bool
 | [],_=>true
 | o::os,j=>(Nat.beq j i||!(TY o.dst [d]))&&Pp i d os (Nat.succ j)
def GJ (all:List Oper) (i:Nat) (d:Tmp):List Oper->Nat->Bool
 | [],_=>true
 | o::os,j=>(Nat.beq j i||(match wz all o with
  | some (_,e,_)=>!(Nat.beq d e)
  | none=>true))&&GJ all i d os (Nat.succ j)
def Ul (all:List Oper):List Oper->Nat->Bool
 | [],_=>true
 | o::os,i=>(match iM o with
  | some (_,d)=>Pp i d all 0
  | none=>true)&&(match wz all o with
  | some (_,d,x)=>zV i x all 0&&GJ all i d all 0&&Bd d (all.take i)&&!(TY (some d) (uU [x]))
  | none=>true)&&Ul all os (Nat.succ i)
def KX (P:Program) (cfg:ga) (all:List Oper) (b:List Nat) (i:Nat) (y:Oper):List Oper->Nat->Bool
 | [],_=>true
 | x::xs,j=>(Nat.ble i j||!xR P cfg all x y||tF b i j)&&KX P cfg all b i y xs (Nat.succ j)
def Ee (P:Program) (cfg:ga) (all:List Oper) (b:List Nat):List Oper->Nat->Bool
 | [],_=>true
 | o::os,i=>KX P cfg all b i o all 0&&Ee P cfg all b os (Nat.succ i)
def Pq (o:Oper):Option (Operand×List Operand):=
 match o.op,o.guard with
 | .call c,none=>match c.callee with
  | .value (.tmp d)=>some (.tmp d,c.args.toList)
  | _=>none
 | _,_=>none
def Km (P:Program) (cfg:ga) (t:bL) (p:Operand×List Operand):uY:=
 match nJ t p.1 with
 | .fn (.func g) [] []=>match cfg.pc g with
  | some F=>.GG g (fun vs=>cond (Nat.beq vs.length (gw P g).length) (F (normArgs P (gw P g) vs)) .no) p.2
  | none=>.bad
 | _=>.bad
def Z8 (P:Program) (cfg:ga) (all:List Oper):Bool:=O9 P all&&all.all (fun o=>ux all o||Nat.ble (ej (cf P cfg o.op)) 1||(Pq o).isSome)&&Ee P cfg all (gb [] all) all 0&&Ul all all 0
def aoG (P:Program) (cfg:ga) (bJ:qI R) (all:List Oper) (o:Oper) (k:bL->aB->Option R) (t:bL) (A:aB):Option R:=
 Bool.rec (motive:=fun _=>Option R) (Option.rec (motive:=fun _=>Option R) (DC P cfg bJ all o k t A) (fun p=>Uk bJ t A (fun v A=>k (tI t o.dst v) A) (Km P cfg t p)) (Pq o)) (k (tI t o.dst .bG) A) (ux all o)
def agN (P:Program) (cfg:ga) (bJ:qI R) (all:List Oper) (k:bL->aB->Option R) (os:List Oper):bL->aB->Option R:=
 List.rec (motive:=fun _=>bL->aB->Option R) k (fun o _ ih=>aoG P cfg bJ all o ih) os
def Bf (P:Program) (all:List Oper) (t:bL) (T:TypeId) (d:Tmp):Option (List KV):=
 match wj P T with
 | some z=>cond (flat z&&z.cells.toList.all scalar&&jy (iR z).cells&&decide (some (iR z).cells.length=size? P T)) (match wA all d all with
  | some (T',x)=>cond (Nat.beq T T'&&decide (some (nJ t x).cells.length=size? P T)&&jy (nJ t x).cells) (some (nJ t x).cells) none
  | none=>some (iR z).cells) none
 | none=>none
def ad1 (P:Program) (all:List Oper) (t0:bL) (k:bL->aB->Option R) (os:List Oper):bL->aB->Option R:=
 List.rec (motive:=fun _=>bL->aB->Option R) k (fun o _ ih t A=>Option.rec (motive:=fun _=>Option R) (ih t A) (fun p=>
  Option.rec (motive:=fun _=>Option R) none (fun cs=>ih (t.set (.ptr A.next 0) p.2) (A.new (.row cs (rz P p.1)))) (Bf P all t0 p.1 p.2)) (iM o)) os
def asr (P:Program) (cfg:ga) (o:Oper):Bool:=
 match cf P cfg o.op with
 | .call _ _=>true
 | _=>false
def aj1 (P:Program) (cfg:ga):List Oper->Nat->Option Nat
 | [],_=>none
 | o::os,i=>cond (asr P cfg o) (some i) (aj1 P cfg os (Nat.succ i))
def Pr (P:Program) (cfg:ga) (b:List Nat) (i:Nat):List Oper->Nat->Bool
 | [],_=>true
 | q::os,j=>cond (Nat.beq j i) true (cond (Nat.blt j i) (cond (Nat.beq (ej (cf P cfg q.op)) 0) true (tF b i j)) (tF b j i))&&Pr P cfg b i os (Nat.succ j)
def Ps (P:Program) (cfg:ga) (b:List Nat) (all:List Oper):List Oper->Nat->Bool
 | [],_=>true
 | o::os,i=>cond (Nat.ble (ej (cf P cfg o.op)) 1) true (Pr P cfg b i all 0)&&Ps P cfg b all os (Nat.succ i)
def Rm (P:Program) (cfg:ga) (all:List Oper):Bool:=
 match aj1 P cfg all 0 with
 | some _=>O9 P all&&Ee P cfg all (gb [] all) all 0&&Ps P cfg (gb [] all) all all 0
 | none=>false
def agO (P:Program) (cfg:ga) (bJ:qI R) (ops:List Oper) (draw:Bool) (k:bL->aB->Option R):bL->aB->Option R:=
 Bool.rec (motive:=fun _=>bL->aB->Option R) (xA P cfg bJ ops k ops) (Bool.rec (motive:=fun _=>bL->aB->Option R)
  (Bool.rec (motive:=fun _=>bL->aB->Option R)
   (Bool.rec (motive:=fun _=>bL->aB->Option R) (fun _ _=>none) (agN P cfg bJ ops (fun t A=>ad1 P ops t k ops t A) ops) (Z8 P cfg ops))
   (xA P cfg bJ ops k ops) (Rm P cfg ops))
  (fun t A=>xA P cfg bJ ops (fun t' A'=>Bool.rec (motive:=fun _=>Option R) none (k t' A') (YI t' A.next (Od P cfg ops))) ops t A) (amC P cfg ops)) draw
def ak7 (k:KE R) (f:bL->aB->Option R):KE R:=fun e t A=>aq.rec (motive:=fun _=>Option R) (f t A) (fun i=>k (.exit i) t A) (fun l=>k (.goto l) t A) (k .ret t A) e
def ap0 (id:Nat) (k:KE R):KE R:=fun e t A=>aq.rec (motive:=fun _=>Option R) (k .normal t A) (fun i=>Bool.rec (motive:=fun _=>Option R) (k (.exit i) t A) (k .normal t A) (Nat.beq i id)) (fun l=>k (.goto l) t A) (k .ret t A) e
def agP (k:KE R):KE R:=fun e t A=>aq.rec (motive:=fun _=>Option R) (k .normal t A) (fun i=>k (.exit i) t A) (fun _=>none) (k .ret t A) e
def ack (g:KE R->bL->aB->Option R) (k:KE R) (L:Nat):bL->aB->Option R:=
 Nat.rec (motive:=fun _=>bL->aB->Option R) (fun _ _=>none) (fun _ ih=>g (ak7 k ih)) L
def yY.run (k:KV->aB->Option R) (x:yY):Option R:=yY.rec (motive:=fun _=>Option R) none (fun v A=>k v A) (fun c _ _ rx ry=>Bool.rec (motive:=fun _=>Option R) ry rx c) x
def M7.run (k:KE R) (x:M7):Option R:=M7.rec (motive:=fun _=>Option R) none (fun e t A=>k e t A) (fun c _ _ rx ry=>Bool.rec (motive:=fun _=>Option R) ry rx c) x
def aoH (F:bL->aB->M7) (k:KE R) (t:bL) (A:aB):Option R:=(F t A).run k
def uy (P:Program) (cfg:ga) (bJ:qI R) (L:Nat) (f:FuncId) (c:Code):Nat->KE R->bL->aB->Option R:=
 Code.rec (motive:=fun _=>Nat->KE R->bL->aB->Option R) (fun _ k t A=>k .normal t A)
  (fun _ ops d _ k=>agO P cfg bJ ops.toList d (fun t A=>k .normal t A))
  (fun _ _ a b p k=>a (2 * p) (ak7 k fun t A=>b (2 * p+1) k t A))
  (fun c _ _ a b p k t A=>ak6 t c (fun t=>a (2 * p) k t A) (fun t=>b (2 * p+1) k t A))
  (fun id _ g p k=>g (2 * p) (ap0 id k))
  (fun _ g p k=>Option.rec (motive:=fun _=>bL->aB->Option R) (ack (g (2 * p)) k L) (fun F=>aoH F k) (cfg.lp f p))
  (fun _ _ _ _ _ _ _ _ _ _=>none) (fun id _ k t A=>k (.exit id) t A) (fun _ g p k=>g (2 * p) (agP k)) (fun _ _ k t A=>k .normal t A) (fun l _ k t A=>k (.goto l) t A) (fun _ k t A=>k .ret t A) (fun _ _ _ _ _=>none) c
def rB:List KV->Nat->bL->bL
 | [],_,t=>t
 | v::vs,i,t=>rB vs (Nat.succ i) (t.set v i)
def Pt (P:Program) (A:aB) (t:bL):List ResultVar->Option (List KV)
 | []=>some []
 | .tmp x::rs=>(Pt P A t rs).map (nJ t (.tmp x)::·)
 | .cell a ty::rs=>match ace P ty A [nJ t (.tmp a)] with
  | .ok v=>(Pt P A t rs).map (v::·)
  | _=>none
def Ll:List KV->KV
 | [v]=>v
 | vs=>.lP vs
def amD (P:Program) (fn:Func) (k:List KV->aB->Option R):KE R:=fun e t A=>
 aq.rec (motive:=fun _=>Option R) (Option.rec (motive:=fun _=>Option R) none (fun vs=>k vs A) (Pt P A t fn.results.toList)) (fun _=>none) (fun _=>none) (Option.rec (motive:=fun _=>Option R) none (fun vs=>k vs A) (Pt P A t fn.results.toList)) e
def acm (P:Program) (cfg:ga) (bJ:qI R) (L:Nat) (f:FuncId) (args:List KV) (A:aB) (k:List KV->aB->Option R):Option R:=
 match P.funcs.toList[f]? with
 | some fn=>match fn.body with
  | some c=>uy P cfg bJ L f c 1 (amD P fn k) (rB args 0 .leaf) A
  | none=>none
 | none=>none
def M8 (P:Program) (cfg:ga) (L:Nat) (n:Nat):qI R:=
 Nat.rec (motive:=fun _=>qI R) (fun _ _ _ _=>none) (fun _ ih f args A k=>
  Bool.rec (motive:=fun _=>Option R) none (Option.rec (motive:=fun _=>Option R) (acm P cfg ih L f args A fun vs B=>k (Ll vs) B) (fun F=>yY.run k (F args A)) (cfg.x.ac f)) (Nat.blt f yB)) n
end
def Bg (P:Program):List TypeId->List KV->List KV
 | t::ts,v::vs=>Z6 P t v::Bg P ts vs
 | _,_=>[]
def wB (P:Program) (g:FuncId):List TypeId:=match P.funcs.toList[g]? with
 | some fn=>fn.resultTypes.toList
 | none=>[]
def zW (P:Program) (cfg:ga) (L n:Nat) (f:FuncId) (args:List KV):Option KV:=
 acm P cfg (M8 P cfg L n) L f args .empty fun vs A=>Bool.rec (motive:=fun _=>Option KV) none (some (Ll (Bg P (wB P f) (B5 A vs).1))) (Nat.beq vs.length (wB P f).length)
end
end Go.K
end
