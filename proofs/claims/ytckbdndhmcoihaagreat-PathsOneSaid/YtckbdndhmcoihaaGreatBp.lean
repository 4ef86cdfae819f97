/- Part of the proof of PathsOne: the machine, shown to be the model's, and plain models. No conditions. -/
import Derived.Test.YtckbdndhmcoihaaGreatAp
import Derived.Laws.Slices
import Derived.Laws.MakeOwn
import Derived.Laws.AppendOwn
import Derived.MapKept
import Derived.Laws.IdiomStrings
import Derived.OrdersIn
import Derived.LoopNIn
import Derived.RangeFuncRecord
import Derived.Scope
set_option linter.unusedSimpArgs false
set_option linter.unusedVariables false
section
namespace Go.aq
open Go
section
variable {P:Program} {o:Oper}
theorem iw {ρ:Ren} {y y' : Nat} {v v' : Value} {r:Nat} (hv:VR ρ v v') (h:bnd y v=some r) (hy:y<=y') :
  r<=y/\∀ code w,(Instr.sliceBound v' y' code).run P w = .ok r w:=by
 unfold bnd at h;split at h
 ·rename_i k i
  obtain ⟨rfl,bh⟩:=yT h;have:=hv.cD;subst this;have hle:r<=y:=by omega
  refine ⟨hle,fun code w=>?_⟩;have:=run_sliceBound (P:=P) w k (r:Int) y' code (by omega) (by omega);simpa using this
 ·simp at h
theorem H9 {ρ:Ren} {ev cG:Operand->Value} {lo hi mx:Option Operand} {len cap abB l h m:Nat} (he:vv ρ ev cG (eL lo++eL hi++eL mx))
  (hb:rl len cap lo.isSome hi.isSome mx.isSome ((eL lo++eL hi++eL mx).map ev)=some (l,h,m)) (hc:cap<=abB) (Fs:len<=cap) :
  l<=h/\h<=m/\m<=cap/\m<=(cond mx.isSome m abB)/\(cond mx.isSome m abB)<=abB/\(mx.isSome=false->m=cap)/\∀ b w,(Instr.sliceBounds b len abB (lo.map cG) (hi.map cG) (mx.map cG)).run P w = .ok (l,h,cond mx.isSome m abB) w:=by
 cases lo with
 | none=>
  cases hi with
  | none=>
   cases mx with
   | none=>
    simp [eL,rl] at hb;obtain ⟨rfl,rfl,rfl⟩:=hb;exact ⟨by omega,Fs,aH _,hc,aH _,fun _=>rfl,fun b w=>by simp [Instr.sliceBounds]⟩
   | some x=>simp [eL,rl] at hb
  | some y=>
   cases mx with
   | none=>
    simp only [eL,Option.isSome,List.nil_append,uE,List.map,rl,cC] at hb;obtain ⟨r,hr,hb⟩:=hb;simp at hb;obtain ⟨rfl,rfl,rfl⟩:=hb;obtain ⟨h1,h2⟩:=iw (P:=P) (he y (by simp [eL])) hr hc;exact ⟨by omega,h1,aH _,hc,aH _,fun _=>rfl,fun b w=>by simp [Instr.sliceBounds,h2]⟩
   | some z=>
    simp only [eL,Option.isSome,List.nil_append,List.map,List.cons_append,rl,cI,cC] at hb;obtain ⟨r,hr,q,hq,hb⟩:=hb;simp at hb;obtain ⟨rfl,rfl,rfl⟩:=hb;obtain ⟨h1,h2⟩:=iw (P:=P) (he z (by simp [eL])) hr hc;obtain ⟨h3,h4⟩:=iw (P:=P) (he y (by simp [eL])) hq (aH _);exact ⟨by omega,h3,h1,aH _,by simp; omega,fun h=>by simp at h,fun b w=>by simp [Instr.sliceBounds,h2,h4]⟩
 | some x=>
  cases hi with
  | none=>
   cases mx with
   | none=>
    simp only [eL,Option.isSome,uE,List.map,rl,cC] at hb;obtain ⟨r,hr,hb⟩:=hb;simp at hb;obtain ⟨rfl,rfl,rfl⟩:=hb;obtain ⟨h1,h2⟩:=iw (P:=P) (he x (by simp [eL])) hr (aH _);exact ⟨h1,Fs,aH _,hc,aH _,fun _=>rfl,fun b w=>by simp [Instr.sliceBounds,h2]⟩
   | some x=>simp [eL,rl] at hb
  | some y=>
   cases mx with
   | none=>
    simp only [eL,Option.isSome,uE,List.map,List.cons_append,List.nil_append,rl,cI,cC] at hb;obtain ⟨r,hr,q,hq,hb⟩:=hb;simp at hb;obtain ⟨rfl,rfl,rfl⟩:=hb;obtain ⟨h1,h2⟩:=iw (P:=P) (he y (by simp [eL])) hr hc;obtain ⟨h3,h4⟩:=iw (P:=P) (he x (by simp [eL])) hq (aH _);exact ⟨h3,h1,aH _,hc,aH _,fun _=>rfl,fun b w=>by simp [Instr.sliceBounds,h2,h4]⟩
   | some z=>
    simp only [eL,Option.isSome,List.map,List.cons_append,List.nil_append,rl,cI,cC] at hb;obtain ⟨r,hr,q,hq,s,hs,hb⟩:=hb;simp at hb;obtain ⟨rfl,rfl,rfl⟩:=hb;obtain ⟨h1,h2⟩:=iw (P:=P) (he z (by simp [eL])) hr hc;obtain ⟨h3,h4⟩:=iw (P:=P) (he y (by simp [eL])) hq (aH _);obtain ⟨h5,h6⟩:=iw (P:=P) (he x (by simp [eL])) hs (aH _);exact ⟨h5,h3,h1,aH _,by simp; omega,fun h=>by simp at h,fun b w=>by simp [Instr.sliceBounds,h2,h4,h6]⟩
theorem abC {A:St} {b n:Nat} (h:Cr A b n=true):∃ cs own bQ,A.get b=some (.row cs n own bQ):=by
 unfold Cr at h;split at h
 ·rename_i cs bH own bQ hg
  have:=aW h;subst this;exact ⟨cs,own,bQ,hg⟩
 ·simp at h
theorem ok_slice {t:TypeId} {x:Operand} {lo hi mx:Option Operand} (ho:o.op = .slice t x lo hi mx):fS P o (Kk P t x lo hi mx):=by
 unfold Kk;split
 ·rename_i e hu
  split
  ·rename_i n hn
   cases AL:Nat.ble 1 n with
   | false=>exact True.intro
   | true=>
    rw [aj];have AL:1<=n:=dI AL;intro ρ A base w ev cG v hs he hf;have hx:=he x (by simp);have hsl:P.underlying t=some (.slice (P.elem t))->True:=fun _=>trivial;simp only [List.map,x9] at hf;split at hf
    ·rename_i len cap vs e1
     simp only [List.cons.injEq] at e1;obtain ⟨e1,e2⟩:=e1;rw [e1] at hx;have hx:=hx.fB;subst e2;obtain ⟨⟨l,h,m⟩,hb,rfl⟩:=cC.1 hf;by_cases Fs:len<=cap
     ·obtain ⟨h1,h2,h3,h4,h5,h6,h7⟩:=H9 (P:=P) he.tail hb (aH _) Fs
      have hm:cond mx.isSome m cap=m:=by cases hmx:mx.isSome <;> simp; exact (h6 hmx).symm
      refine ⟨.slice none (h - l) (m - l),by simp [VR],?_⟩;simp [execOp,ho,Instr.sliceAt,Instr.slice,bw hu,hx,h7,hm,mZ hn]
     ·
      have key:∀ b w,(Instr.sliceBounds b len cap (lo.map cG) (hi.map cG) (mx.map cG)).run P w = .ok (l,h,m) w:=by
       intro b w;have alq:cap<=len:=by omega
       cases lo with
       | none=>
        cases hi with
        | none=>
         cases mx with
         | none=>simp [eL,rl] at hb; obtain ⟨rfl,rfl,rfl⟩:=hb; simp [Instr.sliceBounds]
         | some x=>simp [eL,rl] at hb
        | some y=>
         cases mx with
         | none=>
          simp only [eL,Option.isSome,List.nil_append,uE,List.map,rl,cC] at hb;obtain ⟨r,hr,hb⟩:=hb;simp at hb;obtain ⟨rfl,rfl,rfl⟩:=hb;have:=(iw (P:=P) (he y (by simp [eL])) hr (aH _)).2;simp [Instr.sliceBounds,this]
         | some z=>
          simp only [eL,Option.isSome,List.nil_append,List.map,List.cons_append,rl,cI,cC] at hb;obtain ⟨r,hr,q,hq,hb⟩:=hb;simp at hb;obtain ⟨rfl,rfl,rfl⟩:=hb;have h2:=(iw (P:=P) (he z (by simp [eL])) hr (aH _)).2;have h4:=(iw (P:=P) (he y (by simp [eL])) hq (aH _)).2;simp [Instr.sliceBounds,h2,h4]
       | some x'=>
        cases hi with
        | none=>
         cases mx with
         | none=>
          simp only [eL,Option.isSome,uE,List.map,rl,cC] at hb;obtain ⟨r,hr,hb⟩:=hb;simp at hb;obtain ⟨rfl,rfl,rfl⟩:=hb;have:=(iw (P:=P) (he x' (by simp [eL])) hr (aH _)).2;simp [Instr.sliceBounds,this]
         | some x=>simp [eL,rl] at hb
        | some y=>
         cases mx with
         | none=>
          simp only [eL,Option.isSome,uE,List.map,List.cons_append,List.nil_append,rl,cI,cC] at hb;obtain ⟨r,hr,q,hq,hb⟩:=hb;simp at hb;obtain ⟨rfl,rfl,rfl⟩:=hb;have h2:=(iw (P:=P) (he y (by simp [eL])) hr (aH _)).2;have h4:=(iw (P:=P) (he x' (by simp [eL])) hq (aH _)).2;simp [Instr.sliceBounds,h2,h4]
         | some z=>
          simp only [eL,Option.isSome,List.map,List.cons_append,List.nil_append,rl,cI,cC] at hb;obtain ⟨r,hr,q,hq,s,hs',hb⟩:=hb;simp at hb;obtain ⟨rfl,rfl,rfl⟩:=hb;have h2:=(iw (P:=P) (he z (by simp [eL])) hr (aH _)).2;have h4:=(iw (P:=P) (he y (by simp [eL])) hq (aH _)).2;have h6:=(iw (P:=P) (he x' (by simp [eL])) hs' (aH _)).2;simp [Instr.sliceBounds,h2,h4,h6]
      refine ⟨.slice none (h - l) (m - l),by simp [VR],?_⟩;simp [execOp,ho,Instr.sliceAt,Instr.slice,bw hu,hx,key,mZ hn]
    ·rename_i a len cap vs e1
     simp only [List.cons.injEq] at e1;obtain ⟨e1,e2⟩:=e1;rw [e1] at hx;subst e2;obtain ⟨DG,Fs,lc,a',c',hl,qw,Jq,mK,h'⟩:=hx.j7;cases hg:(cO a&&Cr A a.block n) with
     | false=>rw [hg] at hf; simp at hf
     | true=>
      rw [hg,aj] at hf;obtain ⟨_,U5⟩:=Bool.and_eq_true_iff.1 hg;obtain ⟨cs,own,bQ,eS⟩:=abC U5;obtain ⟨l2,kf,ok⟩:=hs.row _ _ _ _ _ eS;rw [hl] at kf; simp at kf; subst kf;have hez:lc.bH=n:=ok.bH;obtain ⟨⟨l,h,m⟩,hb,rfl⟩:=cC.1 hf;obtain ⟨h1,h2,h3,h4,h5,h6,h7⟩:=H9 (P:=P) he.tail hb qw Fs;generalize hm' : cond mx.isSome m c' = m' at h4 h5 h7;refine ⟨.slice (some (if m' = l then a' else a'.add (l * n))) (h - l) (m' - l),?_,?_⟩
      ·simp only [VR]
       refine ⟨trivial,by omega,lc,_,m' - l,hl,by omega,fun cH=>?_,?_,rfl⟩
       ·rw [ak (by omega),Jq (by omega),jO]
        simp only [Fo]
       ·rw [hez]
        rw [hez] at mK;have e5:l * n+(m' - l) * n=m' * n:=by rw [<- Nat.add_mul]; congr 1; omega
        have e6:m' * n<=c' * n:=Nat.mul_le_mul_right _ h5;omega
      ·simp only [execOp,ho,Instr.sliceAt,Instr.slice,Sem.run_bind,bw hu,gJ,h',h7,mZ hn]
       by_cases Xs:m' = l <;> simp [Xs]
    ·simp at hf
  ·trivial
 ·rename_i len e hu
  split
  ·rename_i n hn
   cases AL:Nat.ble 1 n with
   | false=>exact True.intro
   | true=>
    rw [aj];intro ρ A base w ev cG v hs he hf;have hx:=he x (by simp);simp only [List.map,Md] at hf;split at hf
    ·rename_i a vs e1
     simp only [List.cons.injEq] at e1;obtain ⟨e1,e2⟩:=e1;rw [e1] at hx;subst e2;obtain ⟨DG,lc,hl,h'⟩:=hx.gG;cases hg:(cO a&&Cr A a.block n&&Nat.ble (a.off+len * n) (UU A a.block)) with
     | false=>rw [hg] at hf; simp at hf
     | true=>
      rw [hg,aj] at hf;simp only [au] at hg;obtain ⟨⟨_,U5⟩,hlen⟩:=hg;obtain ⟨cs,own,bQ,eS⟩:=abC U5;obtain ⟨l2,kf,ok⟩:=hs.row _ _ _ _ _ eS;rw [hl] at kf; simp at kf; subst kf;have hez:lc.bH=n:=ok.bH;have hlen:=dI hlen;have Rz:UU A a.block=cs.length:=by unfold UU; rw [eS]
      rw [Rz] at hlen;have hft:=ok.fits;obtain ⟨⟨l,h,m⟩,hb,rfl⟩:=cC.1 hf;obtain ⟨h1,h2,h3,h4,h5,h6,h7⟩:=H9 (P:=P) he.tail hb (aH _) (aH _);have hm:cond mx.isSome m len=m:=by cases hmx:mx.isSome <;> simp; exact (h6 hmx).symm
      rw [hm] at h7;refine ⟨.slice (some (if m=l then ⟨lc.cb,lc.dn+a.off,none⟩ else (⟨lc.cb,lc.dn+a.off,none⟩:Addr).add (l * n))) (h - l) (m - l),?_,?_⟩
      ·simp only [VR]
       refine ⟨trivial,by omega,lc,_,m - l,hl,aH _,fun cH=>?_,?_,rfl⟩
       ·rw [ak (by omega),jO]
        simp only [Fo]
       ·rw [hez]
        have e5:l * n+(m - l) * n=m * n:=by rw [<- Nat.add_mul]; congr 1; omega
        have e6:m * n<=len * n:=Nat.mul_le_mul_right _ h3;omega
      ·simp only [execOp,ho,Instr.sliceAt,Sem.run_bind,bw hu,gJ,h',Instr.sureAddr,Sem.run_pure,h7,mZ hn]
    ·simp at hf
  ·trivial
 ·rename_i hu
  cases hmx:mx with
  | some z=>exact True.intro
  | none=>
   show fS P o (.pure (Gj lo.isSome hi.isSome) (x::(eL lo++eL hi)));intro ρ ev cG v he hf;have hx:=he x (by simp);simp only [List.map,Gj] at hf;split at hf
   ·rename_i s vs e1
    simp only [List.cons.injEq] at e1;obtain ⟨e1,e2⟩:=e1;rw [e1] at hx;have hx:=hx.ob;subst e2;obtain ⟨⟨l,h,m⟩,hb,rfl⟩:=cC.1 hf;have Js:vv ρ ev cG (eL lo++eL hi++eL (none:Option Operand)):=by simpa [eL] using he.tail
    obtain ⟨h1,h2,h3,h4,h5,h6,h7⟩:=H9 (P:=P) (mx:=none) Js (by simpa [eL] using hb) (aH _) (aH _);simp only [Option.isSome_none,aF,Option.map_none] at h7;refine ⟨.string (s.extract l h),?_,fun w=>?_⟩
    ·have e:(⟨⟨(s.data.toList.drop l).take (h - l)⟩⟩:ByteArray)=s.extract l h:=by
      apply ByteArray.ext;apply Array.ext';simp [ByteArray.data_extract,List.extract_eq_take_drop]
     rw [e];simp [VR]
    ·simp [execOp,ho,Instr.sliceAt,Instr.slice,bw hu,hx,hmx,h7]
   ·simp at hf
 ·trivial
theorem ad2 {t:TypeId} {l c:Operand} (ho:o.op = .makeSlice t l c):fS P o (vP P t l c):=by
 unfold vP;split
 ·rename_i e hu
  split
  ·rename_i i hi
   split
   ·rename_i z hz
    cases hc:(Nat.ble 1 i.size&&Nat.ble 1 i.bytes&&Nat.beq z.cells.size i.size&&flat z&&z.cells.toList.all scalar) with
    | false=>exact True.intro
    | true=>
     rw [aj];simp only [au] at hc;obtain ⟨⟨⟨⟨h1,h2⟩,h3⟩,h4⟩,h5⟩:=hc;have hn:1<=i.size:=dI h1;have hb:1<=i.bytes:=dI h2;have hzs:z.cells.size=i.size:=aW h3;rw [eM] at h5;intro ρ ev cG obj mk he hf;simp only [List.map,C0] at hf;split at hf
     ·rename_i k1 l0 k2 c0 e1
      simp only [List.cons.injEq,and_true] at e1;cases hk:(Nat.ble l0 c0&&Nat.ble (i.bytes * c0) 281474976710656) with
      | false=>rw [hk] at hf; simp at hf
      | true=>
       rw [hk,aj] at hf;obtain ⟨yJ,hk2⟩:=Bool.and_eq_true_iff.1 hk;have hle:l0<=c0:=dI yJ;have hbc:i.bytes * c0<=281474976710656:=dI hk2;simp only [cJ,dJ] at hf;obtain ⟨rfl,rfl⟩:=hf;have hl:=he l (by simp);have qw:=he c (by simp);rw [e1.1] at hl;rw [e1.2] at qw;have hl:=hl.cD;have qw:=qw.cD;have e2:madeCells z.cells (c0 * i.size)=⟨fe z.cells.toList c0⟩:=by
        unfold madeCells;rw [<- hzs];exact Th z.cells c0 (by omega)
       have hc0:c0<=i.bytes * c0:=Nat.le_mul_of_pos_left _ hb;have aq5:∀ (z:List Value) (k:Nat),(fe z k).length=k * z.length:=by
        intro z k
        induction k with
        | zero=>simp [fe]
        | succ k ih=>simp [fe,ih,Nat.succ_mul,Nat.add_comm]
       have aq6:∀ (z:List Value) (k:Nat) (v:Value),v∈fe z k->v∈z:=by
        intro z k v
        induction k with
        | zero=>simp [fe]
        | succ k ih=>simp only [fe,iW]; exact fun h=>h.elim id ih
       refine ⟨.cells ⟨fe z.cells.toList c0⟩ e,fun b=>.slice (some ⟨b,0,none⟩) l0 c0,⟨_,e,rfl,dk.repeat (H8 h4) c0,fun v hv=>h5 v (aq6 _ _ _ hv)⟩,fun w=>?_,fun aJ n cb jU=>?_⟩
       ·have hr:=run_make (P:=P) w t e i z hu hi hz k1 k2 (l0:Int) (c0:Int) (by omega) (by omega) (by rw [<- Int.natCast_mul]; exact Int.ofNat_le.2 hbc) (by omega)
        have qb:cG l = .int k1 (l0:Int):=hl;have hc' : cG c = .int k2 (c0:Int):=qw;simp only [Int.toNat_natCast,e2] at hr;simp [execOp,ho,qb,hc',hr]
       ·simp only [VR]
        refine ⟨trivial,hle,_,⟨cb,0,none⟩,c0,jU,aH _,fun _=>rfl,?_,rfl⟩;show 0+0+c0 * i.size<=(fe z.cells.toList c0).length;rw [aq5];simp [hzs]
     ·simp at hf
   ·trivial
  ·trivial
 ·trivial
theorem amw {t:TypeId} {x:Operand} (ho:o.op = .makeInterface t x):fS P o (Xl P t x):=by
 unfold Xl;split
 ·trivial
 ·rename_i d hu hd
  intro ρ ev cG v he hf;simp [alo] at hf;subst hf;refine ⟨.iface t (cG x),by simp only [VR]; exact ⟨_,he x (by simp),rfl⟩,fun w=>?_⟩;simp only [execOp,ho,Instr.makeInterface,Sem.run_bind,bw hd,gJ];cases d <;> first | rfl | exact absurd rfl (hu _)
 ·trivial
theorem U6 {ρ:Ren} {s:List Value->Sem Value} {vs cE:List Value} {v:Value} (hv:dk ρ vs cE) (h:Mc P s vs=some v):VR ρ v v/\∀ w,(s cE).run P w = .ok v w:=by
 unfold Mc at h;cases hf:tM vs with
 | false=>rw [hf] at h; simp at h
 | true=>
  rw [hf,aj] at h;obtain ⟨u,hu,h⟩:=cI.1 h;cases hfu:flat u with
  | false=>rw [hfu] at h; simp at h
  | true=>
   rw [hfu] at h;simp at h;subst h;rw [dk.nF hf hv];exact ⟨VR.of_flat hfu,fun w=>fg hu w⟩
theorem ao7 {argTypes:Array TypeId} {args:Array Operand} (ho:o.op = .call ⟨.builtin .min,args,argTypes⟩):fS P o (.pure (Mc P fun vs=>Builtin.min_ #[] 0 ⟨vs⟩) args.toList):=by
 intro ρ ev cG v he hf;obtain ⟨h1,h2⟩:=U6 he.map hf;refine ⟨v,h1,fun w=>?_⟩;have h3:=h2 w;simp only [Builtin.min_] at h3;simp only [execOp,ho,resolve,Sem.run_bind,Sem.run_pure,gJ,invoke,builtin,Builtin.min_,mL];simp only [h3,gJ]
theorem ao8 {argTypes:Array TypeId} {args:Array Operand} (ho:o.op = .call ⟨.builtin .max,args,argTypes⟩):fS P o (.pure (Mc P fun vs=>Builtin.max_ #[] 0 ⟨vs⟩) args.toList):=by
 intro ρ ev cG v he hf;obtain ⟨h1,h2⟩:=U6 he.map hf;refine ⟨v,h1,fun w=>?_⟩;have h3:=h2 w;simp only [Builtin.max_] at h3;simp only [execOp,ho,resolve,Sem.run_bind,Sem.run_pure,gJ,invoke,builtin,Builtin.max_,mL];simp only [h3,gJ]
theorem Zc {ρ:Ren} {x x' : Value} {k:Nat} (hx:VR ρ x x') (h:Y9 x=some k):Builtin.lenOf x' = Sem.pure k:=by
 unfold Y9 at h;split at h
 ·obtain ⟨a',c',rfl⟩:=abA hx
  simp at h; subst h; rfl
 ·have:=hx.ob
  subst this;simp at h; subst h; rfl
 ·simp at h
theorem Cw {ρ:Ren} {A:St} {base:Nat} {w:World} {n k:Nat} {x x' : Value} {new:List Value} (hs:Rel ρ A.get A.members base w) (hx:VR ρ x x') (h:uH A n k x=some new)
  (hk:∀ m,Y9 x=some m->k<=m) (hn:1<=n):∃ cB,dk ρ new cB/\(∀ v∈new,scalar v=true)/\new.length=k * n/\(Builtin.firstCells n k x').run P w = .ok cB.toArray w:=by
 unfold uH at h;split at h
 ·rename_i a len cap
  obtain ⟨DG,Fs,lc,a',c',hl,qw,Jq,mK,rfl⟩:=hx.j7;have hkl:=hk len rfl;obtain ⟨bV,h1,h2,h3,h4⟩:=uJ (P:=P) hs h hl;refine ⟨bV,h1,h3,h2,?_⟩;simp only [Builtin.firstCells];by_cases hc:c' = 0
  ·have tI:k=0:=by omega
   subst tI;have th:new = []:=by rw [Nat.zero_mul] at h2; exact List.eq_nil_of_length_eq_zero h2
   subst th;rw [h1.bZ,Nat.zero_mul];exact run_loadCells_list w a' [] (by simp)
  ·rw [Jq hc]; exact h4
 ·rename_i len cap
  have:=hx.fB;subst this;cases hb:Nat.beq k 0 with
  | false=>rw [hb] at h; simp at h
  | true=>
   rw [hb] at h;simp at h;subst h;have tI:=aW hb;subst tI;exact ⟨[],.nil,by simp,by simp,run_firstCells_none w n 0 len cap⟩
 ·rename_i s
  have:=hx.ob;subst this;cases hb:Nat.beq n 1 with
  | false=>rw [hb] at h; simp at h
  | true=>
   rw [hb] at h;simp at h;have Xt:=aW hb;subst Xt;have pT:=hk s.size rfl;have dK:s.data.size=s.size:=rfl;have fl:∀ l:List UInt8,dk ρ (l.map fun b=>Value.int .u8 b.toNat) (l.map fun b=>Value.int .u8 b.toNat):=by
    intro l
    induction l with
    | nil=>exact .nil
    | cons x l ih=>exact .cons (by simp [VR]) ih
   subst h;refine ⟨((s.data.toList.take k).map fun b=>.int .u8 b.toNat),by simpa using fl (s.data.toList.take k),?_,?_,?_⟩
   ·intro v hv
    obtain ⟨b,_,rfl⟩:=List.mem_map.1 (by first | exact hv | exact List.mem_of_mem_take hv);rfl
   ·simp; omega
   ·simp only [Builtin.firstCells]
    rw [Sem.run_pure];congr 1;apply Array.ext';simp [ByteArray.data_extract,List.extract_eq_take_drop]
 ·simp at h
theorem uK (t u ty e:TypeId) (i:TypeInfo) (ht:P.underlying t=some (.slice e)) (hi:P.info? e=some i) (hu:Mf P u=true) (base:Option Addr) (dp oa:Nat) (x:Value) (n:Nat) (news:List Value)
  (hlen:Builtin.lenOf x=Sem.pure n) (w:World) (rE:(Builtin.firstCells i.size n x).run P w = .ok news.toArray w) (DI:dp+n<=oa) :
  (Builtin.append_ #[t,u] ty #[.slice base dp oa,x]).run P w=(((match base with | some a=>storeCells (a.add (dp * i.size)) news | none=>pure ():Sem Unit).run P w).andThen fun _ w=>.ok (.slice base (dp+n) oa) w):=by
 have hk:(∃ e',P.underlying u=some (.slice e'))\/P.underlying u=some .string:=by
  unfold Mf at hu;split at hu
  ·rename_i e' h; exact .inl ⟨_,h⟩
  ·rename_i h; exact .inr h
  ·simp at hu
 rcases hk with ⟨e',hk⟩ | hk <;> cases base <;> simp [Builtin.append_,bw ht,bw hk,sizeOf,typeInfo,hi,hlen,DI,rE]
theorem Xu (t u ty e:TypeId) (i:TypeInfo) (z:Value) (ht:P.underlying t=some (.slice e)) (hi:P.info? e=some i) (hz:i.zero=some z) (hu:Mf P u=true) (base:Option Addr) (dp oa:Nat)
  (x:Value) (n:Nat) (Zd news:List Value) (hlen:Builtin.lenOf x=Sem.pure n) (w:World) (hold:(Builtin.firstCells i.size dp (.slice base dp oa)).run P w.drew = .ok Zd.toArray w.drew)
  (rE:(Builtin.firstCells i.size n x).run P w.drew = .ok news.toArray w.drew) (hg:oa < dp+n) (h63:dp+n<=17592186044416) (mK:Builtin.nextslicecap (dp+n) oa * i.bytes<=281474976710656) :
  (Builtin.append_ #[t,u] ty #[.slice base dp oa,x]).run P w =
   .ok (.slice (some ⟨w.heap.size,0,none⟩) (dp+n) (grownCap w (dp+n) oa e))
    (w.drew.alloc (.cells ((Zd++news).toArray++Builtin.zeroCells z.cells (grownCap w (dp+n) oa e - (dp+n))) e)):=by
 have hk:(∃ e',P.underlying u=some (.slice e'))\/P.underlying u=some .string:=by
  unfold Mf at hu;split at hu
  ·rename_i e' h; exact .inl ⟨_,h⟩
  ·rename_i h; exact .inr h
  ·simp at hu
 have hn : ¬ (dp+n<=oa):=by omega
 have aq7 : ¬ (9223372036854775807 < ((dp:Int)+(n:Int))):=by omega
 have aq8 : ¬ (281474976710656 < Builtin.nextslicecap (dp+n) oa * i.bytes):=by omega
 rcases hk with ⟨e',hk⟩ | hk <;>
  (simp [Builtin.append_,bw ht,bw hk,sizeOf,typeInfo,zeroValue,hi,hz,hlen,hn,aq7,aq8,Question.forced,rE,hold,newRow,grownCap]
   congr 2;apply Array.ext';simp [List.append_assoc])
theorem abD {ρ:Ren} {A:St} {base:Nat} {w:World} (hs:ra ρ A base w) (b lo hi:Nat) (L:List Nat):jG base ρ A w ρ (A.kill b lo hi L) w:=by
 obtain ⟨hl1,kf⟩:=Kr b lo hi L A;have Oz:∀ x o,(A.kill b lo hi L).get x=some o->o≠.dead->A.get x=some o:=by
  intro x o hx hd;rw [A8] at hx;split at hx
  ·simp at hx; exact absurd hx.symm hd
  ·exact hx
 have hm:∀ o:cw,o.dX=true->o≠.dead:=by intro o h e; subst e; simp [cw.dX] at h
 refine ⟨⟨.Fq (fun x o hx hd=>hs.rel.obj (Oz x o hx hd) hd) (fun b1 b2 o1 o2 l1 l2 cH g1 g2 m1 m2=>hs.rel.apart b1 b2 o1 o2 l1 l2 cH (Oz _ _ g1 (hm _ m1)) (Oz _ _ g2 (hm _ m2)) m1 m2) (fun x o aQ f hx hk=>?_),fun x l h=>?_,hs.size,hs.H5⟩,
  fun _ _=>rfl,.refl _ _ _,by simp,hl1,fun x _ hx=>?_,fun k _ h=>?_⟩
 ·rw [Jm]; exact hs.rel.bC x o aQ f (Oz x o hx (by intro e; subst e; simp [cw.kC] at hk)) hk
 ·rw [Mj]; exact hs.jx x l h
 ·cases Classical.em ((A.kill b lo hi L).get x=A.get x) with
  | inl h=>exact h
  | inr h=>have:=kf x h; omega
 ·obtain ⟨x,o,l,hx,hm',hr,e⟩:=h
  exact ⟨x,o,l,Oz x o hx (hm _ hm'),hm',hr,e⟩
theorem Ku (A:St) (aQ f:Nat) (cs:List Value) (n x:Nat):(A.grow aQ f cs n).get x=if x=A.next then some (.row cs n true (some (aQ,f))) else A.get x:=by
 simp [St.grow]
theorem vV (A:St) (aQ f:Nat) (cs:List Value) (n g:Nat):(A.grow aQ f cs n).members g=if g=aQ then A.next::A.members aQ else A.members g:=by
 simp only [St.grow,St.Cu,St.iA]
theorem abE {ρ:Ren} {A:St} {base:Nat} {w:World} {cs bV:List Value} {c:Array Value} {n aQ f:Nat} (T:TypeId) (hs:ra ρ A base w) (hc:dk ρ cs bV) (h1:∀ v∈cs,scalar v=true)
  (anC:∀ (j:Nat) (v:Value),bV[j]? = some v->c[j]? = some v) (dK:cs.length<=c.size) :
  jG base ρ A w (ρ.set A.next ⟨w.heap.size,0,c.size,n⟩) (A.grow aQ f cs n) (w.alloc (.cells c T)):=by
 refine Gp (o:=.row cs n true (some (aQ,f))) hs (fun x=>Ku _ _ _ _ _ _) (fun g x h=>?_) (fun g f' h=>?_) (by simp [St.grow]) (by simp [St.grow]) (fun x hx _=>by rw [Ku,ak (by omega)]) rfl ?_
 ·rw [vV]; split
  ·rename_i e; subst e; simp [h]
  ·exact h
 ·simp [cw.kC] at h; rw [vV,h.1]; simp
 ·refine ⟨fun i v hi=>?_,fun h=>by simp at h,fun _=>hs.size,fun _ j hj=>?_,by simpa using dK,fun _ h=>by simp at h,rfl,by simp,fun _ _ j=>by simp only; rw [World.frozen?_alloc_new]⟩
  ·obtain ⟨v',h2,h3⟩:=hc.get hi
   refine ⟨v',?_,h3.mono (hs.Ml _),h1 v (fR hi)⟩;rw [bp,World.cell?_alloc_new];exact anC i v' h2
  ·simp only at hj ⊢
   rw [World.cell?_alloc_new,World.frozen?_alloc_new];refine ⟨?_,rfl⟩;rw [Array.getElem?_eq_getElem (by omega)];rfl
theorem afR {ρ:Ren} {A:St} {base:Nat} {w:World} {b gx s bH aQ f:Nat} {cs fk p9 new cB:List Value} {l:Loc}
  (hs:ra ρ A base w) (hg:A.get b=some (.row cs bH true (some (aQ,f)))) (jU:ρ b=some l)
  (hold:dk ρ fk p9) (U7:∀ v∈fk,scalar v=true) (hol:fk.length=s) (HR:∀ j v',p9[j]? = some v'->w.cell? ⟨l.cb,l.dn+gx+j,none⟩=some v')
  (th:dk ρ new cB) (Xt:∀ v∈new,scalar v=true) (mK:l.dn+gx+s+new.length<=l.yR) :
  jG base ρ A w (ρ.set A.next ⟨l.cb,l.dn+gx,l.yR,bH⟩) ((A.kill A.next (f+(gx+s)) (f+(gx+s)+new.length) (A.members aQ)).grow aQ (f+gx) (fk++new) bH) (w.setCells l.cb (l.dn+gx+s) cB):=by
 obtain ⟨l',qb,ok⟩:=hs.rel.row _ _ _ _ _ hg;rw [jU] at qb; simp at qb; subst qb;have Oy:cB.length=new.length:=th.length;have hovl:p9.length=s:=by rw [hold.length,hol]
 have U8:b < A.next:=hs.jx b l jU;have Q4:cw.dX (.row cs bH true (some (aQ,f)))=true:=rfl;have hB:∀ x,((A.kill A.next (f+(gx+s)) (f+(gx+s)+new.length) (A.members aQ)).grow aQ (f+gx) (fk++new) bH).get x =
   if x=A.next then some (.row (fk++new) bH true (some (aQ,f+gx))) else (A.kill A.next (f+(gx+s)) (f+(gx+s)+new.length) (A.members aQ)).get x:=by
  intro x; rw [Ku,Mj]
 have hBm:∀ g,((A.kill A.next (f+(gx+s)) (f+(gx+s)+new.length) (A.members aQ)).grow aQ (f+gx) (fk++new) bH).members g=if g=aQ then A.next::A.members aQ else A.members g:=by
  intro g; rw [vV,Mj,Jm]
 have hBn:((A.kill A.next (f+(gx+s)) (f+(gx+s)+new.length) (A.members aQ)).grow aQ (f+gx) (fk++new) bH).next=A.next+1:=by
  simp [St.grow]
 have hkl:=Kr A.next (f+(gx+s)) (f+(gx+s)+new.length) (A.members aQ) A;have hBl:((A.kill A.next (f+(gx+s)) (f+(gx+s)+new.length) (A.members aQ)).grow aQ (f+gx) (fk++new) bH).low=(A.kill A.next (f+(gx+s)) (f+(gx+s)+new.length) (A.members aQ)).low:=rfl;have hAK:∀ x,x≠A.next->(A.kill A.next (f+(gx+s)) (f+(gx+s)+new.length) (A.members aQ)).get x=if x∈A.members aQ/\ov (A.get x) (f+(gx+s)) (f+(gx+s)+new.length)=true then some .dead else A.get x:=by
  intro x hx; rw [A8]; simp [hx]
 generalize ((A.kill A.next (f+(gx+s)) (f+(gx+s)+new.length) (A.members aQ)).grow aQ (f+gx) (fk++new) bH)=B at hB hBm hBn hBl;generalize (A.kill A.next (f+(gx+s)) (f+(gx+s)+new.length) (A.members aQ))=K at hB hBl hkl hAK;have hle:=hs.Ml (⟨l.cb,l.dn+gx,l.yR,bH⟩:Loc);have oO:∀ x o,x≠A.next->B.get x=some o->o≠.dead->A.get x=some o/\(x∈A.members aQ->ov (some o) (f+(gx+s)) (f+(gx+s)+new.length)=false):=by
  intro x o hx ho hd;rw [hB,ak hx,hAK x hx] at ho;split at ho
  ·simp at ho; exact absurd ho.symm hd
  ·rename_i hc
   refine ⟨ho,fun hm=>?_⟩;rw [<- ho];cases eK:ov (A.get x) (f+(gx+s)) (f+(gx+s)+new.length) with
   | false=>rfl
   | true=>exact absurd ⟨hm,eK⟩ hc
 have nL:∀ x:Addr,(x.block=l.cb->x.spot=none->x.off < l.dn+gx+s\/l.dn+gx+s+cB.length<=x.off)->(w.setCells l.cb (l.dn+gx+s) cB).cell? x=w.cell? x:=
  fun x h=>World.cell?_setCells_out _ _ _ _ _ h
 have abt:∀ x,((w.setCells l.cb (l.dn+gx+s) cB).cell? x).isSome=(w.cell? x).isSome:=fun x=>A9 _ _ _ _ _;have hfr:∀ x,(w.setCells l.cb (l.dn+gx+s) cB).frozen? x=w.frozen? x:=fun x=>World.frozen?_setCells _ _ _ _ _;have dK:(w.setCells l.cb (l.dn+gx+s) cB).heap.size=w.heap.size:=Gm _ _ _ _;have hmd:∀ o:cw,o.dX=true->o≠.dead:=by intro o h e; subst e; simp [cw.dX] at h
 have yV:∀ x o l2,A.get x=some o->o.dX=true->ρ x=some l2->l2.cb=l.cb->∃ f2,o.kC=some (aQ,f2)/\l2.dn+f=l.dn+f2:=by
  intro x o l2 hx hm hr Tf;by_cases U4:x=b
  ·subst U4
   rw [hg] at hx; simp at hx; subst hx;rw [jU] at hr; simp at hr; subst hr;exact ⟨f,rfl,rfl⟩
  ·obtain ⟨g,f1,f2,e1,e2,e3⟩:=hs.rel.apart x b _ _ l2 l U4 hx hg hm Q4 hr jU Tf
   simp [cw.kC] at e2;obtain ⟨rfl,rfl⟩:=e2;exact ⟨f1,e1,e3⟩
 have Ks:∀ x kM e2 H6 p8 l2,x≠A.next->B.get x=some (.row kM e2 H6 p8)->ρ x=some l2->oV ρ base w l2 kM e2 H6 p8->∀ i,i < kM.length->
   (w.setCells l.cb (l.dn+gx+s) cB).cell? ⟨l2.cb,l2.dn+i,none⟩=w.cell? ⟨l2.cb,l2.dn+i,none⟩:=by
  intro x kM e2 H6 p8 l2 hx iQ anv iB i hi;refine nL _ (fun hbl _=>?_);simp only at hbl ⊢;obtain ⟨hA,eK⟩:=oO x _ hx iQ (by simp);cases H6 with
  | false=>have h3:=iB.se rfl; have h4:=ok.dX rfl; omega
  | true=>
   obtain ⟨f2,e1,e3⟩:=yV x _ l2 hA rfl anv hbl;simp only [cw.kC] at e1;subst e1;have hm:=hs.rel.bC x _ aQ f2 hA rfl;have:=U3 rfl (eK hm);rw [Oy];omega
 refine ⟨⟨.Fq ?_ ?_ ?_,?_,?_,hs.H5.mono (hs.Ml _)⟩,?_,⟨(rD _ _ _ _).1,(rD _ _ _ _).2.1,(rD _ _ _ _).2.2,Nat.le_of_eq dK.symm,?_⟩,?_,?_,?_,?_⟩
 ·intro x o iQ hd
  by_cases hx:x=A.next
  ·subst hx
   rw [hB,aI rfl] at iQ;simp at iQ;subst iQ;refine ⟨_,Ren.mi _ _ _,fun i v hi=>?_,fun h=>by simp at h,fun _=>ok.dX rfl,fun _ j hj=>?_,?_,fun _ h=>by simp at h,rfl,by rw [dK]; exact ok.mw,fun _ h2 j=>by rw [hfr]; exact ok.mark rfl (by rw [ok.bH]; exact h2) j⟩
   ·have kh:dk ρ (fk++new) (p9++cB):=hold.append th
    obtain ⟨v',h2,h3⟩:=kh.get hi;refine ⟨v',?_,h3.mono hle,?_⟩
    ·rw [List.getElem?_append] at h2
     split at h2
     ·rename_i bh
      rw [nL _ (fun _ _=>by simp only; omega)];exact HR i v' h2
     ·rename_i hge
      have bh:i - p9.length < cB.length:=(cP.1 h2).1;have:=World.cell?_setCells_in l.cb cB (l.dn+gx+s) w (fun j hj=>(ok.there rfl (l.dn+gx+s+j) (by rw [Oy] at hj; omega)).1) (i - p9.length) bh;have e:l.dn+gx+s+(i - p9.length)=l.dn+gx+i:=by omega
      rw [e] at this;rw [cM bh] at h2;exact this.trans h2
    ·rcases iW.1 (fR hi) with h | h
     ·exact U7 v h
     ·exact Xt v h
   ·rw [abt,hfr]; exact ok.there rfl j hj
   ·simp only [kF,hol]; omega
  ·obtain ⟨hA,eK⟩:=oO x o hx iQ hd
   obtain ⟨l2,tK,iB⟩:=hs.rel.obj hA hd;refine ⟨l2,hle _ _ tK,?_⟩;cases o with
   | row kM e2 H6 p8=>
    have iB:oV ρ base w l2 kM e2 H6 p8:=iB;refine ⟨fun i v hi=>?_,iB.se,iB.dX,fun h j hj=>?_,iB.fits,iB.ends,iB.bH,by rw [dK]; exact iB.mw,fun h1 h2 j=>by rw [hfr]; exact iB.mark h1 h2 j⟩
    ·obtain ⟨v',h3,h4,h5⟩:=iB.cells i v hi
     exact ⟨v',by rw [Ks x _ _ _ _ l2 hx iQ tK iB i (cP.1 hi).1]; exact h3,h4.mono hle,h5⟩
    ·rw [abt,hfr]; exact iB.there h j hj
   | map es=>
    have iB:abq ρ base w l2 es:=iB;obtain ⟨bo,clock,h3,h4⟩:=iB.mw;refine ⟨iB.dX,bo,clock,?_,h4.mono hle⟩;rw [kK]
    ·exact h3
    ·intro e
     obtain ⟨_,e1,_⟩:=yV x _ l2 hA rfl tK e;simp [cw.kC] at e1
   | iter st pos=>
    have iB:U0 base w l2 st pos:=iB;refine ⟨iB.dX,iB.mw.1,?_⟩;rw [kK]
    ·exact iB.mw.2
    ·intro e
     obtain ⟨_,e1,_⟩:=yV x _ l2 hA rfl tK e;simp [cw.kC] at e1
   | dead=>exact absurd rfl hd
   | loop st0 e0 t0 ps0 a0 c0=>
    have iB:U1 ρ base w l2 st0 e0 t0 ps0 a0 c0:=iB;obtain ⟨fn,tmps,D,N,h3,h4⟩:=iB.mw;refine ⟨iB.dX,fn,tmps,D,N,?_,h4.mono hle⟩;rw [kK]
    ·exact h3
    ·intro e
     obtain ⟨_,e1,_⟩:=yV x _ l2 hA rfl tK e;simp [cw.kC] at e1
 ·intro b1 b2 o1 o2 l1 l2 cH g1 g2 m1 m2 r1 r2 Tf
  by_cases e1:b1=A.next
  ·have e2:b2≠A.next:=fun e=>cH (e1.trans e.symm)
   subst e1;rw [hB,aI rfl] at g1;simp at g1; subst g1;rw [Ren.mi] at r1; simp at r1; subst r1;rw [Ren.jy _ _ e2] at r2;obtain ⟨hA,_⟩:=oO b2 o2 e2 g2 (hmd _ m2);obtain ⟨f2,k1,k2⟩:=yV b2 o2 l2 hA m2 r2 Tf.symm;exact ⟨aQ,f+gx,f2,rfl,k1,by simp only; omega⟩
  ·rw [Ren.jy _ _ e1] at r1
   obtain ⟨hA1,_⟩:=oO b1 o1 e1 g1 (hmd _ m1);by_cases e2:b2=A.next
   ·subst e2
    rw [hB,aI rfl] at g2;simp at g2; subst g2;rw [Ren.mi] at r2; simp at r2; subst r2;obtain ⟨f2,k1,k2⟩:=yV b1 o1 l1 hA1 m1 r1 Tf;exact ⟨aQ,f2,f+gx,k1,rfl,by simp only; omega⟩
   ·rw [Ren.jy _ _ e2] at r2
    obtain ⟨hA2,_⟩:=oO b2 o2 e2 g2 (hmd _ m2);exact hs.rel.apart b1 b2 o1 o2 l1 l2 cH hA1 hA2 m1 m2 r1 r2 Tf
 ·intro x o g fx hx hk
  rw [hBm];by_cases e:x=A.next
  ·subst e
   rw [hB,aI rfl] at hx;simp at hx; subst hx;simp [cw.kC] at hk;rw [aI hk.1.symm];simp
  ·have:=hs.rel.bC x o g fx (oO x o e hx (by intro e; subst e; simp [cw.kC] at hk)).1 hk
   split
   ·rename_i e2; subst e2; simp [this]
   ·exact this
 ·intro x l2 h
  rw [hBn];by_cases e:x=A.next
  ·omega
  ·rw [Ren.jy _ _ e] at h; have:=hs.jx x l2 h; omega
 ·rw [dK]; exact hs.size
 ·intro x hx; exact Ren.jy _ _ (by omega)
 ·intro k hk hn
  exact kK _ (fun e=>hn ⟨b,_,l,hg,rfl,jU,e.symm⟩) _ _ _
 ·omega
 ·rw [hBl]; exact hkl.1
 ·intro x hx hxl
  rw [hB,ak (by omega)];cases Classical.em (K.get x=A.get x) with
  | inl h=>exact h
  | inr h=>have:=hkl.2 x h; omega
 ·rintro k hk ⟨x,o,l2,hx,hm,hr,rfl⟩
  by_cases e:x=A.next
  ·subst e
   rw [Ren.mi] at hr; simp at hr; subst hr;exact ⟨b,_,l,hg,rfl,jU,rfl⟩
  ·rw [Ren.jy _ _ e] at hr
   exact ⟨x,o,l2,(oO x o e hx (hmd _ hm)).1,hm,hr,rfl⟩
theorem amx {a:Addr} (h:cO a=true):a.spot=none:=by
 unfold cO at h;simpa using h
theorem aaf (w:World) (a:Addr) (n:Nat) (cs:List Value) (h:∀ j,j < n->(w.cell? (a.add j)).isSome=true) (hr:(loadCells a n).run P w = .ok cs.toArray w) (j:Nat) (v:Value) (hj:cs[j]? = some v) :
  w.cell? (a.add j)=some v:=by
 have h1:=run_loadCells (P:=P) w a n (fun j=>(w.cell? (a.add j)).getD undef) (fun j hj=>by
  have:=h j hj;cases hc:w.cell? (a.add j) with
  | none=>rw [hc] at this; simp at this
  | some u=>rfl)
 rw [hr] at h1;simp only [Result.ok.injEq,and_true] at h1;have h2:cs=(List.range n).map fun j=>(w.cell? (a.add j)).getD undef:=by
  have:=congrArg Array.toList h1;simpa using this
 rw [h2,uG] at hj;cases hq:(List.range n)[j]? with
 | none=>rw [hq] at hj; simp at hj
 | some m=>
  rw [hq] at hj;have bh:j < n:=by have:=(cP.1 hq).1; simpa using this
  have hm:m=j:=by rw [List.getElem?_range bh] at hq; simpa using hq.symm
  subst hm;simp at hj;have:=h m bh;cases hc:w.cell? (a.add m) with
  | none=>rw [hc] at this; simp at this
  | some u=>rw [hc] at hj; simpa using hj
theorem ahm (z:Array Value) (n:Nat):(Builtin.zeroCells z n).size=n * z.size:=size_zeroCells z n
theorem abF {ρ:Ren} {A B:St} {base:Nat} {w:World} {t u ty e:TypeId} {i:TypeInfo} {z s x s' x' v:Value} (ht:P.underlying t=some (.slice e)) (hi:P.info? e=some i) (hz:i.zero=some z) (hu:Mf P u=true)
  (hn:1<=i.size) (hzs:z.cells.size=i.size) (OV:ra ρ A base w) (hsv:VR ρ s s') (hxv:VR ρ x x') (hf:jr i.size i.bytes A [s,x] = some (v,B)) :
  ∃ aJ v' w',(Builtin.append_ #[t,u] ty #[s',x']).run P w = .ok v' w'/\VR aJ v v'/\jG base ρ A w aJ B w':=by
 unfold jr at hf;split at hf
 ·rename_i bs dp oa x0 e0
  simp at e0;obtain ⟨rfl,rfl⟩:=e0;obtain ⟨k,hk,hf⟩:=cI.1 hf;have hlen:=Zc hxv hk;have hkk:∀ m,Y9 x=some m->k<=m:=fun m h=>by rw [hk] at h; simp at h; omega
  cases DI:Nat.ble (dp+k) oa with
  | true=>
   rw [DI,aj] at hf;have DI:=dI DI;obtain ⟨new,th,hf⟩:=cI.1 hf;obtain ⟨cB,h1,h2,h3,h4⟩:=Cw (P:=P) OV.rel hxv th hkk hn;cases bs with
   | none=>
    simp at hf;obtain ⟨rfl,rfl⟩:=hf;have:=hsv.fB;subst this;have hr:=uK (P:=P) t u ty e i ht hi hu none dp oa x' k cB hlen w h4 DI;exact ⟨ρ,_,w,by rw [hr]; rfl,by simp [VR],.refl OV⟩
   | some a=>
    simp only at hf;cases hpa:cO a with
    | false=>rw [hpa] at hf; simp at hf
    | true=>
     rw [hpa,aj] at hf;cases tI:Nat.beq k 0 with
     | true=>
      rw [tI,aj] at hf;simp at hf;obtain ⟨rfl,rfl⟩:=hf;have tI:=aW tI;obtain ⟨DG,Fs,lc,a',c',hl,qw,Jq,mK,rfl⟩:=hsv.j7;have hr:=uK (P:=P) t u ty e i ht hi hu (some a') dp c' x' k cB hlen w h4 (by omega);have OW:cB = []:=List.eq_nil_of_length_eq_zero (by rw [h1.length,h3,tI,Nat.zero_mul]);refine ⟨ρ,.slice (some a') (dp+k) c',w,?_,?_,.refl OV⟩
      ·rw [hr,OW]
       rfl
      ·simp only [VR]
       exact ⟨DG,by omega,lc,a',c',hl,qw,Jq,mK,rfl⟩
     | false=>
     rw [tI,aF] at hf;obtain ⟨B',eK,hf⟩:=cC.1 hf;simp at hf;obtain ⟨rfl,rfl⟩:=hf;obtain ⟨DG,Fs,lc,a',c',hl,qw,Jq,mK,rfl⟩:=hsv.j7;have hr:=uK (P:=P) t u ty e i ht hi hu (some a') dp c' x' k cB hlen w h4 (by omega);obtain ⟨w',h5,h6⟩:=Cv (P:=P) (a:=⟨a.block,a.off+dp * i.size,none⟩) OV eK hl h1;have j5:(storeCells (a'.add (dp * i.size)) cB).run P w = .ok () w':=by
      by_cases hc:c' = 0
      ·have:cB = []:=by
        apply List.eq_nil_of_length_eq_zero;rw [h1.length,h3];have:k=0:=by omega
        subst this; omega
       subst this;exact h5
      ·rw [Jq hc,jO]
       simp only at h5;rw [Fo];exact h5
     refine ⟨ρ,.slice (some a') (dp+k) c',w',?_,?_,h6⟩
     ·rw [hr]
      simp only [j5,gJ]
     ·simp only [VR]
      exact ⟨DG,DI,lc,a',c',hl,qw,Jq,mK,rfl⟩
  | false=>
   rw [DI,aF] at hf;have DI:oa < dp+k:=by
    have : ¬ (dp+k<=oa):=fun h=>by rw [Nat.ble_eq_true_of_le h] at DI; simp at DI
    omega
   cases hc:(Nat.ble ((dp+k) * i.bytes) 140737488355328&&Nat.ble (dp+k) 17592186044416&&sF A i.size oa bs) with
   | false=>rw [hc] at hf; simp at hf
   | true=>
    rw [hc,aj] at hf;simp only [au] at hc;obtain ⟨⟨DH,sS⟩,hex⟩:=hc;have DH:=dI DH;have sS:=dI sS;have afS:(dp+k) * i.bytes<=140737488355328:=DH;obtain ⟨new,th,hf⟩:=cI.1 hf;obtain ⟨cB,h1,h2,h3,h4⟩:=Cw (P:=P) OV.rel hxv th hkk hn;have hdr:=jG.drew (w:=w) OV;obtain ⟨anE,g1,g2,g3,g4⟩:=Cw (P:=P) hdr.gX.rel hxv th hkk hn;have anF:∀ (bs' : Option Addr) (c' : Nat) (Zd Xv:List Value) (aQ f:Nat) (K:St),K=A\/(∃ x lo hi L,K=A.kill x lo hi L)->dk ρ Zd Xv->(∀ v∈Zd,scalar v=true)->Zd.length=dp * i.size->
      (Builtin.firstCells i.size dp (.slice bs' dp c')).run P w.drew = .ok Xv.toArray w.drew->c' < dp+k->
      ∃ aJ v' w',(Builtin.append_ #[t,u] ty #[.slice bs' dp c',x']).run P w = .ok v' w'/\VR aJ (.slice (some ⟨A.next,0,none⟩) (dp+k) (dp+k)) v'/\jG base ρ A w aJ (K.grow aQ f (Zd++new) i.size) w':=by
     intro bs' c' Zd Xv aQ f K hK ho U7 hol j5 bh;have hr:=Xu (P:=P) t u ty e i z ht hi hz hu bs' dp c' x' k Xv anE hlen w j5 g4 bh sS (growslice_fits bh afS);have hge:=grownCap_ge w (dp+k) c' e;have hkg:jG base ρ A w ρ K w.drew:=by
      rcases hK with rfl | ⟨x,lo,hi,L,rfl⟩
      ·exact hdr
      ·exact (abD OV x lo hi L).trans (jG.drew (abD OV x lo hi L).gX)
     have hKn:K.next=A.next:=by
      rcases hK with rfl | ⟨x,lo,hi,L,rfl⟩
      ·rfl
      ·simp
     have Mn:((Xv++anE).toArray++Builtin.zeroCells z.cells (grownCap w (dp+k) c' e - (dp+k))).size=grownCap w (dp+k) c' e * i.size:=by
      rw [Array.size_append,ahm,hzs,List.size_toArray,kF,ho.length,g1.length,hol,g3];rw [<- Nat.add_mul,<- Nat.add_mul];congr 1; omega
     have vU:=abE (w:=w.drew) (n:=i.size) (aQ:=aQ) (f:=f) (c:=(Xv++anE).toArray++Builtin.zeroCells z.cells (grownCap w (dp+k) c' e - (dp+k))) e hkg.gX (ho.append g1)
      (fun v hv=>(iW.1 hv).elim (U7 v) (g2 v)) (fun j v hj=>by
       rw [Array.getElem?_append_left (by have:=(cP.1 hj).1; simpa using this)];simpa using hj) (by
       rw [Mn,kF,hol,g3,<- Nat.add_mul];exact Nat.mul_le_mul_right _ hge)
     refine ⟨_,_,_,hr,?_,hkg.trans vU⟩;simp only [VR];refine ⟨trivial,aH _,_,⟨w.heap.size,0,none⟩,grownCap w (dp+k) c' e,by rw [hKn]; exact Ren.mi _ _ _,hge,fun _=>rfl,?_,rfl⟩;rw [Mn];show 0+0+grownCap w (dp+k) c' e * i.size<=grownCap w (dp+k) c' e * i.size;omega
    unfold Gk at hf;cases bs with
    | none=>
     simp only at hf;cases hs0:Nat.beq dp 0 with
     | false=>rw [hs0] at hf; simp at hf
     | true=>
      rw [hs0,aj] at hf;simp at hf;obtain ⟨rfl,rfl⟩:=hf;have hs0:=aW hs0;have:=hsv.fB;subst this;have Mo:Builtin.firstCells i.size dp (.slice none dp oa)=pure #[]:=rfl;exact anF none oa [] [] A.next 0 A (.inl rfl) .nil (by simp) (by rw [hs0]; simp) (by rw [Mo]; rfl) DI
    | some a=>
     simp only at hf;cases hpa:cO a with
     | false=>rw [hpa] at hf; simp at hf
     | true=>
      rw [hpa,aj] at hf;have DG:=amx hpa;obtain ⟨_,Fs,lc,a',c',hl,qw,Jq,mK,rfl⟩:=hsv.j7;obtain ⟨fk,hold,hf⟩:=cI.1 hf;obtain ⟨p9,q1,q2,q3,q4⟩:=uJ (P:=P) hdr.gX.rel hold hl;have j5:(Builtin.firstCells i.size dp (.slice (some a') dp c')).run P w.drew = .ok p9.toArray w.drew:=by
       simp only [Builtin.firstCells];by_cases hc:c' = 0
       ·have hs0:dp=0:=by omega
        subst hs0;have OW:fk = []:=by rw [Nat.zero_mul] at q2; exact List.eq_nil_of_length_eq_zero q2
        subst OW;rw [q1.bZ,Nat.zero_mul];exact run_loadCells_list w.drew a' [] (by simp)
       ·rw [Jq hc]; exact q4
      split at hf
      ·rename_i cs bH own bQ hg
       cases hez:Nat.beq bH i.size with
       | false=>rw [hez] at hf; simp at hf
       | true=>
        rw [hez,aj] at hf;have hez:=aW hez;subst hez;obtain ⟨l2,kf,ok⟩:=OV.rel.row _ _ _ _ _ hg;rw [hl] at kf; simp at kf; subst kf;have hle:lc.bH=i.size:=ok.bH;cases bQ with
        | none=>
         simp only at hf;cases own with
         | false=>simp at hf
         | true=>
          simp at hf;obtain ⟨rfl,rfl⟩:=hf;have hxe:a.off+oa * i.size=cs.length:=by
           unfold sF at hex;simp only [hg] at hex;exact aW hex
          have hends:=ok.ends rfl rfl;have hc' : c' < dp+k:=by
           have h9:c' * i.size<=oa * i.size:=by rw [hle] at mK; omega
           have:=Nat.le_of_mul_le_mul_right h9 (by omega);omega
          exact anF (some a') c' fk p9 A.next 0 A (.inl rfl) q1 q3 q2 j5 hc'
        | some p=>
         obtain ⟨aQ,f⟩:=p;simp only at hf;cases own with
         | false=>simp at hf
         | true=>
          simp at hf;obtain ⟨rfl,rfl⟩:=hf;by_cases hc' : c' < dp+k
          ·exact anF (some a') c' fk p9 aQ (f+a.off) _ (.inr ⟨_,_,_,_,rfl⟩) q1 q3 q2 j5 hc'
          ·
           have cH:c'≠0:=by omega
           have ha:=Jq cH;subst ha;have hr:=uK (P:=P) t u ty e i ht hi hu (some ⟨lc.cb,lc.dn+a.off,none⟩) dp c' x' k cB hlen w h4 (by omega);have lZ:lc.dn+a.off+dp * i.size+new.length<=lc.yR:=by
            rw [h3];rw [hle] at mK;have h9:(dp+k) * i.size<=c' * i.size:=Nat.mul_le_mul_right _ (by omega);rw [Nat.add_mul] at h9;omega
           have Oy:cB.length=new.length:=h1.length;obtain ⟨ahn,p1,p2,p3,p4⟩:=uJ (P:=P) OV.rel hold hl;have HR:∀ (j:Nat) (v' : Value),ahn[j]? = some v'->w.cell? ⟨lc.cb,lc.dn+a.off+j,none⟩=some v':=by
            intro j v' hj;have bh:j < dp * i.size:=by have:=(cP.1 hj).1; rw [p1.length,p2] at this; exact this
            have nL:=(ok.there rfl (lc.dn+a.off+j) (by omega)).1;have:=aaf (P:=P) w ⟨lc.cb,lc.dn+a.off,none⟩ (dp * i.size) ahn (fun j hj=>by rw [jO]; exact (ok.there rfl (lc.dn+a.off+j) (by omega)).1) p4 j v' hj;rwa [jO] at this
           have vU:=afR (w:=w) (gx:=a.off) (s:=dp * i.size) OV hg hl p1 p3 p2 HR h1 h2 lZ;have eK:(storeCells ((⟨lc.cb,lc.dn+a.off,none⟩:Addr).add (dp * i.size)) cB).run P w = .ok () (w.setCells lc.cb (lc.dn+a.off+dp * i.size) cB):=by
            rw [jO];exact run_storeCells_cells (P:=P) lc.cb (lc.dn+a.off+dp * i.size) cB 0 w (fun j hj=>(ok.there rfl _ (by rw [Oy] at hj; omega)).1) (fun j hj=>(ok.there rfl _ (by rw [Oy] at hj; omega)).2) (fun v Gn=>by
             obtain ⟨j,hj⟩:=List.getElem?_of_mem Gn;have bh:j < new.length:=by rw [<- Oy]; exact (cP.1 hj).1
             obtain ⟨u,hu⟩:∃ u,new[j]? = some u:=⟨new[j],cM bh⟩
             obtain ⟨v2,h7,h8⟩:=h1.get hu;rw [hj] at h7; simp at h7; subst h7;exact h8.scalar (h2 u (fR hu)))
           refine ⟨_,.slice (some ⟨lc.cb,lc.dn+a.off,none⟩) (dp+k) c',_,by rw [hr]; simp only [eK,gJ],?_,vU⟩;simp only [VR];refine ⟨trivial,aH _,_,_,c',Ren.mi _ _ _,by omega,fun _=>rfl,?_,rfl⟩;show lc.dn+a.off+0+c' * i.size<=lc.yR;rw [hle] at mK;omega
      ·simp at hf
 ·simp at hf
theorem amy {argTypes:Array TypeId} {t u:TypeId} (h:argTypes.toList = [t,u]):argTypes = #[t,u]:=by
 apply Array.ext';simpa using h
theorem ajU {argTypes:Array TypeId} {args:Array Operand} (ho:o.op = .call ⟨.builtin .append,args,argTypes⟩):fS P o (Mg P argTypes.toList args.toList):=by
 unfold Mg;split
 ·rename_i t u yU
  split
  ·rename_i e ht
   split
   ·rename_i i hi
    split
    ·rename_i z hz
     cases hc:(Nat.ble 1 i.size&&Nat.beq z.cells.size i.size&&Mf P u) with
     | false=>exact True.intro
     | true=>
      rw [aj];simp only [au] at hc;obtain ⟨⟨h1,h2⟩,h3⟩:=hc;intro ρ A B base w ev cG v hs he hf;have hf0:=hf;unfold jr at hf0;split at hf0
      ·rename_i bs dp oa x e1
       have hm:=he.map;rw [e1] at hm hf;obtain ⟨s',r1,e2,hsv,hm⟩:=hm.cons_inv;obtain ⟨x',r2,e3,hxv,hm⟩:=hm.cons_inv;have:=hm.bZ;subst this e3;obtain ⟨aJ,v',w',h4,h5,h6⟩:=abF (ty:=o.type) ht hi hz h3 (dI h1) (aW h2) hs hsv hxv hf;refine ⟨aJ,v',.value v',w',?_,rfl,h5,h6⟩;have e4:args.map cG = #[s',x']:=by apply Array.ext'; simpa using e2
       have e5:=amy yU;subst e5;simp only [execOp,ho,Sem.run_bind,resolve,Sem.run_pure,gJ,invoke,builtin,e4,h4]
      ·simp at hf0
    ·trivial
   ·trivial
  ·trivial
 ·trivial
theorem anG {argTypes:Array TypeId} {args:Array Operand} (ho:o.op = .call ⟨.builtin .copy,args,argTypes⟩):fS P o (UX P argTypes.toList args.toList):=by
 unfold UX;split
 ·rename_i t rest yU
  have ND:argTypes[0]? = some t:=by rw [<- Array.getElem?_toList,yU]; rfl
  split
  ·rename_i e ht
   split
   ·rename_i n hn
    cases AL:Nat.ble 1 n with
    | false=>exact True.intro
    | true=>
     rw [aj];have AL:1<=n:=dI AL;intro ρ A B base w ev cG v hs he hf;unfold abm at hf;split at hf
     ·rename_i bs UW dCap x e1
      have hm:=he.map;rw [e1] at hm;obtain ⟨s',r1,e2,hsv,hm⟩:=hm.cons_inv;obtain ⟨x',r2,e3,hxv,hm⟩:=hm.cons_inv;have:=hm.bZ;subst this e3;have e4:args.map cG = #[s',x']:=by apply Array.ext'; simpa using e2
      obtain ⟨k,hk,hf⟩:=cI.1 hf;have hlen:=Zc hxv hk;obtain ⟨new,th,hf⟩:=cI.1 hf;obtain ⟨cB,h1,h2,h3,h4⟩:=Cw (P:=P) hs.rel hxv th (fun m h=>by rw [hk] at h; simp at h; subst h; exact Nat.min_le_left _ _) AL;cases bs with
      | none=>
       simp at hf;obtain ⟨rfl,rfl⟩:=hf;have:=hsv.fB;subst this;refine ⟨ρ,goInt (Nat.min k UW),.value (goInt (Nat.min k UW)),w,?_,rfl,VR.of_flat rfl,.refl hs⟩;simp [execOp,ho,resolve,invoke,builtin,e4,Builtin.copy_,ND,bw ht,hlen,mZ hn,h4]
      | some a=>
       simp only at hf;obtain ⟨B',eK,hf⟩:=cC.1 hf;simp at hf;obtain ⟨rfl,rfl⟩:=hf;obtain ⟨DG,Fs,lc,a',c',hl,qw,Jq,mK,rfl⟩:=hsv.j7;obtain ⟨w',h5,h6⟩:=Cv (P:=P) hs eK hl h1;have j5:(storeCells a' cB).run P w = .ok () w':=by
        by_cases hc:c' = 0
        ·have:cB = []:=by
          apply List.eq_nil_of_length_eq_zero;rw [h1.length,h3];have:UW=0:=by omega
          subst this; simp
         subst this;exact h5
        ·rw [Jq hc]; exact h5
       refine ⟨ρ,goInt (Nat.min k UW),.value (goInt (Nat.min k UW)),w',?_,rfl,VR.of_flat rfl,h6⟩;simp [execOp,ho,resolve,invoke,builtin,e4,Builtin.copy_,ND,bw ht,hlen,mZ hn,h4,j5]
     ·simp at hf
   ·trivial
  ·trivial
 ·trivial
end
end Go.aq
end
section
namespace Go.aq
open Go
section
variable {P:Program} {o:Oper}
theorem yW {ρ:Ren} {A:St} {base:Nat} {w:World} {r:Nat} {es mV:List (Value×Value)} {C2:Array MapEntry} {Cx:Nat} {l:Loc} (hs:ra ρ A base w) (hg:A.get r=some (.map es)) (jU:ρ r=some l)
  (hm:gF ρ mV C2.toList):jG base ρ A w ρ (A.put r (.map mV)) { w with heap:=w.heap.setIfInBounds l.cb (.map C2 Cx) }:=by
 obtain ⟨l',qb,ok⟩:=hs.rel.map _ _ hg;rw [jU] at qb; simp at qb; subst qb;obtain ⟨bo,clock,nM,_⟩:=ok.mw;have bh:l.cb < w.heap.size:=(rA.1 nM).1;have Jt:cw.dX (.map es)=true:=rfl;have hold:∀ k,k≠l.cb->(w.heap.setIfInBounds l.cb (.map C2 Cx))[k]? = w.heap[k]?:=fun k hk=>by
  rw [Array.getElem?_setIfInBounds_ne (Ne.symm hk)]
 have dK:(w.heap.setIfInBounds l.cb (.map C2 Cx)).size=w.heap.size:=by simp
 have hB:∀ x,(A.put r (.map mV)).get x=if x=r then some (.map mV) else A.get x:=fun x=>St.b5 _ _ _ _;have hmd:∀ o:cw,o.dX=true->o≠.dead:=by intro o h e; subst e; simp [cw.dX] at h
 have Ks:∀ x o l2,x≠r->A.get x=some o->o≠.dead->ρ x=some l2->Jo ρ base w l2 o->l2.cb≠l.cb:=by
  intro x o l2 hx iQ hd tK iB e;cases hmo:o.dX with
  | true=>
   obtain ⟨_,_,_,_,e1,_⟩:=hs.rel.apart x r o _ l2 l hx iQ hg hmo Jt tK jU e;simp [cw.kC] at e1
  | false=>
   cases o with
   | row cs bH own bQ=>
    have iB:oV ρ base w l2 cs bH own bQ:=iB;have h1:own=false:=hmo;have:=iB.se h1;have:=ok.dX;omega
   | map _=>simp [cw.dX] at hmo
   | iter _ _=>simp [cw.dX] at hmo
   | dead=>exact hd rfl
   | loop _ _ _ _ _ _=>simp [cw.dX] at hmo
 refine ⟨⟨.Fq ?_ ?_ ?_,fun b l2 h=>hs.jx b l2 h,by simpa using hs.size,hs.H5⟩,fun _ _=>rfl,⟨rfl,rfl,rfl,Nat.le_of_eq dK.symm,fun k hk hn=>hold k (fun e=>hn ⟨r,_,l,hg,Jt,jU,e.symm⟩)⟩,aH _,Nat.min_le_left _ _,fun x hx hxl=>?_,?_⟩
 ·intro x o iQ hd
  rw [hB] at iQ;split at iQ
  ·rename_i e; subst e; simp at iQ; subst iQ
   refine ⟨l,jU,ok.dX,C2,Cx,?_,hm⟩;show (w.heap.setIfInBounds l.cb (.map C2 Cx))[l.cb]? = _;rw [Array.getElem?_setIfInBounds_self_of_lt bh]
  ·rename_i e
   obtain ⟨l2,tK,iB⟩:=hs.rel.obj iQ hd;exact ⟨l2,tK,iB.eY (Ren.le_refl _) (hold _ (Ks x o l2 e iQ hd tK iB)) (Nat.le_of_eq dK.symm)⟩
 ·have Oz:∀ x o,(A.put r (.map mV)).get x=some o->o.dX=true->∃ o',A.get x=some o'/\o'.dX=true/\o'.kC=o.kC:=by
   intro x o hx hm;rw [hB] at hx;split at hx
   ·rename_i e; subst e; simp at hx; subst hx; exact ⟨_,hg,rfl,rfl⟩
   ·exact ⟨o,hx,hm,rfl⟩
  intro b1 b2 o1 o2 l1 l2 cH g1 g2 m1 m2 r1 r2 Tf;obtain ⟨p1,q1,n1,k1⟩:=Oz _ _ g1 m1;obtain ⟨p2,q2,n2,k2⟩:=Oz _ _ g2 m2;rw [<- k1,<- k2];exact hs.rel.apart b1 b2 p1 p2 l1 l2 cH q1 q2 n1 n2 r1 r2 Tf
 ·intro x o aQ f iQ hk
  rw [hB] at iQ;split at iQ
  ·rename_i e; subst e; simp at iQ; subst iQ; simp [cw.kC] at hk
  ·exact hs.rel.bC x o aQ f iQ hk
 ·rw [St.abr] at hxl
  have:Nat.min A.low r<=r:=Nat.min_le_right _ _;rw [hB,ak (by omega)]
 ·rintro k hk ⟨x,o,l2,iQ,hm,tK,rfl⟩
  rw [hB] at iQ;split at iQ
  ·rename_i e; subst e
   rw [jU] at tK; simp at tK; subst tK;exact ⟨x,_,l,hg,Jt,jU,rfl⟩
  ·exact ⟨x,o,l2,iQ,hm,tK,rfl⟩
theorem gF.length {ρ:Ren} : ∀ {es:List (Value×Value)} {l:List MapEntry},gF ρ es l->l.length=es.length
 | [],l,h=>by simp only [gF] at h; subst h; rfl
 | (k,v)::es,l,h=>by
  simp only [gF] at h;obtain ⟨e,r,rfl,_,_,h⟩:=h;simp [gF.length h]
theorem gF.get {ρ:Ren} : ∀ {es:List (Value×Value)} {l:List MapEntry},gF ρ es l->∀ (i:Nat) (k v:Value),es[i]? = some (k,v)->∃ e,l[i]? = some e/\VR ρ k e.key/\VR ρ v e.val
 | [],l,h,i,k,v,hi=>by simp at hi
 | (k,v)::es,l,h,i,k',v',hi=>by
  simp only [gF] at h;obtain ⟨e,r,rfl,h1,h2,h⟩:=h;cases i with
  | zero=>simp at hi; obtain ⟨rfl,rfl⟩:=hi; exact ⟨e,rfl,h1,h2⟩
  | succ i=>simp at hi; simpa using gF.get h i k' v' hi
theorem gF.append {ρ:Ren} : ∀ {es:List (Value×Value)} {l:List MapEntry} {k v:Value} {e:MapEntry},gF ρ es l->VR ρ k e.key->VR ρ v e.val->gF ρ (es++[(k,v)]) (l++[e])
 | [],l,k,v,e,h,h1,h2=>by
  simp only [gF] at h; subst h;simp only [List.nil_append,gF];exact ⟨e,[],rfl,h1,h2,rfl⟩
 | (k0,v0)::es,l,k,v,e,h,h1,h2=>by
  simp only [gF] at h;obtain ⟨e0,r,rfl,h3,h4,h⟩:=h;simp only [List.cons_append,gF];exact ⟨e0,r++[e],rfl,h3,h4,gF.append h h1 h2⟩
theorem gF.modify {ρ:Ren} : ∀ {es:List (Value×Value)} {l:List MapEntry} {k v:Value} (f:MapEntry->MapEntry) (i:Nat),gF ρ es l->(∀ e,VR ρ k (f e).key/\VR ρ v (f e).val)->gF ρ (es.set i (k,v)) (l.modify i f)
 | [],l,k,v,f,i,h,_=>by simp only [gF] at h; subst h; simp [gF]
 | (k0,v0)::es,l,k,v,f,i,h,hf=>by
  simp only [gF] at h;obtain ⟨e0,r,rfl,h3,h4,h⟩:=h;cases i with
  | zero=>simp only [List.set_cons_zero,List.modify_zero_cons,gF]; exact ⟨_,r,rfl,(hf e0).1,(hf e0).2,h⟩
  | succ i=>simp only [List.set_cons_succ,List.modify_succ_cons,gF]; exact ⟨e0,_,rfl,h3,h4,gF.modify f i h hf⟩
theorem gF.erase {ρ:Ren} : ∀ {es:List (Value×Value)} {l:List MapEntry} (i:Nat),gF ρ es l->gF ρ (es.eraseIdx i) (l.eraseIdx i)
 | [],l,i,h=>by simp only [gF] at h; subst h; simp [gF]
 | (k0,v0)::es,l,i,h=>by
  simp only [gF] at h;obtain ⟨e0,r,rfl,h3,h4,h⟩:=h;cases i with
  | zero=>simpa using h
  | succ i=>simp only [List.eraseIdx_cons_succ,gF]; exact ⟨e0,_,rfl,h3,h4,gF.erase i h⟩
def FR (ρ:Ren):Option (Nat×Value)->Option (Nat×Value)->Prop
 | none,r=>r=none
 | some (i,v),r=>∃ v',r=some (i,v')/\VR ρ v v'
theorem U9 {ρ:Ren} (d:TypeDesc) (k:Value):∀ (es:List (Value×Value)) (l:List MapEntry) (i:Nat),gF ρ es l->sG es=true->
  (A7 d k es i=none->Instr.findNow d k l i=none)/\∀ r,A7 d k es i=some r->∃ r',Instr.findNow d k l i=some r'/\FR ρ r r'
 | [],l,i,h,_=>by
  simp only [gF] at h; subst h;exact ⟨fun h=>by simp [A7] at h,fun r hr=>by simp [A7] at hr; subst hr; exact ⟨none,rfl,rfl⟩⟩
 | (k0,v0)::es,l,i,h,hf=>by
  simp only [gF] at h;obtain ⟨e0,r0,rfl,h3,h4,h⟩:=h;simp only [sG,au] at hf;have hk:e0.key=k0:=h3.nF hf.1;have ih:=U9 d k es r0 (i+1) h hf.2;simp only [A7,Instr.findNow,hk];cases hsn:Instr.sameNow d k k0 with
  | none=>exact ⟨fun _=>rfl,fun r hr=>by simp at hr⟩
  | some b=>
   cases b with
   | true=>exact ⟨fun h=>by simp at h,fun r hr=>by simp at hr; subst hr; exact ⟨_,rfl,_,rfl,h4⟩⟩
   | false=>exact ih
theorem Va {ρ:Ren} (kt:TypeId) (k:Value):∀ (es:List (Value×Value)) (l:List MapEntry) (i:Nat),gF ρ es l->sG es=true->
  ∀ r,Kl P kt k es i=some r->∃ r',(∀ w,(Instr.findAsking kt k l i).run P w = .ok r' w)/\FR ρ r r'
 | [],l,i,h,_=>by
  simp only [gF] at h; subst h;intro r hr;simp [Kl] at hr; subst hr; exact ⟨none,fun w=>rfl,rfl⟩
 | (k0,v0)::es,l,i,h,hf=>by
  simp only [gF] at h;obtain ⟨e0,r0,rfl,h3,h4,h⟩:=h;simp only [sG,au] at hf;have hk:e0.key=k0:=h3.nF hf.1;intro r hr;simp only [Kl] at hr;split at hr
  ·rename_i he
   simp at hr; subst hr;refine ⟨some (i,e0.val),fun w=>?_,_,rfl,h4⟩;simp [Instr.findAsking,hk,fg he w]
  ·rename_i he
   obtain ⟨r',h5,h6⟩:=Va kt k es r0 (i+1) h hf.2 r hr;refine ⟨r',fun w=>?_,h6⟩;simp only [Instr.findAsking,hk,Sem.run_bind,fg he w,gJ];exact h5 w
  ·simp at hr
theorem Mp {ρ:Ren} {kt:TypeId} {d:TypeDesc} {k:Value} {es:List (Value×Value)} {l:List MapEntry} {r:Option (Nat×Value)} (hd:P.underlying kt=some d) (h:gF ρ es l) (hf:sG es=true) (hr:abn P kt d k es=some r) :
  ∃ r',(∀ w,(Instr.findKey kt k l).run P w = .ok r' w)/\FR ρ r r':=by
 have hn:=U9 d k es l 0 h hf;unfold abn at hr;split at hr
 ·rename_i q hq
  simp at hr; subst hr;obtain ⟨r',h1,h2⟩:=hn.2 _ hq;refine ⟨r',fun w=>?_,h2⟩;simp only [Instr.findKey,Sem.run_bind,bw hd,gJ,h1];rfl
 ·rename_i hq
  have h1:=hn.1 hq;obtain ⟨r',h2,h3⟩:=Va kt k es l 0 h hf r hr;refine ⟨r',fun w=>?_,h3⟩;simp only [Instr.findKey,Sem.run_bind,bw hd,gJ,h1];exact h2 w
theorem Ft {ρ:Ren} {kt:TypeId} {b:Bool} {k k' : Value} {es:List (Value×Value)} (h:Jk P kt b k es=true) (hk:VR ρ k k'):k' = k/\flat k=true/\sG es=true/\∀ w,(Instr.checkKey b 10000 kt k).run P w = .ok () w:=by
 unfold Jk at h;simp only [au] at h;obtain ⟨⟨h1,h2⟩,h3⟩:=h;cases hp:cR P (Instr.checkKey b 10000 kt k) with
 | none=>rw [hp] at h3; simp at h3
 | some u=>exact ⟨hk.nF h1,h1,h2,fun w=>fg hp w⟩
theorem gF.isEmpty {ρ:Ren} {es:List (Value×Value)} {l:Array MapEntry} (h:gF ρ es l.toList):l.isEmpty=es.isEmpty:=by
 have:=h.length;cases es with
 | nil=>simp at this; simpa using this
 | cons e es=>simp at this; simp; intro h; rw [h] at this; simp at this
theorem VR.OX {ρ:Ren} {r:Nat} {v:Value} (h:VR ρ (.map (some r)) v):∃ l,ρ r=some l/\v = .map (some l.cb):=by simpa only [VR] using h
theorem VR.Fu {ρ:Ren} {v:Value} (h:VR ρ (.map none) v):v = .map none:=by simpa only [VR] using h
theorem VR.aeP {ρ:Ren} {ok b:Bool} {v v' : Value} (h:VR ρ v v'):VR ρ (aeP ok v b) (if ok then .tuple #[v',.bool b] else v'):=by
 cases ok with
 | true=>exact VR.mkTuple (.cons h (.cons (VR.of_flat rfl) .nil))
 | false=>exact h
theorem aho {t:TypeId} {r:Option Operand} (ho:o.op = .makeMap t r):fS P o (OO P t r):=by
 unfold OO;split
 ·rename_i kt et hu
  intro ρ ev cG obj mk he hf;have iZ:obj = .map []/\mk=fun n=>.map (some n):=by
   unfold Xm at hf;split at hf
   ·simp at hf; exact ⟨hf.1.symm,hf.2.symm⟩
   ·simp at hf; exact ⟨hf.1.symm,hf.2.symm⟩
   ·simp at hf
  obtain ⟨rfl,rfl⟩:=iZ;refine ⟨.map #[] 0,fun n=>.map (some n),rfl,fun w=>?_,fun aJ n cb h=>by simp only [VR]; exact ⟨_,h,rfl⟩⟩;cases r with
  | none=>simp [execOp,ho,Instr.makeMap]
  | some x=>
   have hx:=he x (by simp [eL]);unfold Xm at hf;simp only [eL,List.map] at hf;split at hf
   ·rename_i e; simp at e
   ·rename_i k n e
    simp at e;rw [e] at hx;simp [execOp,ho,Instr.makeMap,hx.cD,bw hu,asInt,asIntOf]
   ·simp at hf
 ·trivial
theorem Kv {ρ:Ren} {kt et:TypeId} {d:TypeDesc} {z v k k' : Value} {ok:Bool} {es:List (Value×Value)} {l:Array MapEntry} (hd:P.underlying kt=some d) (hz:qt P et=some z) (hzf:flat z=true)
  (hm:gF ρ es l.toList) (hk:VR ρ k k') (h:Mh P kt d z ok k es=some v) :
  ∃ v',VR ρ v v'/\∀ w,(do
   Instr.checkKey l.isEmpty 10000 kt k'
   let (v,b) <- match <- Instr.findKey kt k' l.toList with
    | some (_,v)=>pure (v,true)
    | none=>pure (<- zeroValue et,false)
   pure (if ok then Value.tuple #[v,.bool b] else v):Sem Value).run P w = .ok v' w:=by
 unfold Mh at h;cases hc:Jk P kt es.isEmpty k es with
 | false=>rw [hc] at h; simp at h
 | true=>
  rw [hc,aj] at h;obtain ⟨rfl,_,hkf,Xq⟩:=Ft hc hk;obtain ⟨r,hr,rfl⟩:=cC.1 h;obtain ⟨r',h1,h2⟩:=Mp hd hm hkf hr;rw [hm.isEmpty];cases r with
  | none=>
   have h2:r' = none:=h2;subst h2;refine ⟨_,VR.aeP (VR.of_flat hzf),fun w=>?_⟩;simp [Xq,h1,Q5 hz]
  | some p=>
   obtain ⟨i,u⟩:=p;obtain ⟨u',rfl,h3⟩:=h2;refine ⟨_,VR.aeP h3,fun w=>?_⟩;simp [Xq,h1]
theorem ajV {t:TypeId} {x ix:Operand} {ok:Bool} (ho:o.op = .lookup t x ix ok):fS P o (S9 P t x ix ok):=by
 unfold S9;split
 ·rename_i kt et hu
  split
  ·rename_i d z hd hz
   cases hzf:flat z with
   | false=>exact True.intro
   | true=>
    rw [aj];intro ρ A base w ev cG v hs he hf;have hx:=he x (by simp);have hk:=he ix (by simp);simp only [List.map] at hf;unfold ahd at hf;split at hf
    ·rename_i k e
     simp at e;obtain ⟨e1,e2⟩:=e;rw [e1] at hx;have hx:=hx.Fu;rw [<- e2] at hf;obtain ⟨v',h1,h2⟩:=Kv (ρ:=ρ) (l:=#[]) hd hz hzf (by simp [gF]) hk hf;refine ⟨v',h1,?_⟩;have h2:=h2 w;simp only [execOp,ho,Instr.lookup,Sem.run_bind,bw hu,gJ,hx,Sem.run_pure] at h2 ⊢;exact congrArg (fun r:Result Value=>r.andThen fun a w'=>Result.ok (Next.value a) w') h2
    ·rename_i r k e
     simp at e;obtain ⟨e1,e2⟩:=e;rw [e1] at hx;rw [<- e2] at hf;obtain ⟨lc,hl,hx⟩:=hx.OX;split at hf
     ·rename_i es hg
      obtain ⟨l2,kf,iB⟩:=hs.map _ _ hg;rw [hl] at kf; simp at kf; subst kf;obtain ⟨bo,clock,nM,hm⟩:=iB.mw;obtain ⟨v',h1,h2⟩:=Kv (l:=bo) hd hz hzf hm hk hf;refine ⟨v',h1,?_⟩;have h2:=h2 w;simp only [execOp,ho,Instr.lookup,Sem.run_bind,bw hu,gJ,hx,MapKept.run_getObj_map nM,Sem.run_pure] at h2 ⊢;exact congrArg (fun r:Result Value=>r.andThen fun a w'=>Result.ok (Next.value a) w') h2
     ·simp at hf
    ·simp at hf
  ·trivial
 ·trivial
theorem Vb {ρ:Ren} {A B:St} {base:Nat} {w:World} {t kt et:TypeId} {d:TypeDesc} {m k x m' k' x' v:Value} (hu:P.underlying t=some (.map kt et)) (hd:P.underlying kt=some d) (hs:ra ρ A base w)
  (hm:VR ρ m m') (hk:VR ρ k k') (hx:VR ρ x x') (h:OM P kt d A [m,k,x] = some (v,B)):v=undef/\∃ w',(Instr.mapUpdate t m' k' x').run P w = .ok () w'/\jG base ρ A w ρ B w':=by
 unfold OM at h;split at h
 ·rename_i r k0 x0 e
  simp at e;obtain ⟨rfl,rfl,rfl⟩:=e;obtain ⟨lc,hl,rfl⟩:=hm.OX;split at h
  ·rename_i es hg
   obtain ⟨l2,kf,iB⟩:=hs.rel.map _ _ hg;rw [hl] at kf; simp at kf; subst kf;obtain ⟨bo,clock,nM,Xw⟩:=iB.mw;cases hc:Jk P kt false k es with
   | false=>rw [hc] at h; simp at h
   | true=>
    rw [hc,aj] at h;obtain ⟨rfl,hkf0,hkf,Xq⟩:=Ft hc hk;obtain ⟨q,hq,h⟩:=cI.1 h;obtain ⟨r',h1,h2⟩:=Mp hd Xw hkf hq;cases q with
    | none=>
     have h2:r' = none:=h2;subst h2;simp at h;obtain ⟨rfl,rfl⟩:=h;refine ⟨rfl,_,?_,yW (C2:=bo.push { key:=k',val:=x',born:=clock }) (Cx:=clock+1) hs hg hl (by rw [Array.toList_push]; exact Xw.append hk hx)⟩;simp [Instr.mapUpdate,bw hu,MapKept.run_getObj_map nM,Xq,h1,MapKept.run_setObj_map _ nM]
    | some p=>
     obtain ⟨i,u⟩:=p;obtain ⟨u',rfl,h3⟩:=h2;simp only at h;cases hsb:Instr.sameBits 10000 (afJ es i k') k' with
     | false=>rw [hsb] at h; simp at h
     | true=>
      rw [hsb] at h;simp at h;obtain ⟨rfl,rfl⟩:=h;have hold:((bo[i]?).map (·.key)).getD k' = afJ es i k':=by
       unfold afJ;cases hi:es[i]? with
       | none=>
        have:bo[i]? = none:=by
         rw [Array.getElem?_eq_none_iff];have:=aaN.1 hi;rw [<- Array.length_toList,Xw.length]; exact this
        rw [this]; rfl
       | some p=>
        obtain ⟨k1,v1⟩:=p;obtain ⟨e,h5,h6,h7⟩:=Xw.get i k1 v1 hi;have h5' : bo[i]? = some e:=by simpa using h5
        have yJ:flat k1=true:=by
         have key:∀ (es:List (Value×Value)) (i:Nat),sG es=true->es[i]? = some (k1,v1)->flat k1=true:=by
          intro es
          induction es with
          | nil=>intro i _ h; simp at h
          | cons e es ih=>
           intro i hk h;simp only [sG,au] at hk;cases i with
           | zero=>simp at h; subst h; exact hk.1
           | succ i=>exact ih i hk.2 (by simpa using h)
         exact key es i hkf hi
        rw [h5'];simp only [Option.map_some,db];exact h6.nF yJ
      refine ⟨rfl,_,?_,yW (C2:=bo.modify i fun e=>{ e with key:=k',val:=x' }) (Cx:=clock) hs hg hl (by rw [Array.toList_modify]; exact Xw.modify _ i fun e=>⟨hk,hx⟩)⟩;simp [Instr.mapUpdate,bw hu,MapKept.run_getObj_map nM,Xq,h1,hold,Instr.keyThatStays,hsb,MapKept.run_setObj_map _ nM]
  ·simp at h
 ·simp at h
theorem R7 {t:TypeId} {m k x:Operand} (ho:o.op = .mapUpdate t m k x\/o.op = .insert t m k x):fS P o (Cs P t m k x):=by
 unfold Cs;split
 ·rename_i kt et hu
  split
  ·rename_i d hd
   intro ρ A B base w ev cG v hs he hf;simp only [List.map] at hf;obtain ⟨rfl,w',h1,h2⟩:=Vb hu hd hs (he m (by simp)) (he k (by simp)) (he x (by simp)) hf;refine ⟨ρ,undef,.skip,w',?_,rfl,VR.of_flat (by simp [undef,flat,L7,tM]),h2⟩;rcases ho with ho | ho <;> simp [execOp,ho,h1]
  ·trivial
 ·trivial
theorem tQ:flat jw=true:=rfl
theorem ajW {argTypes:Array TypeId} {args:Array Operand} (ho:o.op = .call ⟨.builtin .delete,args,argTypes⟩):fS P o (Ta P argTypes.toList args.toList):=by
 unfold Ta;split
 ·rename_i t rest yU
  have ND:argTypes[0]? = some t:=by rw [<- Array.getElem?_toList,yU]; rfl
  split
  ·rename_i kt et hu
   split
   ·rename_i d hd
    intro ρ A B base w ev cG v hs he hf;have hm:=he.map;unfold ahe at hf;split at hf
    ·rename_i k e1
     rw [e1] at hm;obtain ⟨m',r1,e2,hmv,hm⟩:=hm.cons_inv;obtain ⟨k',r2,e3,hkv,hm⟩:=hm.cons_inv;have:=hm.bZ;subst this e3;have e4:args.map cG = #[m',k']:=by apply Array.ext'; simpa using e2
     have:=hmv.Fu;subst this;cases hc:Jk P kt true k [] with
     | false=>rw [hc] at hf; simp at hf
     | true=>
      rw [hc] at hf;simp at hf;obtain ⟨rfl,rfl⟩:=hf;obtain ⟨rfl,_,hkf,Xq⟩:=Ft hc hkv;refine ⟨ρ,jw,.value jw,w,?_,rfl,VR.of_flat tQ,.refl hs⟩;simp [execOp,ho,resolve,invoke,builtin,e4,Builtin.delete_,ND,bw hu,Xq,jw]
    ·rename_i r k e1
     rw [e1] at hm;obtain ⟨m',r1,e2,hmv,hm⟩:=hm.cons_inv;obtain ⟨k',r2,e3,hkv,hm⟩:=hm.cons_inv;have:=hm.bZ;subst this e3;have e4:args.map cG = #[m',k']:=by apply Array.ext'; simpa using e2
     obtain ⟨lc,hl,rfl⟩:=hmv.OX;split at hf
     ·rename_i es hg
      obtain ⟨l2,kf,iB⟩:=hs.rel.map _ _ hg;rw [hl] at kf; simp at kf; subst kf;obtain ⟨bo,clock,nM,Xw⟩:=iB.mw;cases hc:Jk P kt es.isEmpty k es with
      | false=>rw [hc] at hf; simp at hf
      | true=>
       rw [hc,aj] at hf;obtain ⟨rfl,_,hkf,Xq⟩:=Ft hc hkv;obtain ⟨q,hq,Kw⟩:=cC.1 hf;obtain ⟨r',h1,h2⟩:=Mp hd Xw hkf hq;rw [<- Xw.isEmpty] at Xq;cases q with
       | none=>
        have h2:r' = none:=h2;subst h2;simp at Kw;obtain ⟨rfl,rfl⟩:=Kw;refine ⟨ρ,jw,.value jw,_,?_,rfl,VR.of_flat tQ,yW (C2:=bo) (Cx:=clock) hs hg hl Xw⟩;simp [execOp,ho,resolve,invoke,builtin,e4,Builtin.delete_,ND,bw hu,MapKept.run_getObj_map nM,Xq,h1,MapKept.run_setObj_map _ nM,jw]
       | some p=>
        obtain ⟨i,u⟩:=p;obtain ⟨u',rfl,h3⟩:=h2;simp at Kw;obtain ⟨rfl,rfl⟩:=Kw;refine ⟨ρ,jw,.value jw,_,?_,rfl,VR.of_flat tQ,yW (C2:=bo.eraseIdxIfInBounds i) (Cx:=clock) hs hg hl (by rw [Array.toList_eraseIdxIfInBounds]; exact Xw.erase i)⟩;simp [execOp,ho,resolve,invoke,builtin,e4,Builtin.delete_,ND,bw hu,MapKept.run_getObj_map nM,Xq,h1,MapKept.run_setObj_map _ nM,jw]
     ·simp at hf
    ·simp at hf
   ·trivial
  ·trivial
 ·trivial
theorem amz {argTypes:Array TypeId} {args:Array Operand} (ho:o.op = .call ⟨.builtin .clear,args,argTypes⟩):fS P o (Xn P argTypes.toList args.toList):=by
 unfold Xn;split
 ·rename_i t yU
  have ND:argTypes[0]? = some t:=by rw [<- Array.getElem?_toList,yU]; rfl
  split
  ·rename_i kt et hu
   intro ρ A B base w ev cG v hs he hf;have hm:=he.map;unfold abo at hf;split at hf
   ·rename_i e1
    simp at hf;obtain ⟨rfl,rfl⟩:=hf;rw [e1] at hm;obtain ⟨m',r1,e2,hmv,hm⟩:=hm.cons_inv;have:=hm.bZ;subst this;have e4:args.map cG = #[m']:=by apply Array.ext'; simpa using e2
    have:=hmv.Fu;subst this;refine ⟨ρ,jw,.value jw,w,?_,rfl,VR.of_flat tQ,.refl hs⟩;simp [execOp,ho,resolve,invoke,builtin,e4,Builtin.clear_,ND,bw hu,jw]
   ·rename_i r e1
    rw [e1] at hm;obtain ⟨m',r1,e2,hmv,hm⟩:=hm.cons_inv;have:=hm.bZ;subst this;have e4:args.map cG = #[m']:=by apply Array.ext'; simpa using e2
    obtain ⟨lc,hl,rfl⟩:=hmv.OX;split at hf
    ·rename_i es hg
     simp at hf;obtain ⟨rfl,rfl⟩:=hf;obtain ⟨l2,kf,iB⟩:=hs.rel.map _ _ hg;rw [hl] at kf; simp at kf; subst kf;obtain ⟨bo,clock,nM,Xw⟩:=iB.mw;refine ⟨ρ,jw,.value jw,_,?_,rfl,VR.of_flat tQ,yW (C2:=#[]) (Cx:=clock) hs hg hl rfl⟩;simp [execOp,ho,resolve,invoke,builtin,e4,Builtin.clear_,ND,bw hu,MapKept.run_getObj_map nM,MapKept.run_setObj_map _ nM,jw]
    ·simp at hf
   ·simp at hf
  ·rename_i e hu
   split
   ·rename_i z hz
    cases hzc:(flat z&&Nat.ble 1 z.cells.size) with
    | false=>exact True.intro
    | true=>
     rw [aj];obtain ⟨OQ,Gq⟩:=Bool.and_eq_true_iff.1 hzc;have Gq:=dI Gq;intro ρ A B base w ev cG v hs he hf;have hm:=he.map;unfold aeQ at hf;split at hf
     ·rename_i n c e1
      simp at hf;obtain ⟨rfl,rfl⟩:=hf;rw [e1] at hm;obtain ⟨m',r1,e2,hmv,hm⟩:=hm.cons_inv;have:=hm.bZ;subst this;have e4:args.map cG = #[m']:=by apply Array.ext'; simpa using e2
      have:=hmv.fB;subst this;refine ⟨ρ,jw,.value jw,w,?_,rfl,VR.of_flat tQ,.refl hs⟩;simp [execOp,ho,resolve,invoke,builtin,e4,Builtin.clear_,ND,bw hu,jw]
     ·rename_i a n c e1
      rw [e1] at hm;obtain ⟨m',r1,e2,hmv,hm⟩:=hm.cons_inv;have:=hm.bZ;subst this;have e4:args.map cG = #[m']:=by apply Array.ext'; simpa using e2
      obtain ⟨DG,Fs,lc,a',c',hl,qw,Jq,mK,rfl⟩:=hmv.j7;cases hn:Nat.beq n 0 with
      | true=>
       rw [hn] at hf;simp at hf;obtain ⟨rfl,rfl⟩:=hf;have:=aW hn;subst this;refine ⟨ρ,jw,.value jw,w,?_,rfl,VR.of_flat tQ,.refl hs⟩;simp [execOp,ho,resolve,invoke,builtin,e4,Builtin.clear_,ND,bw hu,jw]
      | false=>
       rw [hn,aF] at hf;have hn0:=Nat.ne_of_beq_eq_false hn;obtain ⟨B',eK,hf⟩:=cC.1 hf;simp at hf;obtain ⟨rfl,rfl⟩:=hf;obtain ⟨w',h5,h6⟩:=Cv (P:=P) hs eK hl ((H8 OQ).repeat n);have:=Jq (by omega);subst this;have e5:Builtin.zeroCells z.cells n=⟨fe z.cells.toList n⟩:=Th z.cells n Gq;refine ⟨ρ,jw,.value jw,w',?_,rfl,VR.of_flat tQ,h6⟩;obtain ⟨m,rfl⟩:=Nat.exists_eq_succ_of_ne_zero hn0;simp [execOp,ho,resolve,invoke,builtin,e4,Builtin.clear_,ND,bw hu,Q5 hz,e5,h5,jw]
     ·simp at hf
   ·trivial
  ·trivial
 ·trivial
theorem ao9 {argTypes:Array TypeId} {args:Array Operand} (ho:o.op = .call ⟨.builtin .len,args,argTypes⟩):fS P o (aaR P argTypes.toList args.toList):=by
 unfold aaR;split
 ·rename_i t et
  have yU:argTypes[0]? = some t:=by rw [<- Array.getElem?_toList,et]; rfl
  split
  ·rename_i e hu; exact amv ho yU hu
  ·rename_i hu; exact ajT ho yU hu
  ·rename_i kt et' hu
   intro ρ A base w ev cG v hs he hf;have hm:=he.map;unfold ahf at hf;split at hf
   ·rename_i e1
    rw [e1] at hm;obtain ⟨y,ys,e2,h1,h2⟩:=hm.cons_inv;have:=h2.bZ;subst this;simp at hf; subst hf;have:=h1.Fu;subst this;refine ⟨_,VR.of_flat rfl,?_⟩;have e3:(args.map cG)[0]? = some (.map none):=by rw [mL,e2]; rfl
    simp [execOp,ho,resolve,invoke,builtin,Builtin.len_,yU,e3,bw hu,goInt]
   ·rename_i r e1
    rw [e1] at hm;obtain ⟨y,ys,e2,h1,h2⟩:=hm.cons_inv;have:=h2.bZ;subst this;obtain ⟨lc,hl,rfl⟩:=h1.OX;split at hf
    ·rename_i es hg
     simp at hf; subst hf;obtain ⟨l2,kf,iB⟩:=hs.map _ _ hg;rw [hl] at kf; simp at kf; subst kf;obtain ⟨bo,clock,nM,Xw⟩:=iB.mw;refine ⟨_,VR.of_flat rfl,?_⟩;have e3:(args.map cG)[0]? = some (.map (some lc.cb)):=by rw [mL,e2]; rfl
     have dK:bo.size=es.length:=by rw [<- Array.length_toList,Xw.length]
     simp [execOp,ho,resolve,invoke,builtin,Builtin.len_,yU,e3,bw hu,goInt,MapKept.run_getObj_map nM,dK]
    ·simp at hf
   ·simp at hf
  ·trivial
 ·trivial
end
end Go.aq
end
section
namespace Go.aq
open Go
section
variable {P:Program} {o:Oper}
theorem afT {l:List UInt8} : ∀ {cs:List Value},H0 cs=some l->cs=jM l:=by
 intro cs
 induction cs generalizing l with
 | nil=>intro h; simp [H0] at h; subst h; rfl
 | cons c cs ih=>
  intro h;cases c with
  | int k n=>
   cases k <;> cases n <;> simp only [H0] at h <;> try (simp at h; done)
   rename_i m;cases hb:Nat.blt m 256 with
   | false=>rw [hb] at h; simp at h
   | true=>
    rw [hb,aj] at h;obtain ⟨r,hr,rfl⟩:=cC.1 h;rw [bO] at hb;rw [ih hr];simp only [jM,List.map_cons,List.cons.injEq,and_true];have:(UInt8.ofNat m).toNat=m:=by simp; omega
    rw [this];rfl
  | _=>simp [H0] at h
theorem ad3 {ρ:Ren} (l:List UInt8):dk ρ (jM l) (jM l):=by
 induction l with
 | nil=>exact .nil
 | cons x l ih=>exact .cons (by simp [VR]) ih
theorem OY:∀ (l:List UInt8),tM (jM l)=true
 | []=>rfl
 | x::l=>by show (true&&tM (jM l))=true; rw [OY l]; rfl
theorem abG {e:TypeId} (h:isByte P e=true):P.underlying e=some (.int .u8):=by
 unfold isByte at h;split at h
 ·rename_i h'; exact h'
 ·simp at h
theorem aag {ρ:Ren} {A:St} {base:Nat} {w:World} {cs bV:List Value} {c:Array Value} {n aQ f:Nat} {fr:Nat×Nat} (T:TypeId) (Xt:n=1) (hs:ra ρ A base w) (hc:dk ρ cs bV) (h1:∀ v∈cs,scalar v=true)
  (anC:∀ (j:Nat) (v:Value),bV[j]? = some v->c[j]? = some v) (dK:cs.length<=c.size) (hfr:c.size<=fr.1) :
  jG base ρ A w (ρ.set A.next ⟨w.heap.size,0,c.size,n⟩) (A.grow aQ f cs n) (w.alloc (.cells c T fr)):=by
 refine Gp (o:=.row cs n true (some (aQ,f))) hs (fun x=>Ku _ _ _ _ _ _) (fun g x h=>?_) (fun g f' h=>?_) (by simp [St.grow]) (by simp [St.grow]) (fun x hx _=>by rw [Ku,ak (by omega)]) rfl ?_
 ·rw [vV]; split
  ·rename_i e; subst e; simp [h]
  ·exact h
 ·simp [cw.kC] at h; rw [vV,h.1]; simp
 ·refine ⟨fun i v hi=>?_,fun h=>by simp at h,fun _=>hs.size,fun _ j hj=>?_,by simpa using dK,fun _ h=>by simp at h,rfl,by simp,fun _ h=>absurd Xt h⟩
  ·obtain ⟨v',h2,h3⟩:=hc.get hi
   refine ⟨v',?_,h3.mono (hs.Ml _),h1 v (fR hi)⟩;rw [bp,World.cell?_alloc_mark];exact anC i v' h2
  ·simp only at hj ⊢
   rw [World.cell?_alloc_mark];refine ⟨?_,?_⟩
   ·rw [Array.getElem?_eq_getElem (by omega)]
    rfl
   ·have:(w.alloc (.cells c T fr)).heap[w.heap.size]? = some (.cells c T fr):=by
     show (w.heap.push (.cells c T fr))[w.heap.size]? = _;simp
    simp only [World.frozen?,this];have xc : ¬ (fr.1<=j):=by omega
    simp [xc]
theorem Xx {ρ:Ren} {A:St} {base:Nat} {w:World} {src dst e:TypeId} {x x' v:Value} (hs:Rel ρ A.get A.members base w) (h1:P.underlying src=some (.slice e)) (h2:P.underlying dst=some .string) (he:P.underlying e=some (.int .u8))
  (hx:VR ρ x x') (h:Gl A [x] = some v):VR ρ v v/\(convert src dst x').run P w = .ok v w:=by
 unfold Gl at h;split at h
 ·rename_i n c e1
  simp at e1; subst e1;simp at h; subst h;have:=hx.fB;subst this;refine ⟨VR.of_flat rfl,?_⟩;rw [run_convert_bytes_string w src dst e none n c h1 he h2];rfl
 ·rename_i a n c e1
  simp at e1; subst e1;obtain ⟨l,hl,rfl⟩:=cC.1 h;obtain ⟨cs,Jp,hb⟩:=cI.1 hl;have:=afT hb;subst this;obtain ⟨DG,Fs,lc,a',c',jU,qw,Jq,mK,rfl⟩:=hx.j7;obtain ⟨bV,q1,q2,q3,q4⟩:=uJ (P:=P) hs Jp jU;have anH:bV=jM l:=q1.nF (OY l);subst anH;have hlen:l.length=n:=by simpa [jM] using q2
  refine ⟨VR.of_flat rfl,?_⟩;rw [run_convert_bytes_string w src dst e (some a') n c' h1 he h2];have DJ:(loadCells a' n).run P w = .ok (jM l).toArray w:=by
   by_cases hc:c' = 0
   ·have hn0:n=0:=by omega
    subst hn0;have:l = []:=List.eq_nil_of_length_eq_zero hlen;subst this;exact run_loadCells_list w a' [] (by simp)
   ·rw [Jq hc]; exact q4
  have sS:jM l=(l.map (fun b=>(b.toNat:Int))).map (Value.int .u8):=by simp [jM]
  rw [sS] at DJ;rw [run_bytesToString w a' n c' _ DJ,foldl_push_byteCells];have he0:ByteArray.empty.data = #[]:=rfl;rw [he0];simp
 ·simp at h
theorem Xy {ρ:Ren} {A B:St} {base:Nat} {w:World} {src dst e:TypeId} {x x' v:Value} (hs:ra ρ A base w) (h1:P.underlying src=some .string) (h2:P.underlying dst=some (.slice e)) (he:P.underlying e=some (.int .u8))
  (hx:VR ρ x x') (h:Mi A [x] = some (v,B)):∃ aJ v' w',(convert src dst x').run P w = .ok v' w'/\VR aJ v v'/\jG base ρ A w aJ B w':=by
 unfold Mi at h;split at h
 ·rename_i s e1
  simp at e1; subst e1;simp at h;obtain ⟨rfl,rfl⟩:=h;have:=hx.ob;subst this;have hr:=run_bytes_of_string (P:=P) w src dst e s h1 h2 he;have hge:=grownCap_ge w s.size 0 e;have hds:s.data.size=s.size:=rfl;have Mn:(bytesRow s (grownCap w s.size 0 e)).size=grownCap w s.size 0 e:=by
   unfold bytesRow;simp [hds];omega
  have hdr:=jG.drew (w:=w) hs;have vU:=aag (w:=w.drew) (n:=1) (aQ:=A.next) (f:=0) (c:=bytesRow s (grownCap w s.size 0 e)) (fr:=((bytesRow s (grownCap w s.size 0 e)).size,(bytesRow s (grownCap w s.size 0 e)).size+1)) e rfl hdr.gX
   (ad3 s.data.toList) (fun v hv=>by
    obtain ⟨b,_,rfl⟩:=List.mem_map.1 hv;rfl) (fun j v hj=>by
    unfold bytesRow;have bh:j < s.data.size:=by
     have:=(cP.1 hj).1;simpa [jM] using this
    rw [Array.getElem?_append_left (by simpa using bh)];simpa [jM] using hj) (by rw [Mn]; simp [jM,hds]; exact hge) (aH _)
  refine ⟨_,_,_,hr,?_,hdr.trans vU⟩;simp only [VR];refine ⟨trivial,aH _,_,⟨w.heap.size,0,none⟩,grownCap w s.size 0 e,Ren.mi _ _ _,hge,fun _=>rfl,?_,rfl⟩;rw [Mn];show 0+0+grownCap w s.size 0 e * 1<=grownCap w s.size 0 e;omega
 ·simp at h
theorem anI {src dst:TypeId} {x:Operand} (ho:o.op = .convert src dst x):fS P o (C1 P src dst x):=by
 unfold C1;split
 ·rename_i e h1 h2
  cases hb:isByte P e with
  | false=>exact True.intro
  | true=>
   rw [aj];intro ρ A base w ev cG v hs he hf;obtain ⟨h3,h4⟩:=Xx hs h1 h2 (abG hb) (he x (by simp)) hf;exact ⟨v,h3,by simp [execOp,ho,h4]⟩
 ·rename_i e h1 h2
  cases hb:isByte P e with
  | false=>exact True.intro
  | true=>
   rw [aj];intro ρ A B base w ev cG v hs he hf;obtain ⟨aJ,v',w',h3,h4,h5⟩:=Xy hs h1 h2 (abG hb) (he x (by simp)) hf;exact ⟨aJ,v',.value v',w',by simp [execOp,ho,h3],rfl,h4,h5⟩
 ·rename_i h1 h2
  intro ρ ev cG v he hf;simp only [List.map] at hf;unfold abp at hf;split at hf
  ·rename_i s e
   simp at e hf;subst hf;have hx:=he x (by simp);rw [e] at hx;refine ⟨_,VR.of_flat rfl,fun w=>?_⟩;simp [execOp,ho,convert,bw h1,bw h2,hx.ob]
  ·simp at hf
 ·exact ahj ho
theorem ad4 {ρ:Ren} {A:St} {base:Nat} {w:World} {r:Nat} {s:List UInt8} {pos Vc:Nat} {l:Loc} (hs:ra ρ A base w) (hg:A.get r=some (.iter s pos)) (jU:ρ r=some l) :
  jG base ρ A w ρ (A.put r (.iter s Vc)) { w with heap:=w.heap.setIfInBounds l.cb (.stringIter ⟨⟨s⟩⟩ Vc) }:=by
 obtain ⟨l',qb,ok⟩:=hs.rel.iter _ _ _ hg;rw [jU] at qb; simp at qb; subst qb;obtain ⟨NF,nM⟩:=ok.mw;have bh:l.cb < w.heap.size:=(rA.1 nM).1;have Jt:cw.dX (.iter s pos)=true:=rfl;have hold:∀ k,k≠l.cb->(w.heap.setIfInBounds l.cb (.stringIter ⟨⟨s⟩⟩ Vc))[k]? = w.heap[k]?:=fun k hk=>by
  rw [Array.getElem?_setIfInBounds_ne (Ne.symm hk)]
 have dK:(w.heap.setIfInBounds l.cb (.stringIter ⟨⟨s⟩⟩ Vc)).size=w.heap.size:=by simp
 have hB:∀ x,(A.put r (.iter s Vc)).get x=if x=r then some (.iter s Vc) else A.get x:=fun x=>St.b5 _ _ _ _;have hmd:∀ o:cw,o.dX=true->o≠.dead:=by intro o h e; subst e; simp [cw.dX] at h
 have Ks:∀ x o l2,x≠r->A.get x=some o->o≠.dead->ρ x=some l2->Jo ρ base w l2 o->l2.cb≠l.cb:=by
  intro x o l2 hx iQ hd tK iB e;cases hmo:o.dX with
  | true=>
   obtain ⟨_,_,_,_,e1,_⟩:=hs.rel.apart x r o _ l2 l hx iQ hg hmo Jt tK jU e;simp [cw.kC] at e1
  | false=>
   cases o with
   | row cs bH own bQ=>
    have iB:oV ρ base w l2 cs bH own bQ:=iB;have h1:own=false:=hmo;have:=iB.se h1;have:=ok.dX;omega
   | map _=>simp [cw.dX] at hmo
   | iter _ _=>simp [cw.dX] at hmo
   | dead=>exact hd rfl
   | loop _ _ _ _ _ _=>simp [cw.dX] at hmo
 refine ⟨⟨.Fq ?_ ?_ ?_,fun b l2 h=>hs.jx b l2 h,by simpa using hs.size,hs.H5⟩,fun _ _=>rfl,⟨rfl,rfl,rfl,Nat.le_of_eq dK.symm,fun k hk hn=>hold k (fun e=>hn ⟨r,_,l,hg,Jt,jU,e.symm⟩)⟩,aH _,Nat.min_le_left _ _,fun x hx hxl=>?_,?_⟩
 ·intro x o iQ hd
  rw [hB] at iQ;split at iQ
  ·rename_i e; subst e; simp at iQ; subst iQ
   refine ⟨l,jU,ok.dX,NF,?_⟩;show (w.heap.setIfInBounds l.cb (.stringIter ⟨⟨s⟩⟩ Vc))[l.cb]? = _;rw [Array.getElem?_setIfInBounds_self_of_lt bh]
  ·rename_i e
   obtain ⟨l2,tK,iB⟩:=hs.rel.obj iQ hd;exact ⟨l2,tK,iB.eY (Ren.le_refl _) (hold _ (Ks x o l2 e iQ hd tK iB)) (Nat.le_of_eq dK.symm)⟩
 ·have Oz:∀ x o,(A.put r (.iter s Vc)).get x=some o->o.dX=true->∃ o',A.get x=some o'/\o'.dX=true/\o'.kC=o.kC:=by
   intro x o hx hm;rw [hB] at hx;split at hx
   ·rename_i e; subst e; simp at hx; subst hx; exact ⟨_,hg,rfl,rfl⟩
   ·exact ⟨o,hx,hm,rfl⟩
  intro b1 b2 o1 o2 l1 l2 cH g1 g2 m1 m2 r1 r2 Tf;obtain ⟨p1,q1,n1,k1⟩:=Oz _ _ g1 m1;obtain ⟨p2,q2,n2,k2⟩:=Oz _ _ g2 m2;rw [<- k1,<- k2];exact hs.rel.apart b1 b2 p1 p2 l1 l2 cH q1 q2 n1 n2 r1 r2 Tf
 ·intro x o aQ f iQ hk
  rw [hB] at iQ;split at iQ
  ·rename_i e; subst e; simp at iQ; subst iQ; simp [cw.kC] at hk
  ·exact hs.rel.bC x o aQ f iQ hk
 ·rw [St.abr] at hxl
  have:Nat.min A.low r<=r:=Nat.min_le_right _ _;rw [hB,ak (by omega)]
 ·rintro k hk ⟨x,o,l2,iQ,hm,tK,rfl⟩
  rw [hB] at iQ;split at iQ
  ·rename_i e; subst e
   rw [jU] at tK; simp at tK; subst tK;exact ⟨x,_,l,hg,Jt,jU,rfl⟩
  ·exact ⟨x,o,l2,iQ,hm,tK,rfl⟩
theorem amA {t:TypeId} {x:Operand} (ho:o.op = .range t x):fS P o (Xo P t x):=by
 unfold Xo;split
 ·rename_i hu
  intro ρ ev cG obj mk he hf;simp only [List.map] at hf;unfold alp at hf;split at hf
  ·rename_i s e
   simp at e;have hx:=he x (by simp);rw [e] at hx;have hx:=hx.ob;simp at hf;obtain ⟨rfl,rfl⟩:=hf;refine ⟨.stringIter s 0,fun n=>.pointer (some ⟨n,0,none⟩),?_,fun w=>?_,fun aJ n cb h=>VR.xa (a:=⟨n,0,none⟩) rfl h⟩
   ·show Obj.stringIter s 0 = .stringIter ⟨⟨s.data.toList⟩⟩ 0
    rfl
   ·simp [execOp,ho,Instr.range,bw hu,hx]
  ·simp at hf
 ·trivial
theorem Kx {w:World} {r:Nat} {s:ByteArray} {pos:Nat} (hb:w.heap[r]? = some (.stringIter s pos)):(getObj r).run P w = .ok (.stringIter s pos) w:=by
 simp [getObj,Sem.run,hb]
theorem Xz {w:World} {r:Nat} {s:ByteArray} {pos:Nat} (o:Obj) (hb:w.heap[r]? = some (.stringIter s pos)):(setObj r o).run P w = .ok () { w with heap:=w.heap.setIfInBounds r o }:=by
 simp [setObj,Sem.run,hb]
theorem anJ {it:Operand} {b:Bool} (ho:o.op = .next it b):fS P o (cond b (.act ajM [it]) .bad):=by
 cases b with
 | false=>trivial
 | true=>
  rw [aj];intro ρ A B base w ev cG v hs he hf;simp only [List.map] at hf;unfold ajM at hf;split at hf
  ·rename_i a e
   simp at e;have hx:=he it (by simp);rw [e] at hx;obtain ⟨DG,l,hl,hx⟩:=hx.gG;cases ha0:Nat.beq a.off 0 with
   | false=>rw [ha0] at hf; simp at hf
   | true=>
    rw [ha0,aj] at hf;have ha0:=aW ha0;split at hf
    ·rename_i s pos hg
     obtain ⟨l2,kf,ok⟩:=hs.rel.iter _ _ _ hg;rw [hl] at kf; simp at kf; subst kf;obtain ⟨NF,nM⟩:=ok.mw;have dK:(⟨⟨s⟩⟩:ByteArray).size=s.length:=rfl;rw [NF,ha0] at hx;cases bh:Nat.blt pos s.length with
     | true=>
      rw [bh,aj] at hf;rw [bO] at bh;split at hf;rename_i c width aq9;simp at hf;obtain ⟨rfl,rfl⟩:=hf;refine ⟨ρ,.tuple #[.bool true,.int .i64 (Int.ofNat pos),.int .i32 c],.value _,_,?_,rfl,VR.of_flat rfl,ad4 (Vc:=pos+width) hs hg hl⟩;simp [execOp,ho,Instr.next,hx,Kx nM,dK,bh,aq9,Xz _ nM,goInt]
     | false=>
      rw [bh,aF] at hf;have hge : ¬ pos < s.length:=fun h=>by rw [<- bO] at h; rw [h] at bh; simp at bh
      simp at hf;obtain ⟨rfl,rfl⟩:=hf;refine ⟨ρ,.tuple #[.bool false],.value _,w,?_,rfl,VR.of_flat rfl,.refl hs⟩;simp [execOp,ho,Instr.next,hx,Kx nM,dK,hge]
    ·simp at hf
  ·simp at hf
theorem pj (P:Program) (o:Oper):fS P o (compile P o.op):=by
 cases ho:o.op with
 | move x=>exact anw ho
 | assign x=>exact ajP ho
 | pick c a b=>exact anx ho
 | alloc t=>exact amp ho
 | box t x=>exact ao5 ho
 | build t parts=>exact amu ho
 | buildSlice t len parts=>exact abz ho
 | load t a=>exact anz ho
 | store t a x=>exact amq ho
 | nilCheck x=>exact afN ho
 | binOp op t x y yt=>exact ao6 ho
 | unOp op t x=>exact aqr ho
 | convert src dst x=>exact anI ho
 | makeFunc fn first cap=>exact afO ho
 | fieldAddr s x f=>exact adZ ho
 | field t x f=>exact amr ho
 | indexAddr t x ix=>exact ad0 ho
 | index t x ix=>exact ams ho
 | extract t i=>exact ahk ho
 | slice t x lo hi mx=>exact ok_slice ho
 | makeSlice t l c=>exact ad2 ho
 | makeInterface t x=>exact amw ho
 | range t x=>exact amA ho
 | next it b=>exact anJ ho
 | makeMap t r=>exact aho ho
 | lookup t x ix ok=>exact ajV ho
 | mapUpdate t m k x=>exact R7 (.inl ho)
 | insert t m k x=>exact R7 (.inr ho)
 | call c=>
  show fS P o (yP P c);unfold yP;split
  ·rename_i f hf; exact anB ho hf
  ·rename_i b hb
   obtain ⟨callee,args,argTypes⟩:=c;simp only at hb;subst hb;unfold H4;split
   ·exact ao9 ho
   ·exact ao7 ho
   ·exact ao8 ho
   ·exact ajU ho
   ·exact anG ho
   ·exact ajW ho
   ·exact amz ho
   ·trivial
  ·trivial
 | _=>trivial
end
end Go.aq
end
section
namespace Go.aq
noncomputable section
open Go
abbrev Fr (r:Option Nat):Fence:={ Fence.wide with round:=r }
def Ren.res (ρ:Ren) (n:Nat):Ren:=fun b=>if b < n then ρ b else none
theorem Ren.aaU {ρ:Ren} {n b:Nat} (h:b < n):ρ.res n b=ρ b:=by unfold Ren.res; rw [aI h]
theorem Td.under {ρ:Ren} {n:Nat} {fn yI:Fn} (hu:afL n fn=true) (h:Td ρ fn yI):Td (ρ.res n) fn yI:=by
 cases fn with
 | yield r=>
  obtain ⟨l,h1,h2⟩:=h;simp only [afL] at hu;rw [bO] at hu;exact ⟨l,by rw [Ren.aaU hu]; exact h1,h2⟩
 | _=>exact h
mutual
theorem VR.under {ρ:Ren} {n:Nat} : ∀ {v v' : Value},aq.under n v=true->VR ρ v v'->VR (ρ.res n) v v'
 | .bool b,v,_,hv=>by simpa [VR] using hv
 | .int k n,v,_,hv=>by simpa [VR] using hv
 | .float k x,v,_,hv=>by simpa [VR] using hv
 | .complex k x y,v,_,hv=>by simpa [VR] using hv
 | .string s,v,_,hv=>by simpa [VR] using hv
 | .pointer none,v,_,hv=>by simpa [VR] using hv
 | .pointer (some a),v,hu,hv=>by
  simp only [aq.under] at hu;rw [bO] at hu;simp only [VR] at hv ⊢;rw [Ren.aaU hu];exact hv
 | .slice none n c,v,_,hv=>by simpa [VR] using hv
 | .slice (some a) n c,v,hu,hv=>by
  simp only [aq.under] at hu;rw [bO] at hu;simp only [VR] at hv ⊢;rw [Ren.aaU hu];exact hv
 | .map none,v,_,hv=>by simpa [VR] using hv
 | .map (some r),v,hu,hv=>by
  simp only [aq.under] at hu;rw [bO] at hu;simp only [VR] at hv ⊢;rw [Ren.aaU hu];exact hv
 | .chan _,_,_,_=>by simp [VR]
 | .func fn f c,v,hu,hv=>by
  simp only [aq.under,au] at hu;simp only [VR] at hv ⊢;obtain ⟨f',c',h2,h3,yI,h4,h5⟩:=hv;exact ⟨f',c',qa.under hu.1.2 h2,qa.under hu.2 h3,yI,Td.under hu.1.1 h4,h5⟩
 | .nilFunc,v,_,hv=>by simpa [VR] using hv
 | .iface t x,v,hu,hv=>by
  simp only [aq.under] at hu;simp only [VR] at hv ⊢;obtain ⟨x',h2,h3⟩:=hv;exact ⟨x',VR.under hu h2,h3⟩
 | .nilIface,v,_,hv=>by simpa [VR] using hv
 | .agg cs,v,hu,hv=>by
  simp only [aq.under] at hu;simp only [VR] at hv ⊢;obtain ⟨x',h2,h3⟩:=hv;exact ⟨x',qa.under hu h2,h3⟩
 | .tuple cs,v,hu,hv=>by
  simp only [aq.under] at hu;simp only [VR] at hv ⊢;obtain ⟨x',h2,h3⟩:=hv;exact ⟨x',qa.under hu h2,h3⟩
theorem qa.under {ρ:Ren} {n:Nat} : ∀ {v v' : Array Value},aq.Q2 n v=true->qa ρ v v'->qa (ρ.res n) v v'
 | ⟨l⟩,a,hu,hv=>by simp only [aq.Q2] at hu; simp only [qa] at hv ⊢; exact dk.under hu hv
theorem dk.under {ρ:Ren} {n:Nat} : ∀ {v v' : List Value},aq.aaS n v=true->dk ρ v v'->dk (ρ.res n) v v'
 | [],l,_,hv=>by simpa [dk] using hv
 | x::xs,l,hu,hv=>by
  simp only [aq.aaS,au] at hu;simp only [dk] at hv ⊢;obtain ⟨y,ys,e,h1,h2⟩:=hv;exact ⟨y,ys,e,VR.under hu.1 h1,dk.under hu.2 h2⟩
end
theorem Mq {acc:List Nat} {j:Nat} : ∀ {es:List Edge},Nat.testBit (rB acc es) j=true->∃ e∈es,binds e=true/\(j=e.on\/ox acc e.on j=true)
 | [],h=>by simp [rB] at h
 | e::es,h=>by
  simp only [rB] at h;cases hb:binds e with
  | false=>
   rw [hb,aF] at h;obtain ⟨e',h1,h2⟩:=Mq h;exact ⟨e',by simp [h1],h2⟩
  | true=>
   rw [hb,aj] at h;have e1:∀ a b:Nat,Nat.lor a b=a ||| b:=fun _ _=>rfl;have e2:Nat.shiftLeft 1 e.on=1 <<< e.on:=rfl;rw [e1,e1,e2,Nat.testBit_or,Nat.testBit_or,qe,qe] at h;rcases h with (h | h) | h
   ·refine ⟨e,by simp,hb,.inl ?_⟩
    rw [Nat.one_shiftLeft,Nat.testBit_two_pow] at h;exact (QZ h).symm
   ·exact ⟨e,by simp,hb,.inr h⟩
   ·obtain ⟨e',h1,h2⟩:=Mq h
    exact ⟨e',by simp [h1],h2⟩
theorem Ze:∀ (os:List Oper) (acc:List Nat),∃ r,dD acc os=acc++r/\r.length=os.length
 | [],acc=>⟨[],by simp [dD]⟩
 | o::os,acc=>by
  obtain ⟨r,h1,h2⟩:=Ze os (acc++[rB acc o.after.toList]);exact ⟨rB acc o.after.toList::r,by simp [dD,h1],by simp [h2]⟩
theorem aeT:∀ (os:List Oper) (acc:List Nat) (i j:Nat) (o:Oper),os[i]? = some o->(∀ e∈o.after.toList,binds e=true->e.on < acc.length+i)->
  ox (dD acc os) (acc.length+i) j=true->∃ e∈o.after.toList,binds e=true/\(j=e.on\/ox (dD acc os) e.on j=true)
 | [],acc,i,j,o,ho,_,_=>by simp at ho
 | o0::os,acc,0,j,o,ho,hf,h=>by
  simp at ho;subst ho;obtain ⟨r,h1,_⟩:=Ze os (acc++[rB acc o0.after.toList]);have e0:dD acc (o0::os)=acc++[rB acc o0.after.toList]++r:=by simp only [dD]; exact h1
  rw [e0] at h ⊢;have e1:(acc++[rB acc o0.after.toList]++r).getD (acc.length+0) 0=rB acc o0.after.toList:=by simp [List.getD]
  unfold ox at h;rw [e1] at h;obtain ⟨e,h2,h3,h4⟩:=Mq h;refine ⟨e,h2,h3,h4.imp id fun h5=>?_⟩;have bh:=hf e h2 h3;unfold ox at h5 ⊢;have:(acc++[rB acc o0.after.toList]++r).getD e.on 0=acc.getD e.on 0:=by
   simp only [List.getD,List.append_assoc];rw [oM (by simpa using bh)]
  rw [this];exact h5
 | o0::os,acc,i+1,j,o,ho,hf,h=>by
  have hlen:(acc++[rB acc o0.after.toList]).length+i=acc.length+(i+1):=by simp; omega
  have:=aeT os (acc++[rB acc o0.after.toList]) i j o (by simpa using ho) (by rw [hlen]; exact hf) (by rw [hlen]; exact h);simpa only [dD] using this
structure pk (P:Program) (all:List Oper):Prop where
 back:∀ i o,all[i]? = some o->∀ e∈o.after.toList,binds e=true->e.on < i
 apart:∀ i j x y,all[i]? = some y->all[j]? = some x->j < i->DE P all x y=true->ox (dD [] all) i j=true
theorem R8 {P:Program} {all:List Oper} {b:List Nat} {i:Nat} {y:Oper} : ∀ (xs:List Oper) (k:Nat),Ko P all b i y xs k=true->∀ (j:Nat) (x:Oper),xs[j]? = some x->k+j < i->DE P all x y=true->ox b i (k+j)=true
 | [],k,_,j,x,hx,_,_=>by simp at hx
 | x0::xs,k,h,0,x,hx,bh,hc=>by
  simp at hx;subst hx;simp only [Ko,au,qe,jT] at h;rcases h.1 with (h1 | h1) | h1
  ·have:=dI h1; omega
  ·rw [hc] at h1; simp at h1
  ·exact h1
 | x0::xs,k,h,j+1,x,hx,bh,hc=>by
  simp only [Ko,au] at h;have:=R8 xs (k+1) h.2 j x (by simpa using hx) (by omega) hc;rwa [show k+1+j=k+(j+1) by omega] at this
theorem xd {P:Program} {all:List Oper} {b:List Nat} : ∀ (os:List Oper) (k:Nat),vS P all b os k=true->∀ (i:Nat) (o:Oper),os[i]? = some o->
  (∀ e∈o.after.toList,binds e=true->e.on < k+i)/\Ko P all b (k+i) o all 0=true
 | [],k,_,i,o,ho=>by simp at ho
 | o0::os,k,h,0,o,ho=>by
  simp at ho;subst ho;simp only [vS,au,eM] at h;refine ⟨fun e he hb=>?_,h.1.2⟩;have:=h.1.1 e he;rw [hb] at this;simp at this;exact this
 | o0::os,k,h,i+1,o,ho=>by
  simp only [vS,au] at h;have:=xd os (k+1) h.2 i o (by simpa using ho);rwa [show k+1+i=k+(i+1) by omega] at this
theorem DK {P:Program} {all:List Oper} (h:Kq P all=true):pk P all:=by
 unfold Kq at h;refine ⟨fun i o ho=>?_,fun i j x y hy hx bh hc=>?_⟩
 ·have:=(xd all 0 h i o ho).1
  simpa using this
 ·have:=R8 all 0 (xd all 0 h i y hy).2 j x hx (by simpa using bh) hc
  simpa using this
def oP (all:List Oper) (S:Nat->Bool):Prop:=∀ i j,S i=true->ox (dD [] all) i j=true->S j=true
def sH (all:List Oper) (S:Nat->Bool) (i:Nat):Prop:=∀ o,all[i]? = some o->∀ e∈o.after.toList,binds e=true->S e.on=true
theorem oP.ready {P:Program} {all:List Oper} (hf:pk P all) {S:Nat->Bool} (hc:oP all S) {i:Nat} {o:Oper} (ho:all[i]? = some o) (hr:sH all S i):∀ j,ox (dD [] all) i j=true->S j=true:=by
 intro j hj;obtain ⟨e,h1,h2,h3⟩:=aeT all [] i j o ho (by simpa using hf.back i o ho) (by simpa using hj);have hs:=hr o ho e h1 h2;rcases h3 with rfl | h3
 ·exact hs
 ·exact hc _ _ hs h3
def cF (S:Nat->Bool) (i:Nat):Nat->Bool:=fun j=>S j||Nat.beq j i
theorem oP.insert {P:Program} {all:List Oper} (hf:pk P all) {S:Nat->Bool} (hc:oP all S) {i:Nat} {o:Oper} (ho:all[i]? = some o) (hr:sH all S i):oP all (cF S i):=by
 intro a b h1 h2;simp only [cF,qe] at h1 ⊢;rcases h1 with h1 | h1
 ·exact .inl (hc a b h1 h2)
 ·have:=aW h1
  subst this;exact .inl (hc.ready hf ho hr b h2)
theorem aeU (e:Edge):Region.binds .any e=binds e:=by
 unfold Region.binds binds;cases e.ground <;> rfl
theorem Ia {all:List Oper} {bC:Array Bool} {i:Nat} (h:i∈Region.ready .any ⟨all⟩ bC):i < all.length/\bC.getD i true=false/\sH all (fun j=>bC.getD j false) i:=by
 unfold Region.ready at h;rw [List.mem_filter,L5] at h;obtain ⟨h1,h2⟩:=h;simp only [au,jT] at h2;refine ⟨by simpa using h1,h2.1,fun o ho e he hb=>?_⟩;have e1:(⟨all⟩:Array Oper)[i]? = some o:=by simpa using ho
 rw [e1] at h2;simp only [Option.map_some,db] at h2;have:=Array.all_eq_true'.1 h2.2 e (by simpa using he);rw [aeU,hb] at this;simpa using this
theorem abH {P:Program} {all:List Oper} (hf:pk P all) {bC:Array Bool} (hl:bC.size=all.length) (h:Region.ready .any ⟨all⟩ bC = []):∀ i,i < all.length->bC.getD i false=true:=by
 intro i
 induction i using Nat.strongRecOn with
 | _ i ih=>
  intro hi;cases hc:bC.getD i false with
  | true=>rfl
  | false=>
   exfalso;obtain ⟨o,ho⟩:∃ o,all[i]? = some o:=⟨_,cM hi⟩
   have hm:i∈Region.ready .any ⟨all⟩ bC:=by
    unfold Region.ready;rw [List.mem_filter,L5];refine ⟨by simpa using hi,?_⟩;have e1:(⟨all⟩:Array Oper)[i]? = some o:=by simpa using ho
    rw [e1];have e2:bC.getD i true=false:=by
     have:i < bC.size:=by omega
     simpa [fQ,this] using hc
    simp only [e2,HY,wD,Option.map_some,db];rw [Array.all_eq_true'];intro e he;cases hb:binds e with
    | false=>rw [aeU,hb]; rfl
    | true=>
     have bh:=hf.back i o ho e (by simpa using he) hb;rw [ih e.on bh (by omega)];simp
   rw [h] at hm;simp at hm
theorem count_set:∀ (l:List Bool) (i:Nat),l[i]? = some false->((l.set i true).filter (!·)).length+1=(l.filter (!·)).length
 | [],i,h=>by simp at h
 | x::l,0,h=>by
  simp at h;subst h;simp
 | x::l,i+1,h=>by
  have:=count_set l i (by simpa using h);cases x <;> simp at this ⊢ <;> omega
theorem ahp {P:Program} {all:List Oper} {r:Option Nat} (hf:pk P all) {Q:Exit->Act->World->Prop} (I:(Nat->Bool)->Act->World->Prop) (hI:∀ S S' a w,(∀ i,i < all.length->S i=S' i)->I S a w->I S' a w)
  (step:∀ S a w i o,I S a w->oP all S->all[i]? = some o->S i=false->sH all S i->(∀ j,S j=true->j < all.length)->wpOpIn (Fr r) 0 P ⟨all⟩ Q i (I (cF S i)) a w)
  (fin:∀ S a w,(∀ i,i < all.length->S i=true)->I S a w->Q .normal a w) :
  ∀ (fuel:Nat) (bC:Array Bool) (a:Act) (w:World),bC.size=all.length->(bC.toList.filter (!·)).length=fuel->oP all (fun j=>bC.getD j false)->I (fun j=>bC.getD j false) a w->wpAnyIn (Fr r) 0 P .any ⟨all⟩ Q fuel bC a w
 | 0,bC,a,w,hs,hn,hc,h=>by
  have kh:∀ i,i < all.length->bC.getD i false=true:=by
   intro i hi;have:i < bC.size:=by omega
   cases hb:bC.getD i false with
   | true=>rfl
   | false=>
    exfalso;have hg:bC[i] = false:=by simpa [fQ,this] using hb
    have hm:bC[i]∈bC.toList.filter (!·):=by
     rw [List.mem_filter];exact ⟨by simp,by simp [hg]⟩
    rw [mW.1 hn] at hm;simp at hm
  refine ⟨?_,fin _ a w kh h⟩;cases hr:Region.ready .any ⟨all⟩ bC with
  | nil=>rfl
  | cons i r=>
   have:=Ia (all:=all) (bC:=bC) (i:=i) (by rw [hr]; simp);have h1:=kh i this.1;have h2:bC.getD i true=true:=by
    have bh:i < bC.size:=by omega
    simpa [fQ,bh] using h1
   rw [h2] at this;simp at this
 | fuel+1,bC,a,w,hs,hn,hc,h=>by
  refine ⟨fun hr=>fin _ a w (abH hf hs hr) h,fun i hi=>?_⟩;obtain ⟨bh,hl,sT⟩:=Ia hi;obtain ⟨o,ho⟩:∃ o,all[i]? = some o:=⟨_,cM bh⟩
  have OZ:i < bC.size:=by omega
  have oj:bC.getD i false=false:=by simpa [fQ,OZ] using hl
  have abI:∀ j,j < all.length->cF (fun j=>bC.getD j false) i j=(bC.setIfInBounds i true).getD j false:=by
   intro j hj;by_cases e:j=i
   ·subst e
    simp [cF,fQ,OZ]
   ·have:Nat.beq j i=false:=by
     cases hb:Nat.beq j i with
     | false=>rfl
     | true=>exact absurd (aW hb) e
    simp [cF,this,fQ,Array.getElem?_setIfInBounds_ne (Ne.symm e)]
  refine wpOpIn_mono (fun a' w' h'=>?_) (step _ a w i o h hc ho oj sT (fun j hj=>by
   rcases Nat.lt_or_ge j all.length with h1 | h1
   ·exact h1
   ·have:bC.getD j false=false:=by
     rw [fQ,Array.getElem?_eq_none (by omega)];rfl
    rw [this] at hj; simp at hj))
  refine ahp hf I hI step fin fuel _ a' w' (by simpa using hs) ?_ ?_ (hI _ _ a' w' abI h')
  ·rw [Array.toList_setIfInBounds]
   have:=count_set bC.toList i (by simpa [fQ,OZ] using oj);omega
  ·intro x y hx hy
   have hb:∀ z,(bC.setIfInBounds i true).getD z false=true↔cF (fun j=>bC.getD j false) i z=true:=by
    intro z;rcases Nat.lt_or_ge z all.length with h1 | h1
    ·rw [abI z h1]
    ·have e1:(bC.setIfInBounds i true).getD z false=false:=by
      rw [fQ,Array.getElem?_eq_none (by simp; omega)];rfl
     have e2:bC.getD z false=false:=by
      rw [fQ,Array.getElem?_eq_none (by omega)];rfl
     have e3:Nat.beq z i=false:=by
      cases hb:Nat.beq z i with
      | false=>rfl
      | true=>have:=aW hb; omega
     simp [cF,e1,e2,e3]
   rw [hb] at hx ⊢;exact hc.insert hf ho sT x y hx hy
theorem Fv {P:Program} {all:List Oper} (hf:pk P all) {Q:Exit->Act->World->Prop} (I:(Nat->Bool)->Act->World->Prop) (hI:∀ S S' a w,(∀ i,i < all.length->S i=S' i)->I S a w->I S' a w)
  (step:∀ S a w i o,I S a w->oP all S->all[i]? = some o->S i=false->sH all S i->(∀ j,S j=true->j < all.length)->wpOp P ⟨all⟩ Q i (I (cF S i)) a w)
  (fin:∀ S a w,(∀ i,i < all.length->S i=true)->I S a w->Q .normal a w) :
  ∀ (fuel:Nat) (bC:Array Bool) (a:Act) (w:World),bC.size=all.length->(bC.toList.filter (!·)).length=fuel->oP all (fun j=>bC.getD j false)->I (fun j=>bC.getD j false) a w->wpAny P .any ⟨all⟩ Q fuel bC a w
 | 0,bC,a,w,hs,hn,hc,h=>by
  have kh:∀ i,i < all.length->bC.getD i false=true:=by
   intro i hi;have:i < bC.size:=by omega
   cases hb:bC.getD i false with
   | true=>rfl
   | false=>
    exfalso;have hg:bC[i] = false:=by simpa [fQ,this] using hb
    have hm:bC[i]∈bC.toList.filter (!·):=by
     rw [List.mem_filter];exact ⟨by simp,by simp [hg]⟩
    rw [mW.1 hn] at hm;simp at hm
  refine ⟨?_,fin _ a w kh h⟩;cases hr:Region.ready .any ⟨all⟩ bC with
  | nil=>rfl
  | cons i r=>
   have:=Ia (all:=all) (bC:=bC) (i:=i) (by rw [hr]; simp);have h1:=kh i this.1;have h2:bC.getD i true=true:=by
    have bh:i < bC.size:=by omega
    simpa [fQ,bh] using h1
   rw [h2] at this;simp at this
 | fuel+1,bC,a,w,hs,hn,hc,h=>by
  refine ⟨fun hr=>fin _ a w (abH hf hs hr) h,fun i hi=>?_⟩;obtain ⟨bh,hl,sT⟩:=Ia hi;obtain ⟨o,ho⟩:∃ o,all[i]? = some o:=⟨_,cM bh⟩
  have OZ:i < bC.size:=by omega
  have oj:bC.getD i false=false:=by simpa [fQ,OZ] using hl
  have abI:∀ j,j < all.length->cF (fun j=>bC.getD j false) i j=(bC.setIfInBounds i true).getD j false:=by
   intro j hj;by_cases e:j=i
   ·subst e
    simp [cF,fQ,OZ]
   ·have:Nat.beq j i=false:=by
     cases hb:Nat.beq j i with
     | false=>rfl
     | true=>exact absurd (aW hb) e
    simp [cF,this,fQ,Array.getElem?_setIfInBounds_ne (Ne.symm e)]
  refine wpOp_mono (fun a' w' h'=>?_) (step _ a w i o h hc ho oj sT (fun j hj=>by
   rcases Nat.lt_or_ge j all.length with h1 | h1
   ·exact h1
   ·have:bC.getD j false=false:=by
     rw [fQ,Array.getElem?_eq_none (by omega)];rfl
    rw [this] at hj; simp at hj))
  refine Fv hf I hI step fin fuel _ a' w' (by simpa using hs) ?_ ?_ (hI _ _ a' w' abI h')
  ·rw [Array.toList_setIfInBounds]
   have:=count_set bC.toList i (by simpa [fQ,OZ] using oj);omega
  ·intro x y hx hy
   have hb:∀ z,(bC.setIfInBounds i true).getD z false=true↔cF (fun j=>bC.getD j false) i z=true:=by
    intro z;rcases Nat.lt_or_ge z all.length with h1 | h1
    ·rw [abI z h1]
    ·have e1:(bC.setIfInBounds i true).getD z false=false:=by
      rw [fQ,Array.getElem?_eq_none (by simp; omega)];rfl
     have e2:bC.getD z false=false:=by
      rw [fQ,Array.getElem?_eq_none (by omega)];rfl
     have e3:Nat.beq z i=false:=by
      cases hb:Nat.beq z i with
      | false=>rfl
      | true=>have:=aW hb; omega
     simp [cF,e1,e2,e3]
   rw [hb] at hx ⊢;exact hc.insert hf ho sT x y hx hy
def aqt (all:List Oper) (i:Nat):Option Tmp:=(all[i]?).bind (·.dst)
end
end Go.aq
end
section
namespace Go.aq
noncomputable section
open Go
def Quiet (A0:St) (R:List Rec):Prop:=∀ r∈R,r.nx=A0.next/\(r.did = .val\/∃ f vs,r.did = .read f vs)
def lS (R:List Rec) (S:Nat->Bool):Option Nat:=anu (R.filter fun r=>S r.i)
def Vd (A0:St) (R:List Rec) (S:Nat->Bool):St:=aqp A0 R (lS R S)
def writer (all:List Oper) (R:List Rec) (S:Nat->Bool) (x:Nat):Option Rec:=R.find? fun r=>S r.i&&(aqt all r.i==some x)
def valOf (all:List Oper) (t0:Tm) (R:List Rec) (S:Nat->Bool) (x:Nat):Value:=
 match writer all R S x with
 | some r=>r.v
 | none=>(t0.get x).getD undef
def ara (all:List Oper) (A0:St) (R:List Rec) (S:Nat->Bool) (x:Nat):Nat:=
 match writer all R S x with
 | some r=>r.nx
 | none=>A0.next
structure Inv (all:List Oper) (A0:St) (t0:Tm) (R:List Rec) (N:Nat) (d0:List Deferred) (base:Nat) (XA:Ren) (w0:World) (S:Nat->Bool) (a:Act) (w:World) (ρ:Ren):Prop where
 size:a.tmps.size=N
 defers:a.defers=d0
 tm:∀ x,VR (ρ.res (ara all A0 R S x)) (valOf all t0 R S x) (a.tmps.getD x undef)
 core:jG base XA A0 w0 (ρ.res (Vd A0 R S).next) (Vd A0 R S) w
 news:∀ r∈R,S r.i=true->∀ id o,r.did = .make id o->ant (dD [] all) (lS R S) r.i=false->
  ∃ c cb,ρ id=some (abu o cb)/\abv (ρ.res r.nx) o c/\w.heap[cb]? = some c/\w0.heap.size<=cb/\¬ Img (ρ.res (Vd A0 R S).next) (Vd A0 R S) cb
 newsApart:∀ r∈R,∀ s∈R,S r.i=true->S s.i=true->∀ id o id' o',r.did = .make id o->s.did = .make id' o'->ant (dD [] all) (lS R S) r.i=false->ant (dD [] all) (lS R S) s.i=false->
  r.i≠s.i->∀ l l',ρ id=some l->ρ id' = some l'->l.cb≠l'.cb
 unborn:∀ r∈R,S r.i=false->∀ id o,r.did = .make id o->ρ id=none
 jx:∀ bl l,ρ bl=some l->bl < (Vd A0 R S).next\/∃ r∈R,S r.i=true/\∃ o,r.did = .make bl o
section
variable {P:Program} {call:Tb} {all:List Oper} {A0:St} {t0:Tm} {R:List Rec} {N:Nat} {d0:List Deferred} {base:Nat} {XA:Ren} {w0:World}
theorem jH {x:Nat} : ∀ {xs:List Operand},Operand.tmp x∈xs->x∈ph xs
 | [],h=>by simp at h
 | .tmp t::xs,h=>by
  rcases dv.1 h with h | h
  ·simp at h; subst h; simp [ph]
  ·simp [ph,jH h]
 | .const _::xs,h=>by
  rcases dv.1 h with h | h
  ·simp at h
  ·simpa [ph] using jH h
 | .global _::xs,h=>by
  rcases dv.1 h with h | h
  ·simp at h
  ·simpa [ph] using jH h
 | .func _::xs,h=>by
  rcases dv.1 h with h | h
  ·simp at h
  ·simpa [ph] using jH h
end
end
end Go.aq
end
section
namespace Go.aq
noncomputable section
open Go
theorem ra.eY {ρ aJ:Ren} {A:St} {base:Nat} {w w' : World} (hs:ra ρ A base w) (hle:ρ.le aJ) (arb:∀ b l,aJ b=some l->b < A.next) (hw:∀ k,k < w.heap.size->w'.heap[k]? = w.heap[k]?) (dK:w.heap.size<=w'.heap.size):ra aJ A base w':=by
 have XB:∀ b o l,A.get b=some o->o≠.dead->aJ b=some l->ρ b=some l:=by
  intro b o l hg hd hr;obtain ⟨l',h1,_⟩:=hs.rel.obj hg hd;have:=hle _ _ h1;rw [hr] at this; simp at this; subst this;exact h1
 refine ⟨.Fq (fun b o hg hd=>?_) ?_ hs.rel.bC,arb,kH hs.size dK,hs.H5.mono hle⟩
 ·obtain ⟨l,h1,h2⟩:=hs.rel.obj hg hd
  exact ⟨l,hle _ _ h1,h2.eY hle (hw _ (h2.lt hd)) dK⟩
 ·intro b1 b2 o1 o2 l1 l2 cH g1 g2 m1 m2 r1 r2 Tf
  exact hs.rel.apart b1 b2 o1 o2 l1 l2 cH g1 g2 m1 m2 (XB b1 o1 l1 g1 (by intro e; subst e; simp [cw.dX] at m1) r1) (XB b2 o2 l2 g2 (by intro e; subst e; simp [cw.dX] at m2) r2) Tf
section
variable {P:Program} {call:Tb} {all:List Oper} {A0:St} {t0:Tm} {R:List Rec} {N:Nat} {d0:List Deferred} {base:Nat} {XA:Ren} {w0:World}
end
end
end Go.aq
end
section
namespace Go.aq
noncomputable section
open Go
theorem VR.undef {ρ:Ren} : VR ρ undef undef:=VR.of_flat (by simp [Go.undef,flat,L7,tM])
section
variable {P:Program} {call:Tb} {all:List Oper} {A0:St} {t0:Tm} {R:List Rec} {N:Nat} {d0:List Deferred} {base:Nat} {XA:Ren} {w0:World}
end
end
end Go.aq
end
section
namespace Go.aq
noncomputable section
open Go
variable {P:Program} {call:Tb} {all:List Oper} {A0:St}
end
end Go.aq
end
section
namespace Go.aq
noncomputable section
open Go
theorem put_defers (a:Act) (dst:Option Tmp) (v:Value):(a.put dst v).defers=a.defers:=by cases dst <;> rfl
def ae.out:ae->Exit
 | .normal=>.normal
 | .exit id=>.exit id
 | .goto l=>.goto l
 | .ret=>.ret
def mark (D:Nat):Deferred:={ target:=.collected D,args:=#[] }
section
variable {P:Program} {b:Frame} {a:Act} {k:List Item} {cs:List Frame} {w:World}
end
def aaV (a:Act):ResultVar->Sem Value
 | .tmp t=>pure (a.tmps.getD t undef)
 | .cell ad ty=>do loadVar ty (<- asAddr (a.tmps.getD ad undef))
theorem Zf (fn:Func) (a:Act):results fn a.tmps=(do let vs <- fn.results.mapM (aaV a); pure (if h:vs.size=1 then vs[0] else .tuple vs)):=by
 unfold results;congr 1
theorem kN {n m:Nat} (h:n<=m):∀ (c:Code),codeOk n c=true->codeOk m c=true
 | .region id ops d,hc=>by
  simp only [codeOk,eM] at hc ⊢;intro o ho;have:=hc o ho;unfold Jl at this ⊢;split at this
  ·rename_i d e
   rw [bO] at this ⊢;omega
  ·rfl
 | .seq a b,hc=>by simp only [codeOk,au] at hc ⊢; exact ⟨kN h a hc.1,kN h b hc.2⟩
 | .cond _ a b,hc=>by simp only [codeOk,au] at hc ⊢; exact ⟨kN h a hc.1,kN h b hc.2⟩
 | .block _ a,hc=>kN h a hc
 | .loop a,hc=>kN h a hc
 | .rangeFunc _ ps a b,hc=>by
  simp only [codeOk,au,eM,bO] at hc ⊢;exact ⟨fun p hp=>kJ (hc.1 p hp) h,kN h a hc.2.1,kN h b hc.2.2⟩
 | .scope a,hc=>kN h a hc
 | .skip,_ | .exit _,_ | .label _,_ | .goto _,_ | .ret,_ | .refuse _,_=>rfl
def Gr (gl:List (Nat×List Value×Nat)) (b:Nat):Option Loc:=if b < gB then some (match gl.find? (fun x=>Nat.beq x.1 b) with | some x=>⟨b,0,x.2.1.length,x.2.2⟩ | none=>⟨b,0,0,0⟩) else none
theorem ad5 (gl:List (Nat×List Value×Nat)):ahh (Gr gl):=fun g hg=>by
 unfold Gr;rw [aI hg];split <;> exact ⟨_,rfl,rfl,rfl⟩
theorem abJ:∀ (gl:List (Nat×List Value×Nat)) (b:Nat),(Xp gl).get b=match gl.find? (fun x=>Nat.beq x.1 b) with | some x=>some (.row x.2.1 x.2.2 false none) | none=>none
 | [],b=>by simp [Xp]
 | (g,cs,e)::gl,b=>by
  simp only [Xp,Trie.nE,List.find?_cons];cases hb:Nat.beq g b with
  | true=>simp [aW hb]
  | false=>rw [ak (fun e=>by subst e; simp at hb)]; exact abJ gl b
def apa (w:World) (gl:List (Nat×List Value×Nat)):Prop:=∀ x∈gl,x.1 < gB/\x.1 < w.heap.size/\x.2.1.all (fun v=>flat v&&scalar v)=true/\∀ i v,x.2.1[i]? = some v->w.cell? ⟨x.1,i,none⟩=some v
theorem ra.ahq {w:World} {gl:List (Nat×List Value×Nat)} (h:apa w gl):ra (Gr gl) (St.H5 gl) w.heap.size w:=by
 have hg:∀ b o,(St.H5 gl).get b=some o->∃ x∈gl,x.1=b/\gl.find? (fun x=>Nat.beq x.1 b)=some x/\o = .row x.2.1 x.2.2 false none:=by
  intro b o e;have e:(Xp gl).get b=some o:=e;rw [abJ] at e;split at e
  ·rename_i x hx
   simp at e;have:=List.find?_some hx;exact ⟨x,List.mem_of_find?_eq_some hx,aW this,hx,e.symm⟩
  ·simp at e
 refine ⟨⟨fun b cs bH own bQ e=>?_,fun b es e=>?_,fun b s pos e=>?_,fun b st ex t ps c d e=>?_,fun b1 b2 o1 o2 l1 l2 _ e1 _ m=>?_,fun b o aQ f e k=>?_⟩,fun b l e=>?_,aH _,ad5 gl⟩
 ·obtain ⟨x,hx,rfl,hf,he⟩:=hg _ _ e
  simp at he;obtain ⟨rfl,rfl,rfl,rfl⟩:=he;obtain ⟨h1,h2,h3,h4⟩:=h x hx;refine ⟨⟨x.1,0,x.2.1.length,x.2.2⟩,by unfold Gr; rw [aI h1,hf],⟨fun i v hi=>?_,fun _=>h2,fun h=>by simp at h,fun h=>by simp at h,by simp,fun h=>by simp at h,rfl,h2,fun h=>by simp at h⟩⟩;have:=eM.1 h3 v (fR hi);simp only [au] at this;exact ⟨v,by simpa using h4 i v hi,VR.of_flat this.1,this.2⟩
 ·obtain ⟨x,_,_,_,he⟩:=hg _ _ e; simp at he
 ·obtain ⟨x,_,_,_,he⟩:=hg _ _ e; simp at he
 ·obtain ⟨x,_,_,_,he⟩:=hg _ _ e; simp at he
 ·obtain ⟨x,_,_,_,he⟩:=hg _ _ e1; subst he; simp [cw.dX] at m
 ·obtain ⟨x,_,_,_,he⟩:=hg _ _ e; subst he; simp [cw.kC] at k
 ·unfold Gr at e
  split at e
  ·rename_i hb; exact hb
  ·simp at e
theorem ra.empty (w:World):ra (Gr []) St.empty w.heap.size w:=ra.ahq (gl:=[]) (fun _ h=>by simp at h)
end
end Go.aq
end
section
namespace Go.K
open Go Go.aq
noncomputable section
inductive Mk where
 | any
 | exact
 | aQ (b:Nat)
inductive KV where
 | int (k:IntKind) (n:Int)
 | bool (b:Bool)
 | str (s:ByteArray)
 | agg (cs:List KV)
 | jV (vs:List KV)
 | ts (T:TypeId) (m:Mk) (n:Nat) (es:List KV) (acc:Nat->KV)
 | tp (T Tc:TypeId) (i k:Nat) (es:List KV) (acc:Nat->KV)
 | al (T:TypeId) (b o n:Nat)
 | ap (T Tc:TypeId) (b i k:Nat)
 | ptr (b off:Nat)
 | sl (b off len cap:Nat)
 | E4
 | jz
 | yX
 | map (b:Nat)
 | fn (f:Fn) (first cap:List KV)
 | Gs
 | iface (t:TypeId) (v:KV)
 | Gt
 | bA
instance:Inhabited KV:=⟨.bA⟩
inductive ik where
 | row (cs:List KV) (bH:Nat)
 | map (es:List (KV×KV))
 | aQ (top sz:Nat)
 | arr (v:KV)
 | il (v:KV)
 | dead
structure ao where
 heap:Trie ik
 next:Nat
def ao.empty:ao:=⟨.leaf,0⟩
def ao.get (A:ao) (b:Nat):Option ik:=A.heap.get b
def ao.new (A:ao) (o:ik):ao:=⟨A.heap.set o A.next,Nat.succ A.next⟩
def ao.put (A:ao) (b:Nat) (o:ik):ao:=⟨A.heap.set o b,A.next⟩
abbrev bq:=Trie KV
def ki {α:Type} : List (Nat×α)->Trie α
 | []=>.leaf
 | p::ps=>(ki ps).set p.2 p.1
def KV.cells:KV->List KV
 | .agg cs=>cs
 | v=>[v]
def one:KV->Bool
 | .agg _ | .jV _ | .bA=>false
 | _=>true
def qf:KV:=.jV []
inductive KR (α:Type) where
 | no
 | ok (v:α)
 | jt (c:Bool) (v:α)
 | br (c:Bool) (x y:KR α)
def KR.run {α R:Type} (r:KR α) (k:α->Option R):Option R:=
 KR.rec (motive:=fun _=>Option R) none (fun v=>k v) (fun c v=>Bool.rec (motive:=fun _=>Option R) none (k v) c) (fun c _ _ rx ry=>Bool.rec (motive:=fun _=>Option R) ry rx c) r
def KR.map {α β:Type} (f:α->β):KR α->KR β
 | .no=>.no
 | .ok v=>.ok (f v)
 | .jt c v=>.jt c (f v)
 | .br c x y=>.br c (x.map f) (y.map f)
def KR.of {α:Type} : Option α->KR α
 | some v=>.ok v
 | none=>.no
inductive CK where
 | int (k:IntKind)
 | bool
 | str
 | slice (t:TypeId)
 | other
structure Lay where
 agg:Bool
 ks:List CK
def cY {α:Type} (l:List α):Nat->List α
 | 0=>[]
 | n+1=>l++cY l n
def O0 (f:TypeId->Option Lay):List Field->Nat->Option (List CK)
 | [],_=>some []
 | fd::fs,off=>cond (Nat.beq fd.offset off) ((f fd.type).bind fun l=>(O0 f fs (off+l.ks.length)).map fun r=>l.ks++r) none
def lay (P:Program):Nat->TypeId->Option Lay
 | 0,_=>none
 | n+1,t=>match P.underlying t with
  | some (.int k)=>some ⟨false,[.int k]⟩
  | some .bool=>some ⟨false,[.bool]⟩
  | some .string=>some ⟨false,[.str]⟩
  | some (.slice e)=>some ⟨false,[.slice e]⟩
  | some (.struct fs)=>(O0 (lay P n) fs.toList 0).map fun ks=>⟨true,ks⟩
  | some (.array len e)=>(lay P n e).map fun l=>⟨true,cY l.ks len⟩
  | some _=>some ⟨false,[.other]⟩
  | none=>none
def aX (P:Program) (t:TypeId):Lay:=(lay P 12 t).getD ⟨false,[]⟩
def kindOk:CK->KV->Bool
 | .int k,.int k' _=>decide (k=k')
 | .bool,.bool _=>true
 | .str,.str _=>true
 | .slice t,.ts t' .any _ _ _=>Nat.beq t t'
 | _,_=>false
def aA:List CK->List KV->Bool
 | [],[]=>true
 | k::ks,v::vs=>kindOk k v&&aA ks vs
 | _,_=>false
def cl (l:Lay):KV->Bool
 | .agg cs=>l.agg&&aA l.ks cs
 | .jV _=>false
 | v=>!l.agg&&aA l.ks [v]
def dV (l:Lay):List KV->Bool
 | []=>true
 | e::es=>cl l e&&dV l es
def av:KV->Int
 | .int _ n=>n
 | _=>0
def cK:KV->Bool
 | .bool b=>b
 | _=>false
def strOf:KV->ByteArray
 | .str s=>s
 | _=>ByteArray.empty
def arc:KV->List KV
 | .ts _ _ _ es _=>es
 | _=>[]
def lenOf:KV->Nat
 | .ts _ _ n _ _=>n
 | _=>0
def nN:KV->Nat->KV
 | .ts _ _ _ _ acc=>acc
 | _=>fun _=>.bA
def leaf (c:CK) (v:KV):KV:=
 CK.rec (motive:=fun _=>KV) (fun k=>.int k (av v)) (.bool (cK v)) (.str (strOf v)) (fun t=>.ts t .any (lenOf v) (arc v) (nN v)) v c
def leaves (e:KV):List CK->Nat->List KV
 | [],_=>[]
 | c::cs,k=>leaf c (e.cells.getD k .bA)::leaves e cs (Nat.succ k)
def OA (agg:Bool) (cs:List KV):KV:=Bool.rec (motive:=fun _=>KV) (cs.headD .bA) (.agg cs) agg
def Mr:List CK->Bool
 | []=>true
 | .other::_=>false
 | _::cs=>Mr cs
mutual
def ff:Value->KV
 | .bool b=>.bool b
 | .int k n=>.int k n
 | .string s=>.str s
 | .pointer none=>.E4
 | .slice none 0 0=>.jz
 | .map none=>.yX
 | .nilFunc=>.Gs
 | .nilIface=>.Gt
 | .agg cs=>.agg (ofA cs)
 | .tuple cs=>.jV (ofA cs)
 | _=>.bA
def ofA:Array Value->List KV
 | ⟨l⟩=>ofL l
def ofL:List Value->List KV
 | []=>[]
 | v::vs=>ff v::ofL vs
end
abbrev FP:=List KV->KR KV
abbrev FR:=ao->List KV->KR KV
abbrev FA:=ao->List KV->KR (KV×ao)
inductive pn where
 | pure (f:FP) (xs:List Operand)
 | read (f:FR) (xs:List Operand)
 | act (f:FA) (xs:List Operand)
 | look (f:FP) (xs:List Operand)
 | Ba (g:FuncId) (f:List KV->KR KV) (xs:List Operand)
 | Gu (g:FuncId) (f:List KV->KR KV) (xs:List Operand)
 | call (f:Operand) (args:List Operand)
 | bad
def afU:FP
 | [x]=>.ok x
 | _=>.no
def afV:FP
 | [.bool b]=>.br b (.ok (.bool true)) (.ok (.bool false))
 | [x]=>.ok x
 | _=>.no
def ajX:FP
 | [.bool t,.bool a,.bool b]=>.ok (.bool (cond t a b))
 | [.bool t,a,b]=>.ok (cond t a b)
 | _=>.no
def fY:List KV->Bool
 | []=>true
 | v::vs=>one v&&fY vs
def tR {α:Type} : Nat->List α->Option (List α)
 | 0,_=>some []
 | _+1,[]=>none
 | n+1,x::xs=>(tR n xs).map (x::·)
def Bb {α:Type} : Nat->List α->List α
 | 0,l=>l
 | _+1,[]=>[]
 | n+1,_::xs=>Bb n xs
def jW {α:Type} : Nat->List α->List α->Option (List α)
 | 0,l,[]=>some l
 | 0,[],_::_=>none
 | 0,_::l,v::vs=>(jW 0 l vs).map (v::·)
 | _+1,[],[]=>some []
 | _+1,[],_::_=>none
 | n+1,x::l,vs=>(jW n l vs).map (x::·)
def Zg (n:Nat) (z:List KV):FA:=fun A _=>.ok (.ptr A.next 0,A.new (.row z n))
def om (P:Program) (t:TypeId):pn:=
 match qt P t with
 | some z=>cond (flat z&&z.cells.toList.all scalar&&fY (ff z).cells) (.act (Zg (mJ P t) (ff z).cells) []) .bad
 | none=>.bad
def ahr (n:Nat):FA:=fun A xs=>
 match xs with
 | [v]=>cond (fY v.cells) (.ok (.ptr A.next 0,A.new (.row v.cells n))) .no
 | _=>.no
def XC (place:Nat->Option (Nat×Nat)):List KV->List (Nat×KV)->Option (List KV)
 | cells,[]=>some cells
 | cells,(i,v)::rest=>
  match place i with
  | some (off,size)=>cond (Nat.beq v.cells.length size&&Nat.ble 1 size) ((jW off cells v.cells).bind fun cs=>XC place cs rest) none
  | none=>none
def vw:List Nat->List KV->List (Nat×KV)
 | i::is,v::vs=>(i,v)::vw is vs
 | _,_=>[]
def ti:KV->Bool
 | .bA=>false
 | _=>true
def Q6 (place:Nat->Option (Nat×Nat)) (z:List KV) (is:List Nat):FP:=fun vs=>
 match XC place z (vw is vs) with
 | some cs=>cond (vs.all ti) (.ok (.agg cs)) .no
 | none=>.no
def rF (P:Program) (t:TypeId) (is:List Nat) (xs:List Operand):pn:=
 match qt P t,P.underlying t with
 | some z,some (.struct fields)=>
  match placesOf P fields.toList with
  | some l=>cond (flat z&&fY (ff z).cells) (.pure (Q6 (UR l) (ff z).cells is) xs) .bad
  | none=>.bad
 | some z,some (.array _ e)=>
  match size? P e with
  | some n=>cond (flat z&&fY (ff z).cells) (.pure (Q6 (x8 n) (ff z).cells is) xs) .bad
  | none=>.bad
 | _,_=>.bad
def l7:Nat->KV:=fun _=>.bA
def lU (es:List KV):Nat->KV:=fun i=>es.getD i .bA
def lM (c:CK) (v:KV):KV:=
 match c,v with
 | .slice t,.jz=>.ts t .any 0 [] l7
 | .slice t,.ts t' _ n es acc=>cond (Nat.beq t t') (.ts t .any n es acc) .bA
 | c,v=>cond (kindOk c v) v .bA
def yY:List CK->List KV->List KV
 | c::cs,v::vs=>lM c v::yY cs vs
 | _,_=>[]
def dy (l:Lay) (v:KV):KV:=
 match v with
 | .agg cs=>cond (l.agg&&Nat.beq cs.length l.ks.length) (.agg (yY l.ks cs)) .bA
 | v=>cond l.agg .bA (match l.ks with
  | [c]=>lM c v
  | _=>.bA)
def setAt (es:List KV) (i:Nat) (v:KV):List KV:=
 match i,es with
 | 0,_::es=>v::es
 | n+1,e::es=>e::setAt es n v
 | _,[]=>[]
def DL (es:List KV):List (Nat×KV)->List KV
 | []=>es
 | (i,v)::rest=>DL (setAt es i v) rest
def O1 (l:Lay) (e:TypeId) (z:KV) (len:Nat) (is:List Nat):FP:=fun vs=>
 let es:=DL (cY [z] len) ((vw is vs).map fun p=>(p.1,dy l p.2))
 cond (vs.all ti&&dV l (vs.map (dy l))&&dV l es) (.ok (.ts e .exact len es (lU es))) .no
def Ti (l:Lay) (e:TypeId) (z:KV) (len:Nat) (is:List Nat):FA:=fun A vs=>
 let es:=DL (cY [z] len) ((vw is vs).map fun p=>(p.1,dy l p.2))
 cond (vs.all ti&&dV l (vs.map (dy l))&&dV l es) (.ok (.al e A.next 0 len,A.new (.arr (.ts e .any len es (lU es))))) .no
def Bc (n:Nat):List Nat->Bool
 | []=>true
 | i::is=>Nat.blt i n&&Bc n is
def Tj (n:Nat) (z:List KV) (len:Nat) (is:List Nat):FA:=fun A vs=>
 match XC (x8 n) (cY z len) (vw is vs) with
 | some cs=>cond (vs.all ti&&fY cs) (.ok (.sl A.next 0 len len,A.new (.row cs n))) .no
 | none=>.no
def jX (P:Program) (mt:TypeId->Bool) (t:TypeId) (len:Nat) (is:List Nat) (xs:List Operand):pn:=
 match P.underlying t with
 | some (.slice e)=>
  match P.info? e,qt P e with
  | some i,some z=>cond (Nat.ble (len * i.size) 16777216&&Nat.beq z.cells.size i.size&&Nat.ble 1 i.size&&flat z&&Nat.beq (aX P e).ks.length i.size&&Bc len is)
    (cond (Mr (aX P e).ks) (cond (mt (e+3000000)) (.act (Ti (aX P e) e (dy (aX P e) (ff z)) len is) xs) (.look (O1 (aX P e) e (dy (aX P e) (ff z)) len is) xs)) (cond (fY (ff z).cells) (.act (Tj i.size (ff z).cells len is) xs) .bad)) .bad
  | _,_=>.bad
 | _=>.bad
def rowAt (A:ao) (b:Nat):Option (List KV):=
 match A.get b with
 | some (.row cs _)=>some cs
 | _=>none
def Ju (A:ao) (b:Nat):Option KV:=
 match A.get b with
 | some (.arr v)=>some v
 | some (.il v)=>some v
 | _=>none
def aaW (P:Program) (t Tc:TypeId):Bool:=Nat.beq Tc t&&Mr (aX P t).ks&&decide (UQ P t=some (aX P t).agg)&&decide (size? P t=some (aX P t).ks.length)&&((aX P t).agg||Nat.beq (aX P t).ks.length 1)
def putCells (P:Program) (T:TypeId) (k:Nat) (e:KV) (vs:List KV):Option KV:=(jW k (leaves e (aX P T).ks 0) vs).map fun cs=>OA (aX P T).agg cs
def Ms (acc:Nat->KV) (i:Nat) (v:KV):Nat->KV:=fun j=>cond (Nat.beq j i) v (acc j)
def alr (T:TypeId) (n i:Nat) (es:List KV) (acc:Nat->KV) (e:KV):KV:=.ts T .any n (setAt es i e) (Ms acc i e)
def XD (P:Program) (t:TypeId):FR:=fun A xs=>
 match xs with
 | [.ptr b off]=>
  match UQ P t,size? P t with
  | some ag,some n=>match (rowAt A b).bind fun cs=>tR n (Bb off cs) with
   | some l=>cond ag (.ok (.agg l)) (match l with | [v]=>.ok v | _=>.no)
   | none=>.no
  | _,_=>.no
 | [.tp _ Tc i k _ acc]=>
  cond (aaW P t Tc) (.ok (OA (aX P t).agg (leaves (acc i) (aX P t).ks k))) .no
 | [.ap T Tc b i k]=>match Ju A b with
  | some (.ts T' _ _ _ acc)=>cond (Nat.beq T T'&&aaW P t Tc) (.ok (OA (aX P t).agg (leaves (acc i) (aX P t).ks k))) .no
  | _=>.no
 | _=>.no
def Ve (P:Program) (t:TypeId):FA:=fun A xs=>
 match xs with
 | [.ptr b off,v]=>
  cond (decide (some v.cells.length=size? P t)&&fY v.cells)
   (match A.get b with
   | some (.row cs bH)=>match jW off cs v.cells with
    | some bV=>.ok (qf,A.put b (.row bV bH))
    | none=>.no
   | _=>.no) .no
 | [.ap T Tc b i k,v]=>
  match A.get b with
  | some (.arr (.ts T' _ n es acc))=>
   cond (Nat.beq T T'&&Nat.beq Tc t&&cl (aX P t) (dy (aX P t) v)&&decide (size? P t=some (aX P t).ks.length))
    (match putCells P T k (acc i) (dy (aX P t) v).cells with
    | some e=>.ok (qf,A.put b (.arr (alr T n i es acc e)))
    | none=>.no) .no
  | _=>.no
 | _=>.no
def abK:FP
 | [.ptr b off]=>.ok (.ptr b off)
 | [.tp T Tc i k es acc]=>.ok (.tp T Tc i k es acc)
 | [.ap T Tc b i k]=>.ok (.ap T Tc b i k)
 | [.fn (.func f) first cap]=>.ok (.fn (.func f) first cap)
 | _=>.no
abbrev E5 (k:IntKind) (a b:Int):Nat:=(BitVec.ofInt k.bits a &&& BitVec.ofInt k.bits b).toNat
abbrev bOr (k:IntKind) (a b:Int):Nat:=(BitVec.ofInt k.bits a ||| BitVec.ofInt k.bits b).toNat
abbrev ard (k:IntKind) (a b:Int):Nat:=(BitVec.ofInt k.bits a ^^^ BitVec.ofInt k.bits b).toNat
abbrev anK (k:IntKind) (a b:Int):Nat:=(BitVec.ofInt k.bits a &&& ~~~ BitVec.ofInt k.bits b).toNat
def opI (op:BinOp) (k:IntKind) (a b:Int):KR KV:=
 match op with
 | .add=>.ok (.int k (k.wrap (a+b)))
 | .sub=>.ok (.int k (k.wrap (a - b)))
 | .mul=>.ok (.int k (k.wrap (a * b)))
 | .eql=>.ok (.bool (a==b))
 | .neq=>.ok (.bool (a != b))
 | .lss=>.ok (.bool (decide (a < b)))
 | .leq=>.ok (.bool (decide (a<=b)))
 | .gtr=>.ok (.bool (decide (a > b)))
 | .geq=>.ok (.bool (decide (a >= b)))
 | .quo=>.jt (!(decide (b=0))) (.int k (k.wrap (a.tdiv b)))
 | .rem=>.jt (!(decide (b=0))) (.int k (a.tmod b))
 | .and=>.ok (.int k (k.wrap (E5 k a b)))
 | .or=>.ok (.int k (k.wrap (bOr k a b)))
 | .xor=>.ok (.int k (k.wrap (ard k a b)))
 | .andNot=>.ok (.int k (k.wrap (anK k a b)))
 | _=>.no
def are (op:BinOp) (k:IntKind) (a b:Int):KR KV:=
 match op with
 | .shl=>.jt (!(decide (b < 0))) (.int k (k.wrap (a * 2 ^ (min b.toNat k.bits))))
 | .shr=>.jt (!(decide (b < 0))) (.int k (a.fdiv (2 ^ (min b.toNat k.bits))))
 | _=>.no
def ahs:BinOp->Bool
 | .shl | .shr=>true
 | _=>false
def eqK:KV->KV->Option Bool
 | .int k a,.int k' b=>cond (decide (k=k')) (some (a==b)) none
 | .bool a,.bool b=>some (a==b)
 | .str a,.str b=>some (a==b)
 | _,_=>none
def rm:List KV->List KV->Option Bool
 | [],[]=>some true
 | x::xs,y::ys=>match eqK x y,rm xs ys with
  | some a,some b=>some (a&&b)
  | _,_=>none
 | _,_=>none
def E6 (P:Program):Nat->TypeId->Bool
 | 0,_=>false
 | n+1,t=>(match P.info? t,lay P (n+1) t with
   | some i,some l=>Nat.beq i.size l.ks.length
   | _,_=>false)&&match P.underlying t with
  | some (.int _) | some .bool | some .string=>true
  | some (.struct fs) => !(P.stoodInHeld t) && fs.toList.all fun f => !(f.name == "_") && E6 P n f.type
  | some (.array _ e)=>E6 P n e
  | _=>false
def als (P:Program) (t:TypeId) (x y:KV):Option Bool:=
 match x,y with
 | .agg xs,.agg ys=>cond ((aX P t).agg&&E6 P 12 t&&!(P.eqGuardType P.depth t)&&aA (aX P t).ks xs&&aA (aX P t).ks ys) (rm xs ys) none
 | .bool a,.bool b=>match P.underlying t with
  | some .bool=>some (a==b)
  | _=>none
 | .jz,.jz=>match P.underlying t with
  | some (.slice _)=>some true
  | _=>none
 | .ts _ _ n _ _,.jz=>match P.underlying t with
  | some (.slice _)=>cond (Nat.beq n 0) none (some false)
  | _=>none
 | .jz,.ts _ _ n _ _=>match P.underlying t with
  | some (.slice _)=>cond (Nat.beq n 0) none (some false)
  | _=>none
 | .E4,.E4=>match P.underlying t with
  | some (.pointer _)=>some true
  | _=>none
 | .ptr _ _,.E4=>match P.underlying t with
  | some (.pointer _)=>some false
  | _=>none
 | .E4,.ptr _ _=>match P.underlying t with
  | some (.pointer _)=>some false
  | _=>none
 | _,_=>none
def alu (P:Program) (t:TypeId):Bool:=match P.underlying t with
 | some (.slice _)=>true
 | _=>false
def anL (P:Program) (op:BinOp) (t:TypeId):FP
 | [.int j a,.int k b]=>cond (ahs op) (are op j a b) (cond (decide (j=k)) (opI op j a b) .no)
 | [.str a,.str b]=>match op with
  | .eql=>.ok (.bool (a.toList==b.toList))
  | .neq=>.ok (.bool !(a.toList==b.toList))
  | .lss=>.ok (.bool (Op.bytesLess a.toList b.toList))
  | .add=>.jt (Nat.ble (a.size+b.size) 9223372036854775807) (.str (a++b))
  | _=>.no
 | [.ts _ _ n _ _,.jz]=>match op with
  | .eql=>cond (alu P t) (.jt (Nat.blt 0 n) (.bool false)) .no
  | .neq=>cond (alu P t) (.jt (Nat.blt 0 n) (.bool true)) .no
  | _=>.no
 | [x,y]=>match op,als P t x y with
  | .eql,some b=>.ok (.bool b)
  | .neq,some b=>.ok (.bool !b)
  | _,_=>.no
 | _=>.no
def kUn (op:UnOp):FP
 | [.bool b]=>match op with
  | .not=>.ok (.bool !b)
  | _=>.no
 | [.int k n]=>match op with
  | .neg=>.ok (.int k (k.wrap (0 - n)))
  | .xor=>.ok (.int k (k.wrap (BitVec.ofInt k.bits (if k.signed then -1 else k.max) ^^^ BitVec.ofInt k.bits n).toNat))
  | _=>.no
 | _=>.no
def alv (k:IntKind):FP
 | [.int _ n]=>.ok (.int k (k.wrap n))
 | _=>.no
def alw:FP
 | [.str s]=>.ok (.str s)
 | _=>.no
def byteOf:KV->UInt8
 | .int _ n=>UInt8.ofNat n.toNat
 | _=>0
def alx:KV->Bool
 | .int .u8 n=>decide (0<=n)&&decide (n < 256)
 | _=>false
def Mt:FP
 | [.jz]=>.ok (.str ⟨⟨[]⟩⟩)
 | [.ts _ _ _ es _]=>.jt (es.all alx) (.str ⟨⟨es.map byteOf⟩⟩)
 | _=>.no
def Tk (e:TypeId):FP
 | [.str s]=>.ok (.ts e .any s.size (s.data.toList.map fun b=>.int .u8 b.toNat) (fun i=>.int .u8 (s.data.toList.getD i 0).toNat))
 | _=>.no
def nP (P:Program) (src dst:TypeId) (x:Operand):pn:=
 match P.underlying src,P.underlying dst with
 | some (.int _),some (.int k)=>.pure (alv k) [x]
 | some .string,some .string=>.pure alw [x]
 | some (.slice e),some .string=>cond (isByte P e) (.read (fun _=>Mt) [x]) .bad
 | some .string,some (.slice e)=>cond (isByte P e) (.look (Tk e) [x]) .bad
 | _,_=>.bad
def Mu (f:Fn) (k:Nat):FP:=fun vs=>
 match tR k vs with
 | some first=>.ok (.fn f first (Bb k vs))
 | none=>.no
def Zh (s:TypeId) (off:Nat) (ft:TypeId) (vx:Bool):FP
 | [.ptr b o]=>.ok (.ptr b (o+off))
 | [.tp T Tc i k es acc]=>cond (Nat.beq Tc s&&vx) (.ok (.tp T ft i (k+off) es acc)) .no
 | [.ap T Tc b i k]=>cond (Nat.beq Tc s&&vx) (.ok (.ap T ft b i (k+off))) .no
 | _=>.no
def anM:CK->CK->Bool
 | .int a,.int b=>decide (a=b)
 | .bool,.bool=>true
 | .str,.str=>true
 | .slice a,.slice b=>Nat.beq a b
 | .other,.other=>true
 | _,_=>false
def Bd:List CK->List CK->Bool
 | [],[]=>true
 | a::asg,b::bs=>anM a b&&Bd asg bs
 | _,_=>false
def aaX (P:Program) (s:TypeId) (off:Nat) (ft:TypeId):Bool:=
 match tR (aX P ft).ks.length (Bb off (aX P s).ks) with
 | some l=>Bd l (aX P ft).ks
 | none=>false
def kO (P:Program) (s:TypeId) (x:Operand) (f:Nat):pn:=
 match uI P s f with
 | some fd=>match size? P fd.type with
  | some (_+1)=>.pure (Zh s fd.offset fd.type (aaX P s fd.offset fd.type)) [x]
  | _=>.bad
 | none=>.bad
def XE (P:Program) (t:TypeId) (cs:List KV) (off:Nat):Option KV:=
 match UQ P t with
 | some true=>(size? P t).bind fun n=>(tR n (Bb off cs)).map fun l=>.agg l
 | some false=>(Bb off cs).head?
 | none=>none
def aly (P:Program) (fd:Field):FP
 | [.agg cs]=>.of (XE P fd.type cs fd.offset)
 | _=>.no
def rG (P:Program) (t:TypeId) (x:Operand) (f:Nat):pn:=
 match uI P t f with
 | some fd=>.pure (aly P fd) [x]
 | none=>.bad
def inR (i:Int) (n:Nat):Bool:=decide (0<=i)&&decide (i < (n:Int))
def alz {α:Type} (i:Int) (f:Nat->KR α) (m:Nat):Nat->KR α:=Nat.rec (motive:=fun _=>Nat->KR α) (fun _=>.no) (fun _ ih j=>.br (decide (i=(j:Int))) (f j) (ih (Nat.succ j))) m
def abL (P:Program) (t:TypeId) (len n:Nat) (e:TypeId):FP
 | [.ptr b o,.int _ i]=>cond (Nat.ble len 8) (alz i (fun j=>.ok (.ptr b (o+j * n))) len 0) (.jt (inR i len) (.ptr b (o+i.toNat * n)))
 | [.tp T Tc j k es acc,.int _ i]=>cond (Nat.beq Tc t&&Bd (aX P t).ks (cY (aX P e).ks len)&&Nat.beq (aX P e).ks.length n) (.jt (inR i len) (.tp T e j (k+i.toNat * n) es acc)) .no
 | [.ap T Tc b j k,.int _ i]=>cond (Nat.beq Tc t&&Bd (aX P t).ks (cY (aX P e).ks len)&&Nat.beq (aX P e).ks.length n) (.jt (inR i len) (.ap T e b j (k+i.toNat * n))) .no
 | _=>.no
def aeV (e n:Nat) (vx:Bool):FP
 | [.sl b o len _,.int _ i]=>.jt (inR i len) (.ptr b (o+i.toNat * n))
 | [.ts T _ m es acc,.int _ i]=>cond (Nat.beq T e&&vx) (.jt (inR i m) (.tp T T i.toNat 0 es acc)) .no
 | [.al T b o m,.int _ i]=>cond (Nat.beq T e&&vx) (.jt (inR i m) (.ap T T b (o+i.toNat) 0)) .no
 | _=>.no
def kP (P:Program) (t:TypeId) (x ix:Operand):pn:=
 match P.underlying t with
 | some (.array len e)=>match size? P e with
  | some n=>.pure (abL P t len n e) [x,ix]
  | none=>.bad
 | some (.slice e)=>match size? P e with
  | some n=>.pure (aeV e n (Nat.beq (aX P e).ks.length n)) [x,ix]
  | none=>.bad
 | _=>.bad
def Tl (P:Program) (len n:Nat) (e:TypeId):FP
 | [.agg cs,.int _ i]=>cond (Nat.ble len 8) (alz i (fun j=>.of (XE P e cs (j * n))) len 0) (match XE P e cs (i.toNat * n) with
  | some v=>.jt (inR i len) v
  | none=>.no)
 | _=>.no
def abM:FP
 | [.str s,.int _ i]=>.jt (inR i s.size) (.int .u8 ((s.data.toList.getD i.toNat 0).toNat))
 | _=>.no
def rH (P:Program) (t:TypeId) (x ix:Operand):pn:=
 match P.underlying t with
 | some (.array len e)=>match size? P e with
  | some n=>.pure (Tl P len n e) [x,ix]
  | none=>.bad
 | some .string=>.pure abM [x,ix]
 | _=>.bad
def aeW {α:Type} : Nat->List α->Option α
 | _,[]=>none
 | 0,x::_=>some x
 | n+1,_::xs=>aeW n xs
def aeX (i:Nat):FP
 | [.jV vs]=>.of (aeW i vs)
 | _=>.no
def alA:FP
 | [.ts _ _ n _ _]=>.ok (.int .i64 (n:Int))
 | [.sl _ _ n _]=>.ok (.int .i64 (n:Int))
 | [.al _ _ _ n]=>.ok (.int .i64 (n:Int))
 | [.jz]=>.ok (.int .i64 0)
 | _=>.no
def aht:FP
 | [.str s]=>.ok (.int .i64 (s.size:Int))
 | _=>.no
def abN (P:Program) (argTypes:List TypeId) (args:List Operand):pn:=
 match argTypes with
 | [t]=>match P.underlying t with
  | some (.slice _)=>.pure alA args
  | some .string=>.pure aht args
  | _=>.bad
 | _=>.bad
def Ky (mx:Bool):FP
 | [.int j a,.int k b]=>cond (decide (j=k)) (.ok (.int j (cond mx (max a b) (min a b)))) .no
 | [.int j a,.int k b,.int l c]=>cond (decide (j=k)&&decide (j=l)) (.ok (.int j (cond mx (max (max a b) c) (min (min a b) c)))) .no
 | _=>.no
def Vf (len:Nat) (lo hi:Bool):List KV->Option (Int×Int)
 | []=>cond (lo||hi) none (some (0,len))
 | [.int _ x]=>cond (lo&&!hi) (some (x,len)) (cond (!lo&&hi) (some (0,x)) none)
 | [.int _ x,.int _ y]=>cond (lo&&hi) (some (x,y)) none
 | _=>none
def XF (P:Program) (n:Nat) (lo hi:Bool):FR:=fun A xs=>
 match xs with
 | .ts T _ m es acc::r=>match Vf m lo hi r with
  | some (x,y)=>cond (Nat.beq (aX P T).ks.length n) (.jt (decide (0<=x)&&decide (x<=y)&&decide (y<=(m:Int))) (.ts T .any (y.toNat - x.toNat) ((es.drop x.toNat).take (y.toNat - x.toNat)) (fun i=>acc (x.toNat+i)))) .no
  | none=>.no
 | .sl b o len cap::r=>match A.get b with
  | some (.row _ bH)=>match Vf len lo hi r with
   | some (x,y)=>cond (Nat.beq bH n) (.jt (decide (0<=x)&&decide (x<=y)&&decide (y<=(len:Int))&&decide (len<=cap)) (.sl b (o+x.toNat * n) (y.toNat - x.toNat) (cap - x.toNat))) .no
   | none=>.no
  | _=>.no
 | .al T b o m::r=>match Ju A b with
  | some (.ts T' _ _ _ _)=>match Vf m lo hi r with
   | some (x,y)=>cond (Nat.beq (aX P T).ks.length n&&Nat.beq T T') (.jt (decide (0<=x)&&decide (x<=y)&&decide (y<=(m:Int))) (.al T b (o+x.toNat) (y.toNat - x.toNat))) .no
   | none=>.no
  | _=>.no
 | _=>.no
def Tn (len n:Nat) (lo hi:Bool):FR:=fun A xs=>
 match xs with
 | .ptr b o::r=>match A.get b with
  | some (.row cs bH)=>match Vf len lo hi r with
   | some (x,y)=>cond (Nat.beq bH n&&Nat.ble (o+len * n) cs.length) (.jt (decide (0<=x)&&decide (x<=y)&&decide (y<=(len:Int))) (.sl b (o+x.toNat * n) (y.toNat - x.toNat) (len - x.toNat))) .no
   | none=>.no
  | _=>.no
 | _=>.no
def Tp (lo hi:Bool):FP
 | .str s::r=>match Vf s.size lo hi r with
  | some (x,y)=>.jt (decide (0<=x)&&decide (x<=y)&&decide (y<=(s.size:Int))) (.str ⟨⟨(s.data.toList.drop x.toNat).take (y.toNat - x.toNat)⟩⟩)
  | none=>.no
 | _=>.no
def rI (P:Program) (t:TypeId) (x:Operand) (lo hi mx:Option Operand):pn:=
 match P.underlying t with
 | some (.slice e)=>match size? P e with
  | some n=>cond (Nat.ble 1 n&&mx.isNone) (.read (XF P n lo.isSome hi.isSome) (x::(eL lo++eL hi))) .bad
  | none=>.bad
 | some (.array len e)=>match size? P e with
  | some n=>cond (Nat.ble 1 n&&mx.isNone) (.read (Tn len n lo.isSome hi.isSome) (x::(eL lo++eL hi))) .bad
  | none=>.bad
 | some .string=>cond mx.isNone (.pure (Tp lo.isSome hi.isSome) (x::(eL lo++eL hi))) .bad
 | _=>.bad
def fC (b n m:Nat):Bool:=Nat.ble ((n+m) * b) 140737488355328&&Nat.ble (n+m) 17592186044416
def aC (top n:Nat):Bool:=Nat.beq top n
def dw (n:Nat) (f g:Nat->KV):Nat->KV:=fun i=>cond (Nat.blt i n) (f i) (g (i - n))
def Vg (e sz b n:Nat) (base:List KV) (ab:Nat->KV) (A:ao) (f m:Nat) (new:List KV) (an:Nat->KV) (more:Bool):KR (KV×ao):=
 .jt (more&&fC b n m)
  (.ts e (.aQ f) (n+m) (base++new) (dw n ab an),A.put f (.aQ (n+m) sz))
def O2 (e sz b:Nat):FA:=fun A xs=>
 match xs with
 | [.jz,.ts e' _ m new an]=>cond (Nat.beq e e') (Vg e sz b 0 [] l7 (A.new (.aQ 0 sz)) A.next m new an true) .no
 | [.ts e1 .exact n es ab,.ts e' _ m new an]=>cond (Nat.beq e e'&&Nat.beq e e1) (Vg e sz b n es ab (A.new (.aQ 0 sz)) A.next m new an (Nat.blt 0 m)) .no
 | [.ts e1 (.aQ f) n es ab,.ts e' _ m new an]=>match A.get f with
  | some (.aQ top sz')=>cond (Nat.beq e e'&&Nat.beq e e1&&Nat.beq sz' sz) (Vg e sz b n es ab A f m new an (aC top n)) .no
  | _=>.no
 | _=>.no
def aeY (o:Nat) (acc:Nat->KV):Nat->KV:=
 match o with
 | 0=>acc
 | o+1=>fun i=>acc (o+1+i)
theorem afW (o:Nat) (acc:Nat->KV):aeY o acc=fun i=>acc (o+i):=by
 cases o with
 | zero=>funext i; show acc i=acc (0+i); rw [bp]
 | succ o=>rfl
def afX (A:ao) (T b o n:Nat):Option KV:=
 match Ju A b with
 | some (.ts T' _ _ es acc)=>cond (Nat.beq T T') (some (.ts T .any n ((es.drop o).take n) (aeY o acc))) none
 | _=>none
def O3 (A:ao) (v:KV):Option KV:=
 match v with
 | .al T b o n=>afX A T b o n
 | .ts T m n es acc=>some (.ts T m n es acc)
 | _=>none
def alB (b n m:Nat):Bool:=Nat.ble ((n+m) * b) 140737488355328&&Nat.ble (n+m) 17592186044416
def aaY (e b n:Nat) (base:List KV) (ab:Nat->KV) (A:ao) (m:Nat) (new:List KV) (an:Nat->KV) (more:Bool):KR (KV×ao):=
 .jt (more&&alB b n m) (.al e A.next 0 (n+m),A.new (.arr (.ts e .any (n+m) (base++new) (dw n ab an))))
def F7 (e b:Nat):FA:=fun A xs=>
 match xs with
 | [.jz,.ts e' _ m new an]=>cond (Nat.beq e e') (aaY e b 0 [] l7 A m new an true) .no
 | [.al e1 f o n,.ts e' _ m new an]=>match A.get f with
  | some (.arr (.ts e2 _ _ es acc))=>cond (Nat.beq e e'&&Nat.beq e e1&&Nat.beq e e2) (aaY e b n (es.take n) acc (A.put f .dead) m new an (Nat.beq o 0)) .no
  | _=>.no
 | _=>.no
def anN:KV->Bool
 | .al _ _ _ _=>true
 | _=>false
def Kz (e sz b:Nat) (mt:Bool):FA:=fun A xs=>
 match xs with
 | [x,y]=>match O3 A y with
  | some y'=>cond (anN x) (F7 e b A [x,y']) (cond mt (F7 e b A [x,y']) (O2 e sz b A [x,y']))
  | none=>.no
 | _=>.no
def Ib (P:Program) (mt:TypeId->Bool) (argTypes:List TypeId) (args:List Operand):pn:=
 match argTypes with
 | [t,u]=>
  match P.underlying t,P.underlying u with
  | some (.slice e),some (.slice _)=>
   match P.info? e with
   | some i=>match i.zero with
    | some z=>cond (Nat.ble 1 i.size&&Nat.beq z.cells.size i.size&&Nat.beq (aX P e).ks.length i.size) (.act (Kz e i.size i.bytes (mt e)) args) .bad
    | none=>.bad
   | none=>.bad
  | _,_=>.bad
 | _=>.bad
def O4 (n b:Nat) (z:List KV):FA:=fun A xs=>
 match xs with
 | [.int _ l,.int _ c]=>.jt (decide (0<=l)&&decide (l<=c)&&Nat.ble (b * c.toNat) 281474976710656) (.sl A.next 0 l.toNat c.toNat,A.new (.row (cY z c.toNat) n))
 | _=>.no
def abO (A:ao) (v:KV):KV×ao:=
 match v with
 | .al T b o n=>match A.get b with
  | some (.arr (.ts T' m N es acc))=>cond (Nat.beq T T') (.ts T .any n ((es.drop o).take n) (fun i=>acc (o+i)),A.put b (.il (.ts T' m N es acc))) (.bA,A)
  | some (.il (.ts T' _ _ es acc))=>cond (Nat.beq T T') (.ts T .any n ((es.drop o).take n) (fun i=>acc (o+i)),A) (.bA,A)
  | _=>(.bA,A)
 | v=>(v,A)
def XG (A:ao):List KV->List KV×ao
 | []=>([],A)
 | v::vs=>((abO A v).1::(XG (abO A v).2 vs).1,(XG (abO A v).2 vs).2)
def aeZ (A:ao) (v:KV):KV×ao:=
 match v with
 | .agg cs=>(.agg (XG A cs).1,(XG A cs).2)
 | v=>abO A v
def vy (A:ao):List KV->List KV×ao
 | []=>([],A)
 | v::vs=>((aeZ A v).1::(vy (aeZ A v).2 vs).1,(vy (aeZ A v).2 vs).2)
def XH (T b:Nat) (z:KV):FA:=fun A xs=>
 match xs with
 | [.int _ l,.int _ c]=>.jt (decide (0<=l)&&decide (l<=c)&&Nat.ble (b * c.toNat) 281474976710656) (.al T A.next 0 l.toNat,A.new (.arr (.ts T .any c.toNat (cY [z] c.toNat) (fun _=>z))))
 | _=>.no
def afY (T b:Nat) (z:KV):FP:=fun xs=>
 match xs with
 | [.int _ l,.int _ c]=>.jt (decide (0<=l)&&decide (l<=c)&&Nat.ble (b * c.toNat) 281474976710656) (.ts T .any l.toNat (cY [z] l.toNat) (fun _=>z))
 | _=>.no
def tS (P:Program) (mt:TypeId->Bool) (t:TypeId) (l c:Operand):pn:=
 match P.underlying t with
 | some (.slice e)=>
  match P.info? e with
  | some i=>match i.zero with
   | some z=>cond (mt (e+1000000)) (cond (Nat.ble 1 i.size&&Nat.ble 1 i.bytes&&Nat.beq z.cells.size i.size&&flat z&&z.cells.toList.all scalar&&Nat.beq (aX P e).ks.length i.size&&cl (aX P e) (dy (aX P e) (ff z))) (.look (afY e i.bytes (dy (aX P e) (ff z))) [l,c]) .bad) <| cond (mt e) (cond (Nat.ble 1 i.size&&Nat.ble 1 i.bytes&&Nat.beq z.cells.size i.size&&flat z&&z.cells.toList.all scalar&&Nat.beq (aX P e).ks.length i.size&&cl (aX P e) (dy (aX P e) (ff z))) (.act (XH e i.bytes (dy (aX P e) (ff z))) [l,c]) .bad) <| cond (Nat.ble 1 i.size&&Nat.ble 1 i.bytes&&Nat.beq z.cells.size i.size&&flat z&&z.cells.toList.all scalar&&fY (ff z).cells) (.act (O4 i.size i.bytes (ff z).cells) [l,c]) .bad
   | none=>.bad
  | none=>.bad
 | _=>.bad
def yZ (es:List KV) (o:Nat) (new:List KV):List KV:=es.take o++new++es.drop (o+new.length)
def Q7 (o k:Nat) (f g:Nat->KV):Nat->KV:=fun i=>cond (Nat.blt i o) (f i) (cond (Nat.blt i (o+k)) (g (i - o)) (f i))
def ajY (e:Nat):FA:=fun A xs=>
 match xs with
 | [.al e1 b o n,y]=>match O3 A y,A.get b with
  | some (.ts e' _ m new an),some (.arr (.ts e2 _ N es acc))=>cond (Nat.beq e e'&&Nat.beq e e1&&Nat.beq e e2)
    (.ok (.int .i64 (Nat.min m n:Nat),A.put b (.arr (.ts e .any N (yZ es o (new.take (Nat.min m n))) (Q7 o (Nat.min m n) acc an))))) .no
  | _,_=>.no
 | _=>.no
def Q8 (P:Program) (argTypes:List TypeId) (args:List Operand):pn:=
 match argTypes with
 | [t,u]=>
  match P.underlying t,P.underlying u with
  | some (.slice e),some (.slice _)=>match size? P e with
   | some n=>cond (Nat.ble 1 n&&Nat.beq (aX P e).ks.length n) (.act (ajY e) args) .bad
   | none=>.bad
  | _,_=>.bad
 | _=>.bad
def y4 (P:Program) (mt:TypeId->Bool) (b:Builtin) (argTypes:List TypeId) (args:List Operand):pn:=
 match b with
 | .len=>abN P argTypes args
 | .min=>.pure (Ky false) args
 | .max=>.pure (Ky true) args
 | .append=>Ib P mt argTypes args
 | .copy=>Q8 P argTypes args
 | _=>.bad
inductive y5 where
 | no
 | out (e:ae) (t:bq) (A:ao)
 | br (c:Bool) (x y:y5)
 | once
inductive sU where
 | no
 | out (v:KV) (A:ao)
 | br (c:Bool) (x y:sU)
structure ahu where
 ac:FuncId->Option (List KV->ao->sU)
 mt:TypeId->Bool
 fz:Bool
 eg:Bool
def ahu.none:ahu:=⟨fun _=>.none,fun _=>false,false,false⟩
structure dE where
 pc:FuncId->Option (List KV->KR KV)
 lp:FuncId->Nat->Option (bq->ao->y5)
 x:ahu
def dE.none:dE:=⟨fun _=>.none,fun _ _=>.none,.none⟩
def eE (P:Program) (f:KV->KV) (t:TypeId) (e:KV):KV:=OA (aX P t).agg ((leaves e (aX P t).ks 0).map f)
def bI (P:Program) (d:Nat):KV->KV:=Nat.rec (motive:=fun _=>KV->KV) (fun v=>v) (fun _ ih v=>match v with
 | .ts t _ n _ acc=>.ts t .any n ((List.range n).map fun i=>eE P ih t (acc i)) (fun i=>eE P ih t (acc i))
 | v=>v) d
def dx:Nat:=6
def Vh (P:Program) (t:TypeId) (v:KV):KV:=cond (cl (aX P t) (dy (aX P t) v)) (eE P (bI P dx) t (dy (aX P t) v)) .bA
def normArgs (P:Program):List TypeId->List KV->List KV
 | t::ts,v::vs=>Vh P t v::normArgs P ts vs
 | _,_=>[]
def cn (P:Program) (g:FuncId):List TypeId:=match P.funcs.toList[g]? with
 | some fn=>fn.params.toList
 | none=>[]
def dE.ahv (cfg:dE) (g:FuncId):Bool:=cfg.x.fz||cfg.x.mt (2000000+g)
def kl (P:Program) (cfg:dE) (c:Call):pn:=
 match c.callee with
 | .value (.func g)=>match cfg.pc g with
  | some F=>cond (cfg.ahv g) (.Gu g (fun vs=>cond (Nat.beq vs.length (cn P g).length) (F (normArgs P (cn P g) vs)) .no) c.args.toList)
    (.Ba g (fun vs=>cond (Nat.beq vs.length (cn P g).length) (F (normArgs P (cn P g) vs)) .no) c.args.toList)
  | none=>.call (.func g) c.args.toList
 | .value f=>.call f c.args.toList
 | .builtin b=>y4 P cfg.x.mt b c.argTypes.toList c.args.toList
 | .invoke _ _=>.bad
def vW:Fn->Bool
 | .yield _=>true
 | _=>false
def bP (P:Program) (cfg:dE):Op->pn
 | .move x=>.pure afU [x]
 | .assign x=>.pure (cond cfg.x.eg afV afU) [x]
 | .pick c a b=>.pure ajX [c,a,b]
 | .alloc t=>om P t
 | .box t x=>.act (ahr (mJ P t)) [x]
 | .build t parts=>rF P t (parts.toList.map (·.1)) (parts.toList.map (·.2))
 | .buildSlice t len parts=>jX P cfg.x.mt t len (parts.toList.map (·.1)) (parts.toList.map (·.2))
 | .load t a=>.read (XD P t) [a]
 | .store t a x=>.act (Ve P t) [a,x]
 | .nilCheck x=>.pure abK [x]
 | .binOp op t x y _=>.pure (anL P op t) [x,y]
 | .unOp op _ x=>.pure (kUn op) [x]
 | .convert src dst x=>nP P src dst x
 | .makeFunc fn first cap=>cond (vW fn) .bad (.pure (Mu fn first.size) (first.toList++cap.toList))
 | .fieldAddr s x f=>kO P s x f
 | .field t x f=>rG P t x f
 | .indexAddr t x ix=>kP P t x ix
 | .index t x ix=>rH P t x ix
 | .extract t ix=>.pure (aeX ix) [t]
 | .slice t x lo hi mx=>rI P t x lo hi mx
 | .makeSlice t l c=>tS P cfg.x.mt t l c
 | .call c=>kl P cfg c
 | _=>.bad
def jK (t:bq):Operand->KV
 | .tmp i=>(t.get i).getD .bA
 | .const v=>cond (flat v) (ff v) .bA
 | .global _=>.bA
 | .func f=>.fn (.func f) [] []
def j6 (t:bq):List Operand->List KV
 | []=>[]
 | x::xs=>jK t x::j6 t xs
def oy (t:bq) (dst:Option Tmp) (v:KV):bq:=
 match dst with
 | some d=>t.set v d
 | none=>t
def Gv (args:List KV):KV->Option (FuncId×List KV)
 | .fn (.func g) first cap=>some (g,first++args++cap)
 | _=>none
inductive BK where
 | bool (b:Bool)
 | jV
 | no
def sV:KV->BK
 | .bool b=>.bool b
 | .jV _=>.jV
 | _=>.no
section
variable {R:Type}
abbrev mj (R:Type):=FuncId->List KV->ao->(KV->ao->Option R)->Option R
def O5 (bz:mj R) (t:bq) (A:ao) (k:KV->ao->Option R) (ins:pn):Option R:=
 pn.rec (motive:=fun _=>Option R)
  (fun f xs=>(f (j6 t xs)).run fun v=>k v A)
  (fun f xs=>(f A (j6 t xs)).run fun v=>k v A)
  (fun f xs=>(f A (j6 t xs)).run fun p=>k p.1 p.2)
  (fun f xs=>(f (j6 t xs)).run fun v=>k v A)
  (fun _ f xs=>(f (j6 t xs)).run fun v=>k v A)
  (fun _ f xs=>(f (vy A (j6 t xs)).1).run fun v=>k v (vy A (j6 t xs)).2)
  (fun f args=>Option.rec (motive:=fun _=>Option R) none (fun p=>bz p.1 p.2 A k) (Gv (j6 t args) (jK t f)))
  none ins
def ahw (t:bq) (d:Option Tmp) (want:Bool) (yes no:bq->Option R):Option R:=
 Option.rec (motive:=fun _=>Option R) none (fun d=>BK.rec (motive:=fun _=>Option R)
  (fun b=>Bool.rec (motive:=fun _=>Option R)
   (Bool.rec (motive:=fun _=>Option R) (yes (t.set (.bool false) d)) (no (t.set (.bool false) d)) want)
   (Bool.rec (motive:=fun _=>Option R) (no (t.set (.bool true) d)) (yes (t.set (.bool true) d)) want) b)
  (no t) none (sV ((t.get d).getD .bA))) d
def xg (P:Program) (cfg:dE) (bz:mj R) (all:List Oper) (o:Oper) (k:bq->ao->Option R) (t:bq) (A:ao):Option R:=
 Option.rec (motive:=fun _=>Option R) (O5 bz t A (fun v A=>k (oy t o.dst v) A) (bP P cfg o.op))
  (fun g=>ahw t ((all[g.1]?).bind (·.dst)) g.2 (fun t=>O5 bz t A (fun v A=>k (oy t o.dst v) A) (bP P cfg o.op)) (fun t=>k (oy t o.dst qf) A)) o.guard
def rp (P:Program) (cfg:dE) (bz:mj R) (all:List Oper) (k:bq->ao->Option R) (os:List Oper):bq->ao->Option R:=
 List.rec (motive:=fun _=>bq->ao->Option R) k (fun o _ ih=>xg P cfg bz all o ih) os
abbrev KE (R:Type):=ae->bq->ao->Option R
def afZ (t:bq) (c:Operand) (f g:bq->Option R):Option R:=
 match c with
 | .tmp d=>BK.rec (motive:=fun _=>Option R) (fun b=>Bool.rec (motive:=fun _=>Option R) (g (t.set (.bool false) d)) (f (t.set (.bool true) d)) b) none none (sV ((t.get d).getD .bA))
 | c=>BK.rec (motive:=fun _=>Option R) (fun b=>Bool.rec (motive:=fun _=>Option R) (g t) (f t) b) none none (sV (jK t c))
def cX (i:pn):Nat:=pn.rec (motive:=fun _=>Nat) (fun _ _=>0) (fun _ _=>1) (fun _ _=>3) (fun _ _=>0) (fun _ _ _=>0) (fun _ _ _=>3) (fun _ _=>9) 9 i
def aaZ:pn->List Operand
 | .pure _ xs=>xs
 | .read _ xs=>xs
 | .act _ xs=>xs
 | .look _ xs=>xs
 | .Ba _ _ xs=>xs
 | .Gu _ _ xs=>xs
 | .call f xs=>f::xs
 | .bad=>[]
def lV (P:Program) (cfg:dE) (all:List Oper) (o:Oper):List Tmp:=F5 all o++ph (aaZ (bP P cfg o.op))
def rJ (P:Program) (cfg:dE) (all:List Oper) (x y:Oper):Bool:=OP x.dst (lV P cfg all y)||OP y.dst (lV P cfg all x)||UY x.dst y.dst
def Jv (P:Program) (cfg:dE) (all:List Oper) (x y:Oper):Bool:=
 rJ P cfg all x y||(Nat.ble 3 (cX (bP P cfg x.op))&&!(Nat.beq (cX (bP P cfg y.op)) 0))||(Nat.ble 3 (cX (bP P cfg y.op))&&!(Nat.beq (cX (bP P cfg x.op)) 0))
def Q9:Op->Bool
 | .alloc _=>true
 | .box _ _=>true
 | .call c=>match c.callee with
  | .builtin .append=>true
  | _=>false
 | _=>false
def Vi:Op->Option Operand
 | .store _ a _=>some a
 | _=>none
def alC:Op->Option Operand
 | .load _ a=>some a
 | _=>none
def tT (i:Nat) (x:Operand):List Oper->Nat->Bool
 | [],_=>true
 | o::os,j=>(Nat.blt j i||!(OP o.dst (ph [x])))&&tT i x os (Nat.succ j)
def Mv (i:Nat) (x:Option Operand) (all:List Oper):Bool:=
 match x with
 | some x=>tT i x all 0
 | none=>true
def Mw (x y:Oper):Option (Option Operand×Operand):=
 match alC y.op with
 | some a=>cond (Q9 x.op) (some (none,a)) (match Vi x.op with
  | some a2=>some (some a2,a)
  | none=>none)
 | none=>none
def Zi (all:List Oper) (j:Nat) (x:Oper) (i:Nat) (y:Oper):Option (Option Operand×Operand):=
 match Mw x y with
 | some p=>cond (tT i p.2 all 0&&Mv j p.1 all) (some p) none
 | none=>match Mw y x with
  | some p=>cond (tT j p.2 all 0&&Mv i p.1 all) (some p) none
  | none=>none
def KB (t:bq) (nx:Nat) (p:Option Operand×Operand):Bool:=
 match jK t p.2 with
 | .tp _ _ _ _ _ _=>true
 | .ptr b _=>Nat.blt b nx&&(match p.1 with
  | some a2=>(match jK t a2 with
   | .ptr b2 _=>!(Nat.beq b b2)
   | .ap _ _ _ _ _=>true
   | _=>false)
  | none=>true)
 | _=>false
def Tq (t:bq) (nx:Nat) (l:List (Option Operand×Operand)):Bool:=List.rec (motive:=fun _=>Bool) true (fun p _ ih=>Bool.rec false ih (KB t nx p)) l
def C3 (P:Program) (cfg:dE) (all:List Oper) (b:List Nat) (i:Nat) (y:Oper):List Oper->Nat->List (Option Operand×Operand)
 | [],_=>[]
 | x::xs,j=>cond (Nat.ble i j||!Jv P cfg all x y||ox b i j) (C3 P cfg all b i y xs (Nat.succ j)) (match Zi all j x i y with
  | some p=>p::C3 P cfg all b i y xs (Nat.succ j)
  | none=>C3 P cfg all b i y xs (Nat.succ j))
def XI (P:Program) (cfg:dE) (all:List Oper) (b:List Nat):List Oper->Nat->List (Option Operand×Operand)
 | [],_=>[]
 | o::os,i=>C3 P cfg all b i o all 0++XI P cfg all b os (Nat.succ i)
def Tr (P:Program) (cfg:dE) (all:List Oper):Bool:=all.all fun o=>!(Nat.ble 3 (cX (bP P cfg o.op)))||Q9 o.op||(Vi o.op).isSome
def Jw (P:Program) (cfg:dE) (all:List Oper):List (Option Operand×Operand):=XI P cfg all (dD [] all) all 0
def Ra (P:Program) (cfg:dE) (all:List Oper) (b:List Nat) (i:Nat) (y:Oper):List Oper->Nat->Bool
 | [],_=>true
 | x::xs,j=>(Nat.ble i j||!Jv P cfg all x y||ox b i j||(!rJ P cfg all x y&&(Zi all j x i y).isSome))&&Ra P cfg all b i y xs (Nat.succ j)
def KC (P:Program) (cfg:dE) (all:List Oper) (b:List Nat):List Oper->Nat->Bool
 | [],_=>true
 | o::os,i=>Ra P cfg all b i o all 0&&KC P cfg all b os (Nat.succ i)
def ahx (P:Program) (cfg:dE) (all:List Oper):Bool:=Kq P all&&all.all (fun o=>Nat.ble (cX (bP P cfg o.op)) 3)&&KC P cfg all (dD [] all) all 0&&((Jw P cfg all).isEmpty||Tr P cfg all)
def fy (o:Oper):Option (TypeId×Tmp):=
 match o.op,o.guard,o.dst with
 | .alloc T,none,some d=>some (T,d)
 | _,_,_=>none
def uL (d:Tmp):List Oper->Bool
 | []=>false
 | o::os=>(match fy o with
  | some (_,e)=>Nat.beq d e
  | none=>false)||uL d os
def qx (all:List Oper) (o:Oper):Option (TypeId×Tmp×Operand):=
 match o.op,o.guard,o.dst with
 | .store T (.tmp d) x,none,none=>cond (uL d all) (some (T,d,x)) none
 | _,_,_=>none
def oW (all:List Oper) (o:Oper):Bool:=(fy o).isSome||(qx all o).isSome
def qy (all:List Oper) (d:Tmp):List Oper->Option (TypeId×Operand)
 | []=>none
 | o::os=>match qx all o with
  | some (T,e,x)=>cond (Nat.beq d e) (some (T,x)) (qy all d os)
  | none=>qy all d os
def KD (i:Nat) (d:Tmp):List Oper->Nat->Bool
 | [],_=>true
 | o::os,j=>(Nat.beq j i||!(OP o.dst [d]))&&KD i d os (Nat.succ j)
def Bf (all:List Oper) (i:Nat) (d:Tmp):List Oper->Nat->Bool
 | [],_=>true
 | o::os,j=>(Nat.beq j i||(match qx all o with
  | some (_,e,_)=>!(Nat.beq d e)
  | none=>true))&&Bf all i d os (Nat.succ j)
def O6 (all:List Oper):List Oper->Nat->Bool
 | [],_=>true
 | o::os,i=>(match fy o with
  | some (_,d)=>KD i d all 0
  | none=>true)&&(match qx all o with
  | some (_,d,x)=>tT i x all 0&&Bf all i d all 0&&uL d (all.take i)&&!(OP (some d) (ph [x]))
  | none=>true)&&O6 all os (Nat.succ i)
def F8 (P:Program) (cfg:dE) (all:List Oper) (b:List Nat) (i:Nat) (y:Oper):List Oper->Nat->Bool
 | [],_=>true
 | x::xs,j=>(Nat.ble i j||!rJ P cfg all x y||ox b i j)&&F8 P cfg all b i y xs (Nat.succ j)
def ya (P:Program) (cfg:dE) (all:List Oper) (b:List Nat):List Oper->Nat->Bool
 | [],_=>true
 | o::os,i=>F8 P cfg all b i o all 0&&ya P cfg all b os (Nat.succ i)
def KF (o:Oper):Option (Operand×List Operand):=
 match o.op,o.guard with
 | .call c,none=>match c.callee with
  | .value (.tmp d)=>some (.tmp d,c.args.toList)
  | _=>none
 | _,_=>none
def Fw (P:Program) (cfg:dE) (t:bq) (p:Operand×List Operand):pn:=
 match jK t p.1 with
 | .fn (.func g) [] []=>match cfg.pc g with
  | some F=>.Ba g (fun vs=>cond (Nat.beq vs.length (cn P g).length) (F (normArgs P (cn P g) vs)) .no) p.2
  | none=>.bad
 | _=>.bad
def Vj (P:Program) (cfg:dE) (all:List Oper):Bool:=Kq P all&&all.all (fun o=>oW all o||Nat.ble (cX (bP P cfg o.op)) 1||(KF o).isSome)&&ya P cfg all (dD [] all) all 0&&O6 all all 0
def ajZ (P:Program) (cfg:dE) (bz:mj R) (all:List Oper) (o:Oper) (k:bq->ao->Option R) (t:bq) (A:ao):Option R:=
 Bool.rec (motive:=fun _=>Option R) (Option.rec (motive:=fun _=>Option R) (xg P cfg bz all o k t A) (fun p=>O5 bz t A (fun v A=>k (oy t o.dst v) A) (Fw P cfg t p)) (KF o)) (k (oy t o.dst .bA) A) (oW all o)
def abP (P:Program) (cfg:dE) (bz:mj R) (all:List Oper) (k:bq->ao->Option R) (os:List Oper):bq->ao->Option R:=
 List.rec (motive:=fun _=>bq->ao->Option R) k (fun o _ ih=>ajZ P cfg bz all o ih) os
def uM (P:Program) (all:List Oper) (t:bq) (T:TypeId) (d:Tmp):Option (List KV):=
 match qt P T with
 | some z=>cond (flat z&&z.cells.toList.all scalar&&fY (ff z).cells&&decide (some (ff z).cells.length=size? P T)) (match qy all d all with
  | some (T',x)=>cond (Nat.beq T T'&&decide (some (jK t x).cells.length=size? P T)&&fY (jK t x).cells) (some (jK t x).cells) none
  | none=>some (ff z).cells) none
 | none=>none
def Zj (P:Program) (all:List Oper) (t0:bq) (k:bq->ao->Option R) (os:List Oper):bq->ao->Option R:=
 List.rec (motive:=fun _=>bq->ao->Option R) k (fun o _ ih t A=>Option.rec (motive:=fun _=>Option R) (ih t A) (fun p=>
  Option.rec (motive:=fun _=>Option R) none (fun cs=>ih (t.set (.ptr A.next 0) p.2) (A.new (.row cs (mJ P p.1)))) (uM P all t0 p.1 p.2)) (fy o)) os
def anO (P:Program) (cfg:dE) (o:Oper):Bool:=
 match bP P cfg o.op with
 | .call _ _=>true
 | _=>false
def ae0 (P:Program) (cfg:dE):List Oper->Nat->Option Nat
 | [],_=>none
 | o::os,i=>cond (anO P cfg o) (some i) (ae0 P cfg os (Nat.succ i))
def KG (P:Program) (cfg:dE) (b:List Nat) (i:Nat):List Oper->Nat->Bool
 | [],_=>true
 | q::os,j=>cond (Nat.beq j i) true (cond (Nat.blt j i) (cond (Nat.beq (cX (bP P cfg q.op)) 0) true (ox b i j)) (ox b j i))&&KG P cfg b i os (Nat.succ j)
def KH (P:Program) (cfg:dE) (b:List Nat) (all:List Oper):List Oper->Nat->Bool
 | [],_=>true
 | o::os,i=>cond (Nat.ble (cX (bP P cfg o.op)) 1) true (KG P cfg b i all 0)&&KH P cfg b all os (Nat.succ i)
def Mx (P:Program) (cfg:dE) (all:List Oper):Bool:=
 match ae0 P cfg all 0 with
 | some _=>Kq P all&&ya P cfg all (dD [] all) all 0&&KH P cfg (dD [] all) all all 0
 | none=>false
def abQ (P:Program) (cfg:dE) (bz:mj R) (ops:List Oper) (draw:Bool) (k:bq->ao->Option R):bq->ao->Option R:=
 Bool.rec (motive:=fun _=>bq->ao->Option R) (rp P cfg bz ops k ops) (Bool.rec (motive:=fun _=>bq->ao->Option R)
  (Bool.rec (motive:=fun _=>bq->ao->Option R)
   (Bool.rec (motive:=fun _=>bq->ao->Option R) (fun _ _=>none) (abP P cfg bz ops (fun t A=>Zj P ops t k ops t A) ops) (Vj P cfg ops))
   (rp P cfg bz ops k ops) (Mx P cfg ops))
  (fun t A=>rp P cfg bz ops (fun t' A'=>Bool.rec (motive:=fun _=>Option R) none (k t' A') (Tq t' A.next (Jw P cfg ops))) ops t A) (ahx P cfg ops)) draw
def Ts (k:KE R) (f:bq->ao->Option R):KE R:=fun e t A=>ae.rec (motive:=fun _=>Option R) (f t A) (fun i=>k (.exit i) t A) (fun l=>k (.goto l) t A) (k .ret t A) e
def alD (id:Nat) (k:KE R):KE R:=fun e t A=>ae.rec (motive:=fun _=>Option R) (k .normal t A) (fun i=>Bool.rec (motive:=fun _=>Option R) (k (.exit i) t A) (k .normal t A) (Nat.beq i id)) (fun l=>k (.goto l) t A) (k .ret t A) e
def abR (k:KE R):KE R:=fun e t A=>ae.rec (motive:=fun _=>Option R) (k .normal t A) (fun i=>k (.exit i) t A) (fun _=>none) (k .ret t A) e
def XJ (g:KE R->bq->ao->Option R) (k:KE R) (L:Nat):bq->ao->Option R:=
 Nat.rec (motive:=fun _=>bq->ao->Option R) (fun _ _=>none) (fun _ ih=>g (Ts k ih)) L
def sU.run (k:KV->ao->Option R) (x:sU):Option R:=sU.rec (motive:=fun _=>Option R) none (fun v A=>k v A) (fun c _ _ rx ry=>Bool.rec (motive:=fun _=>Option R) ry rx c) x
def y5.run (k:KE R) (x:y5):Option R:=y5.rec (motive:=fun _=>Option R) none (fun e t A=>k e t A) (fun c _ _ rx ry=>Bool.rec (motive:=fun _=>Option R) ry rx c) none x
def Tt (F:bq->ao->y5) (k:KE R) (t:bq) (A:ao):Option R:=(F t A).run k
def af0 (x:y5):Bool:=y5.rec (motive:=fun _=>Bool) false (fun _ _ _=>false) (fun _ _ _ _ _=>false) true x
def XK (g:KE R->bq->ao->Option R) (F:bq->ao->y5) (k:KE R) (L:Nat):bq->ao->Option R:=
 Nat.rec (motive:=fun _=>bq->ao->Option R) (fun t A=>Tt F k t A) (fun _ ih t A=>Bool.rec (motive:=fun _=>Option R) (Tt F k t A) (g (Ts k ih) t A) (af0 (F t A))) L
def dZ:Nat:=10000000000000
def oz (P:Program) (cfg:dE) (bz:mj R) (L:Nat) (f:FuncId) (c:Code):Nat->KE R->bq->ao->Option R:=
 Code.rec (motive:=fun _=>Nat->KE R->bq->ao->Option R) (fun _ k t A=>k .normal t A)
  (fun _ ops d _ k=>abQ P cfg bz ops.toList d (fun t A=>k .normal t A))
  (fun _ _ a b p k=>a (2 * p) (Ts k fun t A=>b (2 * p+1) k t A))
  (fun c _ _ a b p k t A=>afZ t c (fun t=>a (2 * p) k t A) (fun t=>b (2 * p+1) k t A))
  (fun id _ g p k=>g (2 * p) (alD id k))
  (fun _ g p k=>Option.rec (motive:=fun _=>bq->ao->Option R) (XJ (g (2 * p)) k L) (fun F=>XK (g (2 * p)) F k L) (cfg.lp f p))
  (fun _ _ _ _ _ _ _ _ _ _=>none) (fun id _ k t A=>k (.exit id) t A) (fun _ g p k=>g (2 * p) (abR k)) (fun _ _ k t A=>k .normal t A) (fun l _ k t A=>k (.goto l) t A) (fun _ k t A=>k .ret t A) (fun _ _ _ _ _=>none) c
def mM:List KV->Nat->bq->bq
 | [],_,t=>t
 | v::vs,i,t=>mM vs (Nat.succ i) (t.set v i)
def KI (P:Program) (A:ao) (t:bq):List ResultVar->Option (List KV)
 | []=>some []
 | .tmp x::rs=>(KI P A t rs).map (jK t (.tmp x)::·)
 | .cell a ty::rs=>match XD P ty A [jK t (.tmp a)] with
  | .ok v=>(KI P A t rs).map (v::·)
  | _=>none
def Gw:List KV->KV
 | [v]=>v
 | vs=>.jV vs
def ahy (P:Program) (fn:Func) (k:List KV->ao->Option R):KE R:=fun e t A=>
 ae.rec (motive:=fun _=>Option R) (Option.rec (motive:=fun _=>Option R) none (fun vs=>k vs A) (KI P A t fn.results.toList)) (fun _=>none) (fun _=>none) (Option.rec (motive:=fun _=>Option R) none (fun vs=>k vs A) (KI P A t fn.results.toList)) e
def XL (P:Program) (cfg:dE) (bz:mj R) (L:Nat) (f:FuncId) (args:List KV) (A:ao) (k:List KV->ao->Option R):Option R:=
 match P.funcs.toList[f]? with
 | some fn=>match fn.body with
  | some c=>oz P cfg bz L f c 1 (ahy P fn k) (mM args 0 .leaf) A
  | none=>none
 | none=>none
def Ic (P:Program) (cfg:dE) (L:Nat) (n:Nat):mj R:=
 Nat.rec (motive:=fun _=>mj R) (fun _ _ _ _=>none) (fun _ ih f args A k=>
  Bool.rec (motive:=fun _=>Option R) none (Option.rec (motive:=fun _=>Option R) (XL P cfg ih L f args A fun vs B=>k (Gw vs) B) (fun F=>sU.run k (F args A)) (cfg.x.ac f)) (Nat.blt f yB)) n
end
def uN (P:Program):List TypeId->List KV->List KV
 | t::ts,v::vs=>Vh P t v::uN P ts vs
 | _,_=>[]
def qz (P:Program) (g:FuncId):List TypeId:=match P.funcs.toList[g]? with
 | some fn=>fn.resultTypes.toList
 | none=>[]
def xh (P:Program) (cfg:dE) (L n:Nat) (f:FuncId) (args:List KV):Option KV:=
 XL P cfg (Ic P cfg L n) L f args .empty fun vs A=>Bool.rec (motive:=fun _=>Option KV) none (some (Gw (uN P (qz P f) (vy A vs).1))) (Nat.beq vs.length (qz P f).length)
end
end Go.K
end
