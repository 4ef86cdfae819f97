/- Part of the proof of BinsTell: the machine, shown to be the model's, and plain models. No conditions. -/
import Derived.Test.YtchbpckkmgcgkaaGreatFp
import Derived.OpenShut
import Derived.ChangeArms
import Derived.WideShapes
import Derived.Below
import Derived.KernelRfl
import Derived.Test.YtchbpckkmgcgkaaGreatProg
set_option linter.unusedSimpArgs false
set_option linter.unusedVariables false
section
namespace Go.K
open Go Go.aB
mutual
def WB:KV->Prop
 | .int k n=>(Lit.int k n).wf=true
 | .str s=>s.size<=maxLen
 | .ts _ _ n es _=>n<=maxLen/\Ec es
 | .agg cs=>Ec cs
 | _=>True
def Ec:List KV->Prop
 | []=>True
 | v::vs=>WB v/\Ec vs
end
theorem H8:∀ {a b:List KV},Ec a->Ec b->Ec (a++b)
 | [],_,_,h=>h
 | x::a,b,h,k=>by
  simp only [Ec] at h;exact ⟨h.1,H8 h.2 k⟩
theorem aaI:∀ {l:List KV},Ec l->∀ v∈l,WB v
 | [],_,v,h=>by simp at h
 | x::l,h,v,hv=>by
  simp only [Ec] at h;rcases eL.1 hv with rfl | hv
  ·exact h.1
  ·exact aaI h.2 v hv
structure Ur (P:Program) (W:World) (E:Env) (B:St) (ρ:aZ):Prop where
 jK:xS ρ B W.heap.size W
 k:fK P E .empty B
 κ:∀ b,E.κ b=none
 wj:∀ b o,B.get b=some o->o.fJ=false/\o.nI=none
 α:∀ b,E.α b=none
def Env.none:Env:=⟨fun _=>.none,fun _=>.none,fun _=>.none,fun _=>.none⟩
theorem O3.empty {P:Program} {E:Env} {B:St} (tj:∀ b,E.α b=none):O3 P E .empty B:=by
 have hn:∀ b o,¬ aC.empty.get b=some o:=fun b o hb=>by simp [aC.empty,aC.get] at hb
 exact ⟨fun b v hb=>(hn b _ hb).elim,fun b v hb=>(hn b _ hb).elim,fun x ⟨b,v,_,_,hb,_⟩=>(hn b _ hb).elim,fun b c v u x L N L' N' hb=>(hn b _ hb).elim,fun b c v u x y L N L' N' cs e own g k cd e' rU k' hb=>(hn b _ hb).elim,fun b x _=>tj b,fun b p e=>by rw [tj b] at e; simp at e,fun b x L N e=>by rw [tj b] at e; simp at e,fun b v x L N cs e own g k hb=>(hn b _ hb).elim,fun b v hb=>(hn b _ hb).elim⟩
theorem Ur.start (P:Program) (W:World):Ur P W .none .empty (IV []):=by
 refine ⟨xS.empty W,⟨?_,?_,?_,?_,?_,?_,?_,?_,?_,?_,?_,?_,?_,?_,.empty fun _=>rfl⟩,fun _=>rfl,fun b o h=>by simp [St.get,St.empty] at h,fun _=>rfl⟩
 ·intro b cs bV h; simp [aC.empty,aC.get] at h
 ·intro b cs bV h; simp [aC.empty,aC.get] at h
 ·intro b r h; simp [Env.none] at h
 ·intro b r h; simp [Env.none] at h
 ·intro b c r h; simp [Env.none] at h
 ·intro b c r _ _ _ _ _ _ h; simp [Env.none] at h
 ·intro b r h; simp [Env.none] at h
 ·intro b r h; simp [Env.none] at h
 ·intro b o h; simp [aC.empty,aC.get] at h
 ·intro b r h; simp [Env.none] at h
 ·intro b r h; simp [Env.none] at h
 ·intro b r h; simp [Env.none] at h
 ·intro g _; simp [St.members,St.empty]
 ·intro g x h; simp [St.members,St.empty] at h
theorem Ur.add {P:Program} {W:World} {E:Env} {B:St} {ρ:aZ} (h:Ur P W E B ρ) {cs:List Value} {l:aB.Loc}
  (hc:∀ (i:Nat) (v:Value),cs[i]? = some v->∃ v',W.cell? ⟨l.cb,l.eI+i,.none⟩=some v'/\VR ρ v v'/\scalar v=true) (hl:l.cb < W.heap.size) (hf:l.eI+cs.length<=l.CT) :
  Ur P W (E.gC B.next ⟨cs,l.bV,false,.none⟩) (B.new (.row cs l.bV false .none)) (ρ.set B.next l)/\E.le (E.gC B.next ⟨cs,l.bV,false,.none⟩)/\ρ.le (ρ.set B.next l):=by
 have hle:E.le (E.gC B.next ⟨cs,l.bV,false,.none⟩):=⟨fun _ _ e=>e,fun _ _ e=>e,fun b r e=>by
  have:=h.k.oS b r e;simp only [Env.gC]; rw [ay (by omega)]; exact e,fun _ _ e=>e⟩
 have mC:=h.jK.OL l;have nL:∀ b o,(B.new (.row cs l.bV false .none)).get b=some o->(b=B.next/\o = .row cs l.bV false .none)\/(b≠B.next/\B.get b=some o):=by
  intro b o hb;rw [St.dw] at hb;split at hb
  ·rename_i e; simp at hb; exact .inl ⟨e,hb.symm⟩
  ·rename_i e; exact .inr ⟨e,hb⟩
 have ahV:∀ b o,(B.new (.row cs l.bV false .none)).get b=some o->o.fJ=false/\o.nI = .none:=by
  intro b o hb;rcases nL b o hb with ⟨_,rfl⟩ | ⟨_,hb⟩
  ·exact ⟨rfl,rfl⟩
  ·exact h.wj b o hb
 refine ⟨⟨⟨⟨?_,?_,?_,?_,?_,?_⟩,?_,h.jK.size,h.jK.Qj.mono mC⟩,?_,h.κ,ahV,h.α⟩,hle,mC⟩
 ·intro b nK bV own cc hb
  rcases nL b _ hb with ⟨rfl,e⟩ | ⟨eF,hb⟩
  ·simp only [dc.row.injEq] at e
   obtain ⟨rfl,rfl,rfl,rfl⟩:=e;refine ⟨l,by simp [aZ.set],⟨fun i v hi=>?_,fun _=>hl,fun e=>by simp at e,fun e=>by simp at e,hf,fun e=>by simp at e,rfl,hl,fun e=>by simp at e⟩⟩;obtain ⟨v',h1,h2,h3⟩:=hc i v hi;exact ⟨v',h1,h2.mono mC,h3⟩
  ·obtain ⟨l',h1,h2⟩:=h.jK.rel.row b nK bV own cc hb
   exact ⟨l',mC _ _ h1,⟨fun i v hi=>by obtain ⟨v',q1,q2,q3⟩:=h2.cells i v hi; exact ⟨v',q1,q2.mono mC,q3⟩,h2.wj,h2.fJ,h2.there,h2.fits,h2.ends,h2.bV,h2.qJ,h2.mark⟩⟩
 ·intro b es hb
  have:=(ahV b _ hb).1;simp [dc.fJ] at this
 ·intro b s pos hb
  have:=(ahV b _ hb).1;simp [dc.fJ] at this
 ·intro b st e t ps a c hb
  have:=(ahV b _ hb).1;simp [dc.fJ] at this
 ·intro b1 b2 o1 o2 l1 l2 _ h1 _ h3
  have:=(ahV b1 _ h1).1;rw [h3] at this; simp at this
 ·intro b o bc f hb hk
  have:=(ahV b _ hb).2;rw [hk] at this; simp at this
 ·intro b l' hb
  rw [St.ct];simp only [aZ.set] at hb;split at hb
  ·omega
  ·have:=h.jK.mA b l' hb; omega
 ·refine ⟨?_,?_,?_,?_,?_,?_,?_,?_,?_,?_,?_,?_,?_,?_,.empty h.α⟩
  ·intro b cs bV h; simp [aC.empty,aC.get] at h
  ·intro b cs bV h; simp [aC.empty,aC.get] at h
  ·intro b r hb
   simp only [Env.gC] at hb;split at hb
   ·rename_i e
    simp at hb;subst hb e;simp
   ·have:=h.k.oS b r hb
    rw [St.dw,ay (by omega)];exact h.k.z b r hb
  ·intro b x hb; have hb:E.κ b=some x:=hb; rw [h.κ b] at hb; simp at hb
  ·exact h.k.inj
  ·exact h.k.j6
  ·exact h.k.mA
  ·exact h.k.oI
  ·exact h.k.live
  ·intro b x hb; have:=h.k.gX b x hb; rw [St.ct]; omega
  ·intro b r hb
   simp only [Env.gC] at hb;rw [St.ct];split at hb
   ·omega
   ·have:=h.k.oS b r hb; omega
  ·intro b g hb; have:=h.k.kG b g hb; rw [St.ct]; omega
  ·intro g hg; rw [St.ct] at hg; rw [St.mB]; exact h.k.fresh g (by omega)
  ·intro g x hx; rw [St.mB] at hx; rw [St.ct]; have:=h.k.mem g x hx; omega
def afv (P:Program):Nat->List Field->Option Nat
 | off,[]=>some off
 | off,f::fs=>cond (Nat.beq f.offset off) (afv P (off+P.cellsOf f.type) fs) .none
def Dd (P:Program):Nat->TypeId->Bool
 | 0,_=>false
 | n+1,t=>match P.underlying t with
  | some (.int _) | some .bool | some .string=>true
  | some (.slice e)=>Nat.ble 1 (P.cellsOf e)&&Dd P n e&&(match lay P 12 e with
   | some l=>Nat.beq l.ks.length (P.cellsOf e)&&(l.agg||Nat.beq l.ks.length 1)
   | .none=>false)
  | some (.struct fs)=>fs.toList.all (fun f=>Dd P n f.type)&&(match afv P 0 fs.toList with
   | some k=>Nat.beq k (P.cellsOf t)
   | .none=>false)
  | some (.array len e)=>Dd P n e&&Nat.beq (P.cellsOf t) (len * P.cellsOf e)
  | _=>false
def afw (W:World) (cs:List Value):Prop:=∀ a n c,Value.slice (some a) n c∈cs->0 < W.heap.size
def Got (P:Program) (W:World) (E:Env) (_:St) (ρ:aZ) (cs:List Value) (K:List KV->Prop):Prop:=
 ∃ E' B' a7 ks,Ur P W E' B' a7/\E.le E'/\ρ.le a7/\Ey P E' a7 ks cs/\Ec ks/\K ks
def adX {H:Type} (enc:TypeId×Value->H) (P:Program) (W:World) (n:Nat):Prop:=
 ∀ t,Dd P n t=true->∀ (fuel:Nat) (cs:List Value) (x:DataW H×List MemPlace) (E:Env) (B:St) (ρ:aZ),DataW.trod enc P W 0 (fun _=>true) true fuel t cs=some x->afw W cs->Ur P W E B ρ->
  Got P W E B ρ cs fun ks=>∀ m l,lay P m t=some l->aI l.ks ks=true
section
variable {H:Type} {enc:TypeId×Value->H} {P:Program} {W:World} {E:Env} {B:St} {ρ:aZ}
theorem Ey.append {E:Env} {ρ:aZ} {a b:List KV} {a' b' : List Value} (h:Ey P E ρ a a') (k:Ey P E ρ b b'):Ey P E ρ (a++b) (a'++b'):=by
 obtain ⟨m,h1,h2⟩:=h;obtain ⟨l,h3,h4⟩:=k;exact ⟨m++l,h1.append h3,h2.append h4⟩
theorem Ey.mono {E E' : Env} {ρ a7:aZ} {a:List KV} {a' : List Value} (h:Ey P E ρ a a') (hE:E.le E') (mC:ρ.le a7):Ey P E' a7 a a':=by
 obtain ⟨m,h1,h2⟩:=h;exact ⟨m,h1.mono hE,h2.mono mC⟩
theorem Ey.len {E:Env} {ρ:aZ} {a:List KV} {a' : List Value} (h:Ey P E ρ a a'):a'.length=a.length:=by
 obtain ⟨m,h1,h2⟩:=h;rw [h2.length,h1.length]
theorem LY:∀ {ks:List CK} {vs:List KV},aI ks vs=true->vs.length=ks.length
 | [],[],_=>rfl
 | [],_::_,h=>by simp [aI] at h
 | _::_,[],h=>by simp [aI] at h
 | k::ks,v::vs,h=>by
  simp only [aI,aD] at h;simp [LY h.2]
theorem LZ:∀ {ks ls:List CK} {vs us:List KV},aI ks vs=true->aI ls us=true->aI (ks++ls) (vs++us)=true
 | [],_,[],_,_,h=>h
 | [],_,_::_,_,h,_=>by simp [aI] at h
 | _::_,_,[],_,h,_=>by simp [aI] at h
 | k::ks,ls,v::vs,us,h,h'=>by
  simp only [aI,aD] at h;simp only [List.cons_append,aI,aD];exact ⟨h.1,LZ h.2 h'⟩
theorem afw.sub {W:World} {cs ds:List Value} (h:afw W cs) (k:∀ v∈ds,v∈cs):afw W ds:=fun a n c hm=>h a n c (k _ hm)
theorem afx {cs:List Value} {i n:Nat} : ∀ v∈(cs.drop i).take n,v∈cs:=fun _ h=>List.mem_of_mem_drop (List.mem_of_mem_take h)
theorem acr (cs:List Value) (i m n:Nat):(cs.drop i).take m++(cs.drop (i+m)).take n=(cs.drop i).take (m+n):=by
 rw [List.take_add,List.drop_drop]
theorem YL {n:Nat} (IH:adX enc P W n) {fuel:Nat} {cs:List Value} (hp:afw W cs):∀ (fs:List Field) (off k:Nat) (E:Env) (B:St) (ρ:aZ),Ur P W E B ρ->afv P off fs=some k->k<=cs.length->(∀ f∈fs,Dd P n f.type=true)->
  (∀ f∈fs,∃ x,DataW.trod enc P W 0 (fun _=>true) true fuel f.type ((cs.drop f.offset).take (P.cellsOf f.type))=some x)->
  off<=k/\Got P W E B ρ ((cs.drop off).take (k - off)) fun ks=>∀ m l,Rs (lay P m) fs off=some l->aI l ks=true
 | [],off,k,E,B,ρ,hi,ht,hk,_,_=>by
  simp [afv] at ht; subst ht;refine ⟨aQ _,E,B,ρ,[],hi,Env.le_refl _,aZ.le_refl _,?_,trivial,?_⟩
  ·rw [Nat.sub_self,List.take_zero]; exact ⟨[],.nil,.nil⟩
  ·intro m l h; simp [Rs] at h; subst h; rfl
 | f::fs,off,k,E,B,ρ,hi,ht,hk,he,hx=>by
  unfold afv at ht;cases hb:Nat.beq f.offset off with
  | false=>rw [hb] at ht; simp at ht
  | true=>
   rw [hb,aj] at ht;have Ql:=bh hb;obtain ⟨x,H0⟩:=hx f (by simp);obtain ⟨E1,B1,oq,ks1,h1,h2,h3,h4,h5,h6⟩:=IH f.type (he f (by simp)) fuel _ x E B ρ H0 (hp.sub afx) hi;obtain ⟨hle,E2,B2,xZ,ks2,q1,q2,q3,q4,q5,q6⟩:=YL IH hp fs (off+P.cellsOf f.type) k E1 B1 oq h1 ht hk (fun g hg=>he g (by simp [hg])) (fun g hg=>hx g (by simp [hg]));have hlen:ks1.length=P.cellsOf f.type:=by
    rw [<- h4.len,nH,List.length_drop,Ql];omega
   refine ⟨by omega,E2,B2,xZ,ks1++ks2,q1,Env.le_trans h2 q2,aZ.le_trans h3 q3,?_,H8 h5 q5,?_⟩
   ·have:=(h4.mono q2 q3).append q4
    rw [Ql,acr] at this;rw [show k - off=P.cellsOf f.type+(k - (off+P.cellsOf f.type)) by omega];exact this
   ·intro m l hl
    unfold Rs at hl;rw [hb,aj] at hl;obtain ⟨l1,hl1,hl⟩:=c9.1 hl;obtain ⟨l2,oo,rfl⟩:=cR.1 hl;have MX:=h6 m l1 hl1;have atM:=LY MX;rw [<- atM,hlen] at oo;exact LZ MX (q6 m l2 oo)
theorem acs {n:Nat} (IH:adX enc P W n) {fuel len c:Nat} {e:TypeId} {cs:List Value} (hp:afw W cs) (he:Dd P n e=true) (hc:P.cellsOf e=c) (hk:len * c<=cs.length) (hx:∀ i,i < len->∃ x,DataW.trod enc P W 0 (fun _=>true) true fuel e ((cs.drop (i * c)).take c)=some x) (hi:Ur P W E B ρ):∀ j,j<=len->
  Got P W E B ρ (cs.take (j * c)) fun ks=>∀ m l,lay P m e=some l->aI (eA l.ks j) ks=true
 | 0,_=>by
  refine ⟨E,B,ρ,[],hi,Env.le_refl _,aZ.le_refl _,?_,trivial,fun m l _=>rfl⟩;rw [Nat.zero_mul,List.take_zero]; exact ⟨[],.nil,.nil⟩
 | j+1,hj=>by
  obtain ⟨E1,B1,oq,ks1,h1,h2,h3,h4,h5,h6⟩:=acs IH hp he hc hk hx hi j (by omega);obtain ⟨x,H0⟩:=hx j (by omega);obtain ⟨E2,B2,xZ,ks2,q1,q2,q3,q4,q5,q6⟩:=IH e he fuel _ x E1 B1 oq H0 (hp.sub afx) h1;refine ⟨E2,B2,xZ,ks1++ks2,q1,Env.le_trans h2 q2,aZ.le_trans h3 q3,?_,H8 h5 q5,?_⟩
  ·have:=(h4.mono q2 q3).append q4
   have e:=acr cs 0 (j * c) c;simp only [List.drop_zero,bd] at e;rw [e] at this;rw [show (j+1) * c=j * c+c by rw [Nat.succ_mul]];exact this
  ·intro m l hl
   have:eA l.ks (j+1)=eA l.ks j++l.ks:=by
    have comm:∀ n,l.ks++eA l.ks n=eA l.ks n++l.ks:=by
     intro n
     induction n with
     | zero=>simp [eA]
     | succ n ih=>simp only [eA,Tz]; rw [ih]
    rw [<- comm]; rfl
   rw [this];exact LZ (h6 m l hl) (q6 m l hl)
theorem YM {a:Addr} {i k:Nat} {v:Value} (h:W.cell? ((a.add i).add k)=some v):W.cell? ⟨a.block,a.off+i+k,.none⟩=some v/\a.block < W.heap.size/\(i+k=0->a.spot = .none):=by
 have hb:((a.add i).add k).block=a.block:=by unfold Addr.add; split <;> split <;> rfl
 have ho:((a.add i).add k).off=a.off+i+k:=by
  unfold Addr.add;split <;> split <;> simp_all
 have hs:((a.add i).add k).spot = .none:=by
  unfold World.cell? at h;split at h
  ·split at h
   ·simp at h
   ·rename_i hs; simpa using hs
  ·simp at h
 have he:(a.add i).add k=⟨a.block,a.off+i+k,.none⟩:=by
  generalize (a.add i).add k=p at hb ho hs;obtain ⟨b,o,s⟩:=p;simp at hb ho hs;simp [hb,ho,hs]
 refine ⟨he ▸ h,?_,fun e=>?_⟩
 ·rw [he] at h
  unfold World.cell? at h;split at h
  ·rename_i heq
   exact (CP.1 heq).1
  ·simp at h
 ·have h1:i=0:=by omega
  have h2:k=0:=by omega
  subst h1 h2;simpa [Addr.add] using hs
theorem afy {a:Addr} {n:Nat} {cs:List Value} (h:W.cells? 0 a n=some cs):cs.length=n/\∀ (k:Nat) (v:Value),cs[k]? = some v->W.cell? (a.add k)=some v:=by
 unfold World.cells? at h;rw [aR (cw _)] at h;have hl:=mapM_some_length h;simp at hl;refine ⟨hl,fun k v hv=>?_⟩;have hk:k < n:=by rw [<- hl]; exact (c8.1 hv).1
 rw [mapM_some_get h k k (by simp [hk])];exact hv
theorem an1 {ks:List KV} {agg:Bool} (h:Ec ks):WB (Q0 agg ks):=by
 cases agg with
 | true=>exact h
 | false=>
  match ks,h with
  | [],_=>exact trivial
  | v::vs,h=>exact h.1
theorem Vm {E:Env} {ρ:aZ} : ∀ {ks:List CK} {vs:List KV} {m:List Value},aI ks vs=true->bm P E vs m->∀ v∈m,scalar v=true
 | [],[],m,_,h,v,hv=>by rw [h.cl] at hv; simp at hv
 | [],_::_,_,h,_,_,_=>by simp [aI] at h
 | _::_,[],_,h,_,_,_=>by simp [aI] at h
 | k::ks,u::vs,m,h,hm,v,hv=>by
  simp only [aI,aD] at h;obtain ⟨y,ys,rfl,h1,h2⟩:=hm.cons_inv;rcases eL.1 hv with rfl | hv
  ·refine h1.scalar ?_
   have:=h.1;cases u <;> first | rfl | (cases k <;> simp [kindOk] at this)
  ·exact Vm (ρ:=ρ) h.2 h2 v hv
theorem acu {n:Nat} (IH:adX enc P W n) {fuel len c:Nat} {e:TypeId} {l:yR} {a:Addr} (he:Dd P n e=true) (hl:lay P 12 e=some l) (IQ:l.ks.length=c) (ha:l.agg=true\/l.ks.length=1) (hc:P.cellsOf e=c) (hc1:1<=c)
  (hx:∀ i,i < len->∃ x,(W.cells? 0 (a.add (i * c)) c).bind (DataW.trod enc P W 0 (fun _=>true) true fuel e)=some x) (hi:Ur P W E B ρ):∀ j,j<=len->
  ∃ E' B' a7 es us fl,Ur P W E' B' a7/\E.le E'/\ρ.le a7/\es.length=j/\bm P E' es us/\fY l es=true/\Ec es/\fl.length=j * c/\qK c 0 fl us/\
   (∀ (i:Nat) (v:Value),fl[i]? = some v->∃ v',W.cell? ⟨a.block,a.off+i,.none⟩=some v'/\VR a7 v v'/\scalar v=true)/\(0 < j->a.block < W.heap.size/\a.spot = .none)
 | 0,_=>⟨E,B,ρ,[],[],[],hi,Env.le_refl _,aZ.le_refl _,rfl,.nil,rfl,trivial,by simp,fun i x h=>by simp at h,fun i v h=>by simp at h,fun h=>by omega⟩
 | j+1,hj=>by
  obtain ⟨E1,B1,oq,es,us,fl,h1,h2,h3,h4,h5,h6,h7,h8,h9,vK,Kg⟩:=acu IH he hl IQ ha hc hc1 hx hi j (by omega);obtain ⟨x,H0⟩:=hx j (by omega);obtain ⟨cs,LH,hx2⟩:=c9.1 H0;obtain ⟨hlen,nL⟩:=afy LH;have MW:a.block < W.heap.size:=by
   have h0:0 < cs.length:=by rw [hlen]; omega
   exact (YM (nL 0 _ (dz h0))).2.1
  obtain ⟨E2,B2,xZ,ks,q1,q2,q3,⟨m,q4,q4'⟩,q5,q6⟩:=IH e he fuel cs x E1 B1 oq hx2 (fun _ _ _ _=>by omega) h1;have hk:=q6 12 l hl;have hml:m.length=c:=by rw [q4.length,LY hk,IQ]
  have Bu:l.agg=true\/m.length=1:=by rw [hml,<- IQ]; exact ha
  have hsc:=Vm (ρ:=ρ) hk q4;have qP:=aeY hsc Bu;have hul:us.length=j:=by rw [h5.length,h4]
  refine ⟨E2,B2,xZ,es++[Q0 l.agg ks],us++[mkE l.agg m],fl++m,q1,Env.le_trans h2 q2,aZ.le_trans h3 q3,by simp [h4],(h5.mono q2).append (.cons (aeZ q4 Bu) .nil),?_,H8 h7 ⟨an1 q5,trivial⟩,?_,?_,?_,fun _=>⟨MW,?_⟩⟩
  ·have:∀ {es:List KV},fY l es=true->fY l (es++[Q0 l.agg ks])=true:=by
    intro es
    induction es with
    | nil=>intro _; simp [fY,aav hk ha]
    | cons e es ih=>
     intro h;simp only [fY,aD] at h;simp only [List.cons_append,fY,aD];exact ⟨h.1,ih h.2⟩
   exact this h6
  ·rw [ko,h8,hml,Nat.succ_mul]
  ·intro i y hy
   by_cases hi:i < j
   ·rw [pR (by omega)] at hy
    obtain ⟨r1,r2⟩:=h9 i y hy;refine ⟨r1,fun k z hz=>?_⟩;have:=r2 k z hz;rw [pR (c8.1 this).1];exact this
   ·rw [ue (by omega),hul] at hy
    have vl:i=j:=by
     have:=(c8.1 hy).1;simp at this;omega
    subst vl;simp at hy;subst hy;have fC:(mkE l.agg m).cells.size=c:=by rw [<- Array.length_toList,qP,hml]
    refine ⟨fC,fun k z hz=>?_⟩;rw [<- Array.getElem?_toList,qP] at hz;rw [ue (by rw [h8]; omega),h8,show 0+i * c+k - i * c=k by omega];exact hz
  ·intro i v hv
   by_cases hi:i < fl.length
   ·rw [pR hi] at hv
    obtain ⟨v',r1,r2,r3⟩:=vK i v hv;exact ⟨v',r1,r2.mono q3,r3⟩
   ·rw [ue (by omega)] at hv
    obtain ⟨v',r1,r2⟩:=q4'.get hv;refine ⟨v',?_,r2,hsc v (hQ hv)⟩;have:=(YM (nL _ _ r1)).1;rw [h8] at this;rw [h8] at hi;rw [show a.off+i=a.off+j * c+(i - j * c) by omega];exact this
  ·by_cases h0:j=0
   ·subst h0
    have h0:0 < cs.length:=by rw [hlen]; omega
    exact (YM (nL 0 _ (dz h0))).2.2 (by omega)
   ·exact (Kg (by omega)).2
theorem akX:∀ n,adX enc P W n
 | 0=>fun t ht=>by simp [Dd] at ht
 | n+1=>by
  have IH:=akX n;intro t ht fuel cs x E B ρ hx hp hi;have hn:∀ {m l},lay P m t=some l->∃ m',m=m' + 1:=by
   intro m l h;cases m with
   | zero=>simp [lay] at h
   | succ m=>exact ⟨m,rfl⟩
  unfold Dd at ht;split at ht
  ·rename_i k hu
   obtain ⟨i,rfl,_,hw⟩:=DataW.trod_int hu hx;refine ⟨E,B,ρ,[.int k i],hi,Env.le_refl _,aZ.le_refl _,⟨_,.cons .mkInt .nil,.cons (by simp [VR]) .nil⟩,⟨hw,trivial⟩,fun m l h=>?_⟩;obtain ⟨m',rfl⟩:=hn h;simp only [lay,hu,db] at h;subst h;simp [aI,kindOk]
  ·rename_i hu
   obtain ⟨b,rfl,_⟩:=DataW.trod_bool hu hx;refine ⟨E,B,ρ,[.bool b],hi,Env.le_refl _,aZ.le_refl _,⟨_,.cons .vI .nil,.cons (by simp [VR]) .nil⟩,⟨trivial,trivial⟩,fun m l h=>?_⟩;obtain ⟨m',rfl⟩:=hn h;simp only [lay,hu,db] at h;subst h;simp [aI,kindOk]
  ·rename_i hu
   obtain ⟨s,rfl,_,hw⟩:=DataW.trod_string hu hx;refine ⟨E,B,ρ,[.str s],hi,Env.le_refl _,aZ.le_refl _,⟨_,.cons .mkStr .nil,.cons (by simp [VR]) .nil⟩,⟨hw,trivial⟩,fun m l h=>?_⟩;obtain ⟨m',rfl⟩:=hn h;simp only [lay,hu,db] at h;subst h;simp [aI,kindOk]
  ·rename_i e hu
   simp only [aD] at ht;obtain ⟨⟨yX,LP⟩,ht3⟩:=ht;have hc1:=fH yX;split at ht3
   ·rename_i l hl
    simp only [aD,vw] at ht3;have IQ:=bh ht3.1;have Bu:l.agg=true\/l.ks.length=1:=ht3.2.imp id bh;have hlF:bu P e=l:=by simp [bu,hl]
    have fC:bz P e=P.cellsOf e:=by rw [bz,hlF,IQ]
    have fin:∀ {ks:List KV} {m:Nat} {l' : yR} {mk:Mk} {nn:Nat} {es:List KV} {acc:Nat->KV},mk = .any->lay P m t=some l'->ks = [.ts e mk nn es acc]->aI l'.ks ks=true:=by
     intro ks m l' mk nn es acc hmk h uw;obtain ⟨m',rfl⟩:=hn h;simp only [lay,hu,db] at h;subst h uw hmk;simp [aI,kindOk]
    rcases DataW.trod_slice hu hx with ⟨rfl,_⟩ | ⟨a,len,cap,elems,rest,fu,_,rfl,_,_,hle,ang,DY,hE,hR,_⟩
    ·refine ⟨E,B,ρ,[.ts e .any 0 [] nQ],hi,Env.le_refl _,aZ.le_refl _,⟨[.slice .none 0 0],.cons ?_ .nil,.cons (by simp [VR]) .nil⟩,⟨⟨cw _,trivial⟩,trivial⟩,fun m l h=>fin rfl h rfl⟩
     simp only [VK];exact ⟨⟨rfl,fun i h=>by omega,rfl⟩,[],.nil,.none,0,rfl,aQ _,.inl ⟨rfl,rfl⟩,trivial⟩
    ·have hxs:∀ i,i < len->∃ x,(W.cells? 0 (a.add (i * P.cellsOf e)) (P.cellsOf e)).bind (DataW.trod enc P W 0 (fun _=>true) true fu e)=some x:=by
      intro i h;rw [hE i h];exact ⟨_,dz (by rw [DY]; exact h)⟩
     obtain ⟨E1,B1,oq,es,us,fl,h1,h2,h3,h4,h5,h6,h7,h8,h9,vK,Kg⟩:=acu IH LP hl IQ Bu rfl hc1 hxs hi len (aQ _);have xI:0 < cap->a.block < W.heap.size/\a.spot = .none:=by
      intro h0;by_cases QZ:0 < len
      ·exact Kg QZ
      ·have QZ:len=0:=by omega
       subst QZ;obtain ⟨hr1,xJ⟩:=hR rfl;have hr3:=xJ 0 (by omega);rw [dz (by rw [hr1]; omega)] at hr3;obtain ⟨cd,apn,_⟩:=c9.1 hr3;obtain ⟨hlen,nL⟩:=afy apn;have h0:0 < cd.length:=by rw [hlen]; omega
       have:=YM (nL 0 _ (dz h0));exact ⟨this.2.1,this.2.2 (by omega)⟩
     have hh:0 < W.heap.size:=hp a len cap (by simp);have hlenes:us.length=len:=by rw [h5.length,h4]
     have atN:∃ lc:aB.Loc,lc.bV=P.cellsOf e/\lc.cb < W.heap.size/\lc.eI+fl.length<=lc.CT/\(cap≠0->a=⟨lc.cb,lc.eI,.none⟩)/\lc.eI+cap * lc.bV<=lc.CT/\
       (∀ (i:Nat) (v:Value),fl[i]? = some v->∃ v',W.cell? ⟨lc.cb,lc.eI+i,.none⟩=some v'/\VR oq v v'/\scalar v=true):=by
      by_cases h0:cap=0
      ·subst h0
       have QZ:len=0:=by omega
       subst QZ;refine ⟨⟨0,0,0,P.cellsOf e⟩,rfl,hh,by simp [h8],fun h=>absurd rfl h,by simp,fun i v hv=>?_⟩;have:fl = []:=by apply List.eq_nil_of_length_eq_zero; simp [h8]
       rw [this] at hv; simp at hv
      ·obtain ⟨p1,p2⟩:=xI (by omega)
       refine ⟨⟨a.block,a.off,a.off+cap * P.cellsOf e,P.cellsOf e⟩,rfl,p1,?_,fun _=>?_,aQ _,vK⟩
       ·rw [h8]; exact Nat.add_le_add_left (Nat.mul_le_mul_right _ hle) _
       ·obtain ⟨b,o,s⟩:=a
        simp at p2;simp [p2]
     obtain ⟨lc,l1,l2,l3,l4,l5,l6⟩:=atN;obtain ⟨i1,i2,i3⟩:=h1.add l6 l2 l3;refine ⟨_,_,_,[.ts e .any len es (pW es)],i1,Env.le_trans h2 i2,aZ.le_trans h3 i3,⟨[.slice (some ⟨B1.next,0,.none⟩) len len],.cons ?_ .nil,.cons ?_ .nil⟩,⟨⟨by omega,h7⟩,trivial⟩,fun m l h=>fin rfl h rfl⟩
     ·simp only [VK]
      refine ⟨⟨h4.symm,fun i _=>rfl,by rw [hlF]; exact h6⟩,us,h5.mono i2,some ⟨B1.next,0,.none⟩,len,rfl,aQ _,.inr ⟨B1.next,0,⟨fl,lc.bV,false,.none⟩,rfl,by simp [Env.gC],by rw [l1,fC],?_⟩,trivial⟩;rw [fC];exact h9
     ·simp only [VR]
      exact ⟨trivial,aQ _,lc,a,cap,by simp [aZ.set],hle,fun h=>by simpa using l4 h,by simpa using l5,rfl⟩
   ·simp at ht3
  ·rename_i fs hu
   simp only [aD,gx] at ht;split at ht
   ·rename_i k hk
    have hkc:=bh ht.2;obtain ⟨xs,fu,_,_,hlen,hxs,hf⟩:=DataW.trod_struct hu hx;have hff:∀ f∈fs.toList,∃ x,DataW.trod enc P W 0 (fun _=>true) true fu f.type ((cs.drop f.offset).take (P.cellsOf f.type))=some x:=by
     intro f hm;obtain ⟨i,Gw⟩:=List.getElem?_of_mem hm;have hi2:fs[i]? = some f:=by simpa using Gw
     have a8:i < xs.length:=by rw [hxs]; exact (CP.1 hi2).1
     exact ⟨xs[i],by rw [hf i f hi2]; exact dz a8⟩
    obtain ⟨_,E1,B1,oq,ks,h1,h2,h3,h4,h5,h6⟩:=YL IH hp fs.toList 0 k E B ρ hi hk (by rw [hkc,hlen]; exact aQ _) ht.1 hff;refine ⟨E1,B1,oq,ks,h1,h2,h3,?_,h5,fun m l h=>?_⟩
    ·have e:(cs.drop 0).take (k - 0)=cs:=by rw [List.drop_zero,Nat.sub_zero,hkc,<- hlen,List.take_length]
     rw [e] at h4;exact h4
    ·obtain ⟨m',rfl⟩:=hn h
     simp only [lay,hu,cR] at h;obtain ⟨l',vB,rfl⟩:=h;exact h6 m' l' vB
   ·simp at ht
  ·rename_i len e hu
   simp only [aD] at ht;have hkc:=bh ht.2;obtain ⟨xs,fu,_,_,hlen,hxs,hf⟩:=DataW.trod_array hu hx;have hff:∀ i,i < len->∃ x,DataW.trod enc P W 0 (fun _=>true) true fu e ((cs.drop (i * P.cellsOf e)).take (P.cellsOf e))=some x:=by
    intro i h;exact ⟨xs[i],by rw [hf i h]; exact dz (by rw [hxs]; exact h)⟩
   obtain ⟨E1,B1,oq,ks,h1,h2,h3,h4,h5,h6⟩:=acs IH hp ht.1 rfl (by rw [hlen,hkc]; exact aQ _) hff hi len (aQ _);refine ⟨E1,B1,oq,ks,h1,h2,h3,?_,h5,fun m l h=>?_⟩
   ·rw [<- hkc,<- hlen,List.take_length] at h4
    exact h4
   ·obtain ⟨m',rfl⟩:=hn h
    simp only [lay,hu,cR] at h;obtain ⟨l',vB,rfl⟩:=h;exact h6 m' l' vB
  ·simp at ht
end
end Go.K
end
section
namespace Go.K
open Go Go.aB Go.WideShapes
mutual
def GL (P:Program):KV->Prop
 | .ts T _ n es acc=>ji P T n es acc/\AY P es
 | .agg cs=>AY P cs
 | _=>True
def AY (P:Program):List KV->Prop
 | []=>True
 | v::vs=>GL P v/\AY P vs
end
mutual
theorem VK.deep {P:Program} {E:Env} : ∀ {v:KV} {u:Value},VK P E v u->GL P v
 | .ts T m n es acc,u,h=>by
  obtain ⟨h1,us,h2,_⟩:=h.ny;exact ⟨h1,bm.deep h2⟩
 | .agg cs,u,h=>by
  obtain ⟨l,_,h1⟩:=h.nM;exact bm.deep (vs:=cs) h1
 | .int _ _,_,_ | .bool _,_,_ | .str _,_,_ | .iv _,_,_ | .tp ..,_,_ | .ptr ..,_,_ | .al ..,_,_ | .ap ..,_,_ | .sl ..,_,_ | .Hw,_,_ | .mn,_,_ | .C0,_,_ | .map _,_,_ | .fn ..,_,_ | .IW,_,_ | .iface ..,_,_ | .IX,_,_ | .bD,_,_=>trivial
theorem bm.deep {P:Program} {E:Env} : ∀ {vs:List KV} {us:List Value},bm P E vs us->AY P vs
 | [],_,_=>trivial
 | v::vs,us,h=>by
  simp only [bm] at h;obtain ⟨y,ys,_,h1,h2⟩:=h;exact ⟨VK.deep h1,bm.deep h2⟩
end
def j9 (P:Program):List TypeId->List KV->Bool
 | [],[]=>true
 | t::ts,v::vs=>cC (bu P t) v&&j9 P ts vs
 | _,_=>false
theorem acv {P:Program} : ∀ {ts:List TypeId} {atZ:List KV},j9 P ts atZ=true->atZ.length=ts.length
 | [],[],_=>rfl
 | [],_::_,h=>by simp [j9] at h
 | _::_,[],h=>by simp [j9] at h
 | t::ts,v::vs,h=>by
  simp only [j9,aD] at h;simp [acv h.2]
def YN (P:Program) (t:TypeId):Bool:=Dd P 30 t&&(match lay P 12 t with
 | some l=>Nat.beq l.ks.length (P.cellsOf t)
 | .none=>false)
section
variable {H:Type} {enc:TypeId×Value->H} {P:Program} {W:World}
theorem aiY {r:Reach} {base:Nat} {t:TypeId} {v:Value} (h:Value.okWide P W r base t v):afw W v.cells.toList:=by
 intro a n c hm;have cell:∀ u,Cell.okWide P W r base u (.slice (some a) n c)->0 < W.heap.size:=by
  intro u hu;unfold Cell.okWide at hu;split at hu <;> try (rename_i heq; simp at heq; done)
  unfold Cell.ok at hu;split at hu <;> try (rename_i heq; simp at heq; done)
  ·rename_i e heq
   simp at heq;obtain ⟨rfl,rfl,rfl⟩:=heq;obtain ⟨_,_,_,_,row,cells,hs,_⟩:=hu;unfold World.shape? at hs;split at hs
   ·rename_i hh
    have:=(CP.1 hh).1;omega
   ·simp at hs
  ·exact hu.elim
 unfold Value.okWide at h;split at h
 ·obtain ⟨cs,rfl,_,ts,_,_,hc⟩:=h
  obtain ⟨i,hi⟩:=List.getElem?_of_mem hm;obtain ⟨u,_,hu⟩:=hc i _ (by simpa [Value.cells] using hi);exact cell u hu
 ·obtain ⟨cs,rfl,_,ts,_,_,hc⟩:=h
  obtain ⟨i,hi⟩:=List.getElem?_of_mem hm;obtain ⟨u,_,hu⟩:=hc i _ (by simpa [Value.cells] using hi);exact cell u hu
 ·have hv:v.cells.toList = [v]\/∃ cs,v = .agg cs:=by cases v <;> first | exact .inl rfl | exact .inr ⟨_,rfl⟩
  rcases hv with hv | ⟨cs,rfl⟩
  ·rw [hv] at hm
   simp at hm;subst hm;exact cell t h
  ·exfalso
   unfold Cell.okWide at h;split at h <;> try (rename_i heq; simp at heq; done)
   unfold Cell.ok at h;split at h <;> first | (rename_i heq; simp at heq; done) | exact h.elim
theorem aoH {E:Env} {B:St} {ρ:aZ} {t:TypeId} {v:Value} {d:DataW H} {ps:List MemPlace} {r:Reach} {base:Nat} (ht:YN P t=true) (hd:DataW.Trod enc P W 0 (fun _=>true) true t v d ps) (hw:Value.okWide P W r base t v) (hi:Ur P W E B ρ) :
  ∃ E' B' a7 a,Ur P W E' B' a7/\E.le E'/\ρ.le a7/\VC P E' a7 a v/\cC (bu P t) a=true/\WB a:=by
 unfold YN at ht;simp only [aD] at ht;obtain ⟨yX,LP⟩:=ht;split at LP
 ·rename_i l hl
  obtain ⟨fuel,hf⟩:=hd;obtain ⟨E1,B1,oq,ks,h1,h2,h3,⟨m,h4,h4'⟩,h5,h6⟩:=akX 30 t yX fuel _ _ E B ρ hf (aiY hw) hi;have hk:=h6 12 l hl;have hlF:bu P t=l:=by simp [bu,hl]
  have an2:(l.agg=true/\∃ cs:Array Value,v = .agg cs)\/(l.agg=false/\l.ks.length=1/\v.cells.toList = [v]):=by
   unfold Dd at yX;split at yX
   ·rename_i k hu
    obtain ⟨n,rfl⟩:=okWide_int hu hw;simp only [lay,hu,db] at hl;subst hl; exact .inr ⟨rfl,rfl,rfl⟩
   ·rename_i hu
    obtain ⟨n,rfl⟩:=okWide_bool hu hw;simp only [lay,hu,db] at hl;subst hl; exact .inr ⟨rfl,rfl,rfl⟩
   ·rename_i hu
    obtain ⟨n,rfl⟩:=okWide_string hu hw;simp only [lay,hu,db] at hl;subst hl; exact .inr ⟨rfl,rfl,rfl⟩
   ·rename_i e hu
    obtain ⟨a,n,c,rfl⟩:=okWide_slice hu hw;simp only [lay,hu,db] at hl;subst hl; exact .inr ⟨rfl,rfl,rfl⟩
   ·rename_i fs hu
    simp only [lay,hu,cR] at hl;obtain ⟨_,_,rfl⟩:=hl;unfold Value.okWide at hw;rw [hu] at hw;obtain ⟨cs,rfl,_⟩:=hw;exact .inl ⟨rfl,cs,rfl⟩
   ·rename_i len e hu
    simp only [lay,hu,cR] at hl;obtain ⟨_,_,rfl⟩:=hl;unfold Value.okWide at hw;rw [hu] at hw;obtain ⟨cs,rfl,_⟩:=hw;exact .inl ⟨rfl,cs,rfl⟩
   ·simp at yX
  refine ⟨E1,B1,oq,Q0 l.agg ks,h1,h2,h3,?_,?_,an1 h5⟩
  ·rcases an2 with ⟨ha,cs,rfl⟩ | ⟨ha,hlen,hv⟩
   ·rw [ha]
    exact ⟨.agg ⟨m⟩,.rQ h4,VR.rQ (l':=cs.toList) h4'⟩
   ·rw [ha]
    rw [hv] at h4';have hml:m.length=1:=by have:=h4'.length; simpa using this.symm
    have:=aeZ (agg:=false) h4 (.inr hml)
    match m,hml,h4',this with
    | [y],_,h4',this=>
     obtain ⟨z,zs,e,q1,_⟩:=h4'.cons_inv;simp at e;refine ⟨y,this,?_⟩;rw [e.1]; exact q1
  ·rw [hlF]
   exact aav hk (an2.imp (·.1) (·.2.1))
 ·simp at LP
theorem afz {r:Reach} {base:Nat} : ∀ {ts:List TypeId} {vs:List Value} {ds:List (DataW H)} {ps:List MemPlace} {E:Env} {B:St} {ρ:aZ},(∀ t∈ts,YN P t=true)->DataW.TrodAll enc P W 0 (fun _=>true) true ts vs ds ps->
  (∀ (j:Nat) t v,ts[j]? = some t->vs[j]? = some v->Value.okWide P W r base t v)->Ur P W E B ρ->∃ E' B' a7 atZ,Ur P W E' B' a7/\E.le E'/\ρ.le a7/\Ey P E' a7 atZ vs/\j9 P ts atZ=true/\Ec atZ
 | [],vs,ds,ps,E,B,ρ,_,h,_,hi=>by
  obtain ⟨rfl,_,_⟩:=Go.ChangeShapes.trodAll_nil h;exact ⟨E,B,ρ,[],hi,Env.le_refl _,aZ.le_refl _,⟨[],.nil,.nil⟩,rfl,trivial⟩
 | t::ts,vs,ds,ps,E,B,ρ,ht,h,hw,hi=>by
  obtain ⟨v,vs1,d,ds1,a,b,rfl,rfl,rfl,h1,h2⟩:=Go.ChangeShapes.trodAll_cons h;obtain ⟨E1,B1,oq,x,q1,q2,q3,⟨u,q4,q4'⟩,q5,q6⟩:=aoH (ht t (by simp)) h1 (hw 0 t v rfl rfl) hi;obtain ⟨E2,B2,xZ,xs,p1,p2,p3,⟨m,p4,p4'⟩,p5,p6⟩:=afz (fun t' h'=>ht t' (by simp [h'])) h2 (fun j t' v' h3 h4=>hw (j+1) t' v' (by simpa using h3) (by simpa using h4)) q1;exact ⟨E2,B2,xZ,x::xs,p1,Env.le_trans q2 p2,aZ.le_trans q3 p3,⟨u::m,.cons (q4.mono p2) p4,.cons (q4'.mono p3) p4'⟩,by simp [j9,q5,p5],⟨q6,p6⟩⟩
theorem aqe {S:List KV->Prop} (hP:P.funcs.toList.all oP=true) (hm:P.follows .mixedOrders=true) {cfg:eQ} (gZ:tW P cfg.pc) (mG:x7 P cfg) {L n:Nat} {f:FuncId} {ts:List TypeId} (hts:ts.all (YN P)=true)
  (nE:∀ atZ,j9 P ts atZ=true->Ec atZ->AY P atZ->S atZ->GC P cfg L n f (normArgs P ts atZ)=some (.bool true)) {args:Array Value} (hS:∀ atZ E ρ,j9 P ts atZ=true->Ey P E ρ atZ args.toList->S atZ) {ds:List (DataW H)} {ps:List MemPlace} {r:Reach} {base:Nat}
  (hd:DataW.TrodAll enc P W 0 (fun _=>true) true ts args.toList ds ps) (hw:∀ (j:Nat) t v,ts[j]? = some t->args.toList[j]? = some v->Value.okWide P W r base t v) :
  Calls P f args W fun e w'=>e = .returned (.bool true)/\RowKit.Below W.heap.size W w':=by
 obtain ⟨E,B,ρ,atZ,h1,_,_,h4,h5,h6⟩:=afz (gx.1 hts) hd hw (Ur.start P W);have asM:AY P atZ:=by obtain ⟨m,q,_⟩:=h4; exact q.deep
 have nF:=nE atZ h5 h6 asM (hS atZ E ρ h5 h4);have h4:Ey P E ρ (normArgs P ts atZ) args.toList:=by
  obtain ⟨m,q,q'⟩:=h4;exact ⟨m,bm.afh rfl q (acv h5),q'⟩
 have xK:=wH (R:=KV) hP hm gZ mG L n;obtain ⟨fn,c,hf,hc,cf,hnm,nF⟩:=RX hP nF;have:=Po gZ xK hm L hf hc cf (mG.2 f fn c hf hc) nF h4 (base:=W.heap.size) (w:=W) ⟨h1.k,h1.jK⟩;refine this.mono ?_;rintro e w' ⟨vs,cK,E1,A1,B1,oq,rfl,⟨m,q1,q1'⟩,q2,q3⟩;have q3:Bool.rec (motive:=fun _=>Option KV) .none (some (I0 (yV P (uA P f) (zL A1 vs).1))) (Nat.beq vs.length (uA P f).length)=some (.bool true):=q3;obtain ⟨E2,_,q1⟩:=Kx q2.jK q1;cases hb:Nat.beq vs.length (uA P f).length with
 | false=>rw [hb] at q3; exact absurd q3 (by simp)
 | true=>
  rw [hb] at q3;have q3:some (I0 (yV P (uA P f) (zL A1 vs).1))=some (.bool true):=q3;simp only [db] at q3;have hv:VC P E2 oq (I0 (yV P (uA P f) (zL A1 vs).1)) (aiR cK):=RW ⟨m,by rw [Jb]; exact bm.afh rfl q1 ((Pd A1 vs).trans (bh hb)),q1'⟩;rw [q3] at hv;have hg:=q2.fX;refine ⟨by rw [hv.gh],hg.kept.os,hg.kept.tape,hg.kept.output,hg.kept.size,fun k hk=>hg.kept.block k hk ?_⟩;rintro ⟨b,o,l,ho,LK,_⟩;rw [(h1.wj b o ho).1] at LK;simp at LK
end
noncomputable def ahW:List (Nat×(List KV->KR KV))->FuncId->Option (List KV->KR KV)
 | [],_=>.none
 | p::ps,g=>cond (Nat.beq p.1 g) (some p.2) (ahW ps g)
theorem an3 {P:Program} : ∀ {ps:List (Nat×(List KV->KR KV))},(∀ p∈ps,bg P p.1 p.2)->tW P (ahW ps)
 | [],_=>fun g F h=>by simp [ahW] at h
 | p::ps,h=>fun g F hF=>by
  unfold ahW at hF;cases hb:Nat.beq p.1 g with
  | true=>
   rw [hb] at hF;simp only [aj,db] at hF;have:=bh hb;subst this hF;exact h p (by simp)
  | false=>
   rw [hb] at hF;exact an3 (fun q hq=>h q (xh _ hq)) g F hF
theorem akY (l:yR):cC l .bD=false:=by
 show (!l.agg&&aI l.ks [.bD])=false;cases l.ks with
 | nil=>simp [aI]
 | cons c cs=>cases c <;> simp [aI,kindOk]
theorem amL {P:Program} {t:TypeId} {v:KV} (h:cC (bu P t) (Yf P t v)=true):∃ w,Yf P t v=tN P (eh P gR) t w:=by
 unfold Yf at h ⊢;cases hb:cC (bu P t) (gq (bu P t) v) with
 | false=>rw [hb,aq,akY] at h; simp at h
 | true=>exact ⟨gq (bu P t) v,rfl⟩
theorem Pu:∀ {ks:List CK} {cs:List KV},aI ks cs=true->C2 ks cs=cs
 | [],[],_=>rfl
 | [],_::_,h=>by simp [aI] at h
 | _::_,[],h=>by simp [aI] at h
 | k::ks,v::vs,h=>by
  simp only [aI,aD] at h;have e:oH k v=v:=by
   unfold oH;split
   ·simp [kindOk] at h
   ·rename_i t t' m n es acc
    cases m <;> simp [kindOk] at h;obtain ⟨rfl,_⟩:=h;rw [kp,aj]
   ·rw [h.1]; rfl
  rw [C2,e,Pu h.2]
theorem akZ {l:yR} {v:KV} (h:cC l v=true):gq l v=v:=by
 by_cases ha:∃ cs,v = .agg cs
 ·obtain ⟨cs,rfl⟩:=ha
  simp only [cC,aD] at h;show cond (l.agg&&Nat.beq cs.length l.ks.length) (KV.agg (C2 l.ks cs)) .bD=_;rw [h.1,tl h.2,Pu h.2];simp
 ·have h1:(!l.agg&&aI l.ks [v])=true:=by
   cases v <;> first | exact h | exact absurd ⟨_,rfl⟩ ha | simp [cC] at h
  simp only [aD,nw] at h1;have e:gq l v=cond l.agg .bD (match l.ks with | [c]=>oH c v | _=>.bD):=by
   cases v <;> first | rfl | exact absurd ⟨_,rfl⟩ ha
  rw [e,h1.1,aq]
  match hk:l.ks,h1.2 with
  | [c],h2=>
   have:=Pu h2;simpa [C2] using this
  | [],h2=>simp [aI] at h2
  | _::_::_,h2=>simp [aI] at h2
theorem amM {P:Program} {t:TypeId} {v:KV} (h:cC (bu P t) v=true):Yf P t v=tN P (eh P gR) t v:=by
 unfold Yf;rw [akZ h,h,aj]
noncomputable def ye (P:Program):List TypeId->(Nat->KV)->Nat->List KV
 | [],_,_=>[]
 | t::ts,w,k=>tN P (eh P gR) t (w k)::ye P ts w (Nat.succ k)
theorem YO {P:Program} : ∀ {ts:List TypeId} {w w' : Nat->KV} {k:Nat},(∀ i,k<=i->w i=w' i)->ye P ts w k=ye P ts w' k
 | [],_,_,_,_=>rfl
 | t::ts,w,w',k,h=>by
  rw [ye,ye,h k (aQ _),YO fun i hi=>h i (by omega)]
theorem afA {P:Program} : ∀ {ts:List TypeId} {atZ:List KV} (k:Nat),j9 P ts (normArgs P ts atZ)=true->∃ w,normArgs P ts atZ=ye P ts w k
 | [],atZ,k,_=>⟨fun _=>.bD,by cases atZ <;> rfl⟩
 | t::ts,[],k,h=>by simp [normArgs,j9] at h
 | t::ts,v::vs,k,h=>by
  simp only [normArgs,j9,aD] at h;obtain ⟨w,hw⟩:=amL h.1;obtain ⟨w',hw'⟩:=afA (k+1) h.2;refine ⟨fun i=>if i=k then w else w' i,?_⟩;rw [normArgs,ye,hw,hw',aR rfl];rw [YO (w:=w') (w':=fun i=>if i=k then w else w' i) fun i hi=>by rw [ay (by omega)]]
theorem afB {P:Program} : ∀ {ts:List TypeId} {atZ:List KV} (k:Nat) {w:Nat->KV},j9 P ts atZ=true->(∀ i,i < atZ.length->w (k+i)=atZ.getD i .bD)->normArgs P ts atZ=ye P ts w k
 | [],[],k,_,_,_=>rfl
 | [],_::_,_,_,h,_=>by simp [j9] at h
 | _::_,[],_,_,h,_=>by simp [j9] at h
 | t::ts,v::vs,k,w,h,hw=>by
  simp only [j9,aD] at h;rw [normArgs,ye,amM h.1,afB (k+1) (w:=w) h.2 fun i hi=>by have:=hw (i+1) (by simp; omega); rw [show k+1+i=k+(i+1) by omega,this]; rfl];have:=hw 0 (by simp);rw [yH] at this;rw [this]; rfl
noncomputable def bk (P:Program) (g:FuncId) (F:List KV->KR KV):List KV->KR KV:=fun atZ=>cond (j9 P (fy P g) atZ) (F atZ) .no
theorem aqf {P:Program} {g:FuncId} {F:List KV->KR KV} (hP:P.funcs.toList.all oP=true) (hm:P.follows .mixedOrders=true) {cfg:eQ} (gZ:tW P cfg.pc) (mG:x7 P cfg) {L n:Nat}
  (h:∀ w v,a9 (F (ye P (fy P g) w 0)) v->GC P cfg L n g (ye P (fy P g) w 0)=some v) (hy:Nat.blt g yB=true:=by rfl):bg P g (bk P g F):=
 apV hy hP hm fun atZ v _ hF=>by
  unfold bk at hF;obtain ⟨hb,hF⟩:=a9.cond hF;obtain ⟨w,hw⟩:=afA 0 hb;rw [hw] at hF ⊢;exact ⟨cfg,L,n,gZ,mG,h w v hF⟩
noncomputable def aqg (P:Program) (d:CD) (w:KV):KV:=
 match d with
 | .k c=>eh P gR (leaf c w)
 | .lit v=>v
 | .bc t=>eh P gR (leaf (.slice t) w)
 | .arr t=>eh P gR (leaf (.slice t) w)
 | .ref v=>v
noncomputable def L1 (P:Program):List CD->(Nat->KV)->Nat->List KV
 | [],_,_=>[]
 | d::ds,w,k=>aqg P d (w k)::L1 P ds w (Nat.succ k)
noncomputable def aiZ (P:Program) (d:VD) (w:Nat->KV):KV:=Bool.rec (motive:=fun _=>KV) ((L1 P d.ks w 0).headD .bD) (.agg (L1 P d.ks w 0)) d.agg
noncomputable def kZ (P:Program):List (Tmp×VD)->(Nat->Nat->KV)->Nat->List KV
 | [],_,_=>[]
 | p::ps,w,k=>aiZ P p.2 (w k)::kZ P ps w (Nat.succ k)
noncomputable def la (P:Program):List (Tmp×List CD×Nat)->(Nat->Nat->KV)->Nat->List (List KV)
 | [],_,_=>[]
 | p::ps,w,k=>L1 P p.2.1 (w k) 0::la P ps w (Nat.succ k)
theorem ahX {P:Program} {A:aC} {d:CD} {v:KV} (h:j8 d (fL P A d v)=true):∃ w,fL P A d v=aqg P d w:=by
 cases d with
 | ref u=>exact ⟨.bD,rfl⟩
 | k c=>
  have e:fL P A (.k c) v=cond (kindOk c (oH c v)) (eh P gR (leaf c (oH c v))) .bD:=rfl;cases hb:kindOk c (oH c v) with
  | true=>exact ⟨oH c v,by rw [e,hb]; rfl⟩
  | false=>
   rw [e,hb] at h;cases c <;> simp [j8,kindOk] at h
 | lit u=>
  have e:fL P A (.lit u) v=cond (x8 u v) u .bD:=rfl;cases hb:x8 u v with
  | true=>exact ⟨.bD,by rw [e,hb]; rfl⟩
  | false=>
   rw [e,hb,aq] at h;have h:x8 u .bD=true:=h;cases u <;> first | (simp [x8] at h; done) | (rename_i f a b; cases f <;> cases a <;> cases b <;> simp [x8] at h)
 | bc t=>
  cases v with
  | mn=>exact ⟨.ts t .any 0 [] nQ,rfl⟩
  | ts t' m n es acc=>
   cases m with
   | bc f=>
    have e:fL P A (.bc t) (.ts t' (.bc f) n es acc)=cond (Nat.beq t t') (eh P gR (.ts t .any n es acc)) .bD:=rfl;cases hb:Nat.beq t t' with
    | true=>exact ⟨.ts t .any n es acc,by rw [e,hb]; rfl⟩
    | false=>rw [e,hb] at h; simp [j8,kindOk] at h
   | _=>simp [fL,j8,kindOk] at h
  | _=>simp [fL,j8,kindOk] at h
 | arr t=>
  rcases aaF h with rfl | ⟨b,n,m,N,es,acc,rfl,_,he⟩
  ·exact ⟨.ts t .any 0 [] nQ,rfl⟩
  ·exact ⟨.ts t .any N es acc,he⟩
theorem YP {P:Program} : ∀ {ds:List CD} {w w' : Nat->KV} {k:Nat},(∀ i,k<=i->w i=w' i)->L1 P ds w k=L1 P ds w' k
 | [],_,_,_,_=>rfl
 | t::ts,w,w',k,h=>by
  rw [L1,L1,h k (aQ _),YP fun i hi=>h i (by omega)]
theorem aaJ {P:Program} {A:aC} : ∀ {ds:List CD} {vs:List KV} (k:Nat),dX ds (fM P A ds vs)=true->∃ w,fM P A ds vs=L1 P ds w k
 | [],vs,k,_=>⟨fun _=>.bD,by cases vs <;> rfl⟩
 | d::ds,[],k,h=>by simp [fM,dX] at h
 | d::ds,v::vs,k,h=>by
  simp only [fM,dX,aD] at h;obtain ⟨w,hw⟩:=ahX h.1;obtain ⟨w',hw'⟩:=aaJ (k+1) h.2;refine ⟨fun i=>if i=k then w else w' i,?_⟩;rw [fM,L1,hw,hw',aR rfl];rw [YP (w:=w') (w':=fun i=>if i=k then w else w' i) fun i hi=>by rw [ay (by omega)]]
theorem aoI {P:Program} {A:aC} {d:VD} {v:KV} (h:yY d (xm P A d v)=true):∃ w,xm P A d v=aiZ P d w:=by
 have Bu:=Ar h;rcases Au h with ⟨cs,rfl,h1,h2,h3⟩ | ⟨h0,c,h1,h2,h3,h4,h5⟩
 ·obtain ⟨w,hw⟩:=aaJ 0 h3
  refine ⟨w,?_⟩;have:d.agg=true:=by
   rcases Bu with ⟨_,_,q,_⟩ | ⟨q,_⟩
   ·exact q
   ·exact absurd h2 (q _)
  rw [h2,hw,aiZ,this]
 ·obtain ⟨w,hw⟩:=ahX h3
  refine ⟨fun _=>w,?_⟩;have:d.agg=false:=by
   rcases Bu with ⟨cs,q,_⟩ | ⟨_,q,_⟩
   ·rw [h2] at q; exact absurd q (h5 _)
   ·exact q
  rw [h2,hw,aiZ,this,h1]; rfl
theorem Vn {P:Program} : ∀ {ps:List (Tmp×VD)} {w w' : Nat->Nat->KV} {k:Nat},(∀ i,k<=i->w i=w' i)->kZ P ps w k=kZ P ps w' k
 | [],_,_,_,_=>rfl
 | t::ts,w,w',k,h=>by
  rw [kZ,kZ,h k (aQ _),Vn fun i hi=>h i (by omega)]
theorem afC {P:Program} {t:bF} {A:aC} : ∀ {ps:List (Tmp×VD)} (k:Nat),iw ps (rW P t A ps)=true->∃ w,rW P t A ps=kZ P ps w k
 | [],k,_=>⟨fun _ _=>.bD,rfl⟩
 | p::ps,k,h=>by
  simp only [rW,iw,aD] at h;obtain ⟨w,hw⟩:=aoI h.1;obtain ⟨w',hw'⟩:=afC (k+1) h.2;refine ⟨fun i=>if i=k then w else w' i,?_⟩;rw [rW,kZ,hw,hw',aR rfl];rw [Vn (w:=w') (w':=fun i=>if i=k then w else w' i) fun i hi=>by rw [ay (by omega)]]
theorem Vo {P:Program} : ∀ {ps:List (Tmp×List CD×Nat)} {w w' : Nat->Nat->KV} {k:Nat},(∀ i,k<=i->w i=w' i)->la P ps w k=la P ps w' k
 | [],_,_,_,_=>rfl
 | t::ts,w,w',k,h=>by
  rw [la,la,h k (aQ _),Vo fun i hi=>h i (by omega)]
theorem afD {P:Program} : ∀ {ps:List (Tmp×List CD×Nat)} {rs:List (List KV)} (k:Nat),rs.length=ps.length->(∀ (i:Nat) p r,ps[i]? = some p->rs[i]? = some r->dX p.2.1 r=true)->
  (∀ (i:Nat) p,ps[i]? = some p->∃ A nK,rs[i]? = some (fM P A p.2.1 nK)/\nK.length=p.2.1.length)->∃ w,rs=la P ps w k
 | [],[],k,_,_,_=>⟨fun _ _=>.bD,rfl⟩
 | [],_::_,_,h,_,_=>by simp at h
 | _::_,[],_,h,_,_=>by simp at h
 | p::ps,r::rs,k,hl,hg,hn=>by
  obtain ⟨A,nK,h1,_⟩:=hn 0 p rfl;simp only [List.getElem?_cons_zero,db] at h1;have h2:=hg 0 p r rfl rfl;rw [h1] at h2;obtain ⟨w,hw⟩:=aaJ 0 h2;obtain ⟨w',hw'⟩:=afD (ps:=ps) (rs:=rs) (k+1) (by simpa using hl) (fun i p r a b=>hg (i+1) p r (by simpa using a) (by simpa using b)) fun i p a=>by simpa using hn (i+1) p (by simpa using a)
  refine ⟨fun i=>if i=k then w else w' i,?_⟩;rw [la,h1,hw,aR rfl];congr 1;rw [hw'];exact Vo fun i hi=>by rw [ay (by omega)]
theorem Eb.form {P:Program} {S:aL} {vs:List KV} {rs:List (List KV)} (h:Eb P S vs rs):∃ wv wr,vs=kZ P S.eR wv 0/\rs=la P S.rows wr 0:=by
 obtain ⟨t,A,ht⟩:=h.vn;have hv:=h.v;rw [ht] at hv;obtain ⟨wv,hwv⟩:=afC 0 hv;obtain ⟨wr,hwr⟩:=afD 0 h.uI h.zJ h.rn;exact ⟨wv,wr,by rw [ht,hwv],hwr⟩
inductive aO (X:Type) where
 | fail
 | next (x:X)
 | out (e:ai) (x:X)
def aO.enc {X:Type} (ev:X->List KV) (er:X->List (List KV)):aO X->Option (ai×List KV×List (List KV))
 | .fail=>.none
 | .next x=>some (.normal,ev x,er x)
 | .out e x=>some (e,ev x,er x)
theorem aO.bw {X:Type} (ev:X->List KV) (er:X->List (List KV)) (c:Bool) (a b:aO X):aO.enc ev er (cond c a b)=cond c (aO.enc ev er a) (aO.enc ev er b):=by cases c <;> rfl
def aO.go {X:Type} (step:X->aO X):Nat->X->aO X
 | 0,_=>.fail
 | n+1,x=>match step x with
  | .fail=>.fail
  | .next x=>aO.go step n x
  | .out e x=>cond (wI e) .fail (.out e x)
def fa:ai->ai->Bool
 | .normal,.normal=>true
 | .exit i,.exit j=>Nat.beq i j
 | .goto i,.goto j=>Nat.beq i j
 | .ret,.ret=>true
 | _,_=>false
theorem ai0 {a b:ai} (h:fa a b=true):a=b:=by
 cases a <;> cases b <;> simp [fa] at h <;> first | rfl | (subst h; rfl)
def aO.by {X:Type} (s:aO X) (e:ai):Bool:=
 match s with
 | .out e' _=>fa e' e
 | _=>false
def aO.st {X:Type} [Inhabited X] (s:aO X):X:=
 match s with
 | .out _ x=>x
 | _=>default
theorem ak0 {X:Type} {step:X->aO X} {ev:X->List KV} {er:X->List (List KV)} {rd:List KV->List (List KV)->Option (ai×List KV×List (List KV))} (h:∀ x,rd (ev x) (er x)=aO.enc ev er (step x)) :
  ∀ (n:Nat) (x:X) (e:ai) (y:X),aO.go step n x = .out e y->w4 rd n (ev x) (er x)=some (e,ev y,er y)
 | 0,x,e,y,hg=>by simp [aO.go] at hg
 | n+1,x,e,y,hg=>by
  simp only [aO.go] at hg;have hx:=h x;cases hs:step x with
  | fail=>rw [hs] at hg; simp at hg
  | next x'=>
   rw [hs] at hg hx;simp only [w4,hx,aO.enc,wI,aj];exact ak0 h n x' e y hg
  | out e' x'=>
   rw [hs] at hg hx;simp only at hg;cases hn:wI e' with
   | true=>rw [hn] at hg; simp at hg
   | false=>
    rw [hn,aq] at hg;simp only [aO.out.injEq] at hg;obtain ⟨rfl,rfl⟩:=hg;simp only [w4,hx,aO.enc,hn,aq]
def bP {X:Type} [Inhabited X] (ev:X->List KV) (er:X->List (List KV)) (s:aO X):List ai->uH
 | []=>.no
 | e::es=>.br (s.by e) (.out e (ev s.st) (er s.st)) (bP ev er s es)
theorem WC {X:Type} [Inhabited X] {ev:X->List KV} {er:X->List (List KV)} {s:aO X} : ∀ {es:List ai} {e:ai} {vs:List KV} {rs:List (List KV)},(bP ev er s es).ev=some (e,vs,rs)->∃ x,s = .out e x/\vs=ev x/\rs=er x
 | [],e,vs,rs,h=>by simp [bP,uH.ev] at h
 | e'::es,e,vs,rs,h=>by
  simp only [bP,uH.ev] at h;cases hb:s.by e' with
  | false=>rw [hb] at h; exact WC h
  | true=>
   rw [hb,aj] at h;simp only [db,fI] at h;obtain ⟨rfl,rfl,rfl⟩:=h;cases s with
   | out e0 x=>
    have:=ai0 (show fa e0 e' = true from hb);subst this;exact ⟨x,rfl,rfl,rfl⟩
   | fail=>simp [aO.by] at hb
   | next x=>simp [aO.by] at hb
def eS:Nat:=10000000000000
def goN {X:Type} (step:X->aO X) (x:X):aO X:=aO.go step eS x
theorem ak1 {P:Program} {l:Lp} {X:Type} [Inhabited X] {cfg:eQ} {L n:Nat} (gZ:tW P cfg.pc) (mG:x7 P cfg) {step:X->aO X} {ev:X->List KV} {er:X->List (List KV)} {es:List ai} {pa:List KV->List (List KV)->X}
  (hF:∀ vs rs,l.F vs rs=bP ev er (goN step (pa vs rs)) es) (iE:∀ wv wr,ev (pa (kZ P l.S.eR wv 0) (la P l.S.rows wr 0))=kZ P l.S.eR wv 0/\er (pa (kZ P l.S.eR wv 0) (la P l.S.rows wr 0))=la P l.S.rows wr 0)
  (ux:∀ x,anZ l.st P cfg L n l.f l.p (nz P l.f l.p) l.S (ev x) (er x)=aO.enc ev er (step x)):l.Ok P:=
 ⟨cfg,L,n,gZ,mG,fun vs rs e cK nb cf rV=>by
  obtain ⟨wv,wr,rfl,rfl⟩:=cf.form;obtain ⟨h1,h2⟩:=iE wv wr;rw [hF] at rV;obtain ⟨y,hy,rfl,rfl⟩:=WC rV;have:=ak0 ux eS _ e y hy;rw [h1,h2] at this;exact ⟨eS,this⟩⟩
theorem aqh {P:Program} {c:Fc} {X:Type} [Inhabited X] {cfg:eQ} {L n:Nat} (gZ:tW P cfg.pc) (mG:x7 P cfg) {step:X->aO X} {ev:X->List KV} {er:X->List (List KV)} {es:List ai} {pa:List KV->List (List KV)->X} (hy:Nat.blt c.g yB=true)
  (hF:∀ vs rs,c.F vs rs=bP ev er (step (pa vs rs)) es) (iE:∀ wv wr,ev (pa (kZ P c.S.eR wv 0) (la P c.S.rows wr 0))=kZ P c.S.eR wv 0/\er (pa (kZ P c.S.eR wv 0) (la P c.S.rows wr 0))=la P c.S.rows wr 0)
  (ux:∀ x y,step x = .out .ret y->LX P cfg L n c.g c.S (ev x) (er x)=some (.ret,ev y,er y)) (RH:es = [.ret]):c.Ok P:=
 ⟨hy,cfg,L,n,gZ,mG,fun vs rs e cK nb cf rV=>by
  obtain ⟨wv,wr,rfl,rfl⟩:=cf.form;obtain ⟨h1,h2⟩:=iE wv wr;subst RH;rw [hF] at rV;have he:e = .ret:=by
   simp only [bP,uH.ev] at rV;cases hb:(step (pa (kZ P c.S.eR wv 0) (la P c.S.rows wr 0))).by ai.ret with
   | false=>rw [hb] at rV; simp at rV
   | true=>rw [hb] at rV; simp at rV; exact rV.1.symm
  subst he;obtain ⟨y,hy,rfl,rfl⟩:=WC rV;have:=ux _ y hy;rw [h1,h2] at this;exact this⟩
theorem amN {P:Program} {c:Fc} {cfg:eQ} (gZ:tW P cfg.pc) (mG:x7 P cfg) (hy:Nat.blt c.g yB=true) (hF:∀ vs rs,(c.F vs rs).ev=none):c.Ok P:=
 ⟨hy,cfg,9,9,gZ,mG,fun vs rs e cK nb _ rV=>by rw [hF] at rV; simp at rV⟩
def Sg:Nat:=64
theorem aiS {P:Program} {atZ:List KV} (h:j9 P [] atZ=true):atZ = []:=by
 cases atZ with
 | nil=>rfl
 | cons a atZ=>simp [j9] at h
theorem aoJ {ks:List CK} {v:KV} (h:cC ⟨true,ks⟩ v=true):∃ cs,v = .agg cs/\aI ks cs=true:=by
 cases v with
 | agg cs=>exact ⟨cs,rfl,by simpa [cC] using h⟩
 | iv cs=>simp [cC] at h
 | _=>simp [cC] at h
theorem asg {rd:List KV->List (List KV)->Option (ai×List KV×List (List KV))} {n:Nat} {vs cK:List KV} {rs nb:List (List KV)} (h:rd vs rs=some (.normal,cK,nb)):w4 rd (n+1) vs rs=w4 rd n cK nb:=by
 simp only [w4,h]; rfl
end Go.K
end
section
namespace Go.K
open Go Go.aB
variable {P:Program} {E:Env}
end Go.K
end
section
namespace Go.K
open Go Go.aB
structure Sl (α:Type) where
 n:Nat
 get:Nat->α
instance {α:Type} [Inhabited α] : Inhabited (Sl α):=⟨⟨0,fun _=>default⟩⟩
def cT {α:Type} (T:TypeId) (k:α->KV) (s:Sl α):KV:=.ts T .any s.n ((List.range s.n).map fun i=>k (s.get i)) (fun i=>k (s.get i))
def jT {α:Type} (p:KV->α) (n:Nat) (acc:Nat->KV):Sl α:=⟨n,fun i=>p (acc i)⟩
def dp {α:Type} (p:KV->α) (v:KV):Sl α:=jT p (lenOf v) (tM v)
def kI (k:IntKind) (n:Int):KV:=.int k n
def kB (b:Bool):KV:=.bool b
abbrev az (n:Int):Int:=IntKind.wrap .i64 n
abbrev w8 (n:Int):Int:=IntKind.wrap .u8 n
abbrev sC (n:Int):Int:=IntKind.wrap .u64 n
def Sl.push {α:Type} [Inhabited α] (s:Sl α) (v:α):Sl α:=⟨s.n+1,fun i=>cond (Nat.blt i s.n) (s.get i) (cond (Nat.beq i s.n) v default)⟩
def Sl.join {α:Type} (s t:Sl α):Sl α:=⟨s.n+t.n,fun i=>cond (Nat.blt i s.n) (s.get i) (t.get (i - s.n))⟩
def Sl.lit {α:Type} [Inhabited α] (l:List α):Sl α:=⟨l.length,fun i=>l.getD i default⟩
theorem afE {α:Type} [Inhabited α] {p:KV->α} {k:α->KV} (h:∀ x,p (k x)=x) (hd:p .bD=default) (l:List α):jT p l.length (pW (l.map k))=Sl.lit l:=by
 unfold jT Sl.lit pW;congr 1;funext i;rw [gK,gK,AI];cases l[i]? with
 | none=>exact hd
 | some x=>exact h x
theorem Ct {α:Type} [Inhabited α] {p:KV->α} {k:α->KV} (h:∀ x,p (k x)=x) (hd:p .bD=default) (s:Sl α) (v:α):jT p (s.n+1) (dK s.n (fun i=>k (s.get i)) (pW [k v]))=s.push v:=by
 unfold jT Sl.push;congr 1;funext i;unfold dK;cases hb:Nat.blt i s.n with
 | true=>exact h _
 | false=>
  have hi:s.n<=i:=by
   cases Nat.lt_or_ge i s.n with
   | inl h=>rw [<- bT,hb] at h; simp at h
   | inr h=>exact h
  rw [aq,aq];cases hq:Nat.beq i s.n with
  | true=>
   have:=bh hq;subst this;rw [Nat.sub_self,aj];exact h v
  | false=>
   have eF:i≠s.n:=fun e=>by rw [e,kp] at hq; simp at hq
   rw [aq];obtain ⟨j,hj⟩:∃ j,i - s.n=j+1:=⟨i - s.n - 1,by omega⟩
   rw [hj];exact hd
theorem TZ {α:Type} {p:KV->α} {k:α->KV} (h:∀ x,p (k x)=x) (s t:Sl α):jT p (s.n+t.n) (dK s.n (fun i=>k (s.get i)) (fun i=>k (t.get i)))=s.join t:=by
 unfold jT Sl.join;congr 1;funext i;unfold dK;cases Nat.blt i s.n <;> exact h _
def Sl.set {α:Type} (s:Sl α) (i:Nat) (v:α):Sl α:=⟨s.n,fun j=>cond (Nat.beq j i) v (s.get j)⟩
def Sl.ai1 {α:Type} (s:Sl α) (o k:Nat) (t:Sl α):Sl α:=⟨s.n,fun j=>cond (Nat.blt j o) (s.get j) (cond (Nat.blt j (o+k)) (t.get (j - o)) (s.get j))⟩
theorem afF {α:Type} {p:KV->α} {k:α->KV} (h:∀ x,p (k x)=x) (s:Sl α) (i:Nat) (v:α):jT p s.n (vD (fun j=>k (s.get j)) i (k v))=s.set i v:=by
 unfold jT Sl.set;congr 1;funext j;unfold vD;cases Nat.beq j i <;> exact h _
theorem afG {α:Type} {p:KV->α} {k:α->KV} (h:∀ x,p (k x)=x) (s t:Sl α) (o m:Nat):jT p s.n (mg o m (fun j=>k (s.get j)) (fun j=>k (t.get j)))=s.ai1 o m t:=by
 unfold jT Sl.ai1;congr 1;funext j;unfold mg;cases Nat.blt j o with
 | true=>exact h _
 | false=>cases Nat.blt j (o+m) <;> exact h _
theorem ak2 {α:Type} {p:KV->α} {k:α->KV} (h:∀ x,p (k x)=x) (m n n' : Nat) (acc gb:Nat->KV):jT p m (dK n (fun i=>k ((jT p n' acc).get i)) gb)=jT p m (dK n acc gb):=by
 unfold jT;congr 1;funext i;unfold dK;cases Nat.blt i n with
 | true=>exact h _
 | false=>rfl
theorem aqj {α:Type} {p:KV->α} {k:α->KV} (h:∀ x,p (k x)=x) (m n n' : Nat) (acc gb:Nat->KV):jT p m (dK n acc (fun i=>k ((jT p n' gb).get i)))=jT p m (dK n acc gb):=by
 unfold jT;congr 1;funext i;unfold dK;cases Nat.blt i n with
 | true=>rfl
 | false=>exact h _
theorem ak3 {α:Type} {p:KV->α} {k:α->KV} (h:∀ x,p (k x)=x) (m n' i:Nat) (acc:Nat->KV) (v:KV):jT p m (vD (fun j=>k ((jT p n' acc).get j)) i v)=jT p m (vD acc i v):=by
 unfold jT;congr 1;funext j;unfold vD;cases Nat.beq j i with
 | true=>rfl
 | false=>exact h _
theorem aqk {α:Type} {p:KV->α} {k:α->KV} (h:∀ x,p (k x)=x) (n n' o m:Nat) (acc gb:Nat->KV):jT p n (mg o m (fun j=>k ((jT p n' acc).get j)) gb)=jT p n (mg o m acc gb):=by
 unfold jT;congr 1;funext j;unfold mg;cases Nat.blt j o with
 | true=>exact h _
 | false=>
  cases Nat.blt j (o+m) with
  | true=>rfl
  | false=>exact h _
theorem aql {α:Type} {p:KV->α} {k:α->KV} (h:∀ x,p (k x)=x) (n n' o m:Nat) (acc gb:Nat->KV):jT p n (mg o m acc (fun j=>k ((jT p n' gb).get j)))=jT p n (mg o m acc gb):=by
 unfold jT;congr 1;funext j;unfold mg;cases Nat.blt j o with
 | true=>rfl
 | false=>
  cases Nat.blt j (o+m) with
  | true=>exact h _
  | false=>rfl
theorem ak4 (m n n' : Nat) (acc gb:Nat->KV):jT (fun v=>intOf (v.cells.getD 0 .bD)) m (dK n (fun i=>kI .i64 ((jT (fun v=>intOf (v.cells.getD 0 .bD)) n' acc).get i)) gb)=jT (fun v=>intOf (v.cells.getD 0 .bD)) m (dK n acc gb):=ak2 (k:=kI .i64) (fun _=>rfl) ..
theorem ak5 (m n n' : Nat) (acc gb:Nat->KV):jT (fun v=>intOf (v.cells.getD 0 .bD)) m (dK n acc (fun i=>kI .i64 ((jT (fun v=>intOf (v.cells.getD 0 .bD)) n' gb).get i)))=jT (fun v=>intOf (v.cells.getD 0 .bD)) m (dK n acc gb):=aqj (k:=kI .i64) (fun _=>rfl) ..
theorem ak6 (m n' i:Nat) (acc:Nat->KV) (v:KV):jT (fun v=>intOf (v.cells.getD 0 .bD)) m (vD (fun j=>kI .i64 ((jT (fun v=>intOf (v.cells.getD 0 .bD)) n' acc).get j)) i v)=jT (fun v=>intOf (v.cells.getD 0 .bD)) m (vD acc i v):=ak3 (k:=kI .i64) (fun _=>rfl) ..
theorem ak7 (n n' o m:Nat) (acc gb:Nat->KV):jT (fun v=>intOf (v.cells.getD 0 .bD)) n (mg o m (fun j=>kI .i64 ((jT (fun v=>intOf (v.cells.getD 0 .bD)) n' acc).get j)) gb)=jT (fun v=>intOf (v.cells.getD 0 .bD)) n (mg o m acc gb):=aqk (k:=kI .i64) (fun _=>rfl) ..
theorem ak8 (n n' o m:Nat) (acc gb:Nat->KV):jT (fun v=>intOf (v.cells.getD 0 .bD)) n (mg o m acc (fun j=>kI .i64 ((jT (fun v=>intOf (v.cells.getD 0 .bD)) n' gb).get j)))=jT (fun v=>intOf (v.cells.getD 0 .bD)) n (mg o m acc gb):=aql (k:=kI .i64) (fun _=>rfl) ..
theorem ak9 (s:Sl Int) (i:Nat) (v:Int):s.set i v=jT (fun v=>intOf (v.cells.getD 0 .bD)) s.n (vD (fun j=>kI .i64 (s.get j)) i (kI .i64 v)):=(afF (k:=kI .i64) (fun _=>rfl) s i v).symm
theorem ahY (s:Sl Bool) (i:Nat) (v:Bool):s.set i v=jT (fun v=>iH (v.cells.getD 0 .bD)) s.n (vD (fun j=>kB (s.get j)) i (kB v)):=(afF (k:=kB) (fun _=>rfl) s i v).symm
theorem afH (s t:Sl Int) (o m:Nat):s.ai1 o m t=jT (fun v=>intOf (v.cells.getD 0 .bD)) s.n (mg o m (fun j=>kI .i64 (s.get j)) (fun j=>kI .i64 (t.get j))):=(afG (k:=kI .i64) (fun _=>rfl) s t o m).symm
theorem acw (s t:Sl Bool) (o m:Nat):s.ai1 o m t=jT (fun v=>iH (v.cells.getD 0 .bD)) s.n (mg o m (fun j=>kB (s.get j)) (fun j=>kB (t.get j))):=(afG (k:=kB) (fun _=>rfl) s t o m).symm
theorem ahZ (s:Sl Int) (v:Int):s.push v=jT (fun v=>intOf (v.cells.getD 0 .bD)) (s.n+1) (dK s.n (fun i=>kI .i64 (s.get i)) (pW [kI .i64 v])):=(Ct (fun _=>rfl) rfl s v).symm
theorem aaK (s t:Sl Int):s.join t=jT (fun v=>intOf (v.cells.getD 0 .bD)) (s.n+t.n) (dK s.n (fun i=>kI .i64 (s.get i)) (fun i=>kI .i64 (t.get i))):=(TZ (fun _=>rfl) s t).symm
theorem Sh (l:List Int):Sl.lit l=jT (fun v=>intOf (v.cells.getD 0 .bD)) l.length (pW (l.map (kI .i64))):=(afE (fun _=>rfl) rfl l).symm
theorem ah0 (l:List Bool):Sl.lit l=jT (fun v=>iH (v.cells.getD 0 .bD)) l.length (pW (l.map kB)):=(afE (fun _=>rfl) rfl l).symm
theorem afI (s:Sl Bool) (v:Bool):s.push v=jT (fun v=>iH (v.cells.getD 0 .bD)) (s.n+1) (dK s.n (fun i=>kB (s.get i)) (pW [kB v])):=(Ct (fun _=>rfl) rfl s v).symm
theorem afJ (s t:Sl Bool):s.join t=jT (fun v=>iH (v.cells.getD 0 .bD)) (s.n+t.n) (dK s.n (fun i=>kB (s.get i)) (fun i=>kB (t.get i))):=(TZ (fun _=>rfl) s t).symm
theorem aV {α β:Type} (f:α->β) (c:Bool) (a b:Option α):Option.map f (cond c a b)=cond c (Option.map f a) (Option.map f b):=by cases c <;> rfl
def ak (P:Program) (ps:List (Nat×(List KV->KR KV))):Prop:=∀ p∈ps,bg P p.1 p.2
theorem ak.nil {P:Program} : ak P []:=fun p hp=>by simp at hp
theorem ak.cons {P:Program} {g:Nat} {F:List KV->KR KV} {ps:List (Nat×(List KV->KR KV))} (h:bg P g F) (t:ak P ps):ak P ((g,F)::ps):=fun p hp=>by
 rcases eL.1 hp with rfl | hp
 ·exact h
 ·exact t p hp
theorem ak.pc {P:Program} {ps:List (Nat×(List KV->KR KV))} (h:ak P ps):tW P (ahW ps):=an3 h
def aK (P:Program) (ls:List Lp):Prop:=∀ l∈ls,l.Ok P/\EH P l.f l.p=true
theorem aK.nil {P:Program} : aK P []:=fun p hp=>by simp at hp
theorem aK.cons {P:Program} {l:Lp} {ls:List Lp} (h:l.Ok P) (h' : EH P l.f l.p=true) (t:aK P ls):aK P (l::ls):=fun p hp=>by
 rcases eL.1 hp with rfl | hp
 ·exact ⟨h,h'⟩
 ·exact t p hp
def fT (P:Program) (fs:List Fc):Prop:=∀ c∈fs,c.Ok P
theorem fT.nil {P:Program} : fT P []:=fun p hp=>by simp at hp
theorem fT.cons {P:Program} {c:Fc} {fs:List Fc} (h:c.Ok P) (t:fT P fs):fT P (c::fs):=fun p hp=>by
 rcases eL.1 hp with rfl | hp
 ·exact h
 ·exact t p hp
noncomputable def iZ (P:Program) (ps:List (Nat×(List KV->KR KV))) (ls:List Lp) (mt:TypeId->Bool:=fun _=>false) (fz:Bool:=false) (eg:Bool:=false) (fs:List Fc:=[]):eQ:=⟨ahW ps,afu P ls,⟨ahU P fs,mt,fz,eg⟩⟩
noncomputable def bn {R:Type} [Inhabited R] (k:R->KV) (r:List KV->Option R):List KV->KR KV:=fun atZ=>.lB (r atZ).isSome (k ((r atZ).getD default))
theorem acx {P:Program} {R:Type} [Inhabited R] {k:R->KV} {r:List KV->Option R} {g:FuncId} (hP:P.funcs.toList.all oP=true) (hm:P.follows .mixedOrders=true) {ps:List (Nat×(List KV->KR KV))} {ls:List Lp} (gZ:ak P ps) (mG:aK P ls) {L n:Nat} {mt:TypeId->Bool} {fz eg:Bool} {fs:List Fc}
  (h:∀ w,GC P (iZ P ps ls mt fz eg fs) L n g (ye P (fy P g) w 0)=(r (ye P (fy P g) w 0)).map k) (hy:Nat.blt g yB=true:=by rfl) (GK:fT P fs:=by exact fT.nil):bg P g (bk P g (bn k r)):=
 aqf (cfg:=iZ P ps ls mt fz eg fs) hP hm gZ.pc (TX hP hm (TY hP hm GK) mG) (hy:=hy) fun w v hv=>by
  obtain ⟨h1,h2⟩:=a9.lB hv;rw [h w];cases hr:r (ye P (fy P g) w 0) with
  | none=>rw [hr] at h1; simp at h1
  | some x=>rw [hr] at h2; rw [<- h2]; rfl
theorem Si {P:Program} {l:Lp} {X:Type} [Inhabited X] (hP:P.funcs.toList.all oP=true) (hm:P.follows .mixedOrders=true) {ps:List (Nat×(List KV->KR KV))} {ls:List Lp} (gZ:ak P ps) (mG:aK P ls) {L n:Nat} {mt:TypeId->Bool} {fz eg:Bool} {fs:List Fc} {step:X->aO X} {ev:X->List KV} {er:X->List (List KV)} {es:List ai} {pa:List KV->List (List KV)->X}
  (hF:l.F=fun vs rs=>bP ev er (goN step (pa vs rs)) es) (iE:∀ wv wr,ev (pa (kZ P l.S.eR wv 0) (la P l.S.rows wr 0))=kZ P l.S.eR wv 0/\er (pa (kZ P l.S.eR wv 0) (la P l.S.rows wr 0))=la P l.S.rows wr 0)
  (ux:∀ x,AX P (iZ P ps ls mt fz eg fs) L n l.f l.p (nz P l.f l.p) l.S (ev x) (er x)=aO.enc ev er (step x)) (GK:fT P fs:=by exact fT.nil) (hs:l.st=false:=by rfl):l.Ok P:=
 ak1 (cfg:=iZ P ps ls mt fz eg fs) gZ.pc (TX hP hm (TY hP hm GK) mG) (fun _ _=>by rw [hF]) iE (fun x=>by rw [hs]; exact ux x)
theorem mH {P:Program} {l:Lp} {X:Type} [Inhabited X] (hP:P.funcs.toList.all oP=true) (hm:P.follows .mixedOrders=true) {ps:List (Nat×(List KV->KR KV))} {ls:List Lp} (gZ:ak P ps) (mG:aK P ls) {L n:Nat} {mt:TypeId->Bool} {fz eg:Bool} {fs:List Fc} {step:X->aO X} {ev:X->List KV} {er:X->List (List KV)} {es:List ai} {pa:List KV->List (List KV)->X}
  (hF:l.F=fun vs rs=>bP ev er (goN step (pa vs rs)) es) (iE:∀ wv wr,ev (pa (kZ P l.S.eR wv 0) (la P l.S.rows wr 0))=kZ P l.S.eR wv 0/\er (pa (kZ P l.S.eR wv 0) (la P l.S.rows wr 0))=la P l.S.rows wr 0)
  (ux:∀ x,sv P (iZ P ps ls mt fz eg fs) L n l.f l.p (nz P l.f l.p) l.S (ev x) (er x)=aO.enc ev er (step x)) (GK:fT P fs:=by exact fT.nil) (hs:l.st=true:=by rfl):l.Ok P:=
 ak1 (cfg:=iZ P ps ls mt fz eg fs) gZ.pc (TX hP hm (TY hP hm GK) mG) (fun _ _=>by rw [hF]) iE (fun x=>by rw [hs]; exact ux x)
theorem F9 {P:Program} {c:Fc} {X:Type} [Inhabited X] (hP:P.funcs.toList.all oP=true) (hm:P.follows .mixedOrders=true) {ps:List (Nat×(List KV->KR KV))} {ls:List Lp} (gZ:ak P ps) (mG:aK P ls) {L n:Nat} {mt:TypeId->Bool} {fz eg:Bool} {fs:List Fc} {step:X->aO X} {ev:X->List KV} {er:X->List (List KV)} {es:List ai} {pa:List KV->List (List KV)->X}
  (hF:c.F=fun vs rs=>bP ev er (step (pa vs rs)) es) (iE:∀ wv wr,ev (pa (kZ P c.S.eR wv 0) (la P c.S.rows wr 0))=kZ P c.S.eR wv 0/\er (pa (kZ P c.S.eR wv 0) (la P c.S.rows wr 0))=la P c.S.rows wr 0)
  (ux:∀ x,LX P (iZ P ps ls mt fz eg fs) L n c.g c.S (ev x) (er x)=aO.enc ev er (step x)) (hy:Nat.blt c.g yB=true:=by rfl) (RH:es = [.ret]:=by rfl) (GK:fT P fs:=by exact fT.nil):c.Ok P:=
 aqh (cfg:=iZ P ps ls mt fz eg fs) gZ.pc (TX hP hm (TY hP hm GK) mG) hy (fun _ _=>by rw [hF]) iE (fun x y h=>by rw [ux x,h]; rfl) RH
end Go.K
end
section
namespace Go.Proofs.YtchbpckkmgcgkaaGreat.b
open Go.K
theorem funcs:Tryz.prog.funcs.toList.all aB.oP=true:=by kernel_rfl
theorem mixed:Tryz.prog.follows .mixedOrders=true:=by kernel_rfl
noncomputable abbrev PG:Program:=Tryz.prog
noncomputable abbrev g0 (T:TypeId) (v:KV):KV:=tN PG (eh PG gR) T v
abbrev bj (i:Int) (n:Nat):Bool:=(decide (0<=i))&&(decide (i < (n:Int)))
abbrev aF (n:Nat):Bool:=dk n n
abbrev mI (b n m:Nat):Bool:=(dk n n)&&(gi b n m)
theorem bQ {R:Type} [Inhabited R] {k:R->KV} {r:List KV->Option R} {g:FuncId} {ps:List (Nat×(List KV->KR KV))} {ls:List Lp} {mt:TypeId->Bool} {fz eg:Bool} {a:(Nat->KV)->List KV} {q:(Nat->KV)->Option R} (gZ:ak PG ps) (mG:aK PG ls)
  (hr:∀ w,GC PG (iZ PG ps ls mt fz eg) 9 9 g (a w)=(q w).map k) (h:∀ w,ye PG (fy PG g) w 0=a w/\r (a w)=q w:=by exact fun w=>⟨by kernel_rfl,by kernel_rfl⟩) (hy:Nat.blt g aB.yB=true:=by rfl):bg PG g (bk PG g (bn k r)):=
 acx funcs mixed gZ mG (L:=9) (n:=9) (fun w=>by rw [(h w).1,(h w).2]; exact hr w) hy
theorem rF {l:Lp} {X:Type} [Inhabited X] {ps:List (Nat×(List KV->KR KV))} {ls:List Lp} {mt:TypeId->Bool} {fz eg:Bool} {step:X->aO X} {ev:X->List KV} {er:X->List (List KV)} {es:List aB.ai} {pa:List KV->List (List KV)->X} (gZ:ak PG ps) (mG:aK PG ls)
  (ux:∀ x,AX PG (iZ PG ps ls mt fz eg) 9 9 l.f l.p (nz PG l.f l.p) l.S (ev x) (er x)=aO.enc ev er (step x)) (hF:l.F=fun vs rs=>bP ev er (goN step (pa vs rs)) es:=by rfl)
  (iE:∀ wv wr,ev (pa (kZ PG l.S.eR wv 0) (la PG l.S.rows wr 0))=kZ PG l.S.eR wv 0/\er (pa (kZ PG l.S.eR wv 0) (la PG l.S.rows wr 0))=la PG l.S.rows wr 0:=by exact fun wv wr=>⟨by kernel_rfl,by kernel_rfl⟩) (hs:l.st=false:=by rfl):l.Ok PG:=
 Si funcs mixed gZ mG (L:=9) (n:=9) hF iE ux fT.nil hs
theorem gm {l:Lp} {ls:List Lp} (h:l.Ok PG) (r:aK PG ls) (t:EH PG l.f l.p=true:=by kernel_rfl):aK PG (l::ls):=aK.cons h t r
noncomputable abbrev gn (ps:List (Nat×(List KV->KR KV))) (ls:List Lp) (g:FuncId) (a:List KV):Option KV:=GC PG (iZ PG ps ls) 9 9 g a
noncomputable abbrev sB (ps:List (Nat×(List KV->KR KV))) (ls:List Lp) (f p:Nat) (S:aL):=AX PG (iZ PG ps ls) 9 9 f p (nz PG f p) S
abbrev v9 (vs:List KV) (i:Nat):KV:=vs.getD i .bD
abbrev r9 (rs:List (List KV)) (i k:Nat):KV:=(rs.getD i []).getD k .bD
abbrev i9:CD:=.k (.int .i64)
abbrev u9:CD:=.k (.int .u8)
abbrev b9:CD:=.k .bool
abbrev n9 (T:TypeId):CD:=.k (.slice T)
abbrev w9 (c:CD):VD:=⟨false,[c]⟩
end Go.Proofs.YtchbpckkmgcgkaaGreat.b
end
section
namespace Go.Proofs.YtchbpckkmgcgkaaGreat.b
open Go.K
noncomputable section
def eT (a:Int) (b:Int):Option (Int×Int):=(cond (decide (b < 1)) (some (0,2)) (cond (!(decide (b=0))) (cond (!(decide (b=0))) (cond (decide ((Int.tmod a b) < 0)) (some ((az ((az (Int.tdiv a b)) - 1)),0)) (some ((az (Int.tdiv a b)),0))) none) none))
theorem aaL (a:Int) (b:Int):gn [] [] 148 [(kI .i64) a,(kI .i64) b] = (eT a b).map (fun (r:Int×Int)=>KV.iv [(kI .i64) r.1,(kI .i64) r.2]):=by
 unfold eT
 try simp only [aV,ahZ,aaK,Sh,ak4,ak5,ak6,ak7,ak8,afI,afJ,ah0,ak9,ahY,afH,acw]
 kernel_rfl
def yf:List KV->KR KV:=bk PG 148 (bn (fun (r:Int×Int)=>KV.iv [(kI .i64) r.1,(kI .i64) r.2]) fun vs=>eT (intOf (v9 vs 0)) (intOf (v9 vs 1)))
theorem xo:bg PG 148 yf:=bQ ak.nil aK.nil fun w=>aaL (intOf (g0 3 (w 0))) (intOf (g0 3 (w 1)))
def wJ (a:Int) (b:Int):Option (Int×Int):=(cond (decide (b < 1)) (some (0,2)) (cond (!(decide (b=0))) (cond (!(decide (b=0))) (cond (decide ((Int.tmod a b) > 0)) (some ((az ((az (Int.tdiv a b))+1)),0)) (some ((az (Int.tdiv a b)),0))) none) none))
theorem acV (a:Int) (b:Int):gn [] [] 185 [(kI .i64) a,(kI .i64) b] = (wJ a b).map (fun (r:Int×Int)=>KV.iv [(kI .i64) r.1,(kI .i64) r.2]):=by
 unfold wJ
 try simp only [aV,ahZ,aaK,Sh,ak4,ak5,ak6,ak7,ak8,afI,afJ,ah0,ak9,ahY,afH,acw]
 kernel_rfl
def Vp:List KV->KR KV:=bk PG 185 (bn (fun (r:Int×Int)=>KV.iv [(kI .i64) r.1,(kI .i64) r.2]) fun vs=>wJ (intOf (v9 vs 0)) (intOf (v9 vs 1)))
theorem aaM:bg PG 185 Vp:=bQ ak.nil aK.nil fun w=>acV (intOf (g0 3 (w 0))) (intOf (g0 3 (w 1)))
structure gY where
 x:Int
 y:Int
 z:Int
instance:Inhabited gY:=⟨⟨default,default,default⟩⟩
def atO (x:gY):List KV:=[.int .i64 x.x,.int .i64 x.y,.int .i64 x.z]
def pn (x:gY):KV:=.agg (atO x)
def atP (c:Nat->KV):gY:=⟨intOf (c 0),intOf (c 1),intOf (c 2)⟩
def pY (v:KV):gY:=atP fun k=>v.cells.getD k .bD
structure bK where
 p:gY
 u:Int
 v:Int
instance:Inhabited bK:=⟨⟨default,default,default⟩⟩
def arB (x:bK):List KV:=[.int .i64 x.p.x,.int .i64 x.p.y,.int .i64 x.p.z,.int .i64 x.u,.int .i64 x.v]
def nV (x:bK):KV:=.agg (arB x)
def arC (c:Nat->KV):bK:=⟨⟨intOf (c 0),intOf (c 1),intOf (c 2)⟩,intOf (c 3),intOf (c 4)⟩
def jE (v:KV):bK:=arC fun k=>v.cells.getD k .bD
theorem aaN (x:bK):jE (nV x)=x:=rfl
theorem ah1:jE .bD=default:=rfl
theorem acy (s:Sl bK) (v:bK):s.push v=jT jE (s.n+1) (dK s.n (fun i=>nV (s.get i)) (pW [nV v])):=(Ct aaN ah1 s v).symm
theorem amO (l:List bK):Sl.lit l=jT jE l.length (pW (l.map nV)):=(afE aaN ah1 l).symm
theorem afK (m n n' : Nat) (acc gb:Nat->KV):jT jE m (dK n (fun i=>nV ((jT jE n' acc).get i)) gb)=jT jE m (dK n acc gb):=ak2 aaN ..
def nG (p:bK):Option (Int):=(cond (decide (p.p.x < (-(32768:Int)))) (some (8)) (cond (decide (p.p.x > 32768)) (some (8)) (cond (decide (p.p.y < (-(32768:Int)))) (some (8)) (cond (decide (p.p.y > 32768)) (some (8)) (cond (decide (p.p.z < (-(32768:Int)))) (some (8)) (cond (decide (p.p.z > 32768)) (some (8)) (cond (decide (p.u < 0)) (some (8)) (cond (decide (p.u > 255)) (some (8)) (cond (decide (p.v < 0)) (some (8)) (cond (decide (p.v > 255)) (some (8)) (some (0))))))))))))
theorem acW (p:bK):gn [] [] 162 [nV p] = (nG p).map (kI .i64):=by
 unfold nG
 try simp only [aV]
 kernel_rfl
def tR:List KV->KR KV:=bk PG 162 (bn (kI .i64) fun vs=>nG (jE (v9 vs 0)))
theorem rG:bg PG 162 tR:=bQ ak.nil aK.nil fun w=>acW (jE (g0 177 (w 0)))
structure nW where
 low:Int
 high:Int
 t6:Bool
 t9:(Sl Int)
 t10:Int
 t11:Int
instance:Inhabited nW:=⟨by constructor<;>exact default⟩
def BH (x:nW):List KV:=[.int .i64 x.low,.int .i64 x.high,.bool x.t6,cT 3 (kI .i64) x.t9,.int .i64 x.t10,.int .i64 x.t11]
def BI (x:nW):List (List KV):=[]
def Jj (vs:List KV) (rs:List (List KV)):nW:=⟨intOf (v9 vs 0),intOf (v9 vs 1),iH (v9 vs 2),dp intOf (v9 vs 3),intOf (v9 vs 4),intOf (v9 vs 5)⟩
def KF:aL:=⟨[(0,w9 i9),(1,w9 i9),(6,w9 b9),(9,w9 (n9 3)),(10,w9 i9),(11,w9 i9)],[],[]⟩
def WD:=sB [] [] 214 26 KF
def nc (x:nW):aO nW:=(cond (decide (x.t11 < x.t10)) (cond (bj x.t11 x.t9.n) (cond (decide ((x.t9.get (Int.toNat x.t11)) < x.low)) (.out aB.ai.ret ⟨x.low,x.high,false,x.t9,x.t10,x.t11⟩) (cond (decide ((x.t9.get (Int.toNat x.t11)) > x.high)) (.out aB.ai.ret ⟨x.low,x.high,false,x.t9,x.t10,x.t11⟩) (.next ⟨x.low,x.high,x.t6,x.t9,x.t10,(az (x.t11+1))⟩))) .fail) (.out (aB.ai.exit 0) x))
theorem Sj (x:nW):WD (BH x) (BI x)=aO.enc BH BI (nc x):=by
 unfold nc bj
 try simp only [aO.bw]
 kernel_rfl
def KG:Lp:=⟨214,26,KF,fun vs rs=>bP BH BI (goN nc (Jj vs rs)) [aB.ai.exit 0,aB.ai.ret],false⟩
theorem WG:KG.Ok PG:=rF ak.nil aK.nil (pa:=Jj) Sj
def y8 (low:Int) (high:Int) (l:(Sl Int)):=goN nc ⟨low,high,false,l,(l.n:Int),0⟩
def pH (low:Int) (high:Int) (l:(Sl Int)):Option (Bool):=(cond ((y8 low high l).by (aB.ai.exit 0)) (some (true)) (cond ((y8 low high l).by aB.ai.ret) (some ((y8 low high l).st.t6)) none))
theorem aaO (low:Int) (high:Int) (l:(Sl Int)):gn [] [KG] 214 [(kI .i64) low,(kI .i64) high,(cT 3 (kI .i64)) l] = (pH low high l).map kB:=by
 unfold pH
 try simp only [aV]
 kernel_rfl
def Sk:List KV->KR KV:=bk PG 214 (bn kB fun vs=>pH (intOf (v9 vs 0)) (intOf (v9 vs 1)) ((dp intOf) (v9 vs 2)))
theorem YQ:bg PG 214 Sk:=bQ ak.nil (gm WG aK.nil) fun w=>aaO (intOf (g0 3 (w 0))) (intOf (g0 3 (w 1))) ((dp intOf) (g0 66 (w 2)))
structure yg where
 x:Int
 y:Int
 d:Int
 u:Int
 v:Int
instance:Inhabited yg:=⟨⟨default,default,default,default,default⟩⟩
def asN (x:yg):List KV:=[.int .i64 x.x,.int .i64 x.y,.int .i64 x.d,.int .i64 x.u,.int .i64 x.v]
def aaP (x:yg):KV:=.agg (asN x)
def asO (c:Nat->KV):yg:=⟨intOf (c 0),intOf (c 1),intOf (c 2),intOf (c 3),intOf (c 4)⟩
def ai2 (v:KV):yg:=asO fun k=>v.cells.getD k .bD
def AZ (s:yg):=pH (-(131072:Int)) 131072 (Sl.lit [s.x,s.y])
def A4 (s:yg):=pH 1 65536 (Sl.lit [s.d])
def A5 (s:yg):=pH 0 255 (Sl.lit [s.u,s.v])
def rl (s:yg):Option (Int):=(cond (AZ s).isSome (cond (!((AZ s).getD default)) (some (8)) (cond (A4 s).isSome (cond (!((A4 s).getD default)) (some (8)) (cond (A5 s).isSome (cond (!((A5 s).getD default)) (some (8)) (some (0))) none)) none)) none)
theorem acX (s:yg):gn [(214,Sk)] [] 203 [aaP s] = (rl s).map (kI .i64):=by
 unfold rl
 try simp only [aV,AZ,A4,A5,Sh]
 kernel_rfl
def Vq:List KV->KR KV:=bk PG 203 (bn (kI .i64) fun vs=>rl (ai2 (v9 vs 0)))
theorem aaQ:bg PG 203 Vq:=bQ (ak.cons YQ ak.nil) aK.nil fun w=>acX (ai2 (g0 61 (w 0)))
structure aW where
 e0:yg
 e1:yg
 e2:yg
instance:Inhabited aW:=⟨⟨default,default,default⟩⟩
def aoK (x:aW):List KV:=[.int .i64 x.e0.x,.int .i64 x.e0.y,.int .i64 x.e0.d,.int .i64 x.e0.u,.int .i64 x.e0.v,.int .i64 x.e1.x,.int .i64 x.e1.y,.int .i64 x.e1.d,.int .i64 x.e1.u,.int .i64 x.e1.v,.int .i64 x.e2.x,.int .i64 x.e2.y,.int .i64 x.e2.d,.int .i64 x.e2.u,.int .i64 x.e2.v]
def fN (x:aW):KV:=.agg (aoK x)
def aoL (c:Nat->KV):aW:=⟨⟨intOf (c 0),intOf (c 1),intOf (c 2),intOf (c 3),intOf (c 4)⟩,⟨intOf (c 5),intOf (c 6),intOf (c 7),intOf (c 8),intOf (c 9)⟩,⟨intOf (c 10),intOf (c 11),intOf (c 12),intOf (c 13),intOf (c 14)⟩⟩
def fA (v:KV):aW:=aoL fun k=>v.cells.getD k .bD
theorem ala (x:aW):fA (fN x)=x:=rfl
theorem alb:fA .bD=default:=rfl
theorem Vr (s:Sl aW) (v:aW):s.push v=jT fA (s.n+1) (dK s.n (fun i=>fN (s.get i)) (pW [fN v])):=(Ct ala alb s v).symm
def De (t:aW):=rl t.e0
def Df (t:aW):=rl t.e1
def Dg (t:aW):=rl t.e2
def px (t:aW):Option (Int×Int):=(cond (De t).isSome (cond (((De t).getD default) != 0) (some (0,((De t).getD default))) (cond (Df t).isSome (cond (((Df t).getD default) != 0) (some (0,((Df t).getD default))) (cond (Dg t).isSome (cond (((Dg t).getD default) != 0) (some (0,((Dg t).getD default))) (some ((az ((az ((az (t.e1.x - t.e0.x)) * (az (t.e2.y - t.e0.y)))) - (az ((az (t.e2.x - t.e0.x)) * (az (t.e1.y - t.e0.y)))))),0))) none)) none)) none)
theorem afL (t:aW):gn [(203,Vq)] [] 163 [fN t] = (px t).map (fun (r:Int×Int)=>KV.iv [(kI .i64) r.1,(kI .i64) r.2]):=by
 unfold px
 try simp only [aV]
 kernel_rfl
def H9:List KV->KR KV:=bk PG 163 (bn (fun (r:Int×Int)=>KV.iv [(kI .i64) r.1,(kI .i64) r.2]) fun vs=>px (fA (v9 vs 0)))
theorem GM:bg PG 163 H9:=bQ (ak.cons aaQ ak.nil) aK.nil fun w=>afL (fA (g0 62 (w 0)))
def mJ (t:aW) (cz:Int):=px t
def py (t:aW) (cz:Int):Option (Bool×Int):=(cond (mJ t cz).isSome (cond (((mJ t cz).getD default).snd != 0) (some (false,((mJ t cz).getD default).snd)) (cond (cz==0) (some ((((mJ t cz).getD default).fst != 0),0)) (cond (cz==1) (some ((decide (((mJ t cz).getD default).fst > 0)),0)) (cond (cz==2) (some ((decide (((mJ t cz).getD default).fst < 0)),0)) (some (false,2)))))) none)
theorem acY (t:aW) (cz:Int):gn [(163,H9)] [] 104 [fN t,(kI .u8) cz] = (py t cz).map (fun (r:Bool×Int)=>KV.iv [kB r.1,(kI .i64) r.2]):=by
 unfold py
 try simp only [aV]
 kernel_rfl
def L3:List KV->KR KV:=bk PG 104 (bn (fun (r:Bool×Int)=>KV.iv [kB r.1,(kI .i64) r.2]) fun vs=>py (fA (v9 vs 0)) (intOf (v9 vs 1)))
theorem Nw:bg PG 104 L3:=bQ (ak.cons GM ak.nil) aK.nil fun w=>acY (fA (g0 62 (w 0))) (intOf (g0 5 (w 1)))
def sW (t:aW):=px t
def wK (t:aW):Option (aW×Int):=(cond (sW t).isSome (cond (((sW t).getD default).snd != 0) (some (⟨⟨0,0,0,0,0⟩,⟨0,0,0,0,0⟩,⟨0,0,0,0,0⟩⟩,((sW t).getD default).snd)) (cond (((sW t).getD default).fst==0) (some (⟨⟨0,0,0,0,0⟩,⟨0,0,0,0,0⟩,⟨0,0,0,0,0⟩⟩,6)) (cond (decide (((sW t).getD default).fst < 0)) (some (⟨t.e0,t.e2,t.e1⟩,0)) (some (t,0))))) none)
theorem acZ (t:aW):gn [(163,H9)] [] 105 [fN t] = (wK t).map (fun (r:aW×Int)=>KV.iv [fN r.1,(kI .i64) r.2]):=by
 unfold wK
 try simp only [aV]
 kernel_rfl
def L4:List KV->KR KV:=bk PG 105 (bn (fun (r:aW×Int)=>KV.iv [fN r.1,(kI .i64) r.2]) fun vs=>wK (fA (v9 vs 0)))
theorem Nx:bg PG 105 L4:=bQ (ak.cons GM ak.nil) aK.nil fun w=>acZ (fA (g0 62 (w 0)))
structure vN where
 dn:Int
 t4:Bool
 t7:(Sl Int)
 t8:Int
 t9:Int
instance:Inhabited vN:=⟨⟨default,default,default,default,default⟩⟩
def L5 (x:vN):List KV:=[.int .i64 x.dn,.bool x.t4,cT 3 (kI .i64) x.t7,.int .i64 x.t8,.int .i64 x.t9]
def L6 (x:vN):List (List KV):=[]
def Vs (vs:List KV) (rs:List (List KV)):vN:=⟨intOf (v9 vs 0),iH (v9 vs 1),dp intOf (v9 vs 2),intOf (v9 vs 3),intOf (v9 vs 4)⟩
def YR:aL:=⟨[(0,w9 i9),(4,w9 b9),(7,w9 (n9 3)),(8,w9 i9),(9,w9 i9)],[],[]⟩
def agT:=sB [] [] 177 26 YR
def sX (x:vN):aO vN:=(cond (decide (x.t9 < x.t8)) (cond (bj x.t9 x.t7.n) (cond (decide ((x.t7.get (Int.toNat x.t9)) < (az (0 - x.dn)))) (.out aB.ai.ret ⟨x.dn,false,x.t7,x.t8,x.t9⟩) (cond (decide ((x.t7.get (Int.toNat x.t9)) > x.dn)) (.out aB.ai.ret ⟨x.dn,false,x.t7,x.t8,x.t9⟩) (.next ⟨x.dn,x.t4,x.t7,x.t8,(az (x.t9+1))⟩))) .fail) (.out (aB.ai.exit 0) x))
theorem ac0 (x:vN):agT (L5 x) (L6 x)=aO.enc L5 L6 (sX x):=by
 unfold sX bj
 try simp only [aO.bw]
 kernel_rfl
def YS:Lp:=⟨177,26,YR,fun vs rs=>bP L5 L6 (goN sX (Vs vs rs)) [aB.ai.exit 0,aB.ai.ret],false⟩
theorem agU:YS.Ok PG:=rF ak.nil aK.nil (pa:=Vs) ac0
def KH (dn:Int) (l:(Sl Int)):=goN sX ⟨dn,false,l,(l.n:Int),0⟩
def EI (dn:Int) (l:(Sl Int)):Option (Bool):=(cond ((KH dn l).by (aB.ai.exit 0)) (some (true)) (cond ((KH dn l).by aB.ai.ret) (some ((KH dn l).st.t4)) none))
theorem alc (dn:Int) (l:(Sl Int)):gn [] [YS] 177 [(kI .i64) dn,(cT 3 (kI .i64)) l] = (EI dn l).map kB:=by
 unfold EI
 try simp only [aV]
 kernel_rfl
def aaR:List KV->KR KV:=bk PG 177 (bn kB fun vs=>EI (intOf (v9 vs 0)) ((dp intOf) (v9 vs 1)))
theorem YT:bg PG 177 aaR:=bQ ak.nil (gm agU aK.nil) fun w=>alc (intOf (g0 3 (w 0))) ((dp intOf) (g0 66 (w 1)))
def Dh (v:gY):=EI 4096 (Sl.lit [v.x,v.y,v.z])
def qX (v:gY):Option (Int):=(cond (Dh v).isSome (cond (!((Dh v).getD default)) (some (20)) (some (0))) none)
theorem afM (v:gY):gn [(177,aaR)] [] 126 [pn v] = (qX v).map (kI .i64):=by
 unfold qX
 try simp only [aV,Dh,Sh]
 kernel_rfl
def y9:List KV->KR KV:=bk PG 126 (bn (kI .i64) fun vs=>qX (pY (v9 vs 0)))
theorem wq:bg PG 126 y9:=bQ (ak.cons YT ak.nil) aK.nil fun w=>afM (pY (g0 27 (w 0)))
def dm (n:Int) (low:Int) (high:Int):Option (Bool):=(cond (decide (n >= low)) (some ((decide (n<=high)))) (some (false)))
theorem WH (n:Int) (low:Int) (high:Int):gn [] [] 135 [(kI .i64) n,(kI .i64) low,(kI .i64) high] = (dm n low high).map kB:=by
 unfold dm
 try simp only [aV]
 kernel_rfl
def EJ:List KV->KR KV:=bk PG 135 (bn kB fun vs=>dm (intOf (v9 vs 0)) (intOf (v9 vs 1)) (intOf (v9 vs 2)))
theorem Hz:bg PG 135 EJ:=bQ ak.nil aK.nil fun w=>WH (intOf (g0 3 (w 0))) (intOf (g0 3 (w 1))) (intOf (g0 3 (w 2)))
structure kq where
 e0:Int
 e1:Int
 e2:Int
instance:Inhabited kq:=⟨⟨default,default,default⟩⟩
def aqm (x:kq):List KV:=[.int .i64 x.e0,.int .i64 x.e1,.int .i64 x.e2]
def yh (x:kq):KV:=.agg (aqm x)
def aqn (c:Nat->KV):kq:=⟨intOf (c 0),intOf (c 1),intOf (c 2)⟩
def Ga (v:KV):kq:=aqn fun k=>v.cells.getD k .bD
structure da where
 e0:kq
 e1:kq
 e2:kq
instance:Inhabited da:=⟨⟨default,default,default⟩⟩
def ald (x:da):List KV:=[.int .i64 x.e0.e0,.int .i64 x.e0.e1,.int .i64 x.e0.e2,.int .i64 x.e1.e0,.int .i64 x.e1.e1,.int .i64 x.e1.e2,.int .i64 x.e2.e0,.int .i64 x.e2.e1,.int .i64 x.e2.e2]
def Gb (x:da):KV:=.agg (ald x)
def ale (c:Nat->KV):da:=⟨⟨intOf (c 0),intOf (c 1),intOf (c 2)⟩,⟨intOf (c 3),intOf (c 4),intOf (c 5)⟩,⟨intOf (c 6),intOf (c 7),intOf (c 8)⟩⟩
def rm (v:KV):da:=ale fun k=>v.cells.getD k .bD
structure aE where
 pos:gY
 m:da
 qY:Int
 au:Int
 w:Int
 h:Int
instance:Inhabited aE:=⟨by constructor<;>exact default⟩
def Ny (x:aE):List KV:=[.int .i64 x.pos.x,.int .i64 x.pos.y,.int .i64 x.pos.z,.int .i64 x.m.e0.e0,.int .i64 x.m.e0.e1,.int .i64 x.m.e0.e2,.int .i64 x.m.e1.e0,.int .i64 x.m.e1.e1,.int .i64 x.m.e1.e2,.int .i64 x.m.e2.e0,.int .i64 x.m.e2.e1,.int .i64 x.m.e2.e2,.int .i64 x.qY,.int .i64 x.au,.int .i64 x.w,.int .i64 x.h]
def nX (x:aE):KV:=.agg (Ny x)
def Nz (c:Nat->KV):aE:=⟨⟨intOf (c 0),intOf (c 1),intOf (c 2)⟩,⟨⟨intOf (c 3),intOf (c 4),intOf (c 5)⟩,⟨intOf (c 6),intOf (c 7),intOf (c 8)⟩,⟨intOf (c 9),intOf (c 10),intOf (c 11)⟩⟩,intOf (c 12),intOf (c 13),intOf (c 14),intOf (c 15)⟩
def fD (v:KV):aE:=Nz fun k=>v.cells.getD k .bD
def xp (c:aE):=qX c.pos
def xq (c:aE):=dm c.qY 1 64
def xr (c:aE):=dm c.au 256 4096
def xt (c:aE):=dm c.w 1 64
def xu (c:aE):=dm c.h 1 64
def xv (c:aE):=dm c.m.e0.e0 (-(256:Int)) 256
def xw (c:aE):=dm c.m.e0.e1 (-(256:Int)) 256
def xx (c:aE):=dm c.m.e0.e2 (-(256:Int)) 256
def xy (c:aE):=dm c.m.e1.e0 (-(256:Int)) 256
def xz (c:aE):=dm c.m.e1.e1 (-(256:Int)) 256
def vO (c:aE):=dm c.m.e1.e2 (-(256:Int)) 256
def vP (c:aE):=dm c.m.e2.e0 (-(256:Int)) 256
def vQ (c:aE):=dm c.m.e2.e1 (-(256:Int)) 256
def vR (c:aE):=dm c.m.e2.e2 (-(256:Int)) 256
def ir (c:aE):Option (Int):=(cond (xp c).isSome (cond (((xp c).getD default)==0) (cond (xq c).isSome (cond ((xq c).getD default) (cond (xr c).isSome (cond ((xr c).getD default) (cond (xt c).isSome (cond ((xt c).getD default) (cond (xu c).isSome (cond ((xu c).getD default) (cond (xv c).isSome (cond ((xv c).getD default) (cond (xw c).isSome (cond ((xw c).getD default) (cond (xx c).isSome (cond ((xx c).getD default) (cond (xy c).isSome (cond ((xy c).getD default) (cond (xz c).isSome (cond ((xz c).getD default) (cond (vO c).isSome (cond ((vO c).getD default) (cond (vP c).isSome (cond ((vP c).getD default) (cond (vQ c).isSome (cond ((vQ c).getD default) (cond (vR c).isSome (cond (!((vR c).getD default)) (some (150)) (some (0))) none) (some (150))) none) (some (150))) none) (some (150))) none) (some (150))) none) (some (150))) none) (some (150))) none) (some (150))) none) (some (150))) none) (some (150))) none) (some (150))) none) (some (150))) none) (some (150))) none) (some (150))) none)
theorem YU (c:aE):gn [(135,EJ),(126,y9)] [] 100 [nX c] = (ir c).map (kI .i64):=by
 unfold ir
 try simp only [aV]
 kernel_rfl
def wu:List KV->KR KV:=bk PG 100 (bn (kI .i64) fun vs=>ir (fD (v9 vs 0)))
theorem vS:bg PG 100 wu:=bQ (ak.cons Hz (ak.cons wq ak.nil)) aK.nil fun w=>YU (fD (g0 31 (w 0)))
structure bO where
 x0:Int
 y0:Int
 x1:Int
 y1:Int
instance:Inhabited bO:=⟨⟨default,default,default,default⟩⟩
def aaS (x:bO):List KV:=[.int .i64 x.x0,.int .i64 x.y0,.int .i64 x.x1,.int .i64 x.y1]
def oK (x:bO):KV:=.agg (aaS x)
def aaT (c:Nat->KV):bO:=⟨intOf (c 0),intOf (c 1),intOf (c 2),intOf (c 3)⟩
def o3 (v:KV):bO:=aaT fun k=>v.cells.getD k .bD
theorem aqo (x:bO):o3 (oK x)=x:=rfl
theorem aqp:o3 .bD=default:=rfl
theorem afN (s:Sl bO) (v:bO):s.push v=jT o3 (s.n+1) (dK s.n (fun i=>oK (s.get i)) (pW [oK v])):=(Ct aqo aqp s v).symm
def vT (c:aE) (w:bO):=ir c
def BJ (c:aE) (w:bO):=dm w.x1 (max 0 w.x0) (az (c.w - 1))
def BL (c:aE) (w:bO):=dm w.y1 (max 0 w.y0) (az (c.h - 1))
def rH (c:aE) (w:bO):Option (Int):=(cond (vT c w).isSome (cond (((vT c w).getD default) != 0) (some (((vT c w).getD default))) (cond (BJ c w).isSome (cond (!((BJ c w).getD default)) (some (2)) (cond (BL c w).isSome (cond (!((BL c w).getD default)) (some (2)) (cond (decide (w.x0 < 0)) (some (2)) (cond (decide (w.y0 < 0)) (some (2)) (some (0))))) none)) none)) none)
theorem WI (c:aE) (w:bO):gn [(135,EJ),(100,wu)] [] 76 [nX c,oK w] = (rH c w).map (kI .i64):=by
 unfold rH
 try simp only [aV]
 kernel_rfl
def zc:List KV->KR KV:=bk PG 76 (bn (kI .i64) fun vs=>rH (fD (v9 vs 0)) (o3 (v9 vs 1)))
theorem zR:bg PG 76 zc:=bQ (ak.cons Hz (ak.cons vS ak.nil)) aK.nil fun w=>WI (fD (g0 31 (w 0))) (o3 (g0 77 (w 1)))
def Cu (m:da):Option (Bool):=(cond (decide (m.e0.e0 < (-(1024:Int)))) (some (false)) (cond (decide (m.e0.e0 > 1024)) (some (false)) (cond (decide (m.e0.e1 < (-(1024:Int)))) (some (false)) (cond (decide (m.e0.e1 > 1024)) (some (false)) (cond (decide (m.e0.e2 < (-(1024:Int)))) (some (false)) (cond (decide (m.e0.e2 > 1024)) (some (false)) (cond (decide (m.e1.e0 < (-(1024:Int)))) (some (false)) (cond (decide (m.e1.e0 > 1024)) (some (false)) (cond (decide (m.e1.e1 < (-(1024:Int)))) (some (false)) (cond (decide (m.e1.e1 > 1024)) (some (false)) (cond (decide (m.e1.e2 < (-(1024:Int)))) (some (false)) (cond (decide (m.e1.e2 > 1024)) (some (false)) (cond (decide (m.e2.e0 < (-(1024:Int)))) (some (false)) (cond (decide (m.e2.e0 > 1024)) (some (false)) (cond (decide (m.e2.e1 < (-(1024:Int)))) (some (false)) (cond (decide (m.e2.e1 > 1024)) (some (false)) (cond (decide (m.e2.e2 < (-(1024:Int)))) (some (false)) (cond (decide (m.e2.e2 > 1024)) (some (false)) (some (true))))))))))))))))))))
theorem agV (m:da):gn [] [] 198 [Gb m] = (Cu m).map kB:=by
 unfold Cu
 try simp only [aV]
 kernel_rfl
def acz:List KV->KR KV:=bk PG 198 (bn kB fun vs=>Cu (rm (v9 vs 0)))
theorem afO:bg PG 198 acz:=bQ ak.nil aK.nil fun w=>agV (rm (g0 29 (w 0)))
def Sm (v:gY):Option (kq):=(some (⟨v.x,v.y,v.z⟩))
theorem agW (v:gY):gn [] [] 201 [pn v] = (Sm v).map yh:=by
 unfold Sm
 kernel_rfl
def acA:List KV->KR KV:=bk PG 201 (bn yh fun vs=>Sm (pY (v9 vs 0)))
theorem afP:bg PG 201 acA:=bQ ak.nil aK.nil fun w=>agW (pY (g0 27 (w 0)))
def L7 (m:da) (v:kq):=eT (az ((az ((az (0+(az (m.e0.e0 * v.e0))))+(az (m.e0.e1 * v.e1))))+(az (m.e0.e2 * v.e2)))) 256
def L8 (m:da) (v:kq):=eT (az ((az ((az (0+(az (m.e1.e0 * v.e0))))+(az (m.e1.e1 * v.e1))))+(az (m.e1.e2 * v.e2)))) 256
def L9 (m:da) (v:kq):=eT (az ((az ((az (0+(az (m.e2.e0 * v.e0))))+(az (m.e2.e1 * v.e1))))+(az (m.e2.e2 * v.e2)))) 256
def Gc (m:da) (v:kq):Option (kq):=(cond (L7 m v).isSome (cond (L8 m v).isSome (cond (L9 m v).isSome (some (⟨((L7 m v).getD default).fst,((L8 m v).getD default).fst,((L9 m v).getD default).fst⟩)) none) none) none)
theorem agX (m:da) (v:kq):gn [(148,yf)] [] 200 [Gb m,yh v] = (Gc m v).map yh:=by
 unfold Gc
 try simp only [aV]
 kernel_rfl
def acB:List KV->KR KV:=bk PG 200 (bn yh fun vs=>Gc (rm (v9 vs 0)) (Ga (v9 vs 1)))
theorem afQ:bg PG 200 acB:=bQ (ak.cons xo ak.nil) aK.nil fun w=>agX (rm (g0 29 (w 0))) (Ga (g0 28 (w 1)))
def Pv (l:kq):Option (gY):=(some (⟨l.e0,l.e1,l.e2⟩))
theorem afR (l:kq):gn [] [] 199 [yh l] = (Pv l).map pn:=by
 unfold Pv
 kernel_rfl
def YV:List KV->KR KV:=bk PG 199 (bn pn fun vs=>Pv (Ga (v9 vs 0)))
theorem ac1:bg PG 199 YV:=bQ ak.nil aK.nil fun w=>afR (Ga (g0 28 (w 0)))
def Ma (m:da) (v:gY):=Cu m
def FU (m:da) (v:gY):=EI 32768 (Sl.lit [v.x,v.y,v.z])
def wL (m:da) (v:gY):=Gc m ⟨v.x,v.y,v.z⟩
def Gd (m:da) (v:gY):Option (gY×Int):=(cond (Ma m v).isSome (cond (!((Ma m v).getD default)) (some (⟨0,0,0⟩,2)) (cond (FU m v).isSome (cond (!((FU m v).getD default)) (some (⟨0,0,0⟩,2)) (cond (wL m v).isSome (some (⟨((wL m v).getD default).e0,((wL m v).getD default).e1,((wL m v).getD default).e2⟩,0)) none)) none)) none)
theorem agY (m:da) (v:gY):gn [(199,YV),(200,acB),(201,acA),(177,aaR),(198,acz)] [] 159 [Gb m,pn v] = (Gd m v).map (fun (r:gY×Int)=>KV.iv [pn r.1,(kI .i64) r.2]):=by
 unfold Gd
 try simp only [aV,FU,Sh]
 kernel_rfl
def acC:List KV->KR KV:=bk PG 159 (bn (fun (r:gY×Int)=>KV.iv [pn r.1,(kI .i64) r.2]) fun vs=>Gd (rm (v9 vs 0)) (pY (v9 vs 1)))
theorem afS:bg PG 159 acC:=bQ (ak.cons ac1 (ak.cons afQ (ak.cons afP (ak.cons YT (ak.cons afO ak.nil))))) aK.nil fun w=>agY (rm (g0 29 (w 0))) (pY (g0 27 (w 1)))
def zd (c:aE) (v:gY):=ir c
def ze (c:aE) (v:gY):=qX v
def uJ (c:aE) (v:gY):=Gd c.m ⟨(az (v.x - c.pos.x)),(az (v.y - c.pos.y)),(az (v.z - c.pos.z))⟩
def nY (c:aE) (v:gY):Option (gY×Int):=(cond (zd c v).isSome (cond (((zd c v).getD default) != 0) (some (⟨0,0,0⟩,((zd c v).getD default))) (cond (ze c v).isSome (cond (((ze c v).getD default) != 0) (some (⟨0,0,0⟩,((ze c v).getD default))) (cond (uJ c v).isSome (some (((uJ c v).getD default).fst,((uJ c v).getD default).snd)) none)) none)) none)
theorem aaU (c:aE) (v:gY):gn [(159,acC),(126,y9),(100,wu)] [] 101 [nX c,pn v] = (nY c v).map (fun (r:gY×Int)=>KV.iv [pn r.1,(kI .i64) r.2]):=by
 unfold nY
 try simp only [aV]
 kernel_rfl
def Jk:List KV->KR KV:=bk PG 101 (bn (fun (r:gY×Int)=>KV.iv [pn r.1,(kI .i64) r.2]) fun vs=>nY (fD (v9 vs 0)) (pY (v9 vs 1)))
theorem KI:bg PG 101 Jk:=bQ (ak.cons afS (ak.cons wq (ak.cons vS ak.nil))) aK.nil fun w=>aaU (fD (g0 31 (w 0))) (pY (g0 27 (w 1)))
structure nf where
 t4:Int
 t14:(Sl bK)
 t15:Int
 t16:Int
instance:Inhabited nf:=⟨⟨default,default,default,default⟩⟩
def Di (x:nf):List KV:=[.int .i64 x.t4,cT 177 nV x.t14,.int .i64 x.t15,.int .i64 x.t16]
def Dj (x:nf):List (List KV):=[]
def KK (vs:List KV) (rs:List (List KV)):nf:=⟨intOf (v9 vs 0),dp jE (v9 vs 1),intOf (v9 vs 2),intOf (v9 vs 3)⟩
def NA:aL:=⟨[(4,w9 i9),(14,w9 (n9 177)),(15,w9 i9),(16,w9 i9)],[],[]⟩
def YW:=sB [(162,tR)] [] 160 58 NA
def rX (x:nf):=nG (x.t14.get (Int.toNat x.t16))
def od (x:nf):aO nf:=(cond (decide (x.t16 < x.t15)) (cond (bj x.t16 x.t14.n) (cond (rX x).isSome (cond (((rX x).getD default) != 0) (.out aB.ai.ret ⟨((rX x).getD default),x.t14,x.t15,x.t16⟩) (.next ⟨x.t4,x.t14,x.t15,(az (x.t16+1))⟩)) .fail) .fail) (.out (aB.ai.exit 0) x))
theorem Ut (x:nf):YW (Di x) (Dj x)=aO.enc Di Dj (od x):=by
 unfold od bj
 try simp only [aO.bw]
 kernel_rfl
def NB:Lp:=⟨160,58,NA,fun vs rs=>bP Di Dj (goN od (KK vs rs)) [aB.ai.exit 0,aB.ai.ret],false⟩
theorem YX:NB.Ok PG:=rF (ak.cons rG ak.nil) aK.nil (pa:=KK) Ut
def sY (au:Int) (l:(Sl bK)):=goN od ⟨0,l,(l.n:Int),0⟩
def wM (au:Int) (l:(Sl bK)):Option (Int):=(cond (decide (au < 256)) (some (2)) (cond (decide (au > 4096)) (some (2)) (cond ((sY au l).by (aB.ai.exit 0)) (some (0)) (cond ((sY au l).by aB.ai.ret) (some ((sY au l).st.t4)) none))))
theorem ac2 (au:Int) (l:(Sl bK)):gn [(162,tR)] [NB] 160 [(kI .i64) au,(cT 177 nV) l] = (wM au l).map (kI .i64):=by
 unfold wM
 try simp only [aV]
 kernel_rfl
def Vt:List KV->KR KV:=bk PG 160 (bn (kI .i64) fun vs=>wM (intOf (v9 vs 0)) ((dp jE) (v9 vs 1)))
theorem aaV:bg PG 160 Vt:=bQ (ak.cons rG ak.nil) (gm YX aK.nil) fun w=>ac2 (intOf (g0 3 (w 0))) ((dp jE) (g0 249 (w 1)))
structure adY where
 e0:Int
 e1:Int
 e2:Int
 e3:Int
instance:Inhabited adY:=⟨⟨default,default,default,default⟩⟩
def aqq (x:adY):List KV:=[.int .i64 x.e0,.int .i64 x.e1,.int .i64 x.e2,.int .i64 x.e3]
def alf (x:adY):KV:=.agg (aqq x)
def Jl (p:bK):Option (adY):=(some (⟨p.p.x,p.p.y,p.u,p.v⟩))
theorem aaW (p:bK):gn [] [] 202 [nV p] = (Jl p).map alf:=by
 unfold Jl
 kernel_rfl
def Sn:List KV->KR KV:=bk PG 202 (bn alf fun vs=>Jl (jE (v9 vs 0)))
theorem YY:bg PG 202 Sn:=bQ ak.nil aK.nil fun w=>aaW (jE (g0 177 (w 0)))
def Av (au:Int) (a:bK) (b:bK):=wM au (Sl.lit [a,b])
def Mb (au:Int) (a:bK) (b:bK):=eT (az ((az (b.p.x - a.p.x)) * (az (au - a.p.z)))) (az (b.p.z - a.p.z))
def Mc (au:Int) (a:bK) (b:bK):=eT (az ((az (b.p.y - a.p.y)) * (az (au - a.p.z)))) (az (b.p.z - a.p.z))
def Md (au:Int) (a:bK) (b:bK):=eT (az ((az (b.u - a.u)) * (az (au - a.p.z)))) (az (b.p.z - a.p.z))
def Mf (au:Int) (a:bK) (b:bK):=eT (az ((az (b.v - a.v)) * (az (au - a.p.z)))) (az (b.p.z - a.p.z))
def fE (au:Int) (a:bK) (b:bK):Option (bK×Int):=(cond (Av au a b).isSome (cond (((Av au a b).getD default) != 0) (some (⟨⟨0,0,0⟩,0,0⟩,((Av au a b).getD default))) (cond (decide (a.p.z >= au)) (some (⟨⟨0,0,0⟩,0,0⟩,6)) (cond (decide (b.p.z < au)) (some (⟨⟨0,0,0⟩,0,0⟩,6)) (cond (Mb au a b).isSome (cond (Mc au a b).isSome (cond (Md au a b).isSome (cond (Mf au a b).isSome (some (⟨⟨(az (a.p.x+((Mb au a b).getD default).fst)),(az (a.p.y+((Mc au a b).getD default).fst)),au⟩,(az (a.u+((Md au a b).getD default).fst)),(az (a.v+((Mf au a b).getD default).fst))⟩,0)) none) none) none) none)))) none)
theorem agZ (au:Int) (a:bK) (b:bK):gn [(148,yf),(202,Sn),(160,Vt)] [] 161 [(kI .i64) au,nV a,nV b] = (fE au a b).map (fun (r:bK×Int)=>KV.iv [nV r.1,(kI .i64) r.2]):=by
 unfold fE
 try simp only [aV,Av,amO]
 kernel_rfl
def KL:List KV->KR KV:=bk PG 161 (bn (fun (r:bK×Int)=>KV.iv [nV r.1,(kI .i64) r.2]) fun vs=>fE (intOf (v9 vs 0)) (jE (v9 vs 1)) (jE (v9 vs 2)))
theorem Jm:bg PG 161 KL:=bQ (ak.cons xo (ak.cons YY (ak.cons aaV ak.nil))) aK.nil fun w=>agZ (intOf (g0 3 (w 0))) (jE (g0 177 (w 1))) (jE (g0 177 (w 2)))
def rI (t:aW):=px t
def uK (t:aW):Option (Int):=(cond (rI t).isSome (cond (((rI t).getD default).snd==0) (cond (decide (((rI t).getD default).fst<=0)) (some (6)) (some (((rI t).getD default).snd))) (some (((rI t).getD default).snd))) none)
theorem aaX (t:aW):gn [(163,H9)] [] 137 [fN t] = (uK t).map (kI .i64):=by
 unfold uK
 try simp only [aV]
 kernel_rfl
def Sp:List KV->KR KV:=bk PG 137 (bn (kI .i64) fun vs=>uK (fA (v9 vs 0)))
theorem YZ:bg PG 137 Sp:=bQ (ak.cons GM ak.nil) aK.nil fun w=>aaX (fA (g0 62 (w 0)))
def rY (x:Int) (y:Int):Option (Bool):=(cond (decide ((min x y) >= 0)) (some ((decide ((max x y) < 64)))) (some (false)))
theorem aaY (x:Int) (y:Int):gn [] [] 138 [(kI .i64) x,(kI .i64) y] = (rY x y).map kB:=by
 unfold rY
 try simp only [aV]
 kernel_rfl
def Sq:List KV->KR KV:=bk PG 138 (bn kB fun vs=>rY (intOf (v9 vs 0)) (intOf (v9 vs 1)))
theorem Y0:bg PG 138 Sq:=bQ ak.nil aK.nil fun w=>aaY (intOf (g0 3 (w 0))) (intOf (g0 3 (w 1)))
def xA (a:Int) (b:Int) (c:Int) (from_:Int) (to_:Int):=wJ (az ((min (min a b) c) - 4)) 8
def xB (a:Int) (b:Int) (c:Int) (from_:Int) (to_:Int):=eT (az ((max (max a b) c) - 4)) 8
def qx (a:Int) (b:Int) (c:Int) (from_:Int) (to_:Int):Option (Int×Int):=(cond (xA a b c from_ to_).isSome (cond (xB a b c from_ to_).isSome (some ((max ((xA a b c from_ to_).getD default).fst from_),(min ((xB a b c from_ to_).getD default).fst to_))) none) none)
theorem Y9 (a:Int) (b:Int) (c:Int) (from_:Int) (to_:Int):gn [(148,yf),(185,Vp)] [] 139 [(kI .i64) a,(kI .i64) b,(kI .i64) c,(kI .i64) from_,(kI .i64) to_] = (qx a b c from_ to_).map (fun (r:Int×Int)=>KV.iv [(kI .i64) r.1,(kI .i64) r.2]):=by
 unfold qx
 try simp only [aV]
 kernel_rfl
def Qq:List KV->KR KV:=bk PG 139 (bn (fun (r:Int×Int)=>KV.iv [(kI .i64) r.1,(kI .i64) r.2]) fun vs=>qx (intOf (v9 vs 0)) (intOf (v9 vs 1)) (intOf (v9 vs 2)) (intOf (v9 vs 3)) (intOf (v9 vs 4)))
theorem WJ:bg PG 139 Qq:=bQ (ak.cons xo (ak.cons aaM ak.nil)) aK.nil fun w=>Y9 (intOf (g0 3 (w 0))) (intOf (g0 3 (w 1))) (intOf (g0 3 (w 2))) (intOf (g0 3 (w 3))) (intOf (g0 3 (w 4)))
def xC (t:aW) (w:bO):=uK t
def Dk (t:aW) (w:bO):=rY w.x0 w.y0
def Dl (t:aW) (w:bO):=rY w.x1 w.y1
def pZ (t:aW) (w:bO):=qx t.e0.x t.e1.x t.e2.x w.x0 w.x1
def p8 (t:aW) (w:bO):=qx t.e0.y t.e1.y t.e2.y w.y0 w.y1
def sZ (t:aW) (w:bO):Option (bO×Bool×Int):=(cond (xC t w).isSome (cond (((xC t w).getD default) != 0) (some (⟨0,0,0,0⟩,false,((xC t w).getD default))) (cond (Dk t w).isSome (cond (!((Dk t w).getD default)) (some (⟨0,0,0,0⟩,false,2)) (cond (Dl t w).isSome (cond (!((Dl t w).getD default)) (some (⟨0,0,0,0⟩,false,2)) (cond (decide (w.x0 > w.x1)) (some (⟨0,0,0,0⟩,false,2)) (cond (decide (w.y0 > w.y1)) (some (⟨0,0,0,0⟩,false,2)) (cond (pZ t w).isSome (cond (p8 t w).isSome (cond (decide (((pZ t w).getD default).fst > ((pZ t w).getD default).snd)) (some (⟨0,0,0,0⟩,false,0)) (cond (decide (((p8 t w).getD default).fst > ((p8 t w).getD default).snd)) (some (⟨0,0,0,0⟩,false,0)) (some (⟨((pZ t w).getD default).fst,((p8 t w).getD default).fst,((pZ t w).getD default).snd,((p8 t w).getD default).snd⟩,true,0)))) none) none)))) none)) none)) none)
theorem Za (t:aW) (w:bO):gn [(139,Qq),(138,Sq),(137,Sp)] [] 79 [fN t,oK w] = (sZ t w).map (fun (r:bO×Bool×Int)=>KV.iv [oK r.1,kB r.2.1,(kI .i64) r.2.2]):=by
 unfold sZ
 try simp only [aV]
 kernel_rfl
def A6:List KV->KR KV:=bk PG 79 (bn (fun (r:bO×Bool×Int)=>KV.iv [oK r.1,kB r.2.1,(kI .i64) r.2.2]) fun vs=>sZ (fA (v9 vs 0)) (o3 (v9 vs 1)))
theorem BM:bg PG 79 A6:=bQ (ak.cons WJ (ak.cons Y0 (ak.cons YZ ak.nil))) aK.nil fun w=>Za (fA (g0 62 (w 0))) (o3 (g0 77 (w 1)))
structure bo where
 e0:bK
 e1:bK
 e2:bK
instance:Inhabited bo:=⟨⟨default,default,default⟩⟩
def WK (x:bo):List KV:=[.int .i64 x.e0.p.x,.int .i64 x.e0.p.y,.int .i64 x.e0.p.z,.int .i64 x.e0.u,.int .i64 x.e0.v,.int .i64 x.e1.p.x,.int .i64 x.e1.p.y,.int .i64 x.e1.p.z,.int .i64 x.e1.u,.int .i64 x.e1.v,.int .i64 x.e2.p.x,.int .i64 x.e2.p.y,.int .i64 x.e2.p.z,.int .i64 x.e2.u,.int .i64 x.e2.v]
def kH (x:bo):KV:=.agg (WK x)
def WL (c:Nat->KV):bo:=⟨⟨⟨intOf (c 0),intOf (c 1),intOf (c 2)⟩,intOf (c 3),intOf (c 4)⟩,⟨⟨intOf (c 5),intOf (c 6),intOf (c 7)⟩,intOf (c 8),intOf (c 9)⟩,⟨⟨intOf (c 10),intOf (c 11),intOf (c 12)⟩,intOf (c 13),intOf (c 14)⟩⟩
def mT (v:KV):bo:=WL fun k=>v.cells.getD k .bD
theorem ai3 (x:bo):mT (kH x)=x:=rfl
theorem ai4:mT .bD=default:=rfl
theorem Sr (s:Sl bo) (v:bo):s.push v=jT mT (s.n+1) (dK s.n (fun i=>kH (s.get i)) (pW [kH v])):=(Ct ai3 ai4 s v).symm
structure bU where
 au:Int
 out:(Sl bo)
 e:Int
 l:(Sl bK)
 t22:bo
 t23:Int
 t:bo
instance:Inhabited bU:=⟨by constructor<;>exact default⟩
def Dm (x:bU):List KV:=[.int .i64 x.au,cT 178 kH x.out,.int .i64 x.e,cT 177 nV x.l,kH x.t22,.int .i64 x.t23]
def Dn (x:bU):List (List KV):=[WK x.t]
def KM (vs:List KV) (rs:List (List KV)):bU:=⟨intOf (v9 vs 0),dp mT (v9 vs 1),intOf (v9 vs 2),dp jE (v9 vs 3),mT (v9 vs 4),intOf (v9 vs 5),WL (r9 rs 0)⟩
def NC:aL:=⟨[(0,w9 i9),(4,⟨false,[.bc 178]⟩),(5,w9 i9),(7,⟨false,[.bc 177]⟩),(22,⟨true,[i9,i9,i9,i9,i9,i9,i9,i9,i9,i9,i9,i9,i9,i9,i9]⟩),(23,w9 i9)],[(3,[i9,i9,i9,i9,i9,i9,i9,i9,i9,i9,i9,i9,i9,i9,i9],5)],[(3,0,0)]⟩
def Zb:=AX PG (iZ PG [(161,KL),(162,tR)] [] (fun _=>false) false true) 9 9 102 122 (nz PG 102 122) NC
def WM (x:bU):=fE x.au x.t.e0 x.t22.e0
def WN (x:bU):=fE x.au x.t22.e0 x.t.e0
def Jn (x:bU):=fE x.au x.t.e1 x.t22.e0
def Jo (x:bU):=fE x.au x.t22.e0 x.t.e1
def WO (x:bU):=fE x.au x.t.e2 x.t22.e0
def WQ (x:bU):=fE x.au x.t22.e0 x.t.e2
def WR (x:bU):=fE x.au x.t.e0 x.t22.e1
def WS (x:bU):=fE x.au x.t22.e1 x.t.e0
def WT (x:bU):=fE x.au x.t.e1 x.t22.e1
def WU (x:bU):=fE x.au x.t22.e1 x.t.e1
def HA (x:bU):=fE x.au x.t.e2 x.t22.e1
def HB (x:bU):=fE x.au x.t22.e1 x.t.e2
def HC (x:bU):=fE x.au x.t.e0 x.t22.e2
def HD (x:bU):=fE x.au x.t22.e2 x.t.e0
def Uu (x:bU):=fE x.au x.t.e1 x.t22.e2
def Uv (x:bU):=fE x.au x.t22.e2 x.t.e1
def Uw (x:bU):=fE x.au x.t.e2 x.t22.e2
def Ux (x:bU):=fE x.au x.t22.e2 x.t.e2
def eM (x:bU) (aA bA:bK) (pA qA:(Option (Prod bK Int))):aO bU:=(cond (decide (aA.p.z >= x.au)) (cond (decide (bA.p.z >= x.au)) (cond (mI 40 x.l.n 1) (cond (cond (aF (x.l.n+1)) (aF x.out.n) false) (.next ⟨x.au,x.out,x.e,(x.l.push aA),x.t22,(az (x.t23+1)),x.t⟩) .fail) .fail) (cond (mI 40 x.l.n 1) (cond qA.isSome (cond (mI 40 (x.l.n+1) 1) (cond (cond (aF ((x.l.n+1)+1)) (aF x.out.n) false) (.next ⟨x.au,x.out,x.e,((x.l.push aA).push (qA.getD default).fst),x.t22,(az (x.t23+1)),x.t⟩) .fail) .fail) .fail) .fail)) (cond (decide (bA.p.z >= x.au)) (cond pA.isSome (cond (mI 40 x.l.n 1) (cond (cond (aF (x.l.n+1)) (aF x.out.n) false) (.next ⟨x.au,x.out,x.e,(x.l.push (pA.getD default).fst),x.t22,(az (x.t23+1)),x.t⟩) .fail) .fail) .fail) (cond (cond (aF x.l.n) (aF x.out.n) false) (.next ⟨x.au,x.out,x.e,x.l,x.t22,(az (x.t23+1)),x.t⟩) .fail)))
def fo (x:bU):aO bU:=(cond (decide (x.t23 < 3)) (cond (decide (x.t23=0)) (cond (decide ((Int.tmod (az (x.t23+1)) 3)=0)) (eM x x.t22.e0 x.t.e0 (WN x) (WM x)) (cond (decide ((Int.tmod (az (x.t23+1)) 3)=1)) (eM x x.t22.e0 x.t.e1 (Jo x) (Jn x)) (cond (decide ((Int.tmod (az (x.t23+1)) 3)=2)) (eM x x.t22.e0 x.t.e2 (WQ x) (WO x)) .fail))) (cond (decide (x.t23=1)) (cond (decide ((Int.tmod (az (x.t23+1)) 3)=0)) (eM x x.t22.e1 x.t.e0 (WS x) (WR x)) (cond (decide ((Int.tmod (az (x.t23+1)) 3)=1)) (eM x x.t22.e1 x.t.e1 (WU x) (WT x)) (cond (decide ((Int.tmod (az (x.t23+1)) 3)=2)) (eM x x.t22.e1 x.t.e2 (HB x) (HA x)) .fail))) (cond (decide (x.t23=2)) (cond (decide ((Int.tmod (az (x.t23+1)) 3)=0)) (eM x x.t22.e2 x.t.e0 (HD x) (HC x)) (cond (decide ((Int.tmod (az (x.t23+1)) 3)=1)) (eM x x.t22.e2 x.t.e1 (Uv x) (Uu x)) (cond (decide ((Int.tmod (az (x.t23+1)) 3)=2)) (eM x x.t22.e2 x.t.e2 (Ux x) (Uw x)) .fail))) .fail))) (cond (cond (aF x.l.n) (aF x.out.n) false) (.out (aB.ai.exit 0) x) .fail))
theorem Uy (x:bU):Zb (Dm x) (Dn x)=aO.enc Dm Dn (fo x):=by
 unfold fo eM mI aF
 try simp only [aO.bw,acy,afK]
 kernel_rfl
def EK:Lp:=⟨102,122,NC,fun vs rs=>bP Dm Dn (goN fo (KM vs rs)) [aB.ai.exit 0],false⟩
theorem KN:EK.Ok PG:=rF (ak.cons Jm (ak.cons rG ak.nil)) aK.nil (pa:=KM) Uy
structure o4 where
 out:(Sl bo)
 e:Int
 l:(Sl bK)
 i:Int
instance:Inhabited o4:=⟨⟨default,default,default,default⟩⟩
def Dp (x:o4):List KV:=[cT 178 kH x.out,.int .i64 x.e,cT 177 nV x.l,.int .i64 x.i]
def Dq (x:o4):List (List KV):=[]
def KO (vs:List KV) (rs:List (List KV)):o4:=⟨dp mT (v9 vs 0),intOf (v9 vs 1),dp jE (v9 vs 2),intOf (v9 vs 3)⟩
def ND:aL:=⟨[(4,⟨false,[.bc 178]⟩),(5,w9 i9),(7,⟨false,[.bc 177]⟩),(15,w9 i9)],[],[]⟩
def Zc:=AX PG (iZ PG [(161,KL),(162,tR)] [EK] (fun _=>false) false true) 9 9 102 250 (nz PG 102 250) ND
def oe (x:o4):aO o4:=(cond (decide (x.i < (x.l.n:Int))) (cond (decide (0 < (x.l.n:Int))) (cond (bj (az (x.i - 1)) x.l.n) (cond (bj x.i x.l.n) (cond (mI 120 x.out.n 1) (cond (cond (aF x.l.n) (aF (x.out.n+1)) false) (.next ⟨(x.out.push ⟨(x.l.get 0),(x.l.get (Int.toNat (az (x.i - 1)))),(x.l.get (Int.toNat x.i))⟩),x.e,x.l,(az (x.i+1))⟩) .fail) .fail) .fail) .fail) .fail) (cond (cond (aF x.l.n) (aF x.out.n) false) (.out (aB.ai.exit 2) x) .fail))
theorem Uz (x:o4):Zc (Dp x) (Dq x)=aO.enc Dp Dq (oe x):=by
 unfold oe bj mI aF
 try simp only [aO.bw,Sr]
 kernel_rfl
def NF:Lp:=⟨102,250,ND,fun vs rs=>bP Dp Dq (goN oe (KO vs rs)) [aB.ai.exit 2],false⟩
theorem Zd:NF.Ok PG:=rF (ak.cons Jm (ak.cons rG ak.nil)) (gm KN aK.nil) (pa:=KO) Uz
def yi (au:Int) (t:bo):=nG t.e0
def kJ (au:Int) (t:bo):=goN fo ⟨au,⟨0,(fun i=>⟨⟨⟨0,0,0⟩,0,0⟩,⟨⟨0,0,0⟩,0,0⟩,⟨⟨0,0,0⟩,0,0⟩⟩)⟩,0,⟨0,(fun i=>⟨⟨0,0,0⟩,0,0⟩)⟩,t,0,t⟩
def rZ (au:Int) (t:bo):=goN oe ⟨(kJ au t).st.out,(kJ au t).st.e,(kJ au t).st.l,2⟩
def yj (au:Int) (t:bo):=nG t.e1
def yk (au:Int) (t:bo):=nG t.e2
def A7 (au:Int) (t:bo):Option ((Sl bo)×Int):=(some (⟨0,(fun i=>⟨⟨⟨0,0,0⟩,0,0⟩,⟨⟨0,0,0⟩,0,0⟩,⟨⟨0,0,0⟩,0,0⟩⟩)⟩,2))
def s4 (au:Int) (t:bo):Option ((Sl bo)×Int):=(cond ((kJ au t).by (aB.ai.exit 0)) (cond (cond (aF (kJ au t).st.l.n) (aF (kJ au t).st.out.n) false) (cond ((rZ au t).by (aB.ai.exit 2)) (some ((rZ au t).st.out,0)) none) none) none)
def zf (au:Int) (t:bo):Option ((Sl bo)×Int):=(cond (decide (au < 256))
  (A7 au t) (cond (decide (au > 4096))
  (A7 au t) (cond (yi au t).isSome (cond (((yi au t).getD default) != 0) (cond (((yi au t).getD default) != 0) (some (⟨0,(fun i=>⟨⟨⟨0,0,0⟩,0,0⟩,⟨⟨0,0,0⟩,0,0⟩,⟨⟨0,0,0⟩,0,0⟩⟩)⟩,((yi au t).getD default)))
    (s4 au t)) (cond (yj au t).isSome (cond (((yj au t).getD default) != 0) (cond (((yj au t).getD default) != 0) (some (⟨0,(fun i=>⟨⟨⟨0,0,0⟩,0,0⟩,⟨⟨0,0,0⟩,0,0⟩,⟨⟨0,0,0⟩,0,0⟩⟩)⟩,((yj au t).getD default)))
     (s4 au t)) (cond (yk au t).isSome (cond (((yk au t).getD default) != 0) (cond (((yk au t).getD default) != 0) (some (⟨0,(fun i=>⟨⟨⟨0,0,0⟩,0,0⟩,⟨⟨0,0,0⟩,0,0⟩,⟨⟨0,0,0⟩,0,0⟩⟩)⟩,((yk au t).getD default)))
      (s4 au t))
     (s4 au t)) none)) none)) none)))
theorem afT (au:Int) (t:bo):GC PG (iZ PG [(161,KL),(162,tR)] [EK,NF] (fun _=>false) false true) 9 9 102 [(kI .i64) au,kH t] = (zf au t).map (fun (r:(Sl bo)×Int)=>KV.iv [(cT 178 kH) r.1,(kI .i64) r.2]):=by
 unfold zf s4 A7 aF
 try simp only [aV]
 kernel_rfl
def Pw:List KV->KR KV:=bk PG 102 (bn (fun (r:(Sl bo)×Int)=>KV.iv [(cT 178 kH) r.1,(kI .i64) r.2]) fun vs=>zf (intOf (v9 vs 0)) (mT (v9 vs 1)))
theorem Qr:bg PG 102 Pw:=bQ (ak.cons Jm (ak.cons rG ak.nil)) (gm KN (gm Zd aK.nil)) fun w=>afT (intOf (g0 3 (w 0))) (mT (g0 178 (w 1)))
def wN (n:Int):Option (Bool):=(cond (decide (n >= (-(32768:Int)))) (some ((decide (n<=32768)))) (some (false)))
theorem alg (n:Int):gn [] [] 178 [(kI .i64) n] = (wN n).map kB:=by
 unfold wN
 try simp only [aV]
 kernel_rfl
def T9:List KV->KR KV:=bk PG 178 (bn kB fun vs=>wN (intOf (v9 vs 0)))
theorem Px:bg PG 178 T9:=bQ ak.nil aK.nil fun w=>alg (intOf (g0 3 (w 0)))
structure Dr where
 low:gY
 high:gY
instance:Inhabited Dr:=⟨⟨default,default⟩⟩
def alh (x:Dr):List KV:=[.int .i64 x.low.x,.int .i64 x.low.y,.int .i64 x.low.z,.int .i64 x.high.x,.int .i64 x.high.y,.int .i64 x.high.z]
def F2 (x:Dr):KV:=.agg (alh x)
def ali (c:Nat->KV):Dr:=⟨⟨intOf (c 0),intOf (c 1),intOf (c 2)⟩,⟨intOf (c 3),intOf (c 4),intOf (c 5)⟩⟩
def ah2 (v:KV):Dr:=ali fun k=>v.cells.getD k .bD
structure Span where
 low:Int
 high:Int
instance:Inhabited Span:=⟨⟨default,default⟩⟩
structure Ge where
 e0:Span
 e1:Span
 e2:Span
instance:Inhabited Ge:=⟨⟨default,default,default⟩⟩
def aoM (x:Ge):List KV:=[.int .i64 x.e0.low,.int .i64 x.e0.high,.int .i64 x.e1.low,.int .i64 x.e1.high,.int .i64 x.e2.low,.int .i64 x.e2.high]
def aaZ (x:Ge):KV:=.agg (aoM x)
def aoN (c:Nat->KV):Ge:=⟨⟨intOf (c 0),intOf (c 1)⟩,⟨intOf (c 2),intOf (c 3)⟩,⟨intOf (c 4),intOf (c 5)⟩⟩
def ah3 (v:KV):Ge:=aoN fun k=>v.cells.getD k .bD
def Py (b:Dr):Option (Ge):=(some (⟨⟨b.low.x,b.high.x⟩,⟨b.low.y,b.high.y⟩,⟨b.low.z,b.high.z⟩⟩))
theorem afU (b:Dr):gn [] [] 210 [F2 b] = (Py b).map aaZ:=by
 unfold Py
 kernel_rfl
def Ze:List KV->KR KV:=bk PG 210 (bn aaZ fun vs=>Py (ah2 (v9 vs 0)))
theorem ac3:bg PG 210 Ze:=bQ ak.nil aK.nil fun w=>afU (ah2 (g0 109 (w 0)))
def Pz (s:Ge):Option (Dr):=(some (⟨⟨s.e0.low,s.e1.low,s.e2.low⟩,⟨s.e0.high,s.e1.high,s.e2.high⟩⟩))
theorem afV (s:Ge):gn [] [] 211 [aaZ s] = (Pz s).map F2:=by
 unfold Pz
 kernel_rfl
def Zf:List KV->KR KV:=bk PG 211 (bn F2 fun vs=>Pz (ah3 (v9 vs 0)))
theorem ac4:bg PG 211 Zf:=bQ ak.nil aK.nil fun w=>afV (ah3 (g0 296 (w 0)))
def Ss (a:Dr) (b:Dr):Option (Dr):=(some (⟨⟨(min a.low.x b.low.x),(min a.low.y b.low.y),(min a.low.z b.low.z)⟩,⟨(max a.high.x b.high.x),(max a.high.y b.high.y),(max a.high.z b.high.z)⟩⟩))
theorem ag0 (a:Dr) (b:Dr):gn [(211,Zf),(210,Ze)] [] 179 [F2 a,F2 b] = (Ss a b).map F2:=by
 unfold Ss
 kernel_rfl
def KP:List KV->KR KV:=bk PG 179 (bn F2 fun vs=>Ss (ah2 (v9 vs 0)) (ah2 (v9 vs 1)))
theorem Jp:bg PG 179 KP:=bQ (ak.cons ac4 (ak.cons ac3 ak.nil)) aK.nil fun w=>ag0 (ah2 (g0 109 (w 0))) (ah2 (g0 109 (w 1)))
structure mK where
 l:(Sl gY)
 e:Int
 t17:(Sl gY)
 t18:Int
 t19:Int
 b:Dr
instance:Inhabited mK:=⟨by constructor<;>exact default⟩
def Mg (x:mK):List KV:=[cT 27 pn x.l,.int .i64 x.e,cT 27 pn x.t17,.int .i64 x.t18,.int .i64 x.t19]
def Mh (x:mK):List (List KV):=[alh x.b]
def Vu (vs:List KV) (rs:List (List KV)):mK:=⟨dp pY (v9 vs 0),intOf (v9 vs 1),dp pY (v9 vs 2),intOf (v9 vs 3),intOf (v9 vs 4),ali (r9 rs 0)⟩
def Zg:aL:=⟨[(0,w9 (n9 27)),(3,w9 i9),(17,w9 (n9 27)),(18,w9 i9),(19,w9 i9)],[(2,[i9,i9,i9,i9,i9,i9],1)],[(2,0,0)]⟩
def ag1:=sB [(179,KP),(178,T9)] [] 127 58 Zg
def uL (x:mK):=wN (x.t17.get (Int.toNat x.t19)).x
def uM (x:mK):=wN (x.t17.get (Int.toNat x.t19)).y
def uN (x:mK):=wN (x.t17.get (Int.toNat x.t19)).z
def o5 (x:mK):aO mK:=(.out aB.ai.ret ⟨x.l,20,x.t17,x.t18,x.t19,⟨⟨0,0,0⟩,⟨0,0,0⟩⟩⟩)
def ov (x:mK):aO mK:=(cond (decide (x.t19 < x.t18)) (cond (bj x.t19 x.t17.n) (cond (uL x).isSome (cond (!((uL x).getD default))
   (o5 x) (cond (uM x).isSome (cond (!((uM x).getD default))
    (o5 x) (cond (uN x).isSome (cond (!((uN x).getD default))
     (o5 x) (.next ⟨x.l,x.e,x.t17,x.t18,(az (x.t19+1)),x.b⟩)) .fail)) .fail)) .fail) .fail) (.out (aB.ai.exit 0) x))
theorem ac5 (x:mK):ag1 (Mg x) (Mh x)=aO.enc Mg Mh (ov x):=by
 unfold ov o5 bj
 try simp only [aO.bw]
 kernel_rfl
def PA:Lp:=⟨127,58,Zg,fun vs rs=>bP Mg Mh (goN ov (Vu vs rs)) [aB.ai.exit 0,aB.ai.ret],false⟩
theorem Vv:PA.Ok PG:=rF (ak.cons Jp (ak.cons Px ak.nil)) aK.nil (pa:=Vu) ac5
structure rp where
 e:Int
 t49:(Sl gY)
 t50:Int
 t51:Int
 b:Dr
instance:Inhabited rp:=⟨⟨default,default,default,default,default⟩⟩
def Jq (x:rp):List KV:=[.int .i64 x.e,cT 27 pn x.t49,.int .i64 x.t50,.int .i64 x.t51]
def Jr (x:rp):List (List KV):=[alh x.b]
def Su (vs:List KV) (rs:List (List KV)):rp:=⟨intOf (v9 vs 0),dp pY (v9 vs 1),intOf (v9 vs 2),intOf (v9 vs 3),ali (r9 rs 0)⟩
def Vw:aL:=⟨[(3,w9 i9),(49,w9 (n9 27)),(50,w9 i9),(51,w9 i9)],[(2,[i9,i9,i9,i9,i9,i9],1)],[(2,0,0)]⟩
def afW:=sB [(179,KP),(178,T9)] [PA] 127 250 Vw
def lg (x:rp):aO rp:=(cond (decide (x.t51 < x.t50)) (cond (bj x.t51 x.t49.n) (.next ⟨x.e,x.t49,x.t50,(az (x.t51+1)),⟨⟨(min x.b.low.x (x.t49.get (Int.toNat x.t51)).x),(min x.b.low.y (x.t49.get (Int.toNat x.t51)).y),(min x.b.low.z (x.t49.get (Int.toNat x.t51)).z)⟩,⟨(max x.b.high.x (x.t49.get (Int.toNat x.t51)).x),(max x.b.high.y (x.t49.get (Int.toNat x.t51)).y),(max x.b.high.z (x.t49.get (Int.toNat x.t51)).z)⟩⟩⟩) .fail) (.out (aB.ai.exit 2) x))
theorem aa0 (x:rp):afW (Jq x) (Jr x)=aO.enc Jq Jr (lg x):=by
 unfold lg bj
 try simp only [aO.bw]
 kernel_rfl
def Vx:Lp:=⟨127,250,Vw,fun vs rs=>bP Jq Jr (goN lg (Su vs rs)) [aB.ai.exit 2],false⟩
theorem afX:Vx.Ok PG:=rF (ak.cons Jp (ak.cons Px ak.nil)) (gm Vv aK.nil) (pa:=Su) aa0
def eO (l:(Sl gY)):=goN ov ⟨l,0,l,(l.n:Int),0,⟨⟨0,0,0⟩,⟨0,0,0⟩⟩⟩
def tv (l:(Sl gY)):=goN lg ⟨(eO l).st.e,⟨((Int.toNat ((eO l).st.l.n:Int)) - 1),(fun i=>((eO l).st.l.get (1+i)))⟩,((((Int.toNat ((eO l).st.l.n:Int)) - 1):Nat):Int),0,⟨((eO l).st.l.get 0),((eO l).st.l.get 0)⟩⟩
def zg (l:(Sl gY)):Option (Dr×Int):=(some (⟨⟨0,0,0⟩,⟨0,0,0⟩⟩,4))
def zh (l:(Sl gY)):Option (Dr×Int):=(cond ((l.n:Int)==0)
  (zg l) (cond (decide ((l.n:Int) > 4096))
  (zg l) (cond ((eO l).by (aB.ai.exit 0)) (cond (decide (0 < ((eO l).st.l.n:Int))) (cond (decide (0 < ((eO l).st.l.n:Int))) (cond ((decide (1<=((eO l).st.l.n:Int)))&&(decide (((eO l).st.l.n:Int)<=((eO l).st.l.n:Int)))) (cond ((tv l).by (aB.ai.exit 2)) (some ((tv l).st.b,0)) none) none) none) none) (cond ((eO l).by aB.ai.ret) (some ((eO l).st.b,(eO l).st.e)) none))))
theorem alj (l:(Sl gY)):gn [(179,KP),(178,T9)] [PA,Vx] 127 [(cT 27 pn) l] = (zh l).map (fun (r:Dr×Int)=>KV.iv [F2 r.1,(kI .i64) r.2]):=by
 unfold zh zg
 try simp only [aV]
 kernel_rfl
def Ua:List KV->KR KV:=bk PG 127 (bn (fun (r:Dr×Int)=>KV.iv [F2 r.1,(kI .i64) r.2]) fun vs=>zh ((dp pY) (v9 vs 0)))
theorem PB:bg PG 127 Ua:=bQ (ak.cons Jp (ak.cons Px ak.nil)) (gm Vv (gm afX aK.nil)) fun w=>alj ((dp pY) (g0 103 (w 0)))
def mL (n:Int):Option (Bool):=(cond (decide (n > 0)) (some ((decide (n<=16)))) (some (false)))
theorem Zh (n:Int):gn [] [] 176 [(kI .i64) n] = (mL n).map kB:=by
 unfold mL
 try simp only [aV]
 kernel_rfl
def Qs:List KV->KR KV:=bk PG 176 (bn kB fun vs=>mL (intOf (v9 vs 0)))
theorem WV:bg PG 176 Qs:=bQ ak.nil aK.nil fun w=>Zh (intOf (g0 3 (w 0)))
structure Color where
 e0:Int
 e1:Int
 e2:Int
 e3:Int
instance:Inhabited Color:=⟨⟨default,default,default,default⟩⟩
def arD (x:Color):List KV:=[.int .u8 x.e0,.int .u8 x.e1,.int .u8 x.e2,.int .u8 x.e3]
def adZ (x:Color):KV:=.agg (arD x)
def arE (c:Nat->KV):Color:=⟨intOf (c 0),intOf (c 1),intOf (c 2),intOf (c 3)⟩
def ai5 (v:KV):Color:=arE fun k=>v.cells.getD k .bD
theorem aoO (x:Color):ai5 (adZ x)=x:=rfl
theorem alk (s t:Sl Color):s.join t=jT ai5 (s.n+t.n) (dK s.n (fun i=>adZ (s.get i)) (fun i=>adZ (t.get i))):=(TZ aoO s t).symm
structure ch where
 w:Int
 h:Int
 fw:(Sl Color)
instance:Inhabited ch:=⟨⟨default,default,default⟩⟩
def aa1 (x:ch):List KV:=[.int .i64 x.w,.int .i64 x.h,cT 33 adZ x.fw]
def jM (x:ch):KV:=.agg (aa1 x)
def aa2 (c:Nat->KV):ch:=⟨intOf (c 0),intOf (c 1),dp ai5 (c 2)⟩
def fO (v:KV):ch:=aa2 fun k=>v.cells.getD k .bD
theorem alm (x:ch):fO (jM x)=x:=rfl
theorem aln:fO .bD=default:=rfl
theorem ag2 (s:Sl ch) (v:ch):s.push v=jT fO (s.n+1) (dK s.n (fun i=>jM (s.get i)) (pW [jM v])):=(Ct alm aln s v).symm
def vU (t:ch):=mL t.w
def vV (t:ch):=mL t.h
def gP (t:ch):Option (Int):=(cond (vU t).isSome (cond (!((vU t).getD default)) (some (8)) (cond (vV t).isSome (cond (!((vV t).getD default)) (some (8)) (cond ((t.fw.n:Int) != (az (t.w * t.h))) (some (8)) (some (0)))) none)) none)
theorem WW (t:ch):gn [(176,Qs)] [] 123 [jM t] = (gP t).map (kI .i64):=by
 unfold gP
 try simp only [aV]
 kernel_rfl
def EL:List KV->KR KV:=bk PG 123 (bn (kI .i64) fun vs=>gP (fO (v9 vs 0)))
theorem HF:bg PG 123 EL:=bQ (ak.cons WV ak.nil) aK.nil fun w=>WW (fO (g0 114 (w 0)))
structure je where
 t2:Int
 t9:(Sl ch)
 t10:Int
 t11:Int
instance:Inhabited je:=⟨⟨default,default,default,default⟩⟩
def w5 (x:je):List KV:=[.int .i64 x.t2,cT 114 jM x.t9,.int .i64 x.t10,.int .i64 x.t11]
def w6 (x:je):List (List KV):=[]
def Ed (vs:List KV) (rs:List (List KV)):je:=⟨intOf (v9 vs 0),dp fO (v9 vs 1),intOf (v9 vs 2),intOf (v9 vs 3)⟩
def Gf:aL:=⟨[(2,w9 i9),(9,w9 (n9 114)),(10,w9 i9),(11,w9 i9)],[],[]⟩
def Q5:=sB [(123,EL)] [] 61 58 Gf
def gT (x:je):=gP (x.t9.get (Int.toNat x.t11))
def eP (x:je):aO je:=(cond (decide (x.t11 < x.t10)) (cond (bj x.t11 x.t9.n) (cond (gT x).isSome (cond (((gT x).getD default) != 0) (.out aB.ai.ret ⟨((gT x).getD default),x.t9,x.t10,x.t11⟩) (.next ⟨x.t2,x.t9,x.t10,(az (x.t11+1))⟩)) .fail) .fail) (.out (aB.ai.exit 0) x))
theorem NG (x:je):Q5 (w5 x) (w6 x)=aO.enc w5 w6 (eP x):=by
 unfold eP bj
 try simp only [aO.bw]
 kernel_rfl
def Gg:Lp:=⟨61,58,Gf,fun vs rs=>bP w5 w6 (goN eP (Ed vs rs)) [aB.ai.exit 0,aB.ai.ret],false⟩
theorem Q6:Gg.Ok PG:=rF (ak.cons HF ak.nil) aK.nil (pa:=Ed) NG
def dt (l:(Sl ch)):=goN eP ⟨0,l,(l.n:Int),0⟩
def gU (l:(Sl ch)):Option (Int):=(cond (decide ((l.n:Int) > 16)) (some (4)) (cond ((dt l).by (aB.ai.exit 0)) (some (0)) (cond ((dt l).by aB.ai.ret) (some ((dt l).st.t2)) none)))
theorem UA (l:(Sl ch)):gn [(123,EL)] [Gg] 61 [(cT 114 jM) l] = (gU l).map (kI .i64):=by
 unfold gU
 try simp only [aV]
 kernel_rfl
def Ds:List KV->KR KV:=bk PG 61 (bn (kI .i64) fun vs=>gU ((dp fO) (v9 vs 0)))
theorem Gh:bg PG 61 Ds:=bQ (ak.cons HF ak.nil) (gm Q6 aK.nil) fun w=>UA ((dp fO) (g0 23 (w 0)))
structure KQ where
 color:Color
 Aw:Int
 cz:Int
 Vy:Int
 cI:Bool
 bin:Int
instance:Inhabited KQ:=⟨by constructor<;>exact default⟩
def asP (x:KQ):List KV:=[.int .u8 x.color.e0,.int .u8 x.color.e1,.int .u8 x.color.e2,.int .u8 x.color.e3,.int .i64 x.Aw,.int .u8 x.cz,.int .i64 x.Vy,.bool x.cI,.int .i64 x.bin]
def aqr (x:KQ):KV:=.agg (asP x)
def asQ (c:Nat->KV):KQ:=⟨⟨intOf (c 0),intOf (c 1),intOf (c 2),intOf (c 3)⟩,intOf (c 4),intOf (c 5),intOf (c 6),iH (c 7),intOf (c 8)⟩
def ai6 (v:KV):KQ:=asQ fun k=>v.cells.getD k .bD
def jj (l:KQ) (av:Int):Option (Int):=(cond (decide (av < 0)) (some (2)) (cond (decide (av > 16)) (some (2)) (cond (decide (l.Aw < (-(1:Int)))) (some (8)) (cond (decide (l.Aw >= av)) (some (8)) (cond (decide (l.cz > 2)) (some (8)) (cond (decide (l.Vy < (-(1024:Int)))) (some (8)) (cond (decide (l.Vy > 1024)) (some (8)) (cond (decide (l.bin < 0)) (some (8)) (cond (decide (l.bin > 15)) (some (8)) (some (0)))))))))))
theorem Sv (l:KQ) (av:Int):gn [] [] 125 [aqr l,(kI .i64) av] = (jj l av).map (kI .i64):=by
 unfold jj
 try simp only [aV]
 kernel_rfl
def vW:List KV->KR KV:=bk PG 125 (bn (kI .i64) fun vs=>jj (ai6 (v9 vs 0)) (intOf (v9 vs 1)))
theorem w7:bg PG 125 vW:=bQ ak.nil aK.nil fun w=>Sv (ai6 (g0 107 (w 0))) (intOf (g0 3 (w 1)))
structure Ub where
 e0:Int
 e1:Int
instance:Inhabited Ub:=⟨⟨default,default⟩⟩
def aqs (x:Ub):List KV:=[.int .i64 x.e0,.int .i64 x.e1]
def afY (x:Ub):KV:=.agg (aqs x)
def aqt (c:Nat->KV):Ub:=⟨intOf (c 0),intOf (c 1)⟩
def aqu (v:KV):Ub:=aqt fun k=>v.cells.getD k .bD
structure Item where
 aG:(Sl gY)
 uV:(Sl Ub)
 aP:(Sl kq)
 look:KQ
 box:Dr
instance:Inhabited Item:=⟨⟨default,default,default,default,default⟩⟩
def Dt (x:Item):List KV:=[cT 27 pn x.aG,cT 181 afY x.uV,cT 28 yh x.aP,.int .u8 x.look.color.e0,.int .u8 x.look.color.e1,.int .u8 x.look.color.e2,.int .u8 x.look.color.e3,.int .i64 x.look.Aw,.int .u8 x.look.cz,.int .i64 x.look.Vy,.bool x.look.cI,.int .i64 x.look.bin,.int .i64 x.box.low.x,.int .i64 x.box.low.y,.int .i64 x.box.low.z,.int .i64 x.box.high.x,.int .i64 x.box.high.y,.int .i64 x.box.high.z]
def Mi (x:Item):KV:=.agg (Dt x)
def EM (c:Nat->KV):Item:=⟨dp pY (c 0),dp aqu (c 1),dp Ga (c 2),⟨⟨intOf (c 3),intOf (c 4),intOf (c 5),intOf (c 6)⟩,intOf (c 7),intOf (c 8),intOf (c 9),iH (c 10),intOf (c 11)⟩,⟨⟨intOf (c 12),intOf (c 13),intOf (c 14)⟩,⟨intOf (c 15),intOf (c 16),intOf (c 17)⟩⟩⟩
def BN (v:KV):Item:=EM fun k=>v.cells.getD k .bD
structure ng where
 t4:Bool
 n:Int
 t38:(Sl gY)
 t39:Int
 t40:Int
 x:Item
instance:Inhabited ng:=⟨by constructor<;>exact default⟩
def Du (x:ng):List KV:=[.bool x.t4,.int .i64 x.n,cT 27 pn x.t38,.int .i64 x.t39,.int .i64 x.t40]
def Dv (x:ng):List (List KV):=[Dt x.x]
def KS (vs:List KV) (rs:List (List KV)):ng:=⟨iH (v9 vs 0),intOf (v9 vs 1),dp pY (v9 vs 2),intOf (v9 vs 3),intOf (v9 vs 4),EM (r9 rs 0)⟩
def NH:aL:=⟨[(4,w9 b9),(5,w9 i9),(38,w9 (n9 27)),(39,w9 i9),(40,w9 i9)],[(2,[n9 27,n9 181,n9 28,u9,u9,u9,u9,i9,u9,i9,b9,i9,i9,i9,i9,i9,i9,i9],1)],[(2,0,0)]⟩
def Zi:=sB [(127,Ua),(126,y9),(125,vW)] [] 64 122 NH
def o6 (x:ng):=qX (x.t38.get (Int.toNat x.t40))
def jR (x:ng):aO ng:=(cond (decide (x.t40 < x.t39)) (cond (bj x.t40 x.t38.n) (cond (o6 x).isSome (cond (((o6 x).getD default) != 0) (.out aB.ai.ret ⟨false,x.n,x.t38,x.t39,x.t40,x.x⟩) (cond (bj x.t40 x.x.uV.n) (cond (bj x.t40 x.x.uV.n) (cond (decide ((min (x.x.uV.get (Int.toNat x.t40)).e0 (x.x.uV.get (Int.toNat x.t40)).e1) < 0)) (.out aB.ai.ret ⟨false,x.n,x.t38,x.t39,x.t40,x.x⟩) (cond (bj x.t40 x.x.uV.n) (cond (bj x.t40 x.x.uV.n) (cond (decide ((max (x.x.uV.get (Int.toNat x.t40)).e0 (x.x.uV.get (Int.toNat x.t40)).e1) > 255)) (.out aB.ai.ret ⟨false,x.n,x.t38,x.t39,x.t40,x.x⟩) (.next ⟨x.t4,x.n,x.t38,x.t39,(az (x.t40+1)),x.x⟩)) .fail) .fail)) .fail) .fail)) .fail) .fail) (.out (aB.ai.exit 0) x))
theorem UB (x:ng):Zi (Du x) (Dv x)=aO.enc Du Dv (jR x):=by
 unfold jR bj
 try simp only [aO.bw]
 kernel_rfl
def EN:Lp:=⟨64,122,NH,fun vs rs=>bP Du Dv (goN jR (KS vs rs)) [aB.ai.exit 0,aB.ai.ret],false⟩
theorem KT:EN.Ok PG:=rF (ak.cons PB (ak.cons wq (ak.cons w7 ak.nil))) aK.nil (pa:=KS) UB
structure lh where
 t4:Bool
 n:Int
 t82:(Sl kq)
 t83:Int
 t84:Int
 x:Item
instance:Inhabited lh:=⟨by constructor<;>exact default⟩
def Dw (x:lh):List KV:=[.bool x.t4,.int .i64 x.n,cT 28 yh x.t82,.int .i64 x.t83,.int .i64 x.t84]
def Dx (x:lh):List (List KV):=[Dt x.x]
def KU (vs:List KV) (rs:List (List KV)):lh:=⟨iH (v9 vs 0),intOf (v9 vs 1),dp Ga (v9 vs 2),intOf (v9 vs 3),intOf (v9 vs 4),EM (r9 rs 0)⟩
def NI:aL:=⟨[(4,w9 b9),(5,w9 i9),(82,w9 (n9 28)),(83,w9 i9),(84,w9 i9)],[(2,[n9 27,n9 181,n9 28,u9,u9,u9,u9,i9,u9,i9,b9,i9,i9,i9,i9,i9,i9,i9],1)],[(2,0,0)]⟩
def Zj:=sB [(127,Ua),(126,y9),(125,vW)] [EN] 64 250 NI
def gH (x:lh):aO lh:=(cond (decide (x.t84 < x.t83)) (cond (bj x.t84 x.t82.n) (cond (decide ((min (min (x.t82.get (Int.toNat x.t84)).e0 (x.t82.get (Int.toNat x.t84)).e1) (x.t82.get (Int.toNat x.t84)).e2) < 0)) (.out aB.ai.ret ⟨false,x.n,x.t82,x.t83,x.t84,x.x⟩) (cond (decide ((max (max (x.t82.get (Int.toNat x.t84)).e0 (x.t82.get (Int.toNat x.t84)).e1) (x.t82.get (Int.toNat x.t84)).e2) >= x.n)) (.out aB.ai.ret ⟨false,x.n,x.t82,x.t83,x.t84,x.x⟩) (.next ⟨x.t4,x.n,x.t82,x.t83,(az (x.t84+1)),x.x⟩))) .fail) (.out (aB.ai.exit 2) x))
theorem UC (x:lh):Zj (Dw x) (Dx x)=aO.enc Dw Dx (gH x):=by
 unfold gH bj
 try simp only [aO.bw]
 kernel_rfl
def NJ:Lp:=⟨64,250,NI,fun vs rs=>bP Dw Dx (goN gH (KU vs rs)) [aB.ai.exit 2,aB.ai.ret],false⟩
theorem Zk:NJ.Ok PG:=rF (ak.cons PB (ak.cons wq (ak.cons w7 ak.nil))) (gm KT aK.nil) (pa:=KU) UC
def yl (x:Item) (av:Int):=jj x.look av
def dM (x:Item) (av:Int):=goN jR ⟨false,(x.aG.n:Int),x.aG,(x.aG.n:Int),0,x⟩
def de (x:Item) (av:Int):=goN gH ⟨(dM x av).st.t4,(dM x av).st.n,(dM x av).st.x.aP,((dM x av).st.x.aP.n:Int),0,(dM x av).st.x⟩
def iy (x:Item) (av:Int):=zh (de x av).st.x.aG
def pz (x:Item) (av:Int):Option (Bool):=(cond (decide ((x.aG.n:Int) > 64)) (some (false)) (cond ((x.uV.n:Int) != (x.aG.n:Int)) (some (false)) (cond (decide ((x.aP.n:Int) > 64)) (some (false)) (cond (yl x av).isSome (cond (((yl x av).getD default) != 0) (some (false)) (cond ((dM x av).by (aB.ai.exit 0)) (cond ((de x av).by (aB.ai.exit 2)) (cond (iy x av).isSome (cond ((((iy x av).getD default).fst.low.x==(de x av).st.x.box.low.x)&&((((iy x av).getD default).fst.low.y==(de x av).st.x.box.low.y)&&((((iy x av).getD default).fst.low.z==(de x av).st.x.box.low.z)&&((((iy x av).getD default).fst.high.x==(de x av).st.x.box.high.x)&&((((iy x av).getD default).fst.high.y==(de x av).st.x.box.high.y)&&((((iy x av).getD default).fst.high.z==(de x av).st.x.box.high.z)&&true)))))) (cond (((iy x av).getD default).snd==0) (some (true)) (some (((de x av).st.n==0)))) (some (false))) none) (cond ((de x av).by aB.ai.ret) (some ((de x av).st.t4)) none)) (cond ((dM x av).by aB.ai.ret) (some ((dM x av).st.t4)) none))) none))))
theorem afZ (x:Item) (av:Int):gn [(127,Ua),(126,y9),(125,vW)] [EN,NJ] 64 [Mi x,(kI .i64) av] = (pz x av).map kB:=by
 unfold pz
 try simp only [aV]
 kernel_rfl
def PC:List KV->KR KV:=bk PG 64 (bn kB fun vs=>pz (BN (v9 vs 0)) (intOf (v9 vs 1)))
theorem Qt:bg PG 64 PC:=bQ (ak.cons PB (ak.cons wq (ak.cons w7 ak.nil))) (gm KT (gm Zk aK.nil)) fun w=>afZ (BN (g0 111 (w 0))) (intOf (g0 3 (w 1)))
structure Show where
 items:(Sl Item)
 av:(Sl ch)
instance:Inhabited Show:=⟨⟨default,default⟩⟩
def hD (x:Show):List KV:=[cT 111 Mi x.items,cT 114 jM x.av]
def qy (x:Show):KV:=.agg (hD x)
def hH (c:Nat->KV):Show:=⟨dp BN (c 0),dp fO (c 1)⟩
def hJ (v:KV):Show:=hH fun k=>v.cells.getD k .bD
structure cq where
 s:(Sl Item)
 t4:Int
 t7:Int
 t8:Int
 Ee:Show
instance:Inhabited cq:=⟨⟨default,default,default,default,default⟩⟩
def jk (x:cq):List KV:=[cT 111 Mi x.s,.fn (.func 63) [] [.ptr 0 0],.int .i64 x.t4,.int .i64 x.t7,.int .i64 x.t8]
def jl (x:cq):List (List KV):=[hD x.Ee]
def nZ (vs:List KV) (rs:List (List KV)):cq:=⟨dp BN (v9 vs 0),intOf (v9 vs 2),intOf (v9 vs 3),intOf (v9 vs 4),hH (r9 rs 0)⟩
def ow:aL:=⟨[(0,w9 (n9 111)),(1,⟨false,[.ref (.fn (.func 63) [] [.ptr 0 0])]⟩),(4,w9 i9),(7,w9 i9),(8,w9 i9)],[(100001,[n9 111,n9 114],1)],[]⟩
def vX:=sB [(64,PC),(61,Ds)] [] 124 26 ow
def fW (x:cq):=pz (x.s.get (Int.toNat x.t8)) (x.Ee.av.n:Int)
def ca (x:cq):aO cq:=(cond (decide (x.t8 < x.t7)) (cond (bj x.t8 x.s.n) (cond (fW x).isSome (cond (!((fW x).getD default)) (.out aB.ai.ret ⟨x.s,x.t8,x.t7,x.t8,x.Ee⟩) (.next ⟨x.s,x.t4,x.t7,(az (x.t8+1)),x.Ee⟩)) .fail) .fail) (.out (aB.ai.exit 0) x))
theorem uO (x:cq):vX (jk x) (jl x)=aO.enc jk jl (ca x):=by
 unfold ca bj
 try simp only [aO.bw]
 kernel_rfl
def ox:Lp:=⟨124,26,ow,fun vs rs=>bP jk jl (goN ca (nZ vs rs)) [aB.ai.exit 0,aB.ai.ret],false⟩
theorem vY:ox.Ok PG:=rF (ak.cons Qt (ak.cons Gh ak.nil)) aK.nil (pa:=nZ) uO
def rJ (s:Show):=gU s.av
def dA (s:Show):=goN ca ⟨s.items,0,(s.items.n:Int),0,s⟩
def eU (s:Show):Option (Int):=(cond (decide ((s.items.n:Int) > 256)) (some (4)) (cond (decide ((s.av.n:Int) > 16)) (some (4)) (cond (rJ s).isSome (cond (((rJ s).getD default) != 0) (some (8)) (cond ((dA s).by (aB.ai.exit 0)) (some (0)) (cond ((dA s).by aB.ai.ret) (cond (decide ((dA s).st.t4 >= 0)) (some (8)) (some (0))) none))) none)))
theorem aa3 (s:Show):gn [(64,PC),(61,Ds)] [ox] 19 [qy s] = (eU s).map (kI .i64):=by
 unfold eU
 try simp only [aV]
 kernel_rfl
def kK:List KV->KR KV:=bk PG 19 (bn (kI .i64) fun vs=>eU (hJ (v9 vs 0)))
theorem iJ:bg PG 19 kK:=bQ (ak.cons Qt (ak.cons Gh ak.nil)) (gm vY aK.nil) fun w=>aa3 (hJ (g0 25 (w 0)))
def A8 (c:aE) (p:bK):=ir c
def A9 (c:aE) (p:bK):=nG p
def GN (c:aE) (p:bK):=eT (az ((az (8 * c.qY)) * p.p.x)) p.p.z
def GP (c:aE) (p:bK):=eT (az ((az (8 * c.qY)) * p.p.y)) p.p.z
def rq (c:aE) (p:bK):Option (yg×Int):=(cond (A8 c p).isSome (cond (((A8 c p).getD default) != 0) (some (⟨0,0,0,0,0⟩,((A8 c p).getD default))) (cond (A9 c p).isSome (cond (((A9 c p).getD default) != 0) (some (⟨0,0,0,0,0⟩,((A9 c p).getD default))) (cond (decide (p.p.z < c.au)) (some (⟨0,0,0,0,0⟩,6)) (cond (GN c p).isSome (cond (GP c p).isSome (cond (!(decide (p.p.z=0))) (some (⟨(az (((GN c p).getD default).fst+(az (4 * c.w)))),(az ((az (4 * c.h)) - ((GP c p).getD default).fst)),(az (Int.tdiv 16777216 p.p.z)),p.u,p.v⟩,0)) none) none) none))) none)) none)
theorem ac6 (c:aE) (p:bK):gn [(148,yf),(162,tR),(100,wu)] [] 103 [nX c,nV p] = (rq c p).map (fun (r:yg×Int)=>KV.iv [aaP r.1,(kI .i64) r.2]):=by
 unfold rq
 try simp only [aV]
 kernel_rfl
def Mj:List KV->KR KV:=bk PG 103 (bn (fun (r:yg×Int)=>KV.iv [aaP r.1,(kI .i64) r.2]) fun vs=>rq (fD (v9 vs 0)) (jE (v9 vs 1)))
theorem NK:bg PG 103 Mj:=bQ (ak.cons xo (ak.cons rG (ak.cons vS ak.nil))) aK.nil fun w=>ac6 (fD (g0 31 (w 0))) (jE (g0 177 (w 1)))
structure fc where
 out:(Sl aW)
 t72:(Sl bo)
 t73:Int
 t74:Int
 c:aE
 x:Item
instance:Inhabited fc:=⟨by constructor<;>exact default⟩
def zS (x:fc):List KV:=[cT 62 fN x.out,cT 178 kH x.t72,.int .i64 x.t73,.int .i64 x.t74]
def zT (x:fc):List (List KV):=[Ny x.c,Dt x.x]
def HG (vs:List KV) (rs:List (List KV)):fc:=⟨dp fA (v9 vs 0),dp mT (v9 vs 1),intOf (v9 vs 2),intOf (v9 vs 3),Nz (r9 rs 0),EM (r9 rs 1)⟩
def Js:aL:=⟨[(8,⟨false,[.bc 62]⟩),(72,w9 (n9 178)),(73,w9 i9),(74,w9 i9)],[(5,[i9,i9,i9,i9,i9,i9,i9,i9,i9,i9,i9,i9,i9,i9,i9,i9],1),(9,[n9 27,n9 181,n9 28,u9,u9,u9,u9,i9,u9,i9,b9,i9,i9,i9,i9,i9,i9,i9],1)],[(5,0,0),(9,1,0)]⟩
def UD:=sB [(105,L4),(104,L3),(103,Mj),(102,Pw),(101,Jk)] [] 48 506 Js
def pI (x:fc):=rq x.c (x.t72.get (Int.toNat x.t74)).e0
def pJ (x:fc):=rq x.c (x.t72.get (Int.toNat x.t74)).e1
def pK (x:fc):=rq x.c (x.t72.get (Int.toNat x.t74)).e2
def tw (x:fc):=py ⟨((pI x).getD default).fst,((pJ x).getD default).fst,((pK x).getD default).fst⟩ x.x.look.cz
def tz (x:fc):=wK ⟨((pI x).getD default).fst,((pJ x).getD default).fst,((pK x).getD default).fst⟩
def jU (x:fc):aO fc:=(cond (decide (x.t74 < x.t73)) (cond (bj x.t74 x.t72.n) (cond (pI x).isSome (cond (pJ x).isSome (cond (pK x).isSome (cond (tw x).isSome (cond ((tw x).getD default).fst (cond (tz x).isSome (cond (mI 120 x.out.n 1) (cond (aF (x.out.n+1)) (.next ⟨(x.out.push ((tz x).getD default).fst),x.t72,x.t73,(az (x.t74+1)),x.c,x.x⟩) .fail) .fail) .fail) (cond (aF x.out.n) (.next ⟨x.out,x.t72,x.t73,(az (x.t74+1)),x.c,x.x⟩) .fail)) .fail) .fail) .fail) .fail) .fail) (cond (aF x.out.n) (.out (aB.ai.exit 2) x) .fail))
theorem Q7 (x:fc):UD (zS x) (zT x)=aO.enc zS zT (jU x):=by
 unfold jU bj mI aF
 try simp only [aO.bw,Vr]
 kernel_rfl
def Jt:Lp:=⟨48,506,Js,fun vs rs=>bP zS zT (goN jU (HG vs rs)) [aB.ai.exit 2],false⟩
theorem UE:Jt.Ok PG:=rF (ak.cons Nx (ak.cons Nw (ak.cons NK (ak.cons Qr (ak.cons KI ak.nil))))) aK.nil (pa:=HG) Q7
def zi (s:Show) (c:aE) (item:Int) (dB:Int):=nY c ((s.items.get (Int.toNat item)).aG.get (Int.toNat ((s.items.get (Int.toNat item)).aP.get (Int.toNat dB)).e0))
def zj (s:Show) (c:aE) (item:Int) (dB:Int):=nY c ((s.items.get (Int.toNat item)).aG.get (Int.toNat ((s.items.get (Int.toNat item)).aP.get (Int.toNat dB)).e1))
def zk (s:Show) (c:aE) (item:Int) (dB:Int):=nY c ((s.items.get (Int.toNat item)).aG.get (Int.toNat ((s.items.get (Int.toNat item)).aP.get (Int.toNat dB)).e2))
def uQ (s:Show) (c:aE) (item:Int) (dB:Int):=zf c.au ⟨⟨((zi s c item dB).getD default).fst,((s.items.get (Int.toNat item)).uV.get (Int.toNat ((s.items.get (Int.toNat item)).aP.get (Int.toNat dB)).e0)).e0,((s.items.get (Int.toNat item)).uV.get (Int.toNat ((s.items.get (Int.toNat item)).aP.get (Int.toNat dB)).e0)).e1⟩,⟨((zj s c item dB).getD default).fst,((s.items.get (Int.toNat item)).uV.get (Int.toNat ((s.items.get (Int.toNat item)).aP.get (Int.toNat dB)).e1)).e0,((s.items.get (Int.toNat item)).uV.get (Int.toNat ((s.items.get (Int.toNat item)).aP.get (Int.toNat dB)).e1)).e1⟩,⟨((zk s c item dB).getD default).fst,((s.items.get (Int.toNat item)).uV.get (Int.toNat ((s.items.get (Int.toNat item)).aP.get (Int.toNat dB)).e2)).e0,((s.items.get (Int.toNat item)).uV.get (Int.toNat ((s.items.get (Int.toNat item)).aP.get (Int.toNat dB)).e2)).e1⟩⟩
def rK (s:Show) (c:aE) (item:Int) (dB:Int):=goN jU ⟨⟨0,(fun i=>⟨⟨0,0,0,0,0⟩,⟨0,0,0,0,0⟩,⟨0,0,0,0,0⟩⟩)⟩,((uQ s c item dB).getD default).fst,(((uQ s c item dB).getD default).fst.n:Int),0,c,(s.items.get (Int.toNat item))⟩
def uR (s:Show) (c:aE) (item:Int) (dB:Int):Option ((Sl aW)):=(cond (bj item s.items.n) (cond (bj dB (s.items.get (Int.toNat item)).aP.n) (cond (bj ((s.items.get (Int.toNat item)).aP.get (Int.toNat dB)).e0 (s.items.get (Int.toNat item)).aG.n) (cond (zi s c item dB).isSome (cond (bj ((s.items.get (Int.toNat item)).aP.get (Int.toNat dB)).e0 (s.items.get (Int.toNat item)).uV.n) (cond (bj ((s.items.get (Int.toNat item)).aP.get (Int.toNat dB)).e0 (s.items.get (Int.toNat item)).uV.n) (cond (bj ((s.items.get (Int.toNat item)).aP.get (Int.toNat dB)).e1 (s.items.get (Int.toNat item)).aG.n) (cond (zj s c item dB).isSome (cond (bj ((s.items.get (Int.toNat item)).aP.get (Int.toNat dB)).e1 (s.items.get (Int.toNat item)).uV.n) (cond (bj ((s.items.get (Int.toNat item)).aP.get (Int.toNat dB)).e1 (s.items.get (Int.toNat item)).uV.n) (cond (bj ((s.items.get (Int.toNat item)).aP.get (Int.toNat dB)).e2 (s.items.get (Int.toNat item)).aG.n) (cond (zk s c item dB).isSome (cond (bj ((s.items.get (Int.toNat item)).aP.get (Int.toNat dB)).e2 (s.items.get (Int.toNat item)).uV.n) (cond (bj ((s.items.get (Int.toNat item)).aP.get (Int.toNat dB)).e2 (s.items.get (Int.toNat item)).uV.n) (cond (uQ s c item dB).isSome (cond ((rK s c item dB).by (aB.ai.exit 2)) (some ((rK s c item dB).st.out)) none) none) none) none) none) none) none) none) none) none) none) none) none) none) none) none)
theorem aa4 (s:Show) (c:aE) (item:Int) (dB:Int):gn [(105,L4),(104,L3),(103,Mj),(102,Pw),(101,Jk)] [Jt] 48 [qy s,nX c,(kI .i64) item,(kI .i64) dB] = (uR s c item dB).map (cT 62 fN):=by
 unfold uR bj
 try simp only [aV]
 kernel_rfl
def Sx:List KV->KR KV:=bk PG 48 (bn (cT 62 fN) fun vs=>uR (hJ (v9 vs 0)) (fD (v9 vs 1)) (intOf (v9 vs 2)) (intOf (v9 vs 3)))
theorem Zl:bg PG 48 Sx:=bQ (ak.cons Nx (ak.cons Nw (ak.cons NK (ak.cons Qr (ak.cons KI ak.nil))))) (gm UE aK.nil) fun w=>aa4 (hJ (g0 25 (w 0))) (fD (g0 31 (w 1))) (intOf (g0 3 (w 2))) (intOf (g0 3 (w 3)))
def rL (s:Show) (c:aE):=eU s
def uT (s:Show) (c:aE):=ir c
def jA (s:Show) (c:aE):Option (Int):=(cond (rL s c).isSome (cond (((rL s c).getD default) != 0) (some (((rL s c).getD default))) (cond (uT s c).isSome (some (((uT s c).getD default))) none)) none)
theorem aa5 (s:Show) (c:aE):gn [(100,wu),(19,kK)] [] 47 [qy s,nX c] = (jA s c).map (kI .i64):=by
 unfold jA
 try simp only [aV]
 kernel_rfl
def Sy:List KV->KR KV:=bk PG 47 (bn (kI .i64) fun vs=>jA (hJ (v9 vs 0)) (fD (v9 vs 1)))
theorem Zm:bg PG 47 Sy:=bQ (ak.cons vS (ak.cons iJ ak.nil)) aK.nil fun w=>aa5 (hJ (g0 25 (w 0))) (fD (g0 31 (w 1)))
def zl (s:Show) (c:aE) (item:Int) (dB:Int):=jA s c
def EO (s:Show) (c:aE) (item:Int) (dB:Int):=uR s c item dB
def p9 (s:Show) (c:aE) (item:Int) (dB:Int):Option ((Sl aW)×Int):=(some (⟨0,(fun i=>⟨⟨0,0,0,0,0⟩,⟨0,0,0,0,0⟩,⟨0,0,0,0,0⟩⟩)⟩,2))
def uU (s:Show) (c:aE) (item:Int) (dB:Int):Option ((Sl aW)×Int):=(cond (zl s c item dB).isSome (cond (((zl s c item dB).getD default) != 0) (some (⟨0,(fun i=>⟨⟨0,0,0,0,0⟩,⟨0,0,0,0,0⟩,⟨0,0,0,0,0⟩⟩)⟩,((zl s c item dB).getD default))) (cond (decide (item < 0))
   (p9 s c item dB) (cond (decide (item >= (s.items.n:Int)))
   (p9 s c item dB) (cond (decide (dB < 0))
    (p9 s c item dB) (cond (bj item s.items.n) (cond (decide (dB >= ((s.items.get (Int.toNat item)).aP.n:Int)))
     (p9 s c item dB) (cond (EO s c item dB).isSome (some (((EO s c item dB).getD default),0)) none)) none))))) none)
theorem aa6 (s:Show) (c:aE) (item:Int) (dB:Int):gn [(48,Sx),(47,Sy)] [] 10 [qy s,nX c,(kI .i64) item,(kI .i64) dB] = (uU s c item dB).map (fun (r:(Sl aW)×Int)=>KV.iv [(cT 62 fN) r.1,(kI .i64) r.2]):=by
 unfold uU p9 bj
 try simp only [aV]
 kernel_rfl
def Dy:List KV->KR KV:=bk PG 10 (bn (fun (r:(Sl aW)×Int)=>KV.iv [(cT 62 fN) r.1,(kI .i64) r.2]) fun vs=>uU (hJ (v9 vs 0)) (fD (v9 vs 1)) (intOf (v9 vs 2)) (intOf (v9 vs 3)))
theorem Dz:bg PG 10 Dy:=bQ (ak.cons Zl (ak.cons Zm ak.nil)) aK.nil fun w=>aa6 (hJ (g0 25 (w 0))) (fD (g0 31 (w 1))) (intOf (g0 3 (w 2))) (intOf (g0 3 (w 3)))
structure Zn where
 d:Int
 item:Int
 dB:Int
 part:Int
 u:Int
 v:Int
instance:Inhabited Zn:=⟨by constructor<;>exact default⟩
structure acD where
 t:aW
 frag:Zn
instance:Inhabited acD:=⟨⟨default,default⟩⟩
structure Ia where
 show_:Show
 parts:(Sl acD)
instance:Inhabited Ia:=⟨⟨default,default⟩⟩
structure qz where
 l:(Sl ch)
 t2:Bool
 n:Int
 i:Int
instance:Inhabited qz:=⟨⟨default,default,default,default⟩⟩
def EP (x:qz):List KV:=[cT 114 jM x.l,.bool x.t2,.int .i64 x.n,.int .i64 x.i]
def ER (x:qz):List (List KV):=[]
def NL (vs:List KV) (rs:List (List KV)):qz:=⟨dp fO (v9 vs 0),iH (v9 vs 1),intOf (v9 vs 2),intOf (v9 vs 3)⟩
def Qu:aL:=⟨[(0,w9 (n9 114)),(2,w9 b9),(3,w9 i9),(4,w9 i9)],[],[]⟩
def aa7:=sB [] [] 45 58 Qu
def kL (x:qz):aO qz:=(cond (decide (x.i < (x.l.n:Int))) (cond (decide (x.i < 100)) (cond (bj x.i x.l.n) (.next ⟨x.l,x.t2,(az (x.n+(min ((x.l.get (Int.toNat x.i)).fw.n:Int) 100000))),(az (x.i+1))⟩) .fail) (.out (aB.ai.exit 0) x)) (.out (aB.ai.exit 0) x))
theorem WX (x:qz):aa7 (EP x) (ER x)=aO.enc EP ER (kL x):=by
 unfold kL bj
 try simp only [aO.bw]
 kernel_rfl
def Qv:Lp:=⟨45,58,Qu,fun vs rs=>bP EP ER (goN kL (NL vs rs)) [aB.ai.exit 0],false⟩
theorem aa8:Qv.Ok PG:=rF ak.nil aK.nil (pa:=NL) WX
def mu (l:(Sl ch)):=goN kL ⟨l,false,0,0⟩
def qZ (l:(Sl ch)):Option (Bool):=(cond ((mu l).by (aB.ai.exit 0)) (cond (decide (((mu l).st.l.n:Int) > 40)) (some (true)) (some ((decide ((mu l).st.n > 20000))))) none)
theorem af0 (l:(Sl ch)):gn [] [Qv] 45 [(cT 114 jM) l] = (qZ l).map kB:=by
 unfold qZ
 try simp only [aV]
 kernel_rfl
def PD:List KV->KR KV:=bk PG 45 (bn kB fun vs=>qZ ((dp fO) (v9 vs 0)))
theorem Qw:bg PG 45 PD:=bQ ak.nil (gm aa8 aK.nil) fun w=>af0 ((dp fO) (g0 23 (w 0)))
structure qB where
 t2:Bool
 n:Int
 i:Int
 s:Show
instance:Inhabited qB:=⟨⟨default,default,default,default⟩⟩
def ES (x:qB):List KV:=[.bool x.t2,.int .i64 x.n,.int .i64 x.i]
def ET (x:qB):List (List KV):=[hD x.s]
def NM (vs:List KV) (rs:List (List KV)):qB:=⟨iH (v9 vs 0),intOf (v9 vs 1),intOf (v9 vs 2),hH (r9 rs 0)⟩
def Qx:aL:=⟨[(2,w9 b9),(3,w9 i9),(4,w9 i9)],[(1,[n9 111,n9 114],1)],[(1,0,0)]⟩
def aa9:=sB [(45,PD)] [] 8 58 Qx
def kM (x:qB):aO qB:=(cond (decide (x.i < (x.s.items.n:Int))) (cond (decide (x.i < 300)) (cond (bj x.i x.s.items.n) (cond (bj x.i x.s.items.n) (cond (bj x.i x.s.items.n) (.next ⟨x.t2,(az ((az ((az (x.n+(min ((x.s.items.get (Int.toNat x.i)).aG.n:Int) 10000)))+(min ((x.s.items.get (Int.toNat x.i)).uV.n:Int) 10000)))+(az (2 * (min ((x.s.items.get (Int.toNat x.i)).aP.n:Int) 10000))))),(az (x.i+1)),x.s⟩) .fail) .fail) .fail) (.out (aB.ai.exit 0) x)) (.out (aB.ai.exit 0) x))
theorem WY (x:qB):aa9 (ES x) (ET x)=aO.enc ES ET (kM x):=by
 unfold kM bj
 try simp only [aO.bw]
 kernel_rfl
def Qy:Lp:=⟨8,58,Qx,fun vs rs=>bP ES ET (goN kM (NM vs rs)) [aB.ai.exit 0],false⟩
theorem aba:Qy.Ok PG:=rF (ak.cons Qw ak.nil) aK.nil (pa:=NM) WY
def kN (s:Show):=goN kM ⟨false,0,0,s⟩
def ym (s:Show):=qZ (kN s).st.s.av
def tA (s:Show):Option (Bool):=(cond ((kN s).by (aB.ai.exit 0)) (cond (decide (((kN s).st.s.items.n:Int) > 260)) (some (true)) (cond (decide ((kN s).st.n > 800)) (some (true)) (cond (ym s).isSome (some (((ym s).getD default))) none))) none)
theorem af1 (s:Show):gn [(45,PD)] [Qy] 8 [qy s] = (tA s).map kB:=by
 unfold tA
 try simp only [aV]
 kernel_rfl
def PE:List KV->KR KV:=bk PG 8 (bn kB fun vs=>tA (hJ (v9 vs 0)))
theorem Qz:bg PG 8 PE:=bQ (ak.cons Qw ak.nil) (gm aba aK.nil) fun w=>af1 (hJ (g0 25 (w 0)))
def oy (a:Int) (b:Int):Option (Int):=(cond (!(decide (b=0))) (cond (decide ((az ((az (Int.tdiv a b)) * b)) > a)) (some ((az ((az (Int.tdiv a b)) - 1)))) (some ((az (Int.tdiv a b))))) none)
theorem ag3 (a:Int) (b:Int):gn [] [] 172 [(kI .i64) a,(kI .i64) b] = (oy a b).map (kI .i64):=by
 unfold oy
 try simp only [aV]
 kernel_rfl
def Cv:List KV->KR KV:=bk PG 172 (bn (kI .i64) fun vs=>oy (intOf (v9 vs 0)) (intOf (v9 vs 1)))
theorem yn:bg PG 172 Cv:=bQ ak.nil aK.nil fun w=>ag3 (intOf (g0 3 (w 0))) (intOf (g0 3 (w 1)))
def yo (s:yg):Option (Bool):=(cond (decide (s.x >= (-(131072:Int)))) (cond (decide (s.x<=131072)) (cond (decide (s.y >= (-(131072:Int)))) (cond (decide (s.y<=131072)) (cond (decide (s.d >= 1)) (cond (decide (s.d<=65536)) (cond (decide (s.u >= 0)) (cond (decide (s.u<=255)) (cond (decide (s.v >= 0)) (some ((decide (s.v<=255)))) (some (false))) (some (false))) (some (false))) (some (false))) (some (false))) (some (false))) (some (false))) (some (false))) (some (false)))
theorem ai7 (s:yg):gn [] [] 206 [aaP s] = (yo s).map kB:=by
 unfold yo
 try simp only [aV]
 kernel_rfl
def af2:List KV->KR KV:=bk PG 206 (bn kB fun vs=>yo (ai2 (v9 vs 0)))
theorem ag4:bg PG 206 af2:=bQ ak.nil aK.nil fun w=>ai7 (ai2 (g0 61 (w 0)))
def PF (t:aW):=yo t.e0
def PH (t:aW):=yo t.e1
def PI (t:aW):=yo t.e2
def BO (t:aW):Option (Bool):=(cond (PF t).isSome (cond ((PF t).getD default) (cond (PH t).isSome (cond ((PH t).getD default) (cond (PI t).isSome (some (((PI t).getD default))) none) (some (false))) none) (some (false))) none)
theorem ai8 (t:aW):gn [(206,af2)] [] 168 [fN t] = (BO t).map kB:=by
 unfold BO
 try simp only [aV]
 kernel_rfl
def WZ:List KV->KR KV:=bk PG 168 (bn kB fun vs=>BO (fA (v9 vs 0)))
theorem Vz:bg PG 168 WZ:=bQ (ak.cons ag4 ak.nil) aK.nil fun w=>ai8 (fA (g0 62 (w 0)))
def tB (t:aW):Option (Int):=(some ((az ((az ((az (t.e1.x - t.e0.x)) * (az (t.e2.y - t.e0.y)))) - (az ((az (t.e2.x - t.e0.x)) * (az (t.e1.y - t.e0.y))))))))
theorem af3 (t:aW):gn [] [] 169 [fN t] = (tB t).map (kI .i64):=by
 unfold tB
 kernel_rfl
def Ib:List KV->KR KV:=bk PG 169 (bn (kI .i64) fun vs=>tB (fA (v9 vs 0)))
theorem GQ:bg PG 169 Ib:=bQ ak.nil aK.nil fun w=>af3 (fA (g0 62 (w 0)))
def Ju (t:aW) (cz:Int):=BO t
def Jv (t:aW) (cz:Int):=tB t
def Ba (t:aW) (cz:Int):Option (Bool×Int):=(cond (decide (((Jv t cz).getD default) < 0)) (some ((cz != 1),0)) (some (false,0)))
def zm (t:aW) (cz:Int):Option (Bool×Int):=(cond (Ju t cz).isSome (cond (!((Ju t cz).getD default)) (some (false,8)) (cond (decide (cz > 2)) (some (false,2)) (cond (decide (((Jv t cz).getD default) > 0)) (cond (cz != 2) (some (true,0))
    (Ba t cz))
   (Ba t cz)))) none)
theorem af4 (t:aW) (cz:Int):gn [(169,Ib),(168,WZ)] [] 109 [fN t,(kI .u8) cz] = (zm t cz).map (fun (r:Bool×Int)=>KV.iv [kB r.1,(kI .i64) r.2]):=by
 unfold zm Ba
 try simp only [aV]
 kernel_rfl
def PJ:List KV->KR KV:=bk PG 109 (bn (fun (r:Bool×Int)=>KV.iv [kB r.1,(kI .i64) r.2]) fun vs=>zm (fA (v9 vs 0)) (intOf (v9 vs 1)))
theorem QA:bg PG 109 PJ:=bQ (ak.cons GQ (ak.cons Vz ak.nil)) aK.nil fun w=>af4 (fA (g0 62 (w 0))) (intOf (g0 5 (w 1)))
def NN (t:aW):=tB t
def uW (t:aW):Option (aW):=(cond (decide (((NN t).getD default) < 0)) (some (⟨t.e0,t.e2,t.e1⟩)) (some (t)))
theorem abb (t:aW):gn [(169,Ib)] [] 110 [fN t] = (uW t).map fN:=by
 unfold uW
 try simp only [aV]
 kernel_rfl
def Jw:List KV->KR KV:=bk PG 110 (bn fN fun vs=>uW (fA (v9 vs 0)))
theorem KW:bg PG 110 Jw:=bQ (ak.cons GQ ak.nil) aK.nil fun w=>abb (fA (g0 62 (w 0)))
def GS (c:aE) (x:Int) (z:Int):=oy (az ((az (8 * c.qY)) * x)) z
def Ax (c:aE) (x:Int) (z:Int):Option (Int):=(cond (GS c x z).isSome (some ((az (((GS c x z).getD default)+(az (4 * c.w)))))) none)
theorem ac7 (c:aE) (x:Int) (z:Int):gn [(172,Cv)] [] 166 [nX c,(kI .i64) x,(kI .i64) z] = (Ax c x z).map (kI .i64):=by
 unfold Ax
 try simp only [aV]
 kernel_rfl
def VA:List KV->KR KV:=bk PG 166 (bn (kI .i64) fun vs=>Ax (fD (v9 vs 0)) (intOf (v9 vs 1)) (intOf (v9 vs 2)))
theorem abc:bg PG 166 VA:=bQ (ak.cons yn ak.nil) aK.nil fun w=>ac7 (fD (g0 31 (w 0))) (intOf (g0 3 (w 1))) (intOf (g0 3 (w 2)))
def Ml (c:aE) (y:Int) (z:Int):=oy (az ((az (8 * c.qY)) * y)) z
def Gi (c:aE) (y:Int) (z:Int):Option (Int):=(cond (Ml c y z).isSome (some ((az ((az (4 * c.h)) - ((Ml c y z).getD default))))) none)
theorem ag5 (c:aE) (y:Int) (z:Int):gn [(172,Cv)] [] 167 [nX c,(kI .i64) y,(kI .i64) z] = (Gi c y z).map (kI .i64):=by
 unfold Gi
 try simp only [aV]
 kernel_rfl
def acE:List KV->KR KV:=bk PG 167 (bn (kI .i64) fun vs=>Gi (fD (v9 vs 0)) (intOf (v9 vs 1)) (intOf (v9 vs 2)))
theorem af5:bg PG 167 acE:=bQ (ak.cons yn ak.nil) aK.nil fun w=>ag5 (fD (g0 31 (w 0))) (intOf (g0 3 (w 1))) (intOf (g0 3 (w 2)))
def Bb (c:aE) (p:bK):=Ax c p.p.x p.p.z
def Bc (c:aE) (p:bK):=Gi c p.p.y p.p.z
def ru (c:aE) (p:bK):Option (yg):=(cond (Bb c p).isSome (cond (Bc c p).isSome (cond (!(decide (p.p.z=0))) (some (⟨((Bb c p).getD default),((Bc c p).getD default),(az (Int.tdiv 16777216 p.p.z)),p.u,p.v⟩)) none) none) none)
theorem ac8 (c:aE) (p:bK):gn [(167,acE),(166,VA)] [] 108 [nX c,nV p] = (ru c p).map aaP:=by
 unfold ru
 try simp only [aV]
 kernel_rfl
def Mm:List KV->KR KV:=bk PG 108 (bn aaP fun vs=>ru (fD (v9 vs 0)) (jE (v9 vs 1)))
theorem NP:bg PG 108 Mm:=bQ (ak.cons af5 (ak.cons abc ak.nil)) aK.nil fun w=>ac8 (fD (g0 31 (w 0))) (jE (g0 177 (w 1)))
def Sz (row:kq) (v:gY):=oy (az ((az ((az (row.e0 * v.x))+(az (row.e1 * v.y))))+(az (row.e2 * v.z)))) 256
def Cw (row:kq) (v:gY):Option (Int):=(cond (Sz row v).isSome (some (((Sz row v).getD default))) none)
theorem alo (row:kq) (v:gY):gn [(172,Cv)] [] 204 [yh row,pn v] = (Cw row v).map (kI .i64):=by
 unfold Cw
 try simp only [aV]
 kernel_rfl
def ah4:List KV->KR KV:=bk PG 204 (bn (kI .i64) fun vs=>Cw (Ga (v9 vs 0)) (pY (v9 vs 1)))
theorem ai9:bg PG 204 ah4:=bQ (ak.cons yn ak.nil) aK.nil fun w=>alo (Ga (g0 28 (w 0))) (pY (g0 27 (w 1)))
def GU (m:da) (v:gY):=Cw m.e0 v
def GV (m:da) (v:gY):=Cw m.e1 v
def GW (m:da) (v:gY):=Cw m.e2 v
def Ay (m:da) (v:gY):Option (gY):=(cond (GU m v).isSome (cond (GV m v).isSome (cond (GW m v).isSome (some (⟨((GU m v).getD default),((GV m v).getD default),((GW m v).getD default)⟩)) none) none) none)
theorem ac9 (m:da) (v:gY):gn [(204,ah4)] [] 164 [Gb m,pn v] = (Ay m v).map pn:=by
 unfold Ay
 try simp only [aV]
 kernel_rfl
def VB:List KV->KR KV:=bk PG 164 (bn pn fun vs=>Ay (rm (v9 vs 0)) (pY (v9 vs 1)))
theorem abd:bg PG 164 VB:=bQ (ak.cons ai9 ak.nil) aK.nil fun w=>ac9 (rm (g0 29 (w 0))) (pY (g0 27 (w 1)))
def FV (c:aE) (v:gY):=Ay c.m ⟨(az (v.x - c.pos.x)),(az (v.y - c.pos.y)),(az (v.z - c.pos.z))⟩
def vu (c:aE) (v:gY):Option (gY):=(cond (FV c v).isSome (some (((FV c v).getD default))) none)
theorem ag6 (c:aE) (v:gY):gn [(164,VB)] [] 106 [nX c,pn v] = (vu c v).map pn:=by
 unfold vu
 try simp only [aV]
 kernel_rfl
def SA:List KV->KR KV:=bk PG 106 (bn pn fun vs=>vu (fD (v9 vs 0)) (pY (v9 vs 1)))
theorem SB:bg PG 106 SA:=bQ (ak.cons abd ak.nil) aK.nil fun w=>ag6 (fD (g0 31 (w 0))) (pY (g0 27 (w 1)))
def nh (n:Int) (dn:Int):Option (Bool):=(cond (decide (n >= (az (0 - dn)))) (some ((decide (n<=dn)))) (some (false)))
theorem alp (n:Int) (dn:Int):gn [] [] 180 [(kI .i64) n,(kI .i64) dn] = (nh n dn).map kB:=by
 unfold nh
 try simp only [aV]
 kernel_rfl
def abe:List KV->KR KV:=bk PG 180 (bn kB fun vs=>nh (intOf (v9 vs 0)) (intOf (v9 vs 1)))
theorem Zo:bg PG 180 abe:=bQ ak.nil aK.nil fun w=>alp (intOf (g0 3 (w 0))) (intOf (g0 3 (w 1)))
def PK (v:gY) (dn:Int):=nh v.x dn
def PL (v:gY) (dn:Int):=nh v.y dn
def PM (v:gY) (dn:Int):=nh v.z dn
def BP (v:gY) (dn:Int):Option (Bool):=(cond (PK v dn).isSome (cond ((PK v dn).getD default) (cond (PL v dn).isSome (cond ((PL v dn).getD default) (cond (PM v dn).isSome (some (((PM v dn).getD default))) none) (some (false))) none) (some (false))) none)
theorem aja (v:gY) (dn:Int):gn [(180,abe)] [] 130 [pn v,(kI .i64) dn] = (BP v dn).map kB:=by
 unfold BP
 try simp only [aV]
 kernel_rfl
def Jx:List KV->KR KV:=bk PG 130 (bn kB fun vs=>BP (pY (v9 vs 0)) (intOf (v9 vs 1)))
theorem FW:bg PG 130 Jx:=bQ (ak.cons Zo ak.nil) aK.nil fun w=>aja (pY (g0 27 (w 0))) (intOf (g0 3 (w 1)))
def Mn (m:da) (dn:Int):=nh m.e0.e0 dn
def Mo (m:da) (dn:Int):=nh m.e0.e1 dn
def Mp (m:da) (dn:Int):=nh m.e0.e2 dn
def Mq (m:da) (dn:Int):=nh m.e1.e0 dn
def Mr (m:da) (dn:Int):=nh m.e1.e1 dn
def Ms (m:da) (dn:Int):=nh m.e1.e2 dn
def Mt (m:da) (dn:Int):=nh m.e2.e0 dn
def Mu (m:da) (dn:Int):=nh m.e2.e1 dn
def Mv (m:da) (dn:Int):=nh m.e2.e2 dn
def Cx (m:da) (dn:Int):Option (Bool):=(cond (Mn m dn).isSome (cond (!((Mn m dn).getD default)) (some (false)) (cond (Mo m dn).isSome (cond (!((Mo m dn).getD default)) (some (false)) (cond (Mp m dn).isSome (cond (!((Mp m dn).getD default)) (some (false)) (cond (Mq m dn).isSome (cond (!((Mq m dn).getD default)) (some (false)) (cond (Mr m dn).isSome (cond (!((Mr m dn).getD default)) (some (false)) (cond (Ms m dn).isSome (cond (!((Ms m dn).getD default)) (some (false)) (cond (Mt m dn).isSome (cond (!((Mt m dn).getD default)) (some (false)) (cond (Mu m dn).isSome (cond (!((Mu m dn).getD default)) (some (false)) (cond (Mv m dn).isSome (cond (!((Mv m dn).getD default)) (some (false)) (some (true))) none)) none)) none)) none)) none)) none)) none)) none)) none)
theorem ag7 (m:da) (dn:Int):gn [(180,abe)] [] 154 [Gb m,(kI .i64) dn] = (Cx m dn).map kB:=by
 unfold Cx
 try simp only [aV]
 kernel_rfl
def acF:List KV->KR KV:=bk PG 154 (bn kB fun vs=>Cx (rm (v9 vs 0)) (intOf (v9 vs 1)))
theorem af6:bg PG 154 acF:=bQ (ak.cons Zo ak.nil) aK.nil fun w=>ag7 (rm (g0 29 (w 0))) (intOf (g0 3 (w 1)))
def Jy (c:aE):=BP c.pos 4096
def Jz (c:aE):=Cx c.m 256
def zn (c:aE):Option (Int):=(cond (Jy c).isSome (cond (!((Jy c).getD default)) (some (150)) (cond (Jz c).isSome (cond (!((Jz c).getD default)) (some (150)) (cond (decide (c.qY < 1)) (some (150)) (cond (decide (c.qY > 64)) (some (150)) (cond (decide (c.au < 256)) (some (150)) (cond (decide (c.au > 4096)) (some (150)) (cond (decide (c.w < 1)) (some (150)) (cond (decide (c.w > 64)) (some (150)) (cond (decide (c.h < 1)) (some (150)) (cond (decide (c.h > 64)) (some (150)) (some (0))))))))))) none)) none)
theorem af7 (c:aE):gn [(154,acF),(130,Jx)] [] 89 [nX c] = (zn c).map (kI .i64):=by
 unfold zn
 try simp only [aV]
 kernel_rfl
def Zp:List KV->KR KV:=bk PG 89 (bn (kI .i64) fun vs=>zn (fD (v9 vs 0)))
theorem ada:bg PG 89 Zp:=bQ (ak.cons af6 (ak.cons FW ak.nil)) aK.nil fun w=>af7 (fD (g0 31 (w 0)))
end
end Go.Proofs.YtchbpckkmgcgkaaGreat.b
end
