/- Part of the proof of WorldMat: the machine, shown to be the model's, and plain models. No conditions. -/
import Derived.Test.YtckbdndhmcoihaaGreatFp
import Derived.OpenShut
import Derived.ChangeArms
import Derived.WideShapes
import Derived.Below
import Derived.KernelRfl
import Derived.Test.YtckbdndhmcoihaaGreatProg
set_option linter.unusedSimpArgs false
set_option linter.unusedVariables false
section
namespace Go.K
open Go Go.aB
mutual
def Td:KV->Prop
 | .int k n=>(Lit.int k n).wf=true
 | .str s=>s.size<=maxLen
 | .ts _ _ n es _=>n<=maxLen/\C8 es
 | .agg cs=>C8 cs
 | _=>True
def C8:List KV->Prop
 | []=>True
 | v::vs=>Td v/\C8 vs
end
theorem Hw:∀ {a b:List KV},C8 a->C8 b->C8 (a++b)
 | [],_,_,h=>h
 | x::a,b,h,k=>by
  simp only [C8] at h;exact ⟨h.1,Hw h.2 k⟩
theorem aaW:∀ {l:List KV},C8 l->∀ v∈l,Td v
 | [],_,v,h=>by simp at h
 | x::l,h,v,hv=>by
  simp only [C8] at h;rcases fA.1 hv with rfl | hv
  ·exact h.1
  ·exact aaW h.2 v hv
structure Te (P:Program) (W:World) (E:Env) (B:St) (ρ:Ren):Prop where
 kA:vB ρ B W.heap.size W
 k:fX P E .empty B
 κ:∀ b,E.κ b=none
 wF:∀ b o,B.get b=some o->o.gf=false/\o.nB=none
 α:∀ b,E.α b=none
def Env.none:Env:=⟨fun _=>.none,fun _=>.none,fun _=>.none,fun _=>.none⟩
theorem NU.empty {P:Program} {E:Env} {B:St} (tD:∀ b,E.α b=none):NU P E .empty B:=by
 have hn:∀ b o,¬ aw.empty.get b=some o:=fun b o hb=>by simp [aw.empty,aw.get] at hb
 exact ⟨fun b v hb=>(hn b _ hb).elim,fun b v hb=>(hn b _ hb).elim,fun x ⟨b,v,_,_,hb,_⟩=>(hn b _ hb).elim,fun b c v u x L N L' N' hb=>(hn b _ hb).elim,fun b c v u x y L N L' N' cs e own g k cu e' rH k' hb=>(hn b _ hb).elim,fun b x _=>tD b,fun b p e=>by rw [tD b] at e; simp at e,fun b x L N e=>by rw [tD b] at e; simp at e,fun b v x L N cs e own g k hb=>(hn b _ hb).elim,fun b v hb=>(hn b _ hb).elim⟩
theorem Te.start (P:Program) (W:World):Te P W .none .empty (Ik []):=by
 refine ⟨vB.empty W,⟨?_,?_,?_,?_,?_,?_,?_,?_,?_,?_,?_,?_,?_,?_,.empty fun _=>rfl⟩,fun _=>rfl,fun b o h=>by simp [St.get,St.empty] at h,fun _=>rfl⟩
 ·intro b cs cg h; simp [aw.empty,aw.get] at h
 ·intro b cs cg h; simp [aw.empty,aw.get] at h
 ·intro b r h; simp [Env.none] at h
 ·intro b r h; simp [Env.none] at h
 ·intro b c r h; simp [Env.none] at h
 ·intro b c r _ _ _ _ _ _ h; simp [Env.none] at h
 ·intro b r h; simp [Env.none] at h
 ·intro b r h; simp [Env.none] at h
 ·intro b o h; simp [aw.empty,aw.get] at h
 ·intro b r h; simp [Env.none] at h
 ·intro b r h; simp [Env.none] at h
 ·intro b r h; simp [Env.none] at h
 ·intro g _; simp [St.members,St.empty]
 ·intro g x h; simp [St.members,St.empty] at h
theorem Te.add {P:Program} {W:World} {E:Env} {B:St} {ρ:Ren} (h:Te P W E B ρ) {cs:List Value} {l:aB.Loc}
  (hc:∀ (i:Nat) (v:Value),cs[i]? = some v->∃ v',W.cell? ⟨l.cb,l.eB+i,.none⟩=some v'/\VR ρ v v'/\scalar v=true) (hl:l.cb < W.heap.size) (hf:l.eB+cs.length<=l.CN) :
  Te P W (E.ik B.next ⟨cs,l.cg,false,.none⟩) (B.new (.row cs l.cg false .none)) (ρ.set B.next l)/\E.le (E.ik B.next ⟨cs,l.cg,false,.none⟩)/\ρ.le (ρ.set B.next l):=by
 have hle:E.le (E.ik B.next ⟨cs,l.cg,false,.none⟩):=⟨fun _ _ e=>e,fun _ _ e=>e,fun b r e=>by
  have:=h.k.nR b r e;simp only [Env.ik]; rw [av (by omega)]; exact e,fun _ _ e=>e⟩
 have mz:=h.kA.NG l;have pg:∀ b o,(B.new (.row cs l.cg false .none)).get b=some o->(b=B.next/\o = .row cs l.cg false .none)\/(b≠B.next/\B.get b=some o):=by
  intro b o hb;rw [St.dz] at hb;split at hb
  ·rename_i e; simp at hb; exact .inl ⟨e,hb.symm⟩
  ·rename_i e; exact .inr ⟨e,hb⟩
 have akP:∀ b o,(B.new (.row cs l.cg false .none)).get b=some o->o.gf=false/\o.nB = .none:=by
  intro b o hb;rcases pg b o hb with ⟨_,rfl⟩ | ⟨_,hb⟩
  ·exact ⟨rfl,rfl⟩
  ·exact h.wF b o hb
 refine ⟨⟨⟨⟨?_,?_,?_,?_,?_,?_⟩,?_,h.kA.size,h.kA.JO.mono mz⟩,?_,h.κ,akP,h.α⟩,hle,mz⟩
 ·intro b nK cg own cp hb
  rcases pg b _ hb with ⟨rfl,e⟩ | ⟨de,hb⟩
  ·simp only [cO.row.injEq] at e
   obtain ⟨rfl,rfl,rfl,rfl⟩:=e;refine ⟨l,by simp [Ren.set],⟨fun i v hi=>?_,fun _=>hl,fun e=>by simp at e,fun e=>by simp at e,hf,fun e=>by simp at e,rfl,hl,fun e=>by simp at e⟩⟩;obtain ⟨v',h1,h2,h3⟩:=hc i v hi;exact ⟨v',h1,h2.mono mz,h3⟩
  ·obtain ⟨l',h1,h2⟩:=h.kA.rel.row b nK cg own cp hb
   exact ⟨l',mz _ _ h1,⟨fun i v hi=>by obtain ⟨v',q1,q2,q3⟩:=h2.cells i v hi; exact ⟨v',q1,q2.mono mz,q3⟩,h2.wF,h2.gf,h2.there,h2.fits,h2.ends,h2.cg,h2.pE,h2.mark⟩⟩
 ·intro b es hb
  have:=(akP b _ hb).1;simp [cO.gf] at this
 ·intro b s pos hb
  have:=(akP b _ hb).1;simp [cO.gf] at this
 ·intro b st e t ps a c hb
  have:=(akP b _ hb).1;simp [cO.gf] at this
 ·intro b1 b2 o1 o2 l1 l2 _ h1 _ h3
  have:=(akP b1 _ h1).1;rw [h3] at this; simp at this
 ·intro b o bA f hb hk
  have:=(akP b _ hb).2;rw [hk] at this; simp at this
 ·intro b l' hb
  rw [St.cC];simp only [Ren.set] at hb;split at hb
  ·omega
  ·have:=h.kA.lV b l' hb; omega
 ·refine ⟨?_,?_,?_,?_,?_,?_,?_,?_,?_,?_,?_,?_,?_,?_,.empty h.α⟩
  ·intro b cs cg h; simp [aw.empty,aw.get] at h
  ·intro b cs cg h; simp [aw.empty,aw.get] at h
  ·intro b r hb
   simp only [Env.ik] at hb;split at hb
   ·rename_i e
    simp at hb;subst hb e;simp
   ·have:=h.k.nR b r hb
    rw [St.dz,av (by omega)];exact h.k.z b r hb
  ·intro b x hb; have hb:E.κ b=some x:=hb; rw [h.κ b] at hb; simp at hb
  ·exact h.k.inj
  ·exact h.k.kQ
  ·exact h.k.lV
  ·exact h.k.nQ
  ·exact h.k.live
  ·intro b x hb; have:=h.k.iV b x hb; rw [St.cC]; omega
  ·intro b r hb
   simp only [Env.ik] at hb;rw [St.cC];split at hb
   ·omega
   ·have:=h.k.nR b r hb; omega
  ·intro b g hb; have:=h.k.lr b g hb; rw [St.cC]; omega
  ·intro g hg; rw [St.cC] at hg; rw [St.la]; exact h.k.fresh g (by omega)
  ·intro g x hx; rw [St.la] at hx; rw [St.cC]; have:=h.k.mem g x hx; omega
def agB (P:Program):Nat->List Field->Option Nat
 | off,[]=>some off
 | off,f::fs=>cond (Nat.beq f.offset off) (agB P (off+P.cellsOf f.type) fs) .none
def C9 (P:Program):Nat->TypeId->Bool
 | 0,_=>false
 | n+1,t=>match P.underlying t with
  | some (.int _) | some .bool | some .string=>true
  | some (.slice e)=>Nat.ble 1 (P.cellsOf e)&&C9 P n e&&(match lay P 12 e with
   | some l=>Nat.beq l.ks.length (P.cellsOf e)&&(l.agg||Nat.beq l.ks.length 1)
   | .none=>false)
  | some (.struct fs)=>fs.toList.all (fun f=>C9 P n f.type)&&(match agB P 0 fs.toList with
   | some k=>Nat.beq k (P.cellsOf t)
   | .none=>false)
  | some (.array len e)=>C9 P n e&&Nat.beq (P.cellsOf t) (len * P.cellsOf e)
  | _=>false
def agC (W:World) (cs:List Value):Prop:=∀ a n c,Value.slice (some a) n c∈cs->0 < W.heap.size
def Got (P:Program) (W:World) (E:Env) (_:St) (ρ:Ren) (cs:List Value) (K:List KV->Prop):Prop:=
 ∃ E' B' bd ks,Te P W E' B' bd/\E.le E'/\ρ.le bd/\ug P E' bd ks cs/\C8 ks/\K ks
def ae8 {H:Type} (enc:TypeId×Value->H) (P:Program) (W:World) (n:Nat):Prop:=
 ∀ t,C9 P n t=true->∀ (fuel:Nat) (cs:List Value) (x:DataW H×List MemPlace) (E:Env) (B:St) (ρ:Ren),DataW.trod enc P W 0 (fun _=>true) true fuel t cs=some x->agC W cs->Te P W E B ρ->
  Got P W E B ρ cs fun ks=>∀ m l,lay P m t=some l->aK l.ks ks=true
section
variable {H:Type} {enc:TypeId×Value->H} {P:Program} {W:World} {E:Env} {B:St} {ρ:Ren}
theorem ug.append {E:Env} {ρ:Ren} {a b:List KV} {a' b' : List Value} (h:ug P E ρ a a') (k:ug P E ρ b b'):ug P E ρ (a++b) (a'++b'):=by
 obtain ⟨m,h1,h2⟩:=h;obtain ⟨l,h3,h4⟩:=k;exact ⟨m++l,h1.append h3,h2.append h4⟩
theorem ug.mono {E E' : Env} {ρ bd:Ren} {a:List KV} {a' : List Value} (h:ug P E ρ a a') (hE:E.le E') (mz:ρ.le bd):ug P E' bd a a':=by
 obtain ⟨m,h1,h2⟩:=h;exact ⟨m,h1.mono hE,h2.mono mz⟩
theorem ug.len {E:Env} {ρ:Ren} {a:List KV} {a' : List Value} (h:ug P E ρ a a'):a'.length=a.length:=by
 obtain ⟨m,h1,h2⟩:=h;rw [h2.length,h1.length]
theorem Ln:∀ {ks:List CK} {vs:List KV},aK ks vs=true->vs.length=ks.length
 | [],[],_=>rfl
 | [],_::_,h=>by simp [aK] at h
 | _::_,[],h=>by simp [aK] at h
 | k::ks,v::vs,h=>by
  simp only [aK,aA] at h;simp [Ln h.2]
theorem Lo:∀ {ks ls:List CK} {vs us:List KV},aK ks vs=true->aK ls us=true->aK (ks++ls) (vs++us)=true
 | [],_,[],_,_,h=>h
 | [],_,_::_,_,h,_=>by simp [aK] at h
 | _::_,_,[],_,h,_=>by simp [aK] at h
 | k::ks,ls,v::vs,us,h,h'=>by
  simp only [aK,aA] at h;simp only [List.cons_append,aK,aA];exact ⟨h.1,Lo h.2 h'⟩
theorem agC.sub {W:World} {cs ds:List Value} (h:agC W cs) (k:∀ v∈ds,v∈cs):agC W ds:=fun a n c hm=>h a n c (k _ hm)
theorem agD {cs:List Value} {i n:Nat} : ∀ v∈(cs.drop i).take n,v∈cs:=fun _ h=>List.mem_of_mem_drop (List.mem_of_mem_take h)
theorem acI (cs:List Value) (i m n:Nat):(cs.drop i).take m++(cs.drop (i+m)).take n=(cs.drop i).take (m+n):=by
 rw [List.take_add,List.drop_drop]
theorem Yi {n:Nat} (IH:ae8 enc P W n) {fuel:Nat} {cs:List Value} (hp:agC W cs):∀ (fs:List Field) (off k:Nat) (E:Env) (B:St) (ρ:Ren),Te P W E B ρ->agB P off fs=some k->k<=cs.length->(∀ f∈fs,C9 P n f.type=true)->
  (∀ f∈fs,∃ x,DataW.trod enc P W 0 (fun _=>true) true fuel f.type ((cs.drop f.offset).take (P.cellsOf f.type))=some x)->
  off<=k/\Got P W E B ρ ((cs.drop off).take (k - off)) fun ks=>∀ m l,Qt (lay P m) fs off=some l->aK l ks=true
 | [],off,k,E,B,ρ,hi,ht,hk,_,_=>by
  simp [agB] at ht; subst ht;refine ⟨aU _,E,B,ρ,[],hi,Env.le_refl _,Ren.le_refl _,?_,trivial,?_⟩
  ·rw [Nat.sub_self,List.take_zero]; exact ⟨[],.nil,.nil⟩
  ·intro m l h; simp [Qt] at h; subst h; rfl
 | f::fs,off,k,E,B,ρ,hi,ht,hk,he,hx=>by
  unfold agB at ht;cases hb:Nat.beq f.offset off with
  | false=>rw [hb] at ht; simp at ht
  | true=>
   rw [hb,ak] at ht;have Pg:=bu hb;obtain ⟨x,Ho⟩:=hx f (by simp);obtain ⟨E1,B1,od,ks1,h1,h2,h3,h4,h5,h6⟩:=IH f.type (he f (by simp)) fuel _ x E B ρ Ho (hp.sub agD) hi;obtain ⟨hle,E2,B2,yD,ks2,q1,q2,q3,q4,q5,q6⟩:=Yi IH hp fs (off+P.cellsOf f.type) k E1 B1 od h1 ht hk (fun g hg=>he g (by simp [hg])) (fun g hg=>hx g (by simp [hg]));have hlen:ks1.length=P.cellsOf f.type:=by
    rw [<- h4.len,nH,List.length_drop,Pg];omega
   refine ⟨by omega,E2,B2,yD,ks1++ks2,q1,Env.le_trans h2 q2,Ren.le_trans h3 q3,?_,Hw h5 q5,?_⟩
   ·have:=(h4.mono q2 q3).append q4
    rw [Pg,acI] at this;rw [show k - off=P.cellsOf f.type+(k - (off+P.cellsOf f.type)) by omega];exact this
   ·intro m l hl
    unfold Qt at hl;rw [hb,ak] at hl;obtain ⟨l1,hl1,hl⟩:=dh.1 hl;obtain ⟨l2,ni,rfl⟩:=cS.1 hl;have CC:=h6 m l1 hl1;have awI:=Ln CC;rw [<- awI,hlen] at ni;exact Lo CC (q6 m l2 ni)
theorem acJ {n:Nat} (IH:ae8 enc P W n) {fuel len c:Nat} {e:TypeId} {cs:List Value} (hp:agC W cs) (he:C9 P n e=true) (hc:P.cellsOf e=c) (hk:len * c<=cs.length) (hx:∀ i,i < len->∃ x,DataW.trod enc P W 0 (fun _=>true) true fuel e ((cs.drop (i * c)).take c)=some x) (hi:Te P W E B ρ):∀ j,j<=len->
  Got P W E B ρ (cs.take (j * c)) fun ks=>∀ m l,lay P m e=some l->aK (dI l.ks j) ks=true
 | 0,_=>by
  refine ⟨E,B,ρ,[],hi,Env.le_refl _,Ren.le_refl _,?_,trivial,fun m l _=>rfl⟩;rw [Nat.zero_mul,List.take_zero]; exact ⟨[],.nil,.nil⟩
 | j+1,hj=>by
  obtain ⟨E1,B1,od,ks1,h1,h2,h3,h4,h5,h6⟩:=acJ IH hp he hc hk hx hi j (by omega);obtain ⟨x,Ho⟩:=hx j (by omega);obtain ⟨E2,B2,yD,ks2,q1,q2,q3,q4,q5,q6⟩:=IH e he fuel _ x E1 B1 od Ho (hp.sub agD) h1;refine ⟨E2,B2,yD,ks1++ks2,q1,Env.le_trans h2 q2,Ren.le_trans h3 q3,?_,Hw h5 q5,?_⟩
  ·have:=(h4.mono q2 q3).append q4
   have e:=acI cs 0 (j * c) c;simp only [List.drop_zero,bM] at e;rw [e] at this;rw [show (j+1) * c=j * c+c by rw [Nat.succ_mul]];exact this
  ·intro m l hl
   have:dI l.ks (j+1)=dI l.ks j++l.ks:=by
    have comm:∀ n,l.ks++dI l.ks n=dI l.ks n++l.ks:=by
     intro n
     induction n with
     | zero=>simp [dI]
     | succ n ih=>simp only [dI,List.append_assoc]; rw [ih]
    rw [<- comm]; rfl
   rw [this];exact Lo (h6 m l hl) (q6 m l hl)
theorem Yj {a:Addr} {i k:Nat} {v:Value} (h:W.cell? ((a.add i).add k)=some v):W.cell? ⟨a.block,a.off+i+k,.none⟩=some v/\a.block < W.heap.size/\(i+k=0->a.spot = .none):=by
 have hb:((a.add i).add k).block=a.block:=by unfold Addr.add; split <;> split <;> rfl
 have ho:((a.add i).add k).off=a.off+i+k:=by
  unfold Addr.add;split <;> split <;> simp_all
 have hs:((a.add i).add k).spot = .none:=by
  unfold World.cell? at h;split at h
  ·split at h
   ·simp at h
   ·rename_i hs; simpa using hs
  ·simp at h
 have he:(a.add i).add k=⟨a.block,a.off+i+k,.none⟩:=by
  generalize (a.add i).add k=p at hb ho hs;obtain ⟨b,o,s⟩:=p;simp at hb ho hs;simp [hb,ho,hs]
 refine ⟨he ▸ h,?_,fun e=>?_⟩
 ·rw [he] at h
  unfold World.cell? at h;split at h
  ·rename_i heq
   exact (vK.1 heq).1
  ·simp at h
 ·have h1:i=0:=by omega
  have h2:k=0:=by omega
  subst h1 h2;simpa [Addr.add] using hs
theorem agE {a:Addr} {n:Nat} {cs:List Value} (h:W.cells? 0 a n=some cs):cs.length=n/\∀ (k:Nat) (v:Value),cs[k]? = some v->W.cell? (a.add k)=some v:=by
 unfold World.cells? at h;rw [aY (E7 _)] at h;have hl:=mapM_some_length h;simp at hl;refine ⟨hl,fun k v hv=>?_⟩;have hk:k < n:=by rw [<- hl]; exact (dq.1 hv).1
 rw [mapM_some_get h k k (by simp [hk])];exact hv
theorem aru {ks:List KV} {agg:Bool} (h:C8 ks):Td (PY agg ks):=by
 cases agg with
 | true=>exact h
 | false=>
  match ks,h with
  | [],_=>exact trivial
  | v::vs,h=>exact h.1
theorem Uh {E:Env} {ρ:Ren} : ∀ {ks:List CK} {vs:List KV} {m:List Value},aK ks vs=true->bC P E vs m->∀ v∈m,scalar v=true
 | [],[],m,_,h,v,hv=>by rw [h.cw] at hv; simp at hv
 | [],_::_,_,h,_,_,_=>by simp [aK] at h
 | _::_,[],_,h,_,_,_=>by simp [aK] at h
 | k::ks,u::vs,m,h,hm,v,hv=>by
  simp only [aK,aA] at h;obtain ⟨y,ys,rfl,h1,h2⟩:=hm.cons_inv;rcases fA.1 hv with rfl | hv
  ·refine h1.scalar ?_
   have:=h.1;cases u <;> first | rfl | (cases k <;> simp [kindOk] at this)
  ·exact Uh (ρ:=ρ) h.2 h2 v hv
theorem acK {n:Nat} (IH:ae8 enc P W n) {fuel len c:Nat} {e:TypeId} {l:Lay} {a:Addr} (he:C9 P n e=true) (hl:lay P 12 e=some l) (Hh:l.ks.length=c) (ha:l.agg=true\/l.ks.length=1) (hc:P.cellsOf e=c) (hc1:1<=c)
  (hx:∀ i,i < len->∃ x,(W.cells? 0 (a.add (i * c)) c).bind (DataW.trod enc P W 0 (fun _=>true) true fuel e)=some x) (hi:Te P W E B ρ):∀ j,j<=len->
  ∃ E' B' bd es us fl,Te P W E' B' bd/\E.le E'/\ρ.le bd/\es.length=j/\bC P E' es us/\ga l es=true/\C8 es/\fl.length=j * c/\qW c 0 fl us/\
   (∀ (i:Nat) (v:Value),fl[i]? = some v->∃ v',W.cell? ⟨a.block,a.off+i,.none⟩=some v'/\VR bd v v'/\scalar v=true)/\(0 < j->a.block < W.heap.size/\a.spot = .none)
 | 0,_=>⟨E,B,ρ,[],[],[],hi,Env.le_refl _,Ren.le_refl _,rfl,.nil,rfl,trivial,by simp,fun i x h=>by simp at h,fun i v h=>by simp at h,fun h=>by omega⟩
 | j+1,hj=>by
  obtain ⟨E1,B1,od,es,us,fl,h1,h2,h3,h4,h5,h6,h7,h8,h9,vV,JF⟩:=acK IH he hl Hh ha hc hc1 hx hi j (by omega);obtain ⟨x,Ho⟩:=hx j (by omega);obtain ⟨cs,K0,hx2⟩:=dh.1 Ho;obtain ⟨hlen,pg⟩:=agE K0;have D1:a.block < W.heap.size:=by
   have h0:0 < cs.length:=by rw [hlen]; omega
   exact (Yj (pg 0 _ (dr h0))).2.1
  obtain ⟨E2,B2,yD,ks,q1,q2,q3,⟨m,q4,q4'⟩,q5,q6⟩:=IH e he fuel cs x E1 B1 od hx2 (fun _ _ _ _=>by omega) h1;have hk:=q6 12 l hl;have hml:m.length=c:=by rw [q4.length,Ln hk,Hh]
  have BN:l.agg=true\/m.length=1:=by rw [hml,<- Hh]; exact ha
  have hsc:=Uh (ρ:=ρ) hk q4;have qZ:=af4 hsc BN;have hul:us.length=j:=by rw [h5.length,h4]
  refine ⟨E2,B2,yD,es++[PY l.agg ks],us++[mkE l.agg m],fl++m,q1,Env.le_trans h2 q2,Ren.le_trans h3 q3,by simp [h4],(h5.mono q2).append (.cons (af5 q4 BN) .nil),?_,Hw h7 ⟨aru q5,trivial⟩,?_,?_,?_,fun _=>⟨D1,?_⟩⟩
  ·have:∀ {es:List KV},ga l es=true->ga l (es++[PY l.agg ks])=true:=by
    intro es
    induction es with
    | nil=>intro _; simp [ga,aaK hk ha]
    | cons e es ih=>
     intro h;simp only [ga,aA] at h;simp only [List.cons_append,ga,aA];exact ⟨h.1,ih h.2⟩
   exact this h6
  ·rw [nF,h8,hml,Nat.succ_mul]
  ·intro i y hy
   by_cases hi:i < j
   ·rw [r5 (by omega)] at hy
    obtain ⟨r1,r2⟩:=h9 i y hy;refine ⟨r1,fun k z hz=>?_⟩;have:=r2 k z hz;rw [r5 (dq.1 this).1];exact this
   ·rw [uA (by omega),hul] at hy
    have hij:i=j:=by
     have:=(dq.1 hy).1;simp at this;omega
    subst hij;simp at hy;subst hy;have fZ:(mkE l.agg m).cells.size=c:=by rw [<- Array.length_toList,qZ,hml]
    refine ⟨fZ,fun k z hz=>?_⟩;rw [<- Array.getElem?_toList,qZ] at hz;rw [uA (by rw [h8]; omega),h8,show 0+i * c+k - i * c=k by omega];exact hz
  ·intro i v hv
   by_cases hi:i < fl.length
   ·rw [r5 hi] at hv
    obtain ⟨v',r1,r2,r3⟩:=vV i v hv;exact ⟨v',r1,r2.mono q3,r3⟩
   ·rw [uA (by omega)] at hv
    obtain ⟨v',r1,r2⟩:=q4'.get hv;refine ⟨v',?_,r2,hsc v (jC hv)⟩;have:=(Yj (pg _ _ r1)).1;rw [h8] at this;rw [h8] at hi;rw [show a.off+i=a.off+j * c+(i - j * c) by omega];exact this
  ·by_cases h0:j=0
   ·subst h0
    have h0:0 < cs.length:=by rw [hlen]; omega
    exact (Yj (pg 0 _ (dr h0))).2.2 (by omega)
   ·exact (JF (by omega)).2
theorem an8:∀ n,ae8 enc P W n
 | 0=>fun t ht=>by simp [C9] at ht
 | n+1=>by
  have IH:=an8 n;intro t ht fuel cs x E B ρ hx hp hi;have hn:∀ {m l},lay P m t=some l->∃ m',m=m' + 1:=by
   intro m l h;cases m with
   | zero=>simp [lay] at h
   | succ m=>exact ⟨m,rfl⟩
  unfold C9 at ht;split at ht
  ·rename_i k hu
   obtain ⟨i,rfl,_,hw⟩:=DataW.trod_int hu hx;refine ⟨E,B,ρ,[.int k i],hi,Env.le_refl _,Ren.le_refl _,⟨_,.cons .mkInt .nil,.cons (by simp [VR]) .nil⟩,⟨hw,trivial⟩,fun m l h=>?_⟩;obtain ⟨m',rfl⟩:=hn h;simp only [lay,hu,di] at h;subst h;simp [aK,kindOk]
  ·rename_i hu
   obtain ⟨b,rfl,_⟩:=DataW.trod_bool hu hx;refine ⟨E,B,ρ,[.bool b],hi,Env.le_refl _,Ren.le_refl _,⟨_,.cons .tC .nil,.cons (by simp [VR]) .nil⟩,⟨trivial,trivial⟩,fun m l h=>?_⟩;obtain ⟨m',rfl⟩:=hn h;simp only [lay,hu,di] at h;subst h;simp [aK,kindOk]
  ·rename_i hu
   obtain ⟨s,rfl,_,hw⟩:=DataW.trod_string hu hx;refine ⟨E,B,ρ,[.str s],hi,Env.le_refl _,Ren.le_refl _,⟨_,.cons .mkStr .nil,.cons (by simp [VR]) .nil⟩,⟨hw,trivial⟩,fun m l h=>?_⟩;obtain ⟨m',rfl⟩:=hn h;simp only [lay,hu,di] at h;subst h;simp [aK,kindOk]
  ·rename_i e hu
   simp only [aA] at ht;obtain ⟨⟨za,QM⟩,ht3⟩:=ht;have hc1:=fR za;split at ht3
   ·rename_i l hl
    simp only [aA,uB] at ht3;have Hh:=bu ht3.1;have BN:l.agg=true\/l.ks.length=1:=ht3.2.imp id bu;have hlF:bB P e=l:=by simp [bB,hl]
    have fZ:bD P e=P.cellsOf e:=by rw [bD,hlF,Hh]
    have fin:∀ {ks:List KV} {m:Nat} {l' : Lay} {mk:Mk} {nn:Nat} {es:List KV} {acc:Nat->KV},mk = .any->lay P m t=some l'->ks = [.ts e mk nn es acc]->aK l'.ks ks=true:=by
     intro ks m l' mk nn es acc XT h ue;obtain ⟨m',rfl⟩:=hn h;simp only [lay,hu,di] at h;subst h ue XT;simp [aK,kindOk]
    rcases DataW.trod_slice hu hx with ⟨rfl,_⟩ | ⟨a,len,cap,elems,rest,fu,_,rfl,_,_,hle,aqF,C0,hE,hR,_⟩
    ·refine ⟨E,B,ρ,[.ts e .any 0 [] qV],hi,Env.le_refl _,Ren.le_refl _,⟨[.slice .none 0 0],.cons ?_ .nil,.cons (by simp [VR]) .nil⟩,⟨⟨E7 _,trivial⟩,trivial⟩,fun m l h=>fin rfl h rfl⟩
     simp only [VK];exact ⟨⟨rfl,fun i h=>by omega,rfl⟩,[],.nil,.none,0,rfl,aU _,.inl ⟨rfl,rfl⟩,trivial⟩
    ·have hxs:∀ i,i < len->∃ x,(W.cells? 0 (a.add (i * P.cellsOf e)) (P.cellsOf e)).bind (DataW.trod enc P W 0 (fun _=>true) true fu e)=some x:=by
      intro i h;rw [hE i h];exact ⟨_,dr (by rw [C0]; exact h)⟩
     obtain ⟨E1,B1,od,es,us,fl,h1,h2,h3,h4,h5,h6,h7,h8,h9,vV,JF⟩:=acK IH QM hl Hh BN rfl hc1 hxs hi len (aU _);have Gl:0 < cap->a.block < W.heap.size/\a.spot = .none:=by
      intro h0;by_cases Qn:0 < len
      ·exact JF Qn
      ·have Qn:len=0:=by omega
       subst Qn;obtain ⟨hr1,yp⟩:=hR rfl;have hr3:=yp 0 (by omega);rw [dr (by rw [hr1]; omega)] at hr3;obtain ⟨cu,as2,_⟩:=dh.1 hr3;obtain ⟨hlen,pg⟩:=agE as2;have h0:0 < cu.length:=by rw [hlen]; omega
       have:=Yj (pg 0 _ (dr h0));exact ⟨this.2.1,this.2.2 (by omega)⟩
     have hh:0 < W.heap.size:=hp a len cap (by simp);have hlenes:us.length=len:=by rw [h5.length,h4]
     have awJ:∃ lc:aB.Loc,lc.cg=P.cellsOf e/\lc.cb < W.heap.size/\lc.eB+fl.length<=lc.CN/\(cap≠0->a=⟨lc.cb,lc.eB,.none⟩)/\lc.eB+cap * lc.cg<=lc.CN/\
       (∀ (i:Nat) (v:Value),fl[i]? = some v->∃ v',W.cell? ⟨lc.cb,lc.eB+i,.none⟩=some v'/\VR od v v'/\scalar v=true):=by
      by_cases h0:cap=0
      ·subst h0
       have Qn:len=0:=by omega
       subst Qn;refine ⟨⟨0,0,0,P.cellsOf e⟩,rfl,hh,by simp [h8],fun h=>absurd rfl h,by simp,fun i v hv=>?_⟩;have:fl = []:=by apply List.eq_nil_of_length_eq_zero; simp [h8]
       rw [this] at hv; simp at hv
      ·obtain ⟨p1,p2⟩:=Gl (by omega)
       refine ⟨⟨a.block,a.off,a.off+cap * P.cellsOf e,P.cellsOf e⟩,rfl,p1,?_,fun _=>?_,aU _,vV⟩
       ·rw [h8]; exact Nat.add_le_add_left (Nat.mul_le_mul_right _ hle) _
       ·obtain ⟨b,o,s⟩:=a
        simp at p2;simp [p2]
     obtain ⟨lc,l1,l2,l3,l4,l5,l6⟩:=awJ;obtain ⟨i1,i2,i3⟩:=h1.add l6 l2 l3;refine ⟨_,_,_,[.ts e .any len es (ef es)],i1,Env.le_trans h2 i2,Ren.le_trans h3 i3,⟨[.slice (some ⟨B1.next,0,.none⟩) len len],.cons ?_ .nil,.cons ?_ .nil⟩,⟨⟨by omega,h7⟩,trivial⟩,fun m l h=>fin rfl h rfl⟩
     ·simp only [VK]
      refine ⟨⟨h4.symm,fun i _=>rfl,by rw [hlF]; exact h6⟩,us,h5.mono i2,some ⟨B1.next,0,.none⟩,len,rfl,aU _,.inr ⟨B1.next,0,⟨fl,lc.cg,false,.none⟩,rfl,by simp [Env.ik],by rw [l1,fZ],?_⟩,trivial⟩;rw [fZ];exact h9
     ·simp only [VR]
      exact ⟨trivial,aU _,lc,a,cap,by simp [Ren.set],hle,fun h=>by simpa using l4 h,by simpa using l5,rfl⟩
   ·simp at ht3
  ·rename_i fs hu
   simp only [aA,ig] at ht;split at ht
   ·rename_i k hk
    have hkc:=bu ht.2;obtain ⟨xs,fu,_,_,hlen,hxs,hf⟩:=DataW.trod_struct hu hx;have hff:∀ f∈fs.toList,∃ x,DataW.trod enc P W 0 (fun _=>true) true fu f.type ((cs.drop f.offset).take (P.cellsOf f.type))=some x:=by
     intro f hm;obtain ⟨i,hi'⟩:=List.getElem?_of_mem hm;have hi2:fs[i]? = some f:=by simpa using hi'
     have bG:i < xs.length:=by rw [hxs]; exact (vK.1 hi2).1
     exact ⟨xs[i],by rw [hf i f hi2]; exact dr bG⟩
    obtain ⟨_,E1,B1,od,ks,h1,h2,h3,h4,h5,h6⟩:=Yi IH hp fs.toList 0 k E B ρ hi hk (by rw [hkc,hlen]; exact aU _) ht.1 hff;refine ⟨E1,B1,od,ks,h1,h2,h3,?_,h5,fun m l h=>?_⟩
    ·have e:(cs.drop 0).take (k - 0)=cs:=by rw [List.drop_zero,Nat.sub_zero,hkc,<- hlen,List.take_length]
     rw [e] at h4;exact h4
    ·obtain ⟨m',rfl⟩:=hn h
     simp only [lay,hu,cS] at h;obtain ⟨l',ux,rfl⟩:=h;exact h6 m' l' ux
   ·simp at ht
  ·rename_i len e hu
   simp only [aA] at ht;have hkc:=bu ht.2;obtain ⟨xs,fu,_,_,hlen,hxs,hf⟩:=DataW.trod_array hu hx;have hff:∀ i,i < len->∃ x,DataW.trod enc P W 0 (fun _=>true) true fu e ((cs.drop (i * P.cellsOf e)).take (P.cellsOf e))=some x:=by
    intro i h;exact ⟨xs[i],by rw [hf i h]; exact dr (by rw [hxs]; exact h)⟩
   obtain ⟨E1,B1,od,ks,h1,h2,h3,h4,h5,h6⟩:=acJ IH hp ht.1 rfl (by rw [hlen,hkc]; exact aU _) hff hi len (aU _);refine ⟨E1,B1,od,ks,h1,h2,h3,?_,h5,fun m l h=>?_⟩
   ·rw [<- hkc,<- hlen,List.take_length] at h4
    exact h4
   ·obtain ⟨m',rfl⟩:=hn h
    simp only [lay,hu,cS] at h;obtain ⟨l',ux,rfl⟩:=h;exact h6 m' l' ux
  ·simp at ht
end
end Go.K
end
section
namespace Go.K
open Go Go.aB Go.WideShapes
mutual
def Gx (P:Program):KV->Prop
 | .ts T _ n es acc=>kr P T n es acc/\ze P es
 | .agg cs=>ze P cs
 | _=>True
def ze (P:Program):List KV->Prop
 | []=>True
 | v::vs=>Gx P v/\ze P vs
end
mutual
theorem VK.deep {P:Program} {E:Env} : ∀ {v:KV} {u:Value},VK P E v u->Gx P v
 | .ts T m n es acc,u,h=>by
  obtain ⟨h1,us,h2,_⟩:=h.mC;exact ⟨h1,bC.deep h2⟩
 | .agg cs,u,h=>by
  obtain ⟨l,_,h1⟩:=h.mh;exact bC.deep (vs:=cs) h1
 | .int _ _,_,_ | .bool _,_,_ | .str _,_,_ | .na _,_,_ | .tp ..,_,_ | .ptr ..,_,_ | .al ..,_,_ | .ap ..,_,_ | .sl ..,_,_ | .GZ,_,_ | .lX,_,_ | .CT,_,_ | .map _,_,_ | .fn ..,_,_ | .Il,_,_ | .iface ..,_,_ | .Im,_,_ | .ao,_,_=>trivial
theorem bC.deep {P:Program} {E:Env} : ∀ {vs:List KV} {us:List Value},bC P E vs us->ze P vs
 | [],_,_=>trivial
 | v::vs,us,h=>by
  simp only [bC] at h;obtain ⟨y,ys,_,h1,h2⟩:=h;exact ⟨VK.deep h1,bC.deep h2⟩
end
def l9 (P:Program):List TypeId->List KV->Bool
 | [],[]=>true
 | t::ts,v::vs=>cP (bB P t) v&&l9 P ts vs
 | _,_=>false
theorem acL {P:Program} : ∀ {ts:List TypeId} {aw7:List KV},l9 P ts aw7=true->aw7.length=ts.length
 | [],[],_=>rfl
 | [],_::_,h=>by simp [l9] at h
 | _::_,[],h=>by simp [l9] at h
 | t::ts,v::vs,h=>by
  simp only [l9,aA] at h;simp [acL h.2]
def SX (P:Program) (t:TypeId):Bool:=C9 P 30 t&&(match lay P 12 t with
 | some l=>Nat.beq l.ks.length (P.cellsOf t)
 | .none=>false)
section
variable {H:Type} {enc:TypeId×Value->H} {P:Program} {W:World}
theorem alV {r:Reach} {base:Nat} {t:TypeId} {v:Value} (h:Value.okWide P W r base t v):agC W v.cells.toList:=by
 intro a n c hm;have cell:∀ u,Cell.okWide P W r base u (.slice (some a) n c)->0 < W.heap.size:=by
  intro u hu;unfold Cell.okWide at hu;split at hu <;> try (rename_i heq; simp at heq; done)
  unfold Cell.ok at hu;split at hu <;> try (rename_i heq; simp at heq; done)
  ·rename_i e heq
   simp at heq;obtain ⟨rfl,rfl,rfl⟩:=heq;obtain ⟨_,_,_,_,row,cells,hs,_⟩:=hu;unfold World.shape? at hs;split at hs
   ·rename_i hh
    have:=(vK.1 hh).1;omega
   ·simp at hs
  ·exact hu.elim
 unfold Value.okWide at h;split at h
 ·obtain ⟨cs,rfl,_,ts,_,_,hc⟩:=h
  obtain ⟨i,hi⟩:=List.getElem?_of_mem hm;obtain ⟨u,_,hu⟩:=hc i _ (by simpa [Value.cells] using hi);exact cell u hu
 ·obtain ⟨cs,rfl,_,ts,_,_,hc⟩:=h
  obtain ⟨i,hi⟩:=List.getElem?_of_mem hm;obtain ⟨u,_,hu⟩:=hc i _ (by simpa [Value.cells] using hi);exact cell u hu
 ·have hv:v.cells.toList = [v]\/∃ cs,v = .agg cs:=by cases v <;> first | exact .inl rfl | exact .inr ⟨_,rfl⟩
  rcases hv with hv | ⟨cs,rfl⟩
  ·rw [hv] at hm
   simp at hm;subst hm;exact cell t h
  ·exfalso
   unfold Cell.okWide at h;split at h <;> try (rename_i heq; simp at heq; done)
   unfold Cell.ok at h;split at h <;> first | (rename_i heq; simp at heq; done) | exact h.elim
theorem asg {E:Env} {B:St} {ρ:Ren} {t:TypeId} {v:Value} {d:DataW H} {ps:List MemPlace} {r:Reach} {base:Nat} (ht:SX P t=true) (hd:DataW.Trod enc P W 0 (fun _=>true) true t v d ps) (hw:Value.okWide P W r base t v) (hi:Te P W E B ρ) :
  ∃ E' B' bd a,Te P W E' B' bd/\E.le E'/\ρ.le bd/\VC P E' bd a v/\cP (bB P t) a=true/\Td a:=by
 unfold SX at ht;simp only [aA] at ht;obtain ⟨za,QM⟩:=ht;split at QM
 ·rename_i l hl
  obtain ⟨fuel,hf⟩:=hd;obtain ⟨E1,B1,od,ks,h1,h2,h3,⟨m,h4,h4'⟩,h5,h6⟩:=an8 30 t za fuel _ _ E B ρ hf (alV hw) hi;have hk:=h6 12 l hl;have hlF:bB P t=l:=by simp [bB,hl]
  have arv:(l.agg=true/\∃ cs:Array Value,v = .agg cs)\/(l.agg=false/\l.ks.length=1/\v.cells.toList = [v]):=by
   unfold C9 at za;split at za
   ·rename_i k hu
    obtain ⟨n,rfl⟩:=okWide_int hu hw;simp only [lay,hu,di] at hl;subst hl; exact .inr ⟨rfl,rfl,rfl⟩
   ·rename_i hu
    obtain ⟨n,rfl⟩:=okWide_bool hu hw;simp only [lay,hu,di] at hl;subst hl; exact .inr ⟨rfl,rfl,rfl⟩
   ·rename_i hu
    obtain ⟨n,rfl⟩:=okWide_string hu hw;simp only [lay,hu,di] at hl;subst hl; exact .inr ⟨rfl,rfl,rfl⟩
   ·rename_i e hu
    obtain ⟨a,n,c,rfl⟩:=okWide_slice hu hw;simp only [lay,hu,di] at hl;subst hl; exact .inr ⟨rfl,rfl,rfl⟩
   ·rename_i fs hu
    simp only [lay,hu,cS] at hl;obtain ⟨_,_,rfl⟩:=hl;unfold Value.okWide at hw;rw [hu] at hw;obtain ⟨cs,rfl,_⟩:=hw;exact .inl ⟨rfl,cs,rfl⟩
   ·rename_i len e hu
    simp only [lay,hu,cS] at hl;obtain ⟨_,_,rfl⟩:=hl;unfold Value.okWide at hw;rw [hu] at hw;obtain ⟨cs,rfl,_⟩:=hw;exact .inl ⟨rfl,cs,rfl⟩
   ·simp at za
  refine ⟨E1,B1,od,PY l.agg ks,h1,h2,h3,?_,?_,aru h5⟩
  ·rcases arv with ⟨ha,cs,rfl⟩ | ⟨ha,hlen,hv⟩
   ·rw [ha]
    exact ⟨.agg ⟨m⟩,.rU h4,VR.rU (l':=cs.toList) h4'⟩
   ·rw [ha]
    rw [hv] at h4';have hml:m.length=1:=by have:=h4'.length; simpa using this.symm
    have:=af5 (agg:=false) h4 (.inr hml)
    match m,hml,h4',this with
    | [y],_,h4',this=>
     obtain ⟨z,zs,e,q1,_⟩:=h4'.cons_inv;simp at e;refine ⟨y,this,?_⟩;rw [e.1]; exact q1
  ·rw [hlF]
   exact aaK hk (arv.imp (·.1) (·.2.1))
 ·simp at QM
theorem agF {r:Reach} {base:Nat} : ∀ {ts:List TypeId} {vs:List Value} {ds:List (DataW H)} {ps:List MemPlace} {E:Env} {B:St} {ρ:Ren},(∀ t∈ts,SX P t=true)->DataW.TrodAll enc P W 0 (fun _=>true) true ts vs ds ps->
  (∀ (j:Nat) t v,ts[j]? = some t->vs[j]? = some v->Value.okWide P W r base t v)->Te P W E B ρ->∃ E' B' bd aw7,Te P W E' B' bd/\E.le E'/\ρ.le bd/\ug P E' bd aw7 vs/\l9 P ts aw7=true/\C8 aw7
 | [],vs,ds,ps,E,B,ρ,_,h,_,hi=>by
  obtain ⟨rfl,_,_⟩:=Go.ChangeShapes.trodAll_nil h;exact ⟨E,B,ρ,[],hi,Env.le_refl _,Ren.le_refl _,⟨[],.nil,.nil⟩,rfl,trivial⟩
 | t::ts,vs,ds,ps,E,B,ρ,ht,h,hw,hi=>by
  obtain ⟨v,vs1,d,ds1,a,b,rfl,rfl,rfl,h1,h2⟩:=Go.ChangeShapes.trodAll_cons h;obtain ⟨E1,B1,od,x,q1,q2,q3,⟨u,q4,q4'⟩,q5,q6⟩:=asg (ht t (by simp)) h1 (hw 0 t v rfl rfl) hi;obtain ⟨E2,B2,yD,xs,p1,p2,p3,⟨m,p4,p4'⟩,p5,p6⟩:=agF (fun t' h'=>ht t' (by simp [h'])) h2 (fun j t' v' h3 h4=>hw (j+1) t' v' (by simpa using h3) (by simpa using h4)) q1;exact ⟨E2,B2,yD,x::xs,p1,Env.le_trans q2 p2,Ren.le_trans q3 p3,⟨u::m,.cons (q4.mono p2) p4,.cons (q4'.mono p3) p4'⟩,by simp [l9,q5,p5],⟨q6,p6⟩⟩
theorem atP {S:List KV->Prop} (hP:P.funcs.toList.all o9=true) (hm:P.follows .mixedOrders=true) {cfg:fE} (j9:uZ P cfg.pc) (oY:Aw P cfg) {L n:Nat} {f:FuncId} {ts:List TypeId} (hts:ts.all (SX P)=true)
  (mi:∀ aw7,l9 P ts aw7=true->C8 aw7->ze P aw7->S aw7->cD P cfg L n f (normArgs P ts aw7)=some (.bool true)) {args:Array Value} (hS:∀ aw7 E ρ,l9 P ts aw7=true->ug P E ρ aw7 args.toList->S aw7) {ds:List (DataW H)} {ps:List MemPlace} {r:Reach} {base:Nat}
  (hd:DataW.TrodAll enc P W 0 (fun _=>true) true ts args.toList ds ps) (hw:∀ (j:Nat) t v,ts[j]? = some t->args.toList[j]? = some v->Value.okWide P W r base t v) :
  Calls P f args W fun e w'=>e = .returned (.bool true)/\RowKit.Below W.heap.size W w':=by
 obtain ⟨E,B,ρ,aw7,h1,_,_,h4,h5,h6⟩:=agF (ig.1 hts) hd hw (Te.start P W);have avH:ze P aw7:=by obtain ⟨m,q,_⟩:=h4; exact q.deep
 have mW:=mi aw7 h5 h6 avH (hS aw7 E ρ h5 h4);have h4:ug P E ρ (normArgs P ts aw7) args.toList:=by
  obtain ⟨m,q,q'⟩:=h4;exact ⟨m,bC.QZ (.of rfl) q (acL h5),q'⟩
 have xD:=xh (R:=KV) hP hm j9 oY L n;obtain ⟨fn,c,hf,hc,dt,hnm,mW⟩:=QY hP mW;have:=Oh j9 xD hm L hf hc dt (oY.2 f fn c hf hc) mW h4 (base:=W.heap.size) (w:=W) ⟨h1.k,h1.kA⟩;refine this.mono ?_;rintro e w' ⟨vs,cX,E1,A1,B1,od,rfl,⟨m,q1,q1'⟩,q2,q3⟩;have q3:Bool.rec (motive:=fun _=>Option KV) .none (some (Ir (y8 P (uT P f) (Ap A1 vs).1))) (Nat.beq vs.length (uT P f).length)=some (.bool true):=q3;obtain ⟨E2,_,q1⟩:=JZ q2.kA q1;cases hb:Nat.beq vs.length (uT P f).length with
 | false=>rw [hb] at q3; exact absurd q3 (by simp)
 | true=>
  rw [hb] at q3;have q3:some (Ir (y8 P (uT P f) (Ap A1 vs).1))=some (.bool true):=q3;simp only [di] at q3;have hv:VC P E2 od (Ir (y8 P (uT P f) (Ap A1 vs).1)) (alO cX):=QX ⟨m,by rw [IE]; exact bC.QZ (.of rfl) q1 ((N7 A1 vs).trans (bu hb)),q1'⟩;rw [q3] at hv;have hg:=q2.gN;refine ⟨by rw [hv.gi],hg.kept.os,hg.kept.tape,hg.kept.output,hg.kept.size,fun k hk=>hg.kept.block k hk ?_⟩;rintro ⟨b,o,l,ho,K7,_⟩;rw [(h1.wF b o ho).1] at K7;simp at K7
theorem auB (hP:P.funcs.toList.all o9=true) (hm:P.follows .mixedOrders=true) {cfg:fE} (j9:uZ P cfg.pc) (oY:Aw P cfg) {L n:Nat} {f:FuncId} {ts:List TypeId} (hts:ts.all (SX P)=true)
  (mi:∀ aw7,l9 P ts aw7=true->C8 aw7->ze P aw7->cD P cfg L n f (normArgs P ts aw7)=some (.bool true)) {args:Array Value} {ds:List (DataW H)} {ps:List MemPlace} {r:Reach} {base:Nat}
  (hd:DataW.TrodAll enc P W 0 (fun _=>true) true ts args.toList ds ps) (hw:∀ (j:Nat) t v,ts[j]? = some t->args.toList[j]? = some v->Value.okWide P W r base t v) :
  Calls P f args W fun e w'=>e = .returned (.bool true)/\RowKit.Below W.heap.size W w':=
 atP (S:=fun _=>True) hP hm j9 oY hts (fun aw7 h1 h2 h3 _=>mi aw7 h1 h2 h3) (fun _ _ _ _ _=>trivial) hd hw
end
noncomputable def akQ:List (Nat×(List KV->KR KV))->FuncId->Option (List KV->KR KV)
 | [],_=>.none
 | p::ps,g=>cond (Nat.beq p.1 g) (some p.2) (akQ ps g)
theorem arw {P:Program} : ∀ {ps:List (Nat×(List KV->KR KV))},(∀ p∈ps,bH P p.1 p.2)->uZ P (akQ ps)
 | [],_=>fun g F h=>by simp [akQ] at h
 | p::ps,h=>fun g F hF=>by
  unfold akQ at hF;cases hb:Nat.beq p.1 g with
  | true=>
   rw [hb] at hF;simp only [ak,di] at hF;have:=bu hb;subst this hF;exact h p (by simp)
  | false=>
   rw [hb] at hF;exact arw (fun q hq=>h q (yW _ hq)) g F hF
theorem an9 (l:Lay):cP l .ao=false:=by
 show (!l.agg&&aK l.ks [.ao])=false;cases l.ks with
 | nil=>simp [aK]
 | cons c cs=>cases c <;> simp [aK,kindOk]
theorem apS {P:Program} {t:TypeId} {v:KV} (h:cP (bB P t) (XJ P t v)=true):∃ w,XJ P t v=ax P (ai P aj) t w:=by
 unfold XJ at h ⊢;cases hb:cP (bB P t) (fe (bB P t) v) with
 | false=>rw [hb,ba,an9] at h; simp at h
 | true=>exact ⟨fe (bB P t) v,rfl⟩
theorem Oq:∀ {ks:List CK} {cs:List KV},aK ks cs=true->CU ks cs=cs
 | [],[],_=>rfl
 | [],_::_,h=>by simp [aK] at h
 | _::_,[],h=>by simp [aK] at h
 | k::ks,v::vs,h=>by
  simp only [aK,aA] at h;have e:oW k v=v:=by
   unfold oW;split
   ·simp [kindOk] at h
   ·rename_i t t' m n es acc
    cases m <;> simp [kindOk] at h;obtain ⟨rfl,_⟩:=h;rw [yX,ak]
   ·rw [h.1]; rfl
  rw [CU,e,Oq h.2]
theorem aoa {l:Lay} {v:KV} (h:cP l v=true):fe l v=v:=by
 by_cases ha:∃ cs,v = .agg cs
 ·obtain ⟨cs,rfl⟩:=ha
  simp only [cP,aA] at h;show cond (l.agg&&Nat.beq cs.length l.ks.length) (KV.agg (CU l.ks cs)) .ao=_;rw [h.1,tE h.2,Oq h.2];simp
 ·have h1:(!l.agg&&aK l.ks [v])=true:=by
   cases v <;> first | exact h | exact absurd ⟨_,rfl⟩ ha | simp [cP] at h
  simp only [aA,mw] at h1;have e:fe l v=cond l.agg .ao (match l.ks with | [c]=>oW c v | _=>.ao):=by
   cases v <;> first | rfl | exact absurd ⟨_,rfl⟩ ha
  rw [e,h1.1,ba]
  match hk:l.ks,h1.2 with
  | [c],h2=>
   have:=Oq h2;simpa [CU] using this
  | [],h2=>simp [aK] at h2
  | _::_::_,h2=>simp [aK] at h2
theorem apT {P:Program} {t:TypeId} {v:KV} (h:cP (bB P t) v=true):XJ P t v=ax P (ai P aj) t v:=by
 unfold XJ;rw [aoa h,h,ak]
noncomputable def ck (P:Program):List TypeId->(Nat->KV)->Nat->List KV
 | [],_,_=>[]
 | t::ts,w,k=>ax P (ai P aj) t (w k)::ck P ts w (Nat.succ k)
theorem Yk {P:Program} : ∀ {ts:List TypeId} {w w' : Nat->KV} {k:Nat},(∀ i,k<=i->w i=w' i)->ck P ts w k=ck P ts w' k
 | [],_,_,_,_=>rfl
 | t::ts,w,w',k,h=>by
  rw [ck,ck,h k (aU _),Yk fun i hi=>h i (by omega)]
theorem Ot {P:Program} : ∀ {ts:List TypeId} {aw7:List KV} (k:Nat),l9 P ts (normArgs P ts aw7)=true->∃ w,normArgs P ts aw7=ck P ts w k
 | [],aw7,k,_=>⟨fun _=>.ao,by cases aw7 <;> rfl⟩
 | t::ts,[],k,h=>by simp [normArgs,l9] at h
 | t::ts,v::vs,k,h=>by
  simp only [normArgs,l9,aA] at h;obtain ⟨w,hw⟩:=apS h.1;obtain ⟨w',hw'⟩:=Ot (k+1) h.2;refine ⟨fun i=>if i=k then w else w' i,?_⟩;rw [normArgs,ck,hw,hw',aY rfl];rw [Yk (w:=w') (w':=fun i=>if i=k then w else w' i) fun i hi=>by rw [av (by omega)]]
theorem agG {P:Program} : ∀ {ts:List TypeId} {aw7:List KV} (k:Nat) {w:Nat->KV},l9 P ts aw7=true->(∀ i,i < aw7.length->w (k+i)=aw7.getD i .ao)->normArgs P ts aw7=ck P ts w k
 | [],[],k,_,_,_=>rfl
 | [],_::_,_,_,h,_=>by simp [l9] at h
 | _::_,[],_,_,h,_=>by simp [l9] at h
 | t::ts,v::vs,k,w,h,hw=>by
  simp only [l9,aA] at h;rw [normArgs,ck,apT h.1,agG (k+1) (w:=w) h.2 fun i hi=>by have:=hw (i+1) (by simp; omega); rw [show k+1+i=k+(i+1) by omega,this]; rfl];have:=hw 0 (by simp);rw [CF] at this;rw [this]; rfl
noncomputable def bI (P:Program) (g:FuncId) (F:List KV->KR KV):List KV->KR KV:=fun aw7=>cond (l9 P (aG P g) aw7) (F aw7) .no
theorem atQ {P:Program} {g:FuncId} {F:List KV->KR KV} (hP:P.funcs.toList.all o9=true) (hm:P.follows .mixedOrders=true) {cfg:fE} (j9:uZ P cfg.pc) (oY:Aw P cfg) {L n:Nat}
  (h:∀ w v,bf (F (ck P (aG P g) w 0)) v->cD P cfg L n g (ck P (aG P g) w 0)=some v) (hy:Nat.blt g yB=true:=by rfl):bH P g (bI P g F):=
 atw hy hP hm fun aw7 v _ hF=>by
  unfold bI at hF;obtain ⟨hb,hF⟩:=bf.cond hF;obtain ⟨w,hw⟩:=Ot 0 hb;rw [hw] at hF ⊢;exact ⟨cfg,L,n,j9,oY,h w v hF⟩
noncomputable def atS (P:Program) (d:CD) (w:KV):KV:=
 match d with
 | .k c=>ai P aj (leaf c w)
 | .lit v=>v
 | .bA t=>ai P aj (leaf (.slice t) w)
 | .arr t=>ai P aj (leaf (.slice t) w)
 | .ref v=>v
noncomputable def Lq (P:Program):List CD->(Nat->KV)->Nat->List KV
 | [],_,_=>[]
 | d::ds,w,k=>atS P d (w k)::Lq P ds w (Nat.succ k)
noncomputable def alW (P:Program) (d:VD) (w:Nat->KV):KV:=Bool.rec (motive:=fun _=>KV) ((Lq P d.ks w 0).headD .ao) (.agg (Lq P d.ks w 0)) d.agg
noncomputable def tJ (P:Program):List (Tmp×VD)->(Nat->Nat->KV)->Nat->List KV
 | [],_,_=>[]
 | p::ps,w,k=>alW P p.2 (w k)::tJ P ps w (Nat.succ k)
noncomputable def tK (P:Program):List (Tmp×List CD×Nat)->(Nat->Nat->KV)->Nat->List (List KV)
 | [],_,_=>[]
 | p::ps,w,k=>Lq P p.2.1 (w k) 0::tK P ps w (Nat.succ k)
theorem akR {P:Program} {A:aw} {d:CD} {v:KV} (h:lj d (gk P A d v)=true):∃ w,gk P A d v=atS P d w:=by
 cases d with
 | ref u=>exact ⟨.ao,rfl⟩
 | k c=>
  have e:gk P A (.k c) v=cond (kindOk c (oW c v)) (ai P aj (leaf c (oW c v))) .ao:=rfl;cases hb:kindOk c (oW c v) with
  | true=>exact ⟨oW c v,by rw [e,hb]; rfl⟩
  | false=>
   rw [e,hb] at h;cases c <;> simp [lj,kindOk] at h
 | lit u=>
  have e:gk P A (.lit u) v=cond (yI u v) u .ao:=rfl;cases hb:yI u v with
  | true=>exact ⟨.ao,by rw [e,hb]; rfl⟩
  | false=>
   rw [e,hb,ba] at h;have h:yI u .ao=true:=h;cases u <;> first | (simp [yI] at h; done) | (rename_i f a b; cases f <;> cases a <;> cases b <;> simp [yI] at h)
 | bA t=>
  cases v with
  | lX=>exact ⟨.ts t .any 0 [] qV,rfl⟩
  | ts t' m n es acc=>
   cases m with
   | bA f=>
    have e:gk P A (.bA t) (.ts t' (.bA f) n es acc)=cond (Nat.beq t t') (ai P aj (.ts t .any n es acc)) .ao:=rfl;cases hb:Nat.beq t t' with
    | true=>exact ⟨.ts t .any n es acc,by rw [e,hb]; rfl⟩
    | false=>rw [e,hb] at h; simp [lj,kindOk] at h
   | _=>simp [gk,lj,kindOk] at h
  | _=>simp [gk,lj,kindOk] at h
 | arr t=>
  rcases aaT h with rfl | ⟨b,n,m,N,es,acc,rfl,_,he⟩
  ·exact ⟨.ts t .any 0 [] qV,rfl⟩
  ·exact ⟨.ts t .any N es acc,he⟩
theorem Yl {P:Program} : ∀ {ds:List CD} {w w' : Nat->KV} {k:Nat},(∀ i,k<=i->w i=w' i)->Lq P ds w k=Lq P ds w' k
 | [],_,_,_,_=>rfl
 | t::ts,w,w',k,h=>by
  rw [Lq,Lq,h k (aU _),Yl fun i hi=>h i (by omega)]
theorem aaX {P:Program} {A:aw} : ∀ {ds:List CD} {vs:List KV} (k:Nat),dT ds (gm P A ds vs)=true->∃ w,gm P A ds vs=Lq P ds w k
 | [],vs,k,_=>⟨fun _=>.ao,by cases vs <;> rfl⟩
 | d::ds,[],k,h=>by simp [gm,dT] at h
 | d::ds,v::vs,k,h=>by
  simp only [gm,dT,aA] at h;obtain ⟨w,hw⟩:=akR h.1;obtain ⟨w',hw'⟩:=aaX (k+1) h.2;refine ⟨fun i=>if i=k then w else w' i,?_⟩;rw [gm,Lq,hw,hw',aY rfl];rw [Yl (w:=w') (w':=fun i=>if i=k then w else w' i) fun i hi=>by rw [av (by omega)]]
theorem ash {P:Program} {A:aw} {d:VD} {v:KV} (h:zb d (xN P A d v)=true):∃ w,xN P A d v=alW P d w:=by
 have BN:=A7 h;rcases A8 h with ⟨cs,rfl,h1,h2,h3⟩ | ⟨h0,c,h1,h2,h3,h4,h5⟩
 ·obtain ⟨w,hw⟩:=aaX 0 h3
  refine ⟨w,?_⟩;have:d.agg=true:=by
   rcases BN with ⟨_,_,q,_⟩ | ⟨q,_⟩
   ·exact q
   ·exact absurd h2 (q _)
  rw [h2,hw,alW,this]
 ·obtain ⟨w,hw⟩:=akR h3
  refine ⟨fun _=>w,?_⟩;have:d.agg=false:=by
   rcases BN with ⟨cs,q,_⟩ | ⟨_,q,_⟩
   ·rw [h2] at q; exact absurd q (h5 _)
   ·exact q
  rw [h2,hw,alW,this,h1]; rfl
theorem Ui {P:Program} : ∀ {ps:List (Tmp×VD)} {w w' : Nat->Nat->KV} {k:Nat},(∀ i,k<=i->w i=w' i)->tJ P ps w k=tJ P ps w' k
 | [],_,_,_,_=>rfl
 | t::ts,w,w',k,h=>by
  rw [tJ,tJ,h k (aU _),Ui fun i hi=>h i (by omega)]
theorem agH {P:Program} {t:bO} {A:aw} : ∀ {ps:List (Tmp×VD)} (k:Nat),jT ps (rY P t A ps)=true->∃ w,rY P t A ps=tJ P ps w k
 | [],k,_=>⟨fun _ _=>.ao,rfl⟩
 | p::ps,k,h=>by
  simp only [rY,jT,aA] at h;obtain ⟨w,hw⟩:=ash h.1;obtain ⟨w',hw'⟩:=agH (k+1) h.2;refine ⟨fun i=>if i=k then w else w' i,?_⟩;rw [rY,tJ,hw,hw',aY rfl];rw [Ui (w:=w') (w':=fun i=>if i=k then w else w' i) fun i hi=>by rw [av (by omega)]]
theorem Uj {P:Program} : ∀ {ps:List (Tmp×List CD×Nat)} {w w' : Nat->Nat->KV} {k:Nat},(∀ i,k<=i->w i=w' i)->tK P ps w k=tK P ps w' k
 | [],_,_,_,_=>rfl
 | t::ts,w,w',k,h=>by
  rw [tK,tK,h k (aU _),Uj fun i hi=>h i (by omega)]
theorem agI {P:Program} : ∀ {ps:List (Tmp×List CD×Nat)} {rs:List (List KV)} (k:Nat),rs.length=ps.length->(∀ (i:Nat) p r,ps[i]? = some p->rs[i]? = some r->dT p.2.1 r=true)->
  (∀ (i:Nat) p,ps[i]? = some p->∃ A nK,rs[i]? = some (gm P A p.2.1 nK)/\nK.length=p.2.1.length)->∃ w,rs=tK P ps w k
 | [],[],k,_,_,_=>⟨fun _ _=>.ao,rfl⟩
 | [],_::_,_,h,_,_=>by simp at h
 | _::_,[],_,h,_,_=>by simp at h
 | p::ps,r::rs,k,hl,hg,hn=>by
  obtain ⟨A,nK,h1,_⟩:=hn 0 p rfl;simp only [List.getElem?_cons_zero,di] at h1;have h2:=hg 0 p r rfl rfl;rw [h1] at h2;obtain ⟨w,hw⟩:=aaX 0 h2;obtain ⟨w',hw'⟩:=agI (ps:=ps) (rs:=rs) (k+1) (by simpa using hl) (fun i p r a b=>hg (i+1) p r (by simpa using a) (by simpa using b)) fun i p a=>by simpa using hn (i+1) p (by simpa using a)
  refine ⟨fun i=>if i=k then w else w' i,?_⟩;rw [tK,h1,hw,aY rfl];congr 1;rw [hw'];exact Uj fun i hi=>by rw [av (by omega)]
theorem D2.form {P:Program} {S:aV} {vs:List KV} {rs:List (List KV)} (h:D2 P S vs rs):∃ wv wr,vs=tJ P S.gS wv 0/\rs=tK P S.rows wr 0:=by
 obtain ⟨t,A,ht⟩:=h.vn;have hv:=h.v;rw [ht] at hv;obtain ⟨wv,hwv⟩:=agH 0 hv;obtain ⟨wr,hwr⟩:=agI 0 h.u9 h.Ao h.rn;exact ⟨wv,wr,by rw [ht,hwv],hwr⟩
inductive aW (X:Type) where
 | fail
 | next (x:X)
 | out (e:ae) (x:X)
def aW.enc {X:Type} (ev:X->List KV) (er:X->List (List KV)):aW X->Option (ae×List KV×List (List KV))
 | .fail=>.none
 | .next x=>some (.normal,ev x,er x)
 | .out e x=>some (e,ev x,er x)
theorem aW.cf {X:Type} (ev:X->List KV) (er:X->List (List KV)) (c:Bool) (a b:aW X):aW.enc ev er (cond c a b)=cond c (aW.enc ev er a) (aW.enc ev er b):=by cases c <;> rfl
def aW.go {X:Type} (step:X->aW X):Nat->X->aW X
 | 0,_=>.fail
 | n+1,x=>match step x with
  | .fail=>.fail
  | .next x=>aW.go step n x
  | .out e x=>cond (u7 e) .fail (.out e x)
def sE:ae->ae->Bool
 | .normal,.normal=>true
 | .exit i,.exit j=>Nat.beq i j
 | .goto i,.goto j=>Nat.beq i j
 | .ret,.ret=>true
 | _,_=>false
theorem alX {a b:ae} (h:sE a b=true):a=b:=by
 cases a <;> cases b <;> simp [sE] at h <;> first | rfl | (subst h; rfl)
def aW.by {X:Type} (s:aW X) (e:ae):Bool:=
 match s with
 | .out e' _=>sE e' e
 | _=>false
def aW.st {X:Type} [Inhabited X] (s:aW X):X:=
 match s with
 | .out _ x=>x
 | _=>default
theorem go_iter {X:Type} {step:X->aW X} {ev:X->List KV} {er:X->List (List KV)} {rd:List KV->List (List KV)->Option (ae×List KV×List (List KV))} (h:∀ x,step x = .fail\/rd (ev x) (er x)=aW.enc ev er (step x)) :
  ∀ (n:Nat) (x:X) (e:ae) (y:X),aW.go step n x = .out e y->BZ rd n (ev x) (er x)=some (e,ev y,er y)
 | 0,x,e,y,hg=>by simp [aW.go] at hg
 | n+1,x,e,y,hg=>by
  simp only [aW.go] at hg;have hx:=h x;cases hs:step x with
  | fail=>rw [hs] at hg; simp at hg
  | next x'=>
   have hx:=hx.resolve_left (by rw [hs]; simp);rw [hs] at hg hx;simp only [BZ,hx,aW.enc,u7,ak];exact go_iter h n x' e y hg
  | out e' x'=>
   have hx:=hx.resolve_left (by rw [hs]; simp);rw [hs] at hg hx;simp only at hg;cases hn:u7 e' with
   | true=>rw [hn] at hg; simp at hg
   | false=>
    rw [hn,ba] at hg;simp only [aW.out.injEq] at hg;obtain ⟨rfl,rfl⟩:=hg;simp only [BZ,hx,aW.enc,hn,ba]
def dC {X:Type} [Inhabited X] (ev:X->List KV) (er:X->List (List KV)) (s:aW X):List ae->vY
 | []=>.no
 | e::es=>.br (s.by e) (.out e (ev s.st) (er s.st)) (dC ev er s es)
theorem agJ {X:Type} [Inhabited X] {ev:X->List KV} {er:X->List (List KV)} {s:aW X} : ∀ {es:List ae} {e:ae} {vs:List KV} {rs:List (List KV)},(dC ev er s es).ev=some (e,vs,rs)->∃ x,s = .out e x/\vs=ev x/\rs=er x
 | [],e,vs,rs,h=>by simp [dC,vY.ev] at h
 | e'::es,e,vs,rs,h=>by
  simp only [dC,vY.ev] at h;cases hb:s.by e' with
  | false=>rw [hb] at h; exact agJ h
  | true=>
   rw [hb,ak] at h;simp only [di,fS] at h;obtain ⟨rfl,rfl,rfl⟩:=h;cases s with
   | out e0 x=>
    have:=alX (show sE e0 e' = true from hb);subst this;exact ⟨x,rfl,rfl,rfl⟩
   | fail=>simp [aW.by] at hb
   | next x=>simp [aW.by] at hb
def goN {X:Type} (step:X->aW X) (x:X):aW X:=aW.go step iH x
theorem aob {P:Program} {l:Lp} {X:Type} [Inhabited X] {cfg:fE} {L n:Nat} (j9:uZ P cfg.pc) (oY:Aw P cfg) {step:X->aW X} {ev:X->List KV} {er:X->List (List KV)} {es:List ae} {pa:List KV->List (List KV)->X}
  (hF:∀ vs rs,l.F vs rs=dC ev er (goN step (pa vs rs)) es) (gQ:∀ wv wr,ev (pa (tJ P l.S.gS wv 0) (tK P l.S.rows wr 0))=tJ P l.S.gS wv 0/\er (pa (tJ P l.S.gS wv 0) (tK P l.S.rows wr 0))=tK P l.S.rows wr 0)
  (yx:∀ x,step x = .fail\/arq l.st P cfg L n l.f l.p (dF P l.f l.p) l.S (ev x) (er x)=aW.enc ev er (step x)):l.Ok P:=
 ⟨cfg,L,n,j9,oY,fun vs rs e cX oZ dt yG=>by
  obtain ⟨wv,wr,rfl,rfl⟩:=dt.form;obtain ⟨h1,h2⟩:=gQ wv wr;rw [hF] at yG;obtain ⟨y,hy,rfl,rfl⟩:=agJ yG;have:=go_iter yx iH _ e y hy;rw [h1,h2] at this;exact this⟩
theorem aW.lit {X:Type} {ev:X->List KV} {er:X->List (List KV)} {R:Option (ae×List KV×List (List KV))} {k n:Int} {a b:aW X} (h:k=n->R=aW.enc ev er a) (h' : b = .fail\/R=aW.enc ev er b):cond (k==n) a b = .fail\/R=aW.enc ev er (cond (k==n) a b):=by
 cases e:k==n with
 | true=>exact .inr (h (by simpa using e))
 | false=>exact h'
theorem alP {P:Program} {aw7:List KV} (h:l9 P [] aw7=true):aw7 = []:=by
 cases aw7 with
 | nil=>rfl
 | cons a aw7=>simp [l9] at h
theorem asi {ks:List CK} {v:KV} (h:cP ⟨true,ks⟩ v=true):∃ cs,v = .agg cs/\aK ks cs=true:=by
 cases v with
 | agg cs=>exact ⟨cs,rfl,by simpa [cP] using h⟩
 | na cs=>simp [cP] at h
 | _=>simp [cP] at h
end Go.K
end
section
namespace Go.K
open Go Go.aB
variable {P:Program} {E:Env}
theorem l7.below {base:Nat} {ρ:Ren} {B:St} {w w' : World} (hs:vB ρ B base w) (h:RowKit.Below w.heap.size w w'):l7 base ρ B w ρ B w':=by
 refine ⟨⟨.Hg (fun b o hg hd=>?_) hs.rel.apart hs.rel.b5,hs.lV,o7 hs.size h.size,hs.JO⟩,fun _ _=>rfl,⟨h.os,h.tape,h.output,h.size,fun k hk _=>h.block k hk⟩,aU _,aU _,fun _ _ _=>rfl,fun _ _ hk=>hk⟩;obtain ⟨l,e,ok⟩:=hs.rel.obj hg hd;exact ⟨l,e,ok.ij (Ren.le_refl _) (h.block _ (ok.lt hd)) h.size⟩
theorem aoc {g:FuncId} {F:List KV->KR KV} (hc:Cl P g)
  (h:∀ args v (E:Env) (A:aw) (B:St) (ρ:Ren) (base:Nat) (w:World) (hZ:List Value),bf (F (normArgs P (aG P g) args)) v->args.length=(aG P g).length->ug P E ρ args hZ->KJ P E A B ρ base w->
   Calls P g hZ.toArray w fun e w'=>∃ v',e = .returned v'/\VC P E ρ v v'/\RowKit.Below w.heap.size w w'):bH P g F:=
 fun args v hF hlen=>⟨hc,fun E A B ρ base w hZ hv hj=>(h args v E A B ρ base w hZ hF hlen hv hj).mono fun _ _ ⟨v',h1,h2,h3⟩=>
  ⟨v',E,B,ρ,h1,h2,hj.k,l7.below hj.s h3,Env.le_refl _,aU _,fun _ _ _ _=>rfl,fun _ _ h=>.inl h,fun _ _ h=>.inl h,fun _ _ h=>.inl ⟨_,h⟩,fun _ _ _ _=>rfl,fun _ h=>.inl h,fun _ h=>.inl h,fun _ _ h=>.inl h,fun _ h=>.inl h,fun _ _ cs _ _ _ h=>⟨cs,h,rfl⟩⟩⟩
end Go.K
end
section
namespace Go.K
open Go Go.aB
structure Sl (α:Type) where
 n:Nat
 get:Nat->α
instance {α:Type} [Inhabited α] : Inhabited (Sl α):=⟨⟨0,fun _=>default⟩⟩
def eA {α:Type} (T:TypeId) (k:α->KV) (s:Sl α):KV:=.ts T .any s.n ((List.range s.n).map fun i=>k (s.get i)) (fun i=>k (s.get i))
def aF {α:Type} (p:KV->α) (n:Nat) (acc:Nat->KV):Sl α:=⟨n,fun i=>p (acc i)⟩
def dP {α:Type} (p:KV->α) (v:KV):Sl α:=aF p (lenOf v) (Ar v)
def kI (k:IntKind) (n:Int):KV:=.int k n
def kB (b:Bool):KV:=.bool b
abbrev aR (n:Int):Int:=IntKind.wrap .i64 n
abbrev w16 (n:Int):Int:=IntKind.wrap .u16 n
def Sl.push {α:Type} [Inhabited α] (s:Sl α) (v:α):Sl α:=⟨s.n+1,fun i=>cond (Nat.blt i s.n) (s.get i) (cond (Nat.beq i s.n) v default)⟩
def Sl.join {α:Type} (s t:Sl α):Sl α:=⟨s.n+t.n,fun i=>cond (Nat.blt i s.n) (s.get i) (t.get (i - s.n))⟩
def Sl.lit {α:Type} [Inhabited α] (l:List α):Sl α:=⟨l.length,fun i=>l.getD i default⟩
theorem lR {α:Type} [Inhabited α] {p:KV->α} {k:α->KV} (h:∀ x,p (k x)=x) (hd:p .ao=default) (l:List α):aF p l.length (ef (l.map k))=Sl.lit l:=by
 unfold aF Sl.lit ef;congr 1;funext i;rw [iK,iK,CE];cases l[i]? with
 | none=>exact hd
 | some x=>exact h x
theorem ke {α:Type} [Inhabited α] {p:KV->α} {k:α->KV} (h:∀ x,p (k x)=x) (hd:p .ao=default) (s:Sl α) (v:α):aF p (s.n+1) (aH s.n (fun i=>k (s.get i)) (ef [k v]))=s.push v:=by
 unfold aF Sl.push;congr 1;funext i;unfold aH;cases hb:Nat.blt i s.n with
 | true=>exact h _
 | false=>
  have hi:s.n<=i:=by
   cases Nat.lt_or_ge i s.n with
   | inl h=>rw [<- cq,hb] at h; simp at h
   | inr h=>exact h
  rw [ba,ba];cases hq:Nat.beq i s.n with
  | true=>
   have:=bu hq;subst this;rw [Nat.sub_self,ak];exact h v
  | false=>
   have de:i≠s.n:=fun e=>by rw [e,yX] at hq; simp at hq
   rw [ba];obtain ⟨j,hj⟩:∃ j,i - s.n=j+1:=⟨i - s.n - 1,by omega⟩
   rw [hj];exact hd
theorem kf {α:Type} {p:KV->α} {k:α->KV} (h:∀ x,p (k x)=x) (s t:Sl α):aF p (s.n+t.n) (aH s.n (fun i=>k (s.get i)) (fun i=>k (t.get i)))=s.join t:=by
 unfold aF Sl.join;congr 1;funext i;unfold aH;cases Nat.blt i s.n <;> exact h _
def Sl.set {α:Type} (s:Sl α) (i:Nat) (v:α):Sl α:=⟨s.n,fun j=>cond (Nat.beq j i) v (s.get j)⟩
def Sl.rl {α:Type} (s:Sl α) (o k:Nat) (t:Sl α):Sl α:=⟨s.n,fun j=>cond (Nat.blt j o) (s.get j) (cond (Nat.blt j (o+k)) (t.get (j - o)) (s.get j))⟩
theorem lT {α:Type} {p:KV->α} {k:α->KV} (h:∀ x,p (k x)=x) (s:Sl α) (i:Nat) (v:α):aF p s.n (cB (fun j=>k (s.get j)) i (k v))=s.set i v:=by
 unfold aF Sl.set;congr 1;funext j;unfold cB;cases Nat.beq j i <;> exact h _
theorem jg {α:Type} {p:KV->α} {k:α->KV} (h:∀ x,p (k x)=x) (s t:Sl α) (o m:Nat):aF p s.n (aJ o m (fun j=>k (s.get j)) (fun j=>k (t.get j)))=s.rl o m t:=by
 unfold aF Sl.rl;congr 1;funext j;unfold aJ;cases Nat.blt j o with
 | true=>exact h _
 | false=>cases Nat.blt j (o+m) <;> exact h _
theorem ml {α:Type} {p:KV->α} {k:α->KV} (h:∀ x,p (k x)=x) (m n n' : Nat) (acc aE:Nat->KV):aF p m (aH n (fun i=>k ((aF p n' acc).get i)) aE)=aF p m (aH n acc aE):=by
 unfold aF;congr 1;funext i;unfold aH;cases Nat.blt i n with
 | true=>exact h _
 | false=>rfl
theorem mm {α:Type} {p:KV->α} {k:α->KV} (h:∀ x,p (k x)=x) (m n n' : Nat) (acc aE:Nat->KV):aF p m (aH n acc (fun i=>k ((aF p n' aE).get i)))=aF p m (aH n acc aE):=by
 unfold aF;congr 1;funext i;unfold aH;cases Nat.blt i n with
 | true=>rfl
 | false=>exact h _
theorem mn {α:Type} {p:KV->α} {k:α->KV} (h:∀ x,p (k x)=x) (m n' i:Nat) (acc:Nat->KV) (v:KV):aF p m (cB (fun j=>k ((aF p n' acc).get j)) i v)=aF p m (cB acc i v):=by
 unfold aF;congr 1;funext j;unfold cB;cases Nat.beq j i with
 | true=>rfl
 | false=>exact h _
theorem mo {α:Type} {p:KV->α} {k:α->KV} (h:∀ x,p (k x)=x) (n n' o m:Nat) (acc aE:Nat->KV):aF p n (aJ o m (fun j=>k ((aF p n' acc).get j)) aE)=aF p n (aJ o m acc aE):=by
 unfold aF;congr 1;funext j;unfold aJ;cases Nat.blt j o with
 | true=>exact h _
 | false=>
  cases Nat.blt j (o+m) with
  | true=>rfl
  | false=>exact h _
theorem mq {α:Type} {p:KV->α} {k:α->KV} (h:∀ x,p (k x)=x) (n n' o m:Nat) (acc aE:Nat->KV):aF p n (aJ o m acc (fun j=>k ((aF p n' aE).get j)))=aF p n (aJ o m acc aE):=by
 unfold aF;congr 1;funext j;unfold aJ;cases Nat.blt j o with
 | true=>rfl
 | false=>
  cases Nat.blt j (o+m) with
  | true=>exact h _
  | false=>rfl
theorem jd (m n n' : Nat) (acc aE:Nat->KV):aF (fun v=>ay (v.cells.getD 0 .ao)) m (aH n (fun i=>kI .i64 ((aF (fun v=>ay (v.cells.getD 0 .ao)) n' acc).get i)) aE)=aF (fun v=>ay (v.cells.getD 0 .ao)) m (aH n acc aE):=ml (k:=kI .i64) (fun _=>rfl) ..
theorem jt (m n n' : Nat) (acc aE:Nat->KV):aF (fun v=>ay (v.cells.getD 0 .ao)) m (aH n acc (fun i=>kI .i64 ((aF (fun v=>ay (v.cells.getD 0 .ao)) n' aE).get i)))=aF (fun v=>ay (v.cells.getD 0 .ao)) m (aH n acc aE):=mm (k:=kI .i64) (fun _=>rfl) ..
theorem ju (m n' i:Nat) (acc:Nat->KV) (v:KV):aF (fun v=>ay (v.cells.getD 0 .ao)) m (cB (fun j=>kI .i64 ((aF (fun v=>ay (v.cells.getD 0 .ao)) n' acc).get j)) i v)=aF (fun v=>ay (v.cells.getD 0 .ao)) m (cB acc i v):=mn (k:=kI .i64) (fun _=>rfl) ..
theorem jv (n n' o m:Nat) (acc aE:Nat->KV):aF (fun v=>ay (v.cells.getD 0 .ao)) n (aJ o m (fun j=>kI .i64 ((aF (fun v=>ay (v.cells.getD 0 .ao)) n' acc).get j)) aE)=aF (fun v=>ay (v.cells.getD 0 .ao)) n (aJ o m acc aE):=mo (k:=kI .i64) (fun _=>rfl) ..
theorem jw (n n' o m:Nat) (acc aE:Nat->KV):aF (fun v=>ay (v.cells.getD 0 .ao)) n (aJ o m acc (fun j=>kI .i64 ((aF (fun v=>ay (v.cells.getD 0 .ao)) n' aE).get j)))=aF (fun v=>ay (v.cells.getD 0 .ao)) n (aJ o m acc aE):=mq (k:=kI .i64) (fun _=>rfl) ..
theorem iI (s:Sl Int) (i:Nat) (v:Int):s.set i v=aF (fun v=>ay (v.cells.getD 0 .ao)) s.n (cB (fun j=>kI .i64 (s.get j)) i (kI .i64 v)):=(lT (k:=kI .i64) (fun _=>rfl) s i v).symm
theorem gp (s:Sl Bool) (i:Nat) (v:Bool):s.set i v=aF (fun v=>dj (v.cells.getD 0 .ao)) s.n (cB (fun j=>kB (s.get j)) i (kB v)):=(lT (k:=kB) (fun _=>rfl) s i v).symm
theorem eV (s t:Sl Int) (o m:Nat):s.rl o m t=aF (fun v=>ay (v.cells.getD 0 .ao)) s.n (aJ o m (fun j=>kI .i64 (s.get j)) (fun j=>kI .i64 (t.get j))):=(jg (k:=kI .i64) (fun _=>rfl) s t o m).symm
theorem dJ (s t:Sl Bool) (o m:Nat):s.rl o m t=aF (fun v=>dj (v.cells.getD 0 .ao)) s.n (aJ o m (fun j=>kB (s.get j)) (fun j=>kB (t.get j))):=(jg (k:=kB) (fun _=>rfl) s t o m).symm
theorem fL (s:Sl Int) (v:Int):s.push v=aF (fun v=>ay (v.cells.getD 0 .ao)) (s.n+1) (aH s.n (fun i=>kI .i64 (s.get i)) (ef [kI .i64 v])):=(ke (fun _=>rfl) rfl s v).symm
theorem fY (s t:Sl Int):s.join t=aF (fun v=>ay (v.cells.getD 0 .ao)) (s.n+t.n) (aH s.n (fun i=>kI .i64 (s.get i)) (fun i=>kI .i64 (t.get i))):=(kf (fun _=>rfl) s t).symm
theorem iJ (l:List Int):Sl.lit l=aF (fun v=>ay (v.cells.getD 0 .ao)) l.length (ef (l.map (kI .i64))):=(lR (fun _=>rfl) rfl l).symm
theorem gq (l:List Bool):Sl.lit l=aF (fun v=>dj (v.cells.getD 0 .ao)) l.length (ef (l.map kB)):=(lR (fun _=>rfl) rfl l).symm
theorem eW (s:Sl Bool) (v:Bool):s.push v=aF (fun v=>dj (v.cells.getD 0 .ao)) (s.n+1) (aH s.n (fun i=>kB (s.get i)) (ef [kB v])):=(ke (fun _=>rfl) rfl s v).symm
theorem eX (s t:Sl Bool):s.join t=aF (fun v=>dj (v.cells.getD 0 .ao)) (s.n+t.n) (aH s.n (fun i=>kB (s.get i)) (fun i=>kB (t.get i))):=(kf (fun _=>rfl) s t).symm
theorem bq {α β:Type} (f:α->β) (c:Bool) (a b:Option α):Option.map f (cond c a b)=cond c (Option.map f a) (Option.map f b):=by cases c <;> rfl
def ah (P:Program) (ps:List (Nat×(List KV->KR KV))):Prop:=∀ p∈ps,bH P p.1 p.2
theorem ah.nil {P:Program} : ah P []:=fun p hp=>by simp at hp
theorem ah.cons {P:Program} {g:Nat} {F:List KV->KR KV} {ps:List (Nat×(List KV->KR KV))} (h:bH P g F) (t:ah P ps):ah P ((g,F)::ps):=fun p hp=>by
 rcases fA.1 hp with rfl | hp
 ·exact h
 ·exact t p hp
theorem ah.pc {P:Program} {ps:List (Nat×(List KV->KR KV))} (h:ah P ps):uZ P (akQ ps):=arw h
def au (P:Program) (ls:List Lp):Prop:=∀ l∈ls,l.Ok P/\bZ P l.f l.p=true
theorem au.nil {P:Program} : au P []:=fun p hp=>by simp at hp
theorem au.cons {P:Program} {l:Lp} {ls:List Lp} (h:l.Ok P) (h' : bZ P l.f l.p=true) (t:au P ls):au P (l::ls):=fun p hp=>by
 rcases fA.1 hp with rfl | hp
 ·exact ⟨h,h'⟩
 ·exact t p hp
def Ra (P:Program) (fs:List Fc):Prop:=∀ c∈fs,c.Ok P
theorem Ra.nil {P:Program} : Ra P []:=fun p hp=>by simp at hp
noncomputable def bp (P:Program) (ps:List (Nat×(List KV->KR KV))) (ls:List Lp) (mt:TypeId->Bool:=fun _=>false) (fz:Bool:=false) (eg:Bool:=false) (fs:List Fc:=[]):fE:=⟨akQ ps,agA P ls,⟨akO P fs,mt,fz,eg⟩⟩
noncomputable def bL {R:Type} [Inhabited R] (k:R->KV) (r:List KV->Option R):List KV->KR KV:=fun aw7=>.lP (r aw7).isSome (k ((r aw7).getD default))
theorem aL {P:Program} {R:Type} [Inhabited R] {k:R->KV} {r:List KV->Option R} {g:FuncId} (hP:P.funcs.toList.all o9=true) (hm:P.follows .mixedOrders=true) {ps:List (Nat×(List KV->KR KV))} {ls:List Lp} (j9:ah P ps) (oY:au P ls) {L n:Nat} {mt:TypeId->Bool} {fz eg:Bool} {fs:List Fc}
  (h:∀ w,cD P (bp P ps ls mt fz eg fs) L n g (ck P (aG P g) w 0)=(r (ck P (aG P g) w 0)).map k) (hy:Nat.blt g yB=true:=by rfl) (hfs:Ra P fs:=by exact Ra.nil):bH P g (bI P g (bL k r)):=
 atQ (cfg:=bp P ps ls mt fz eg fs) hP hm j9.pc (ae6 hP hm (ae7 hP hm hfs) oY) (hy:=hy) fun w v hv=>by
  obtain ⟨h1,h2⟩:=bf.lP hv;rw [h w];cases hr:r (ck P (aG P g) w 0) with
  | none=>rw [hr] at h1; simp at h1
  | some x=>rw [hr] at h2; rw [<- h2]; rfl
theorem b8 {P:Program} {l:Lp} {X:Type} [Inhabited X] (hP:P.funcs.toList.all o9=true) (hm:P.follows .mixedOrders=true) {ps:List (Nat×(List KV->KR KV))} {ls:List Lp} (j9:ah P ps) (oY:au P ls) {L n:Nat} {mt:TypeId->Bool} {fz eg:Bool} {fs:List Fc} {step:X->aW X} {ev:X->List KV} {er:X->List (List KV)} {es:List ae} {pa:List KV->List (List KV)->X}
  (hF:l.F=fun vs rs=>dC ev er (goN step (pa vs rs)) es) (gQ:∀ wv wr,ev (pa (tJ P l.S.gS wv 0) (tK P l.S.rows wr 0))=tJ P l.S.gS wv 0/\er (pa (tJ P l.S.gS wv 0) (tK P l.S.rows wr 0))=tK P l.S.rows wr 0)
  (yx:∀ x,dB P (bp P ps ls mt fz eg fs) L n l.f l.p (dF P l.f l.p) l.S (ev x) (er x)=aW.enc ev er (step x)) (hfs:Ra P fs:=by exact Ra.nil) (hs:l.st=false:=by rfl):l.Ok P:=
 aob (cfg:=bp P ps ls mt fz eg fs) j9.pc (ae6 hP hm (ae7 hP hm hfs) oY) (fun _ _=>by rw [hF]) gQ (fun x=>.inr (by rw [hs]; exact yx x))
theorem Ym {P:Program} {l:Lp} {X:Type} [Inhabited X] (hP:P.funcs.toList.all o9=true) (hm:P.follows .mixedOrders=true) {ps:List (Nat×(List KV->KR KV))} {ls:List Lp} (j9:ah P ps) (oY:au P ls) {L n:Nat} {mt:TypeId->Bool} {fz eg:Bool} {fs:List Fc} {step:X->aW X} {ev:X->List KV} {er:X->List (List KV)} {es:List ae} {pa:List KV->List (List KV)->X}
  (hF:l.F=fun vs rs=>dC ev er (goN step (pa vs rs)) es) (gQ:∀ wv wr,ev (pa (tJ P l.S.gS wv 0) (tK P l.S.rows wr 0))=tJ P l.S.gS wv 0/\er (pa (tJ P l.S.gS wv 0) (tK P l.S.rows wr 0))=tK P l.S.rows wr 0)
  (yx:∀ x,step x = .fail\/dB P (bp P ps ls mt fz eg fs) L n l.f l.p (dF P l.f l.p) l.S (ev x) (er x)=aW.enc ev er (step x)) (hfs:Ra P fs:=by exact Ra.nil) (hs:l.st=false:=by rfl):l.Ok P:=
 aob (cfg:=bp P ps ls mt fz eg fs) j9.pc (ae6 hP hm (ae7 hP hm hfs) oY) (fun _ _=>by rw [hF]) gQ (fun x=>by rw [hs]; exact yx x)
end Go.K
end
section
namespace Go.Proofs.YtckbdndhmcoihaaGreat.b
open Go.K
theorem funcs:Tryz.prog.funcs.toList.all aB.o9=true:=by kernel_rfl
theorem mixed:Tryz.prog.follows .mixedOrders=true:=by kernel_rfl
end Go.Proofs.YtckbdndhmcoihaaGreat.b
end
section
namespace Go.Proofs.YtckbdndhmcoihaaGreat.b
open Go.K
noncomputable section
structure Slot where
 gen:Int
 live:Bool
instance:Inhabited Slot:=⟨⟨default,default⟩⟩
def avI (x:Slot):List KV:=[.int .i64 x.gen,.bool x.live]
def ui (x:Slot):KV:=.agg (avI x)
def avJ (c:Nat->KV):Slot:=⟨ay (c 0),dj (c 1)⟩
def nU (v:KV):Slot:=avJ fun k=>v.cells.getD k .ao
theorem A9 (x:Slot):nU (ui x)=x:=rfl
theorem aod:nU .ao=default:=rfl
theorem eY (s:Sl Slot) (v:Slot):s.push v=aF nU (s.n+1) (aH s.n (fun i=>ui (s.get i)) (ef [ui v])):=(ke A9 aod s v).symm
theorem eZ (s t:Sl Slot):s.join t=aF nU (s.n+t.n) (aH s.n (fun i=>ui (s.get i)) (fun i=>ui (t.get i))):=(kf A9 s t).symm
theorem gu (l:List Slot):Sl.lit l=aF nU l.length (ef (l.map ui)):=(lR A9 aod l).symm
theorem gw (s:Sl Slot) (i:Nat) (v:Slot):s.set i v=aF nU s.n (cB (fun j=>ui (s.get j)) i (ui v)):=(lT A9 s i v).symm
theorem dK (s t:Sl Slot) (o m:Nat):s.rl o m t=aF nU s.n (aJ o m (fun j=>ui (s.get j)) (fun j=>ui (t.get j))):=(jg A9 s t o m).symm
theorem gx (m n n' : Nat) (acc aE:Nat->KV):aF nU m (aH n (fun i=>ui ((aF nU n' acc).get i)) aE)=aF nU m (aH n acc aE):=ml A9 ..
theorem gz (m n n' : Nat) (acc aE:Nat->KV):aF nU m (aH n acc (fun i=>ui ((aF nU n' aE).get i)))=aF nU m (aH n acc aE):=mm A9 ..
theorem gA (m n' i:Nat) (acc:Nat->KV) (v:KV):aF nU m (cB (fun j=>ui ((aF nU n' acc).get j)) i v)=aF nU m (cB acc i v):=mn A9 ..
theorem gC (n n' o m:Nat) (acc aE:Nat->KV):aF nU n (aJ o m (fun j=>ui ((aF nU n' acc).get j)) aE)=aF nU n (aJ o m acc aE):=mo A9 ..
theorem gD (n n' o m:Nat) (acc aE:Nat->KV):aF nU n (aJ o m acc (fun j=>ui ((aF nU n' aE).get j)))=aF nU n (aJ o m acc aE):=mq A9 ..
def IV:List (Nat×(List KV->KR KV)):=[]
def IW:List Lp:=[]
theorem Rb:ah Tryz.prog IV:=ah.nil
theorem Rc:au Tryz.prog IW:=au.nil
def Da (s:Slot):Option (Bool):=(cond (decide (s.gen < (1:Int))) (some (true)) (some ((decide (s.gen > (1073741824:Int))))))
theorem Tf (s:Slot):cD Tryz.prog (bp Tryz.prog IV IW (fun _=>false)) 9 9 172 [ui s] = (Da s).map kB:=by
 unfold Da
 try simp only [bq,eY,eZ,gu,gx,gz,gA,gC,gD,gw,dK,fL,fY,iJ,jd,jt,ju,jv,jw,eW,eX,gq,iI,gp,eV,dJ]
 kernel_rfl
def Db:List KV->KR KV:=bI Tryz.prog 172 (bL kB fun vs=>Da (nU (vs.getD 0 .ao)))
theorem Rd (w:Nat->KV):ck Tryz.prog [111] w 0 = [ui (nU (ax Tryz.prog (ai Tryz.prog aj) 111 (w 0)))]:=by kernel_rfl
theorem FV:bH Tryz.prog 172 Db:=aL funcs mixed Rb Rc (L:=9) (n:=9) fun w=>by
 have e:aG Tryz.prog 172 = [111]:=by kernel_rfl
 rw [e,Rd]
 exact (Tf (nU (ax Tryz.prog (ai Tryz.prog aj) 111 (w 0)))).trans (by kernel_rfl)
structure jH where
 bJ:(Sl Slot)
instance:Inhabited jH:=⟨⟨default⟩⟩
def arx (x:jH):List KV:=[eA 111 ui x.bJ]
def jf (x:jH):KV:=.agg (arx x)
def ary (c:Nat->KV):jH:=⟨dP nU (c 0)⟩
def iM (v:KV):jH:=ary fun k=>v.cells.getD k .ao
theorem xi (x:jH):iM (jf x)=x:=rfl
theorem akS:iM .ao=default:=rfl
theorem dW (s:Sl jH) (v:jH):s.push v=aF iM (s.n+1) (aH s.n (fun i=>jf (s.get i)) (ef [jf v])):=(ke xi akS s v).symm
theorem dX (s t:Sl jH):s.join t=aF iM (s.n+t.n) (aH s.n (fun i=>jf (s.get i)) (fun i=>jf (t.get i))):=(kf xi s t).symm
theorem fj (l:List jH):Sl.lit l=aF iM l.length (ef (l.map jf)):=(lR xi akS l).symm
theorem fk (s:Sl jH) (i:Nat) (v:jH):s.set i v=aF iM s.n (cB (fun j=>jf (s.get j)) i (jf v)):=(lT xi s i v).symm
theorem dw (s t:Sl jH) (o m:Nat):s.rl o m t=aF iM s.n (aJ o m (fun j=>jf (s.get j)) (fun j=>jf (t.get j))):=(jg xi s t o m).symm
theorem fo (m n n' : Nat) (acc aE:Nat->KV):aF iM m (aH n (fun i=>jf ((aF iM n' acc).get i)) aE)=aF iM m (aH n acc aE):=ml xi ..
theorem fp (m n n' : Nat) (acc aE:Nat->KV):aF iM m (aH n acc (fun i=>jf ((aF iM n' aE).get i)))=aF iM m (aH n acc aE):=mm xi ..
theorem fq (m n' i:Nat) (acc:Nat->KV) (v:KV):aF iM m (cB (fun j=>jf ((aF iM n' acc).get j)) i v)=aF iM m (cB acc i v):=mn xi ..
theorem fv (n n' o m:Nat) (acc aE:Nat->KV):aF iM n (aJ o m (fun j=>jf ((aF iM n' acc).get j)) aE)=aF iM n (aJ o m acc aE):=mo xi ..
theorem fw (n n' o m:Nat) (acc aE:Nat->KV):aF iM n (aJ o m acc (fun j=>jf ((aF iM n' aE).get j)))=aF iM n (aJ o m acc aE):=mq xi ..
structure bx where
 s:(Sl Slot)
 t4:Int
 t7:Int
 t8:Int
instance:Inhabited bx:=⟨⟨default,default,default,default⟩⟩
def gT (x:bx):List KV:=[eA 111 ui x.s,.fn (.func 172) [] [],.int .i64 x.t4,.int .i64 x.t7,.int .i64 x.t8]
def gU (x:bx):List (List KV):=[]
def nV (vs:List KV) (rs:List (List KV)):bx:=⟨dP nU (vs.getD 0 .ao),ay (vs.getD 2 .ao),ay (vs.getD 3 .ao),ay (vs.getD 4 .ao)⟩
def og:aV:=⟨[(0,⟨false,[.k (.slice 111)]⟩),(1,⟨false,[.lit (.fn (.func 172) [] [])]⟩),(4,⟨false,[.k (.int .i64)]⟩),(7,⟨false,[.k (.int .i64)]⟩),(8,⟨false,[.k (.int .i64)]⟩)],[],[]⟩
def vZ:=dB Tryz.prog (bp Tryz.prog [(172,Db)] [] (fun _=>false)) 9 9 210 26 (dF Tryz.prog 210 26) og
def du (x:bx):aW bx:=(cond (decide (x.t8 < x.t7)) (cond ((decide ((0:Int)<=x.t8))&&(decide (x.t8 < ((x.s.n:Nat):Int)))) (cond (decide ((x.s.get (Int.toNat x.t8)).gen < (1:Int))) (.out aB.ae.ret (⟨x.s,x.t8,x.t7,x.t8⟩:bx)) (cond (decide ((x.s.get (Int.toNat x.t8)).gen > (1073741824:Int))) (.out aB.ae.ret (⟨x.s,x.t8,x.t7,x.t8⟩:bx)) (.next (⟨x.s,x.t4,x.t7,(aR (x.t8+(1:Int)))⟩:bx)))) .fail) (.out (aB.ae.exit 0) x))
theorem va (x:bx):vZ (gT x) (gU x)=aW.enc gT gU (du x):=by
 unfold du
 try simp only [aW.cf,dW,dX,fj,fo,fp,fq,fv,fw,fk,dw,eY,eZ,gu,gx,gz,gA,gC,gD,gw,dK,fL,fY,iJ,jd,jt,ju,jv,jw,eW,eX,gq,iI,gp,eV,dJ]
 kernel_rfl
def il:Lp:=⟨210,26,og,fun vs rs=>dC gT gU (goN du (nV vs rs)) [aB.ae.exit 0,aB.ae.ret],false⟩
theorem v7:il.Ok Tryz.prog:=b8 funcs mixed (ah.cons FV ah.nil) au.nil (L:=9) (n:=9) (step:=du) (ev:=gT) (er:=gU) (pa:=nV) rfl (fun wv wr=>⟨by kernel_rfl,by kernel_rfl⟩) va
theorem uy:bZ Tryz.prog il.f il.p=true:=by kernel_rfl
def Pm:List (Nat×(List KV->KR KV)):=[(172,Db)]
def Pn:List Lp:=[il]
theorem Yn:ah Tryz.prog Pm:=(ah.cons FV ah.nil)
theorem Yo:au Tryz.prog Pn:=(au.cons v7 uy au.nil)
def vb (a:jH):(aW bx):=(goN du (⟨a.bJ,(0:Int),((a.bJ.n:Nat):Int),(0:Int)⟩:bx))
def fB (a:jH):Option (Int):=(cond (decide (((a.bJ.n:Nat):Int) > (128:Int))) (some ((8:Int))) (cond ((vb a).by (aB.ae.exit 0)) (some ((0:Int))) (cond ((vb a).by aB.ae.ret) (cond (decide ((vb a).st.t4 >= (0:Int))) (some ((8:Int))) (some ((0:Int)))) none)))
theorem aaY (a:jH):cD Tryz.prog (bp Tryz.prog Pm Pn (fun _=>false)) 9 9 120 [jf a] = (fB a).map (kI .i64):=by
 unfold fB
 try simp only [bq,dW,dX,fj,fo,fp,fq,fv,fw,fk,dw,eY,eZ,gu,gx,gz,gA,gC,gD,gw,dK,fL,fY,iJ,jd,jt,ju,jv,jw,eW,eX,gq,iI,gp,eV,dJ]
 kernel_rfl
def Re:List KV->KR KV:=bI Tryz.prog 120 (bL (kI .i64) fun vs=>fB (iM (vs.getD 0 .ao)))
theorem Yp (w:Nat->KV):ck Tryz.prog [24] w 0 = [jf (iM (ax Tryz.prog (ai Tryz.prog aj) 24 (w 0)))]:=by kernel_rfl
theorem J5:bH Tryz.prog 120 Re:=aL funcs mixed Yn Yo (L:=9) (n:=9) fun w=>by
 have e:aG Tryz.prog 120 = [24]:=by kernel_rfl
 rw [e,Yp]
 exact (aaY (iM (ax Tryz.prog (ai Tryz.prog aj) 24 (w 0)))).trans (by kernel_rfl)
structure Handle where
 slot:Int
 gen:Int
instance:Inhabited Handle:=⟨⟨default,default⟩⟩
def agK (x:Handle):List KV:=[.int .i64 x.slot,.int .i64 x.gen]
def dL (x:Handle):KV:=.agg (agK x)
def agL (c:Nat->KV):Handle:=⟨ay (c 0),ay (c 1)⟩
def cM (v:KV):Handle:=agL fun k=>v.cells.getD k .ao
theorem uj (x:Handle):cM (dL x)=x:=rfl
theorem agM:cM .ao=default:=rfl
theorem db (s:Sl Handle) (v:Handle):s.push v=aF cM (s.n+1) (aH s.n (fun i=>dL (s.get i)) (ef [dL v])):=(ke uj agM s v).symm
theorem dM (s t:Sl Handle):s.join t=aF cM (s.n+t.n) (aH s.n (fun i=>dL (s.get i)) (fun i=>dL (t.get i))):=(kf uj s t).symm
theorem dY (l:List Handle):Sl.lit l=aF cM l.length (ef (l.map dL)):=(lR uj agM l).symm
theorem eN (s:Sl Handle) (i:Nat) (v:Handle):s.set i v=aF cM s.n (cB (fun j=>dL (s.get j)) i (dL v)):=(lT uj s i v).symm
theorem dn (s t:Sl Handle) (o m:Nat):s.rl o m t=aF cM s.n (aJ o m (fun j=>dL (s.get j)) (fun j=>dL (t.get j))):=(jg uj s t o m).symm
theorem dZ (m n n' : Nat) (acc aE:Nat->KV):aF cM m (aH n (fun i=>dL ((aF cM n' acc).get i)) aE)=aF cM m (aH n acc aE):=ml uj ..
theorem eO (m n n' : Nat) (acc aE:Nat->KV):aF cM m (aH n acc (fun i=>dL ((aF cM n' aE).get i)))=aF cM m (aH n acc aE):=mm uj ..
theorem eP (m n' i:Nat) (acc:Nat->KV) (v:KV):aF cM m (cB (fun j=>dL ((aF cM n' acc).get j)) i v)=aF cM m (cB acc i v):=mn uj ..
theorem eQ (n n' o m:Nat) (acc aE:Nat->KV):aF cM n (aJ o m (fun j=>dL ((aF cM n' acc).get j)) aE)=aF cM n (aJ o m acc aE):=mo uj ..
theorem eR (n n' o m:Nat) (acc aE:Nat->KV):aF cM n (aJ o m acc (fun j=>dL ((aF cM n' aE).get j)))=aF cM n (aJ o m acc aE):=mq uj ..
def Rf:List (Nat×(List KV->KR KV)):=[]
def Rg:List Lp:=[]
theorem aaZ:ah Tryz.prog Rf:=ah.nil
theorem aa0:au Tryz.prog Rg:=au.nil
def nC (a:jH) (h:Handle):Option (Bool):=(cond (decide (h.slot >= (0:Int))) (cond (decide (h.slot < ((a.bJ.n:Nat):Int))) (cond ((decide ((0:Int)<=h.slot))&&(decide (h.slot < ((a.bJ.n:Nat):Int)))) (some ((((a.bJ.get (Int.toNat h.slot)).gen==h.gen)&&(((a.bJ.get (Int.toNat h.slot)).live==true)&&true)))) none) (some (false))) (some (false)))
theorem adD (a:jH) (h:Handle):cD Tryz.prog (bp Tryz.prog Rf Rg (fun _=>false)) 9 9 128 [jf a,dL h] = (nC a h).map kB:=by
 unfold nC
 try simp only [bq,db,dM,dY,dZ,eO,eP,eQ,eR,eN,dn,dW,dX,fj,fo,fp,fq,fv,fw,fk,dw,eY,eZ,gu,gx,gz,gA,gC,gD,gw,dK,fL,fY,iJ,jd,jt,ju,jv,jw,eW,eX,gq,iI,gp,eV,dJ]
 kernel_rfl
def Uk:List KV->KR KV:=bI Tryz.prog 128 (bL kB fun vs=>nC (iM (vs.getD 0 .ao)) (cM (vs.getD 1 .ao)))
theorem aa1 (w:Nat->KV):ck Tryz.prog [24,32] w 0 = [jf (iM (ax Tryz.prog (ai Tryz.prog aj) 24 (w 0))),dL (cM (ax Tryz.prog (ai Tryz.prog aj) 32 (w 1)))]:=by kernel_rfl
theorem aa2:bH Tryz.prog 128 Uk:=aL funcs mixed aaZ aa0 (L:=9) (n:=9) fun w=>by
 have e:aG Tryz.prog 128 = [24,32]:=by kernel_rfl
 rw [e,aa1]
 exact (adD (iM (ax Tryz.prog (ai Tryz.prog aj) 24 (w 0))) (cM (ax Tryz.prog (ai Tryz.prog aj) 32 (w 1)))).trans (by kernel_rfl)
def Po:List (Nat×(List KV->KR KV)):=[(128,Uk),(120,Re)]
def Pp:List Lp:=[]
theorem Yq:ah Tryz.prog Po:=(ah.cons aa2 (ah.cons J5 ah.nil))
theorem Yr:au Tryz.prog Pp:=au.nil
def vc (a:jH) (h:Handle):(Option Int):=(fB a)
def vd (a:jH) (h:Handle):(Option Bool):=(nC a h)
def eG (a:jH) (h:Handle):Option (Bool):=(cond (vc a h).isSome (cond (((vc a h).getD default)==(0:Int)) (cond (vd a h).isSome (some (((vd a h).getD default))) none) (some (false))) none)
theorem aa3 (a:jH) (h:Handle):cD Tryz.prog (bp Tryz.prog Po Pp (fun _=>false)) 9 9 77 [jf a,dL h] = (eG a h).map kB:=by
 unfold eG
 try simp only [bq,db,dM,dY,dZ,eO,eP,eQ,eR,eN,dn,dW,dX,fj,fo,fp,fq,fv,fw,fk,dw,eY,eZ,gu,gx,gz,gA,gC,gD,gw,dK,fL,fY,iJ,jd,jt,ju,jv,jw,eW,eX,gq,iI,gp,eV,dJ]
 kernel_rfl
def yM:List KV->KR KV:=bI Tryz.prog 77 (bL kB fun vs=>eG (iM (vs.getD 0 .ao)) (cM (vs.getD 1 .ao)))
theorem Ys (w:Nat->KV):ck Tryz.prog [24,32] w 0 = [jf (iM (ax Tryz.prog (ai Tryz.prog aj) 24 (w 0))),dL (cM (ax Tryz.prog (ai Tryz.prog aj) 32 (w 1)))]:=by kernel_rfl
theorem tL:bH Tryz.prog 77 yM:=aL funcs mixed Yq Yr (L:=9) (n:=9) fun w=>by
 have e:aG Tryz.prog 77 = [24,32]:=by kernel_rfl
 rw [e,Ys]
 exact (aa3 (iM (ax Tryz.prog (ai Tryz.prog aj) 24 (w 0))) (cM (ax Tryz.prog (ai Tryz.prog aj) 32 (w 1)))).trans (by kernel_rfl)
structure dG where
 ca:jH
 kids:(Sl (Sl Handle))
instance:Inhabited dG:=⟨⟨default,default⟩⟩
def Ou (x:dG):List KV:=[eA 111 ui x.ca.bJ,eA 35 (eA 32 dL) x.kids]
def pd (x:dG):KV:=.agg (Ou x)
def Ov (c:Nat->KV):dG:=⟨⟨dP nU (c 0)⟩,dP (dP cM) (c 1)⟩
def jD (v:KV):dG:=Ov fun k=>v.cells.getD k .ao
theorem xj (x:dG):jD (pd x)=x:=rfl
theorem akT:jD .ao=default:=rfl
theorem fG (s:Sl dG) (v:dG):s.push v=aF jD (s.n+1) (aH s.n (fun i=>pd (s.get i)) (ef [pd v])):=(ke xj akT s v).symm
theorem fH (s t:Sl dG):s.join t=aF jD (s.n+t.n) (aH s.n (fun i=>pd (s.get i)) (fun i=>pd (t.get i))):=(kf xj s t).symm
theorem gV (l:List dG):Sl.lit l=aF jD l.length (ef (l.map pd)):=(lR xj akT l).symm
theorem gW (s:Sl dG) (i:Nat) (v:dG):s.set i v=aF jD s.n (cB (fun j=>pd (s.get j)) i (pd v)):=(lT xj s i v).symm
theorem eJ (s t:Sl dG) (o m:Nat):s.rl o m t=aF jD s.n (aJ o m (fun j=>pd (s.get j)) (fun j=>pd (t.get j))):=(jg xj s t o m).symm
theorem gX (m n n' : Nat) (acc aE:Nat->KV):aF jD m (aH n (fun i=>pd ((aF jD n' acc).get i)) aE)=aF jD m (aH n acc aE):=ml xj ..
theorem gY (m n n' : Nat) (acc aE:Nat->KV):aF jD m (aH n acc (fun i=>pd ((aF jD n' aE).get i)))=aF jD m (aH n acc aE):=mm xj ..
theorem gZ (m n' i:Nat) (acc:Nat->KV) (v:KV):aF jD m (cB (fun j=>pd ((aF jD n' acc).get j)) i v)=aF jD m (cB acc i v):=mn xj ..
theorem hD (n n' o m:Nat) (acc aE:Nat->KV):aF jD n (aJ o m (fun j=>pd ((aF jD n' acc).get j)) aE)=aF jD n (aJ o m acc aE):=mo xj ..
theorem hH (n n' o m:Nat) (acc aE:Nat->KV):aF jD n (aJ o m acc (fun j=>pd ((aF jD n' aE).get j)))=aF jD n (aJ o m acc aE):=mq xj ..
structure jU where
 t2:Bool
 n:Int
 i:Int
 g:dG
instance:Inhabited jU:=⟨⟨default,default,default,default⟩⟩
def xP (x:jU):List KV:=[.bool x.t2,.int .i64 x.n,.int .i64 x.i]
def xQ (x:jU):List (List KV):=[Ou x.g]
def J6 (vs:List KV) (rs:List (List KV)):jU:=⟨dj (vs.getD 0 .ao),ay (vs.getD 1 .ao),ay (vs.getD 2 .ao),Ov (fun k=>(rs.getD 0 []).getD k .ao)⟩
def MF:aV:=⟨[(2,⟨false,[.k .bool]⟩),(3,⟨false,[.k (.int .i64)]⟩),(4,⟨false,[.k (.int .i64)]⟩)],[(1,[.k (.slice 111),.k (.slice 35)],1)],[(1,0,0)]⟩
def Yt:=dB Tryz.prog (bp Tryz.prog [] [] (fun q=>Nat.beq q 4)) 9 9 41 122 (dF Tryz.prog 41 122) MF
def lY (x:jU):aW jU:=(cond (decide (x.i < ((x.g.kids.n:Nat):Int))) (cond ((decide ((0:Int)<=x.i))&&(decide (x.i < ((x.g.kids.n:Nat):Int)))) (cond (decide ((aR (x.n+(((x.g.kids.get (Int.toNat x.i)).n:Nat):Int))) > (400:Int))) (.out aB.ae.ret (⟨true,(aR (x.n+(((x.g.kids.get (Int.toNat x.i)).n:Nat):Int))),x.i,x.g⟩:jU)) (.next (⟨x.t2,(aR (x.n+(((x.g.kids.get (Int.toNat x.i)).n:Nat):Int))),(aR (x.i+(1:Int))),x.g⟩:jU))) .fail) (.out (aB.ae.exit 0) x))
theorem Tg (x:jU):Yt (xP x) (xQ x)=aW.enc xP xQ (lY x):=by
 unfold lY
 try simp only [aW.cf,fG,fH,gV,gX,gY,gZ,hD,hH,gW,eJ,db,dM,dY,dZ,eO,eP,eQ,eR,eN,dn,dW,dX,fj,fo,fp,fq,fv,fw,fk,dw,eY,eZ,gu,gx,gz,gA,gC,gD,gw,dK,fL,fY,iJ,jd,jt,ju,jv,jw,eW,eX,gq,iI,gp,eV,dJ]
 kernel_rfl
def zf:Lp:=⟨41,122,MF,fun vs rs=>dC xP xQ (goN lY (J6 vs rs)) [aB.ae.exit 0,aB.ae.ret],false⟩
theorem Yu:zf.Ok Tryz.prog:=b8 funcs mixed ah.nil au.nil (L:=9) (n:=9) (step:=lY) (ev:=xP) (er:=xQ) (pa:=J6) rfl (fun wv wr=>⟨by kernel_rfl,by kernel_rfl⟩) Tg
theorem Rh:bZ Tryz.prog zf.f zf.p=true:=by kernel_rfl
def Ul:List (Nat×(List KV->KR KV)):=[]
def Um:List Lp:=[zf]
theorem adE:ah Tryz.prog Ul:=ah.nil
theorem adF:au Tryz.prog Um:=(au.cons Yu Rh au.nil)
def Dc (g:dG):(aW jU):=(goN lY (⟨false,(0:Int),(0:Int),g⟩:jU))
def zg (g:dG):Option (Bool):=(cond (decide (((g.ca.bJ.n:Nat):Int) > (200:Int))) (some (true)) (cond (decide (((g.kids.n:Nat):Int) > (200:Int))) (some (true)) (cond ((Dc g).by (aB.ae.exit 0)) (some (false)) (cond ((Dc g).by aB.ae.ret) (some ((Dc g).st.t2)) none))))
theorem agN (g:dG):cD Tryz.prog (bp Tryz.prog Ul Um (fun q=>Nat.beq q 4)) 9 9 41 [pd g] = (zg g).map kB:=by
 unfold zg
 try simp only [bq,fG,fH,gV,gX,gY,gZ,hD,hH,gW,eJ,db,dM,dY,dZ,eO,eP,eQ,eR,eN,dn,dW,dX,fj,fo,fp,fq,fv,fw,fk,dw,eY,eZ,gu,gx,gz,gA,gC,gD,gw,dK,fL,fY,iJ,jd,jt,ju,jv,jw,eW,eX,gq,iI,gp,eV,dJ]
 kernel_rfl
def Hx:List KV->KR KV:=bI Tryz.prog 41 (bL kB fun vs=>zg (jD (vs.getD 0 .ao)))
theorem Pq (w:Nat->KV):ck Tryz.prog [27] w 0 = [pd (jD (ax Tryz.prog (ai Tryz.prog aj) 27 (w 0)))]:=by kernel_rfl
theorem Gy:bH Tryz.prog 41 Hx:=aL funcs mixed adE adF (L:=9) (n:=9) fun w=>by
 have e:aG Tryz.prog 41 = [27]:=by kernel_rfl
 rw [e,Pq]
 exact (agN (jD (ax Tryz.prog (ai Tryz.prog aj) 27 (w 0)))).trans (by kernel_rfl)
structure kR where
 t2:Bool
 i:Int
 a:jH
instance:Inhabited kR:=⟨⟨default,default,default⟩⟩
def Dd (x:kR):List KV:=[.bool x.t2,.int .i64 x.i]
def De (x:kR):List (List KV):=[arx x.a]
def Ri (vs:List KV) (rs:List (List KV)):kR:=⟨dj (vs.getD 0 .ao),ay (vs.getD 1 .ao),ary (fun k=>(rs.getD 0 []).getD k .ao)⟩
def Un:aV:=⟨[(2,⟨false,[.k .bool]⟩),(3,⟨false,[.k (.int .i64)]⟩)],[(1,[.k (.slice 111)],1)],[(1,0,0)]⟩
def agO:=dB Tryz.prog (bp Tryz.prog [] [] (fun q=>Nat.beq q 4)) 9 9 176 26 (dF Tryz.prog 176 26) Un
def rO (x:kR):aW kR:=(cond (decide (x.i < ((x.a.bJ.n:Nat):Int))) (cond ((decide ((0:Int)<=x.i))&&(decide (x.i < ((x.a.bJ.n:Nat):Int)))) (cond (decide ((x.a.bJ.get (Int.toNat x.i)).gen < (1:Int))) (.out aB.ae.ret (⟨false,x.i,x.a⟩:kR)) (cond ((decide ((0:Int)<=x.i))&&(decide (x.i < ((x.a.bJ.n:Nat):Int)))) (cond (decide ((x.a.bJ.get (Int.toNat x.i)).gen > (1073741824:Int))) (.out aB.ae.ret (⟨false,x.i,x.a⟩:kR)) (.next (⟨x.t2,(aR (x.i+(1:Int))),x.a⟩:kR))) .fail)) .fail) (.out (aB.ae.exit 0) x))
theorem aa4 (x:kR):agO (Dd x) (De x)=aW.enc Dd De (rO x):=by
 unfold rO
 try simp only [aW.cf,fG,fH,gV,gX,gY,gZ,hD,hH,gW,eJ,db,dM,dY,dZ,eO,eP,eQ,eR,eN,dn,dW,dX,fj,fo,fp,fq,fv,fw,fk,dw,eY,eZ,gu,gx,gz,gA,gC,gD,gw,dK,fL,fY,iJ,jd,jt,ju,jv,jw,eW,eX,gq,iI,gp,eV,dJ]
 kernel_rfl
def Fp:Lp:=⟨176,26,Un,fun vs rs=>dC Dd De (goN rO (Ri vs rs)) [aB.ae.exit 0,aB.ae.ret],false⟩
theorem agP:Fp.Ok Tryz.prog:=b8 funcs mixed ah.nil au.nil (L:=9) (n:=9) (step:=rO) (ev:=Dd) (er:=De) (pa:=Ri) rfl (fun wv wr=>⟨by kernel_rfl,by kernel_rfl⟩) aa4
theorem Yv:bZ Tryz.prog Fp.f Fp.p=true:=by kernel_rfl
def acM:List (Nat×(List KV->KR KV)):=[]
def acN:List Lp:=[Fp]
theorem ai4:ah Tryz.prog acM:=ah.nil
theorem ai5:au Tryz.prog acN:=(au.cons agP Yv au.nil)
def zh (a:jH):(aW kR):=(goN rO (⟨false,(0:Int),a⟩:kR))
def Ez (a:jH):Option (Bool):=(cond ((zh a).by (aB.ae.exit 0)) (some ((decide ((((zh a).st.a.bJ.n:Nat):Int)<=(128:Int))))) (cond ((zh a).by aB.ae.ret) (some ((zh a).st.t2)) none))
theorem alZ (a:jH):cD Tryz.prog (bp Tryz.prog acM acN (fun q=>Nat.beq q 4)) 9 9 176 [jf a] = (Ez a).map kB:=by
 unfold Ez
 try simp only [bq,fG,fH,gV,gX,gY,gZ,hD,hH,gW,eJ,db,dM,dY,dZ,eO,eP,eQ,eR,eN,dn,dW,dX,fj,fo,fp,fq,fv,fw,fk,dw,eY,eZ,gu,gx,gz,gA,gC,gD,gw,dK,fL,fY,iJ,jd,jt,ju,jv,jw,eW,eX,gq,iI,gp,eV,dJ]
 kernel_rfl
def Ow:List KV->KR KV:=bI Tryz.prog 176 (bL kB fun vs=>Ez (iM (vs.getD 0 .ao)))
theorem ai6 (w:Nat->KV):ck Tryz.prog [24] w 0 = [jf (iM (ax Tryz.prog (ai Tryz.prog aj) 24 (w 0)))]:=by kernel_rfl
theorem Lr:bH Tryz.prog 176 Ow:=aL funcs mixed ai4 ai5 (L:=9) (n:=9) fun w=>by
 have e:aG Tryz.prog 176 = [24]:=by kernel_rfl
 rw [e,ai6]
 exact (alZ (iM (ax Tryz.prog (ai Tryz.prog aj) 24 (w 0)))).trans (by kernel_rfl)
def Yw:List (Nat×(List KV->KR KV)):=[]
def Yx:List Lp:=[]
theorem agQ:ah Tryz.prog Yw:=ah.nil
theorem agR:au Tryz.prog Yx:=au.nil
def yN (a:jH) (h:Handle):Option (Bool):=(cond (decide (h.slot >= (0:Int))) (cond (decide (h.slot < ((a.bJ.n:Nat):Int))) (cond ((decide ((0:Int)<=h.slot))&&(decide (h.slot < ((a.bJ.n:Nat):Int)))) (cond (a.bJ.get (Int.toNat h.slot)).live (cond ((decide ((0:Int)<=h.slot))&&(decide (h.slot < ((a.bJ.n:Nat):Int)))) (some (((a.bJ.get (Int.toNat h.slot)).gen==h.gen))) none) (some (false))) none) (some (false))) (some (false)))
theorem ai7 (a:jH) (h:Handle):cD Tryz.prog (bp Tryz.prog Yw Yx (fun q=>Nat.beq q 4)) 9 9 177 [jf a,dL h] = (yN a h).map kB:=by
 unfold yN
 try simp only [bq,fG,fH,gV,gX,gY,gZ,hD,hH,gW,eJ,db,dM,dY,dZ,eO,eP,eQ,eR,eN,dn,dW,dX,fj,fo,fp,fq,fv,fw,fk,dw,eY,eZ,gu,gx,gz,gA,gC,gD,gw,dK,fL,fY,iJ,jd,jt,ju,jv,jw,eW,eX,gq,iI,gp,eV,dJ]
 kernel_rfl
def FW:List KV->KR KV:=bI Tryz.prog 177 (bL kB fun vs=>yN (iM (vs.getD 0 .ao)) (cM (vs.getD 1 .ao)))
theorem agS (w:Nat->KV):ck Tryz.prog [24,32] w 0 = [jf (iM (ax Tryz.prog (ai Tryz.prog aj) 24 (w 0))),dL (cM (ax Tryz.prog (ai Tryz.prog aj) 32 (w 1)))]:=by kernel_rfl
theorem Df:bH Tryz.prog 177 FW:=aL funcs mixed agQ agR (L:=9) (n:=9) fun w=>by
 have e:aG Tryz.prog 177 = [24,32]:=by kernel_rfl
 rw [e,agS]
 exact (ai7 (iM (ax Tryz.prog (ai Tryz.prog aj) 24 (w 0))) (cM (ax Tryz.prog (ai Tryz.prog aj) 32 (w 1)))).trans (by kernel_rfl)
structure jk where
 t2:Bool
 cH:(Sl Bool)
 n:Int
 again:Int
 g:dG
instance:Inhabited jk:=⟨⟨default,default,default,default,default⟩⟩
def xR (x:jk):List KV:=[.bool x.t2,eA 4 kB x.cH,.int .i64 x.n,.int .i64 x.again]
def xS (x:jk):List (List KV):=[Ou x.g]
def J7 (vs:List KV) (rs:List (List KV)):jk:=⟨dj (vs.getD 0 .ao),dP dj (vs.getD 1 .ao),ay (vs.getD 2 .ao),ay (vs.getD 3 .ao),Ov (fun k=>(rs.getD 0 []).getD k .ao)⟩
def MG:aV:=⟨[(2,⟨false,[.k .bool]⟩),(3,⟨false,[.arr 4]⟩),(4,⟨false,[.k (.int .i64)]⟩),(5,⟨false,[.k (.int .i64)]⟩)],[(1,[.k (.slice 111),.k (.slice 35)],1)],[(1,0,0)]⟩
structure e8 where
 t2:Bool
 cH:(Sl Bool)
 n:Int
 again:Int
 i:Int
 g:dG
instance:Inhabited e8:=⟨by constructor<;>exact default⟩
def v8 (x:e8):List KV:=[.bool x.t2,eA 4 kB x.cH,.int .i64 x.n,.int .i64 x.again,.int .i64 x.i]
def wa (x:e8):List (List KV):=[Ou x.g]
def IX (vs:List KV) (rs:List (List KV)):e8:=⟨dj (vs.getD 0 .ao),dP dj (vs.getD 1 .ao),ay (vs.getD 2 .ao),ay (vs.getD 3 .ao),ay (vs.getD 4 .ao),Ov (fun k=>(rs.getD 0 []).getD k .ao)⟩
def J8:aV:=⟨[(2,⟨false,[.k .bool]⟩),(3,⟨false,[.arr 4]⟩),(4,⟨false,[.k (.int .i64)]⟩),(5,⟨false,[.k (.int .i64)]⟩),(6,⟨false,[.k (.int .i64)]⟩)],[(1,[.k (.slice 111),.k (.slice 35)],1)],[(1,0,0)]⟩
structure eH where
 t2:Bool
 cH:(Sl Bool)
 n:Int
 again:Int
 i:Int
 all:Bool
 k:Int
 g:dG
instance:Inhabited eH:=⟨by constructor<;>exact default⟩
def r8 (x:eH):List KV:=[.bool x.t2,eA 4 kB x.cH,.int .i64 x.n,.int .i64 x.again,.int .i64 x.i,.bool x.all,.int .i64 x.k]
def r9 (x:eH):List (List KV):=[Ou x.g]
def D3 (vs:List KV) (rs:List (List KV)):eH:=⟨dj (vs.getD 0 .ao),dP dj (vs.getD 1 .ao),ay (vs.getD 2 .ao),ay (vs.getD 3 .ao),ay (vs.getD 4 .ao),dj (vs.getD 5 .ao),ay (vs.getD 6 .ao),Ov (fun k=>(rs.getD 0 []).getD k .ao)⟩
def FX:aV:=⟨[(2,⟨false,[.k .bool]⟩),(3,⟨false,[.arr 4]⟩),(4,⟨false,[.k (.int .i64)]⟩),(5,⟨false,[.k (.int .i64)]⟩),(6,⟨false,[.k (.int .i64)]⟩),(7,⟨false,[.k .bool]⟩),(8,⟨false,[.k (.int .i64)]⟩)],[(1,[.k (.slice 111),.k (.slice 35)],1)],[(1,0,0)]⟩
def P0:=dB Tryz.prog (bp Tryz.prog [] [] (fun q=>Nat.beq q 4)) 9 9 178 2003530 (dF Tryz.prog 178 2003530) FX
def iQ (x:eH):aW eH:=(cond ((decide ((0:Int)<=x.i))&&(decide (x.i < ((x.g.kids.n:Nat):Int)))) (cond (decide (x.k < (((x.g.kids.get (Int.toNat x.i)).n:Nat):Int))) (cond ((decide ((0:Int)<=x.i))&&(decide (x.i < ((x.g.kids.n:Nat):Int)))) (cond ((decide ((0:Int)<=x.k))&&(decide (x.k < (((x.g.kids.get (Int.toNat x.i)).n:Nat):Int)))) (cond ((decide ((0:Int)<=((x.g.kids.get (Int.toNat x.i)).get (Int.toNat x.k)).slot))&&(decide (((x.g.kids.get (Int.toNat x.i)).get (Int.toNat x.k)).slot < ((x.cH.n:Nat):Int)))) (cond (!(x.cH.get (0+(Int.toNat ((x.g.kids.get (Int.toNat x.i)).get (Int.toNat x.k)).slot)))) (cond (bz x.cH.n x.cH.n) (.next (⟨x.t2,x.cH,x.n,x.again,x.i,false,(aR (x.k+(1:Int))),x.g⟩:eH)) .fail) (cond (bz x.cH.n x.cH.n) (.next (⟨x.t2,x.cH,x.n,x.again,x.i,x.all,(aR (x.k+(1:Int))),x.g⟩:eH)) .fail)) .fail) .fail) .fail) (cond (bz x.cH.n x.cH.n) (.out (aB.ae.exit 4) x) .fail)) .fail)
theorem MH (x:eH):P0 (r8 x) (r9 x)=aW.enc r8 r9 (iQ x):=by
 unfold iQ
 try simp only [aW.cf,fG,fH,gV,gX,gY,gZ,hD,hH,gW,eJ,db,dM,dY,dZ,eO,eP,eQ,eR,eN,dn,dW,dX,fj,fo,fp,fq,fv,fw,fk,dw,eY,eZ,gu,gx,gz,gA,gC,gD,gw,dK,fL,fY,iJ,jd,jt,ju,jv,jw,eW,eX,gq,iI,gp,eV,dJ]
 kernel_rfl
def nt:Lp:=⟨178,2003530,FX,fun vs rs=>dC r8 r9 (goN iQ (D3 vs rs)) [aB.ae.exit 4],false⟩
theorem xE:nt.Ok Tryz.prog:=b8 funcs mixed ah.nil au.nil (L:=9) (n:=9) (step:=iQ) (ev:=r8) (er:=r9) (pa:=D3) rfl (fun wv wr=>⟨by kernel_rfl,by kernel_rfl⟩) MH
theorem uk:bZ Tryz.prog nt.f nt.p=true:=by kernel_rfl
def Wc:=dB Tryz.prog (bp Tryz.prog [] [nt] (fun q=>Nat.beq q 4)) 9 9 178 7826 (dF Tryz.prog 178 7826) J8
def bh (x:e8):(aW eH):=(goN iQ (⟨x.t2,x.cH,x.n,x.again,x.i,true,(0:Int),x.g⟩:eH))
def kd (x:e8):aW e8:=(cond (decide (x.i < ((x.g.kids.n:Nat):Int))) (cond (bz x.cH.n x.cH.n) (cond ((bh x).by (aB.ae.exit 4)) (cond (bh x).st.all (cond ((decide ((0:Int)<=(bh x).st.i))&&(decide ((bh x).st.i < (((bh x).st.cH.n:Nat):Int)))) (cond (!((bh x).st.cH.get (0+(Int.toNat (bh x).st.i)))) (cond ((decide ((0:Int)<=(bh x).st.i))&&(decide ((bh x).st.i < (((bh x).st.cH.n:Nat):Int)))) (cond (bz (bh x).st.cH.n (bh x).st.cH.n) (.next (⟨(bh x).st.t2,((bh x).st.cH.set (0+(Int.toNat (bh x).st.i)) true),(aR ((bh x).st.n+(1:Int))),(bh x).st.again,(aR ((bh x).st.i+(1:Int))),(bh x).st.g⟩:e8)) .fail) .fail) (cond (bz (bh x).st.cH.n (bh x).st.cH.n) (.next (⟨(bh x).st.t2,(bh x).st.cH,(bh x).st.n,(bh x).st.again,(aR ((bh x).st.i+(1:Int))),(bh x).st.g⟩:e8)) .fail)) .fail) (cond (bz (bh x).st.cH.n (bh x).st.cH.n) (.next (⟨(bh x).st.t2,(bh x).st.cH,(bh x).st.n,(bh x).st.again,(aR ((bh x).st.i+(1:Int))),(bh x).st.g⟩:e8)) .fail)) .fail) .fail) (cond (bz x.cH.n x.cH.n) (.out (aB.ae.exit 2) x) .fail))
theorem Rj (x:e8):Wc (v8 x) (wa x)=aW.enc v8 wa (kd x):=by
 unfold kd
 try simp only [aW.cf,fG,fH,gV,gX,gY,gZ,hD,hH,gW,eJ,db,dM,dY,dZ,eO,eP,eQ,eR,eN,dn,dW,dX,fj,fo,fp,fq,fv,fw,fk,dw,eY,eZ,gu,gx,gz,gA,gC,gD,gw,dK,fL,fY,iJ,jd,jt,ju,jv,jw,eW,eX,gq,iI,gp,eV,dJ]
 kernel_rfl
def tM:Lp:=⟨178,7826,J8,fun vs rs=>dC v8 wa (goN kd (IX vs rs)) [aB.ae.exit 2],false⟩
theorem IY:tM.Ok Tryz.prog:=b8 funcs mixed ah.nil (au.cons xE uk au.nil) (L:=9) (n:=9) (step:=kd) (ev:=v8) (er:=wa) (pa:=IX) rfl (fun wv wr=>⟨by kernel_rfl,by kernel_rfl⟩) Rj
theorem D4:bZ Tryz.prog tM.f tM.p=true:=by kernel_rfl
def Yy:=dB Tryz.prog (bp Tryz.prog [] [nt,tM] (fun q=>Nat.beq q 4)) 9 9 178 122 (dF Tryz.prog 178 122) MG
def kv (x:jk):(aW e8):=(goN kd (⟨x.t2,x.cH,x.n,x.again,(0:Int),x.g⟩:e8))
def lZ (x:jk):aW jk:=(cond (decide (x.again < ((x.g.kids.n:Nat):Int))) (cond (bz x.cH.n x.cH.n) (cond ((kv x).by (aB.ae.exit 2)) (cond (bz (kv x).st.cH.n (kv x).st.cH.n) (.next (⟨(kv x).st.t2,(kv x).st.cH,(kv x).st.n,(aR ((kv x).st.again+(1:Int))),(kv x).st.g⟩:jk)) .fail) .fail) .fail) (cond (bz x.cH.n x.cH.n) (.out (aB.ae.exit 0) x) .fail))
theorem Th (x:jk):Yy (xR x) (xS x)=aW.enc xR xS (lZ x):=by
 unfold lZ
 try simp only [aW.cf,fG,fH,gV,gX,gY,gZ,hD,hH,gW,eJ,db,dM,dY,dZ,eO,eP,eQ,eR,eN,dn,dW,dX,fj,fo,fp,fq,fv,fw,fk,dw,eY,eZ,gu,gx,gz,gA,gC,gD,gw,dK,fL,fY,iJ,jd,jt,ju,jv,jw,eW,eX,gq,iI,gp,eV,dJ]
 kernel_rfl
def zi:Lp:=⟨178,122,MG,fun vs rs=>dC xR xS (goN lZ (J7 vs rs)) [aB.ae.exit 0],false⟩
theorem Yz:zi.Ok Tryz.prog:=b8 funcs mixed ah.nil (au.cons xE uk (au.cons IY D4 au.nil)) (L:=9) (n:=9) (step:=lZ) (ev:=xR) (er:=xS) (pa:=J7) rfl (fun wv wr=>⟨by kernel_rfl,by kernel_rfl⟩) Th
theorem Rl:bZ Tryz.prog zi.f zi.p=true:=by kernel_rfl
def Uo:List (Nat×(List KV->KR KV)):=[]
def Uq:List Lp:=[nt,tM,zi]
theorem adG:ah Tryz.prog Uo:=ah.nil
theorem adH:au Tryz.prog Uq:=(au.cons xE uk (au.cons IY D4 (au.cons Yz Rl au.nil)))
def Dg (g:dG):(aW jk):=(goN lZ (⟨false,(⟨(Int.toNat ((g.kids.n:Nat):Int)),(fun i=>false)⟩:Sl _),(0:Int),(0:Int),g⟩:jk))
def zj (g:dG):Option (Bool):=(cond ((decide (((g.kids.n:Nat):Int)<=((g.kids.n:Nat):Int)))&&(Nat.ble (1 * (Int.toNat ((g.kids.n:Nat):Int))) 281474976710656)) (cond (bz (Int.toNat ((g.kids.n:Nat):Int)) (Int.toNat ((g.kids.n:Nat):Int))) (cond ((Dg g).by (aB.ae.exit 0)) (some (((Dg g).st.n==(((Dg g).st.g.kids.n:Nat):Int)))) none) none) none)
theorem agT (g:dG):cD Tryz.prog (bp Tryz.prog Uo Uq (fun q=>Nat.beq q 4)) 9 9 178 [pd g] = (zj g).map kB:=by
 unfold zj
 try simp only [bq,fG,fH,gV,gX,gY,gZ,hD,hH,gW,eJ,db,dM,dY,dZ,eO,eP,eQ,eR,eN,dn,dW,dX,fj,fo,fp,fq,fv,fw,fk,dw,eY,eZ,gu,gx,gz,gA,gC,gD,gw,dK,fL,fY,iJ,jd,jt,ju,jv,jw,eW,eX,gq,iI,gp,eV,dJ]
 kernel_rfl
def Hy:List KV->KR KV:=bI Tryz.prog 178 (bL kB fun vs=>zj (jD (vs.getD 0 .ao)))
theorem adI (w:Nat->KV):ck Tryz.prog [27] w 0 = [pd (jD (ax Tryz.prog (ai Tryz.prog aj) 27 (w 0)))]:=by kernel_rfl
theorem Gz:bH Tryz.prog 178 Hy:=aL funcs mixed adG adH (L:=9) (n:=9) fun w=>by
 have e:aG Tryz.prog 178 = [27]:=by kernel_rfl
 rw [e,adI]
 exact (agT (jD (ax Tryz.prog (ai Tryz.prog aj) 27 (w 0)))).trans (by kernel_rfl)
structure dV where
 t2:Bool
 i:Int
 g:dG
instance:Inhabited dV:=⟨⟨default,default,default⟩⟩
def Dh (x:dV):List KV:=[.bool x.t2,.int .i64 x.i]
def Di (x:dV):List (List KV):=[Ou x.g]
def Rm (vs:List KV) (rs:List (List KV)):dV:=⟨dj (vs.getD 0 .ao),ay (vs.getD 1 .ao),Ov (fun k=>(rs.getD 0 []).getD k .ao)⟩
def Ur:aV:=⟨[(2,⟨false,[.k .bool]⟩),(3,⟨false,[.k (.int .i64)]⟩)],[(1,[.k (.slice 111),.k (.slice 35)],1)],[(1,0,0)]⟩
structure cj where
 t2:Bool
 i:Int
 k:Int
 g:dG
instance:Inhabited cj:=⟨⟨default,default,default,default⟩⟩
def zk (x:cj):List KV:=[.bool x.t2,.int .i64 x.i,.int .i64 x.k]
def zl (x:cj):List (List KV):=[Ou x.g]
def MI (vs:List KV) (rs:List (List KV)):cj:=⟨dj (vs.getD 0 .ao),ay (vs.getD 1 .ao),ay (vs.getD 2 .ao),Ov (fun k=>(rs.getD 0 []).getD k .ao)⟩
def Pr:aV:=⟨[(2,⟨false,[.k .bool]⟩),(3,⟨false,[.k (.int .i64)]⟩),(4,⟨false,[.k (.int .i64)]⟩)],[(1,[.k (.slice 111),.k (.slice 35)],1)],[(1,0,0)]⟩
def aa5:=dB Tryz.prog (bp Tryz.prog [(178,Hy),(177,FW),(176,Ow)] [] (fun q=>Nat.beq q 4)) 9 9 129 7462 (dF Tryz.prog 129 7462) Pr
def Dj (x:cj):(Option Bool):=(yN x.g.ca ((x.g.kids.get (Int.toNat x.i)).get (Int.toNat x.k)))
def cn (x:cj):aW cj:=(cond ((decide ((0:Int)<=x.i))&&(decide (x.i < ((x.g.kids.n:Nat):Int)))) (cond (decide (x.k < (((x.g.kids.get (Int.toNat x.i)).n:Nat):Int))) (cond ((decide ((0:Int)<=x.i))&&(decide (x.i < ((x.g.kids.n:Nat):Int)))) (cond ((decide ((0:Int)<=x.k))&&(decide (x.k < (((x.g.kids.get (Int.toNat x.i)).n:Nat):Int)))) (cond (Dj x).isSome (cond (!((Dj x).getD default)) (.out aB.ae.ret (⟨false,x.i,x.k,x.g⟩:cj)) (.next (⟨x.t2,x.i,(aR (x.k+(1:Int))),x.g⟩:cj))) .fail) .fail) .fail) (.out (aB.ae.exit 2) x)) .fail)
theorem Wd (x:cj):aa5 (zk x) (zl x)=aW.enc zk zl (cn x):=by
 unfold cn
 try simp only [aW.cf,fG,fH,gV,gX,gY,gZ,hD,hH,gW,eJ,db,dM,dY,dZ,eO,eP,eQ,eR,eN,dn,dW,dX,fj,fo,fp,fq,fv,fw,fk,dw,eY,eZ,gu,gx,gz,gA,gC,gD,gw,dK,fL,fY,iJ,jd,jt,ju,jv,jw,eW,eX,gq,iI,gp,eV,dJ]
 kernel_rfl
def wK:Lp:=⟨129,7462,Pr,fun vs rs=>dC zk zl (goN cn (MI vs rs)) [aB.ae.exit 2,aB.ae.ret],false⟩
theorem MJ:wK.Ok Tryz.prog:=b8 funcs mixed (ah.cons Gz (ah.cons Df (ah.cons Lr ah.nil))) au.nil (L:=9) (n:=9) (step:=cn) (ev:=zk) (er:=zl) (pa:=MI) rfl (fun wv wr=>⟨by kernel_rfl,by kernel_rfl⟩) Wd
theorem G1:bZ Tryz.prog wK.f wK.p=true:=by kernel_rfl
def agU:=dB Tryz.prog (bp Tryz.prog [(178,Hy),(177,FW),(176,Ow)] [wK] (fun q=>Nat.beq q 4)) 9 9 129 58 (dF Tryz.prog 129 58) Ur
def fg (x:dV):(aW cj):=(goN cn (⟨x.t2,x.i,(0:Int),x.g⟩:cj))
def rP (x:dV):aW dV:=(cond (decide (x.i < ((x.g.kids.n:Nat):Int))) (cond ((decide ((0:Int)<=x.i))&&(decide (x.i < ((x.g.kids.n:Nat):Int)))) (cond (decide ((((x.g.kids.get (Int.toNat x.i)).n:Nat):Int) > (16:Int))) (.out aB.ae.ret (⟨false,x.i,x.g⟩:dV)) (cond ((decide ((0:Int)<=x.i))&&(decide (x.i < ((x.g.kids.n:Nat):Int)))) (cond (decide ((((x.g.kids.get (Int.toNat x.i)).n:Nat):Int) > (0:Int))) (cond ((decide ((0:Int)<=x.i))&&(decide (x.i < ((x.g.ca.bJ.n:Nat):Int)))) (cond (!(x.g.ca.bJ.get (Int.toNat x.i)).live) (.out aB.ae.ret (⟨false,x.i,x.g⟩:dV)) (cond ((fg x).by (aB.ae.exit 2)) (.next (⟨(fg x).st.t2,(aR ((fg x).st.i+(1:Int))),(fg x).st.g⟩:dV)) (cond ((fg x).by aB.ae.ret) (.out aB.ae.ret (⟨(fg x).st.t2,(fg x).st.i,(fg x).st.g⟩:dV)) .fail))) .fail) (cond ((fg x).by (aB.ae.exit 2)) (.next (⟨(fg x).st.t2,(aR ((fg x).st.i+(1:Int))),(fg x).st.g⟩:dV)) (cond ((fg x).by aB.ae.ret) (.out aB.ae.ret (⟨(fg x).st.t2,(fg x).st.i,(fg x).st.g⟩:dV)) .fail))) .fail)) .fail) (.out (aB.ae.exit 0) x))
theorem aa6 (x:dV):agU (Dh x) (Di x)=aW.enc Dh Di (rP x):=by
 unfold rP
 try simp only [aW.cf,fG,fH,gV,gX,gY,gZ,hD,hH,gW,eJ,db,dM,dY,dZ,eO,eP,eQ,eR,eN,dn,dW,dX,fj,fo,fp,fq,fv,fw,fk,dw,eY,eZ,gu,gx,gz,gA,gC,gD,gw,dK,fL,fY,iJ,jd,jt,ju,jv,jw,eW,eX,gq,iI,gp,eV,dJ]
 kernel_rfl
def Fq:Lp:=⟨129,58,Ur,fun vs rs=>dC Dh Di (goN rP (Rm vs rs)) [aB.ae.exit 0,aB.ae.ret],false⟩
theorem agV:Fq.Ok Tryz.prog:=b8 funcs mixed (ah.cons Gz (ah.cons Df (ah.cons Lr ah.nil))) (au.cons MJ G1 au.nil) (L:=9) (n:=9) (step:=rP) (ev:=Dh) (er:=Di) (pa:=Rm) rfl (fun wv wr=>⟨by kernel_rfl,by kernel_rfl⟩) aa6
theorem YA:bZ Tryz.prog Fq.f Fq.p=true:=by kernel_rfl
def acO:List (Nat×(List KV->KR KV)):=[(178,Hy),(177,FW),(176,Ow)]
def acP:List Lp:=[wK,Fq]
theorem ai8:ah Tryz.prog acO:=(ah.cons Gz (ah.cons Df (ah.cons Lr ah.nil)))
theorem ai9:au Tryz.prog acP:=(au.cons MJ G1 (au.cons agV YA au.nil))
def Ox (g:dG):(Option Bool):=(Ez g.ca)
def zm (g:dG):(aW dV):=(goN rP (⟨false,(0:Int),g⟩:dV))
def Oy (g:dG):(Option Bool):=(zj (zm g).st.g)
def EB (g:dG):Option (Bool):=(cond (Ox g).isSome (cond (!((Ox g).getD default)) (some (false)) (cond (((g.kids.n:Nat):Int) != ((g.ca.bJ.n:Nat):Int)) (some (false)) (cond ((zm g).by (aB.ae.exit 0)) (cond (Oy g).isSome (some (((Oy g).getD default))) none) (cond ((zm g).by aB.ae.ret) (some ((zm g).st.t2)) none)))) none)
theorem al0 (g:dG):cD Tryz.prog (bp Tryz.prog acO acP (fun q=>Nat.beq q 4)) 9 9 129 [pd g] = (EB g).map kB:=by
 unfold EB
 try simp only [bq,fG,fH,gV,gX,gY,gZ,hD,hH,gW,eJ,db,dM,dY,dZ,eO,eP,eQ,eR,eN,dn,dW,dX,fj,fo,fp,fq,fv,fw,fk,dw,eY,eZ,gu,gx,gz,gA,gC,gD,gw,dK,fL,fY,iJ,jd,jt,ju,jv,jw,eW,eX,gq,iI,gp,eV,dJ]
 kernel_rfl
def Wf:List KV->KR KV:=bI Tryz.prog 129 (bL kB fun vs=>EB (jD (vs.getD 0 .ao)))
theorem aja (w:Nat->KV):ck Tryz.prog [27] w 0 = [pd (jD (ax Tryz.prog (ai Tryz.prog aj) 27 (w 0)))]:=by kernel_rfl
theorem Ut:bH Tryz.prog 129 Wf:=aL funcs mixed ai8 ai9 (L:=9) (n:=9) fun w=>by
 have e:aG Tryz.prog 129 = [27]:=by kernel_rfl
 rw [e,aja]
 exact (al0 (jD (ax Tryz.prog (ai Tryz.prog aj) 27 (w 0)))).trans (by kernel_rfl)
structure az where
 e0:Int
 e1:Int
 e2:Int
instance:Inhabited az:=⟨⟨default,default,default⟩⟩
def atU (x:az):List KV:=[.int .i64 x.e0,.int .i64 x.e1,.int .i64 x.e2]
def df (x:az):KV:=.agg (atU x)
def atV (c:Nat->KV):az:=⟨ay (c 0),ay (c 1),ay (c 2)⟩
def dv (v:KV):az:=atV fun k=>v.cells.getD k .ao
theorem um (x:az):dv (df x)=x:=rfl
theorem agW:dv .ao=default:=rfl
theorem jM (s:Sl az) (v:az):s.push v=aF dv (s.n+1) (aH s.n (fun i=>df (s.get i)) (ef [df v])):=(ke um agW s v).symm
theorem lk (s t:Sl az):s.join t=aF dv (s.n+t.n) (aH s.n (fun i=>df (s.get i)) (fun i=>df (t.get i))):=(kf um s t).symm
theorem oh (l:List az):Sl.lit l=aF dv l.length (ef (l.map df)):=(lR um agW l).symm
theorem oi (s:Sl az) (i:Nat) (v:az):s.set i v=aF dv s.n (cB (fun j=>df (s.get j)) i (df v)):=(lT um s i v).symm
theorem lF (s t:Sl az) (o m:Nat):s.rl o m t=aF dv s.n (aJ o m (fun j=>df (s.get j)) (fun j=>df (t.get j))):=(jg um s t o m).symm
theorem oj (m n n' : Nat) (acc aE:Nat->KV):aF dv m (aH n (fun i=>df ((aF dv n' acc).get i)) aE)=aF dv m (aH n acc aE):=ml um ..
theorem om (m n n' : Nat) (acc aE:Nat->KV):aF dv m (aH n acc (fun i=>df ((aF dv n' aE).get i)))=aF dv m (aH n acc aE):=mm um ..
theorem oo (m n' i:Nat) (acc:Nat->KV) (v:KV):aF dv m (cB (fun j=>df ((aF dv n' acc).get j)) i v)=aF dv m (cB acc i v):=mn um ..
theorem oq (n n' o m:Nat) (acc aE:Nat->KV):aF dv n (aJ o m (fun j=>df ((aF dv n' acc).get j)) aE)=aF dv n (aJ o m acc aE):=mo um ..
theorem ot (n n' o m:Nat) (acc aE:Nat->KV):aF dv n (aJ o m acc (fun j=>df ((aF dv n' aE).get j)))=aF dv n (aJ o m acc aE):=mq um ..
structure bw where
 e0:az
 e1:az
 e2:az
instance:Inhabited bw:=⟨⟨default,default,default⟩⟩
def aoe (x:bw):List KV:=[.int .i64 x.e0.e0,.int .i64 x.e0.e1,.int .i64 x.e0.e2,.int .i64 x.e1.e0,.int .i64 x.e1.e1,.int .i64 x.e1.e2,.int .i64 x.e2.e0,.int .i64 x.e2.e1,.int .i64 x.e2.e2]
def gb (x:bw):KV:=.agg (aoe x)
def aof (c:Nat->KV):bw:=⟨⟨ay (c 0),ay (c 1),ay (c 2)⟩,⟨ay (c 3),ay (c 4),ay (c 5)⟩,⟨ay (c 6),ay (c 7),ay (c 8)⟩⟩
def cV (v:KV):bw:=aof fun k=>v.cells.getD k .ao
theorem nD (x:bw):cV (gb x)=x:=rfl
theorem Uu:cV .ao=default:=rfl
theorem jP (s:Sl bw) (v:bw):s.push v=aF cV (s.n+1) (aH s.n (fun i=>gb (s.get i)) (ef [gb v])):=(ke nD Uu s v).symm
theorem jQ (s t:Sl bw):s.join t=aF cV (s.n+t.n) (aH s.n (fun i=>gb (s.get i)) (fun i=>gb (t.get i))):=(kf nD s t).symm
theorem kD (l:List bw):Sl.lit l=aF cV l.length (ef (l.map gb)):=(lR nD Uu l).symm
theorem kE (s:Sl bw) (i:Nat) (v:bw):s.set i v=aF cV s.n (cB (fun j=>gb (s.get j)) i (gb v)):=(lT nD s i v).symm
theorem jl (s t:Sl bw) (o m:Nat):s.rl o m t=aF cV s.n (aJ o m (fun j=>gb (s.get j)) (fun j=>gb (t.get j))):=(jg nD s t o m).symm
theorem kF (m n n' : Nat) (acc aE:Nat->KV):aF cV m (aH n (fun i=>gb ((aF cV n' acc).get i)) aE)=aF cV m (aH n acc aE):=ml nD ..
theorem kG (m n n' : Nat) (acc aE:Nat->KV):aF cV m (aH n acc (fun i=>gb ((aF cV n' aE).get i)))=aF cV m (aH n acc aE):=mm nD ..
theorem kH (m n' i:Nat) (acc:Nat->KV) (v:KV):aF cV m (cB (fun j=>gb ((aF cV n' acc).get j)) i v)=aF cV m (cB acc i v):=mn nD ..
theorem kJ (n n' o m:Nat) (acc aE:Nat->KV):aF cV n (aJ o m (fun j=>gb ((aF cV n' acc).get j)) aE)=aF cV n (aJ o m acc aE):=mo nD ..
theorem kK (n n' o m:Nat) (acc aE:Nat->KV):aF cV n (aJ o m acc (fun j=>gb ((aF cV n' aE).get j)))=aF cV n (aJ o m acc aE):=mq nD ..
structure fO where
 x:Int
 y:Int
 z:Int
instance:Inhabited fO:=⟨⟨default,default,default⟩⟩
def awK (x:fO):List KV:=[.int .i64 x.x,.int .i64 x.y,.int .i64 x.z]
def mr (x:fO):KV:=.agg (awK x)
def awL (c:Nat->KV):fO:=⟨ay (c 0),ay (c 1),ay (c 2)⟩
def kL (v:KV):fO:=awL fun k=>v.cells.getD k .ao
theorem Fs (x:fO):kL (mr x)=x:=rfl
theorem arz:kL .ao=default:=rfl
theorem sF (s:Sl fO) (v:fO):s.push v=aF kL (s.n+1) (aH s.n (fun i=>mr (s.get i)) (ef [mr v])):=(ke Fs arz s v).symm
theorem sG (s t:Sl fO):s.join t=aF kL (s.n+t.n) (aH s.n (fun i=>mr (s.get i)) (fun i=>mr (t.get i))):=(kf Fs s t).symm
theorem wL (l:List fO):Sl.lit l=aF kL l.length (ef (l.map mr)):=(lR Fs arz l).symm
theorem wM (s:Sl fO) (i:Nat) (v:fO):s.set i v=aF kL s.n (cB (fun j=>mr (s.get j)) i (mr v)):=(lT Fs s i v).symm
theorem p0 (s t:Sl fO) (o m:Nat):s.rl o m t=aF kL s.n (aJ o m (fun j=>mr (s.get j)) (fun j=>mr (t.get j))):=(jg Fs s t o m).symm
theorem wN (m n n' : Nat) (acc aE:Nat->KV):aF kL m (aH n (fun i=>mr ((aF kL n' acc).get i)) aE)=aF kL m (aH n acc aE):=ml Fs ..
theorem wO (m n n' : Nat) (acc aE:Nat->KV):aF kL m (aH n acc (fun i=>mr ((aF kL n' aE).get i)))=aF kL m (aH n acc aE):=mm Fs ..
theorem wP (m n' i:Nat) (acc:Nat->KV) (v:KV):aF kL m (cB (fun j=>mr ((aF kL n' acc).get j)) i v)=aF kL m (cB acc i v):=mn Fs ..
theorem wQ (n n' o m:Nat) (acc aE:Nat->KV):aF kL n (aJ o m (fun j=>mr ((aF kL n' acc).get j)) aE)=aF kL n (aJ o m acc aE):=mo Fs ..
theorem wR (n n' o m:Nat) (acc aE:Nat->KV):aF kL n (aJ o m acc (fun j=>mr ((aF kL n' aE).get j)))=aF kL n (aJ o m acc aE):=mq Fs ..
structure dm where
 m:bw
 t:fO
instance:Inhabited dm:=⟨⟨default,default⟩⟩
def arA (x:dm):List KV:=[.int .i64 x.m.e0.e0,.int .i64 x.m.e0.e1,.int .i64 x.m.e0.e2,.int .i64 x.m.e1.e0,.int .i64 x.m.e1.e1,.int .i64 x.m.e1.e2,.int .i64 x.m.e2.e0,.int .i64 x.m.e2.e1,.int .i64 x.m.e2.e2,.int .i64 x.t.x,.int .i64 x.t.y,.int .i64 x.t.z]
def mu (x:dm):KV:=.agg (arA x)
def arB (c:Nat->KV):dm:=⟨⟨⟨ay (c 0),ay (c 1),ay (c 2)⟩,⟨ay (c 3),ay (c 4),ay (c 5)⟩,⟨ay (c 6),ay (c 7),ay (c 8)⟩⟩,⟨ay (c 9),ay (c 10),ay (c 11)⟩⟩
def mv (v:KV):dm:=arB fun k=>v.cells.getD k .ao
theorem Ft (x:dm):mv (mu x)=x:=rfl
theorem arC:mv .ao=default:=rfl
theorem sH (s:Sl dm) (v:dm):s.push v=aF mv (s.n+1) (aH s.n (fun i=>mu (s.get i)) (ef [mu v])):=(ke Ft arC s v).symm
theorem sI (s t:Sl dm):s.join t=aF mv (s.n+t.n) (aH s.n (fun i=>mu (s.get i)) (fun i=>mu (t.get i))):=(kf Ft s t).symm
theorem wS (l:List dm):Sl.lit l=aF mv l.length (ef (l.map mu)):=(lR Ft arC l).symm
theorem wT (s:Sl dm) (i:Nat) (v:dm):s.set i v=aF mv s.n (cB (fun j=>mu (s.get j)) i (mu v)):=(lT Ft s i v).symm
theorem p8 (s t:Sl dm) (o m:Nat):s.rl o m t=aF mv s.n (aJ o m (fun j=>mu (s.get j)) (fun j=>mu (t.get j))):=(jg Ft s t o m).symm
theorem wU (m n n' : Nat) (acc aE:Nat->KV):aF mv m (aH n (fun i=>mu ((aF mv n' acc).get i)) aE)=aF mv m (aH n acc aE):=ml Ft ..
theorem wV (m n n' : Nat) (acc aE:Nat->KV):aF mv m (aH n acc (fun i=>mu ((aF mv n' aE).get i)))=aF mv m (aH n acc aE):=mm Ft ..
theorem wW (m n' i:Nat) (acc:Nat->KV) (v:KV):aF mv m (cB (fun j=>mu ((aF mv n' acc).get j)) i v)=aF mv m (cB acc i v):=mn Ft ..
theorem wX (n n' o m:Nat) (acc aE:Nat->KV):aF mv n (aJ o m (fun j=>mu ((aF mv n' acc).get j)) aE)=aF mv n (aJ o m acc aE):=mo Ft ..
theorem wY (n n' o m:Nat) (acc aE:Nat->KV):aF mv n (aJ o m acc (fun j=>mu ((aF mv n' aE).get j)))=aF mv n (aJ o m acc aE):=mq Ft ..
structure Az where
 e0:Int
 e1:Int
 e2:Int
 e3:Int
 e4:Int
instance:Inhabited Az:=⟨⟨default,default,default,default,default⟩⟩
def auC (x:Az):List KV:=[.int .u8 x.e0,.int .u8 x.e1,.int .u8 x.e2,.int .u8 x.e3,.int .u8 x.e4]
def wb (x:Az):KV:=.agg (auC x)
def auD (c:Nat->KV):Az:=⟨ay (c 0),ay (c 1),ay (c 2),ay (c 3),ay (c 4)⟩
def pe (v:KV):Az:=auD fun k=>v.cells.getD k .ao
theorem xk (x:Az):pe (wb x)=x:=rfl
theorem akU:pe .ao=default:=rfl
theorem ou (s:Sl Az) (v:Az):s.push v=aF pe (s.n+1) (aH s.n (fun i=>wb (s.get i)) (ef [wb v])):=(ke xk akU s v).symm
theorem ov (s t:Sl Az):s.join t=aF pe (s.n+t.n) (aH s.n (fun i=>wb (s.get i)) (fun i=>wb (t.get i))):=(kf xk s t).symm
theorem p9 (l:List Az):Sl.lit l=aF pe l.length (ef (l.map wb)):=(lR xk akU l).symm
theorem qa (s:Sl Az) (i:Nat) (v:Az):s.set i v=aF pe s.n (cB (fun j=>wb (s.get j)) i (wb v)):=(lT xk s i v).symm
theorem mF (s t:Sl Az) (o m:Nat):s.rl o m t=aF pe s.n (aJ o m (fun j=>wb (s.get j)) (fun j=>wb (t.get j))):=(jg xk s t o m).symm
theorem qb (m n n' : Nat) (acc aE:Nat->KV):aF pe m (aH n (fun i=>wb ((aF pe n' acc).get i)) aE)=aF pe m (aH n acc aE):=ml xk ..
theorem qc (m n n' : Nat) (acc aE:Nat->KV):aF pe m (aH n acc (fun i=>wb ((aF pe n' aE).get i)))=aF pe m (aH n acc aE):=mm xk ..
theorem qd (m n' i:Nat) (acc:Nat->KV) (v:KV):aF pe m (cB (fun j=>wb ((aF pe n' acc).get j)) i v)=aF pe m (cB acc i v):=mn xk ..
theorem qe (n n' o m:Nat) (acc aE:Nat->KV):aF pe n (aJ o m (fun j=>wb ((aF pe n' acc).get j)) aE)=aF pe n (aJ o m acc aE):=mo xk ..
theorem qf (n n' o m:Nat) (acc aE:Nat->KV):aF pe n (aJ o m acc (fun j=>wb ((aF pe n' aE).get j)))=aF pe n (aJ o m acc aE):=mq xk ..
structure Color where
 e0:Int
 e1:Int
 e2:Int
 e3:Int
instance:Inhabited Color:=⟨⟨default,default,default,default⟩⟩
def auE (x:Color):List KV:=[.int .u8 x.e0,.int .u8 x.e1,.int .u8 x.e2,.int .u8 x.e3]
def uD (x:Color):KV:=.agg (auE x)
def auF (c:Nat->KV):Color:=⟨ay (c 0),ay (c 1),ay (c 2),ay (c 3)⟩
def nW (v:KV):Color:=auF fun k=>v.cells.getD k .ao
theorem xl (x:Color):nW (uD x)=x:=rfl
theorem akV:nW .ao=default:=rfl
theorem ow (s:Sl Color) (v:Color):s.push v=aF nW (s.n+1) (aH s.n (fun i=>uD (s.get i)) (ef [uD v])):=(ke xl akV s v).symm
theorem ox (s t:Sl Color):s.join t=aF nW (s.n+t.n) (aH s.n (fun i=>uD (s.get i)) (fun i=>uD (t.get i))):=(kf xl s t).symm
theorem qg (l:List Color):Sl.lit l=aF nW l.length (ef (l.map uD)):=(lR xl akV l).symm
theorem qh (s:Sl Color) (i:Nat) (v:Color):s.set i v=aF nW s.n (cB (fun j=>uD (s.get j)) i (uD v)):=(lT xl s i v).symm
theorem mG (s t:Sl Color) (o m:Nat):s.rl o m t=aF nW s.n (aJ o m (fun j=>uD (s.get j)) (fun j=>uD (t.get j))):=(jg xl s t o m).symm
theorem qi (m n n' : Nat) (acc aE:Nat->KV):aF nW m (aH n (fun i=>uD ((aF nW n' acc).get i)) aE)=aF nW m (aH n acc aE):=ml xl ..
theorem qj (m n n' : Nat) (acc aE:Nat->KV):aF nW m (aH n acc (fun i=>uD ((aF nW n' aE).get i)))=aF nW m (aH n acc aE):=mm xl ..
theorem qk (m n' i:Nat) (acc:Nat->KV) (v:KV):aF nW m (cB (fun j=>uD ((aF nW n' acc).get j)) i v)=aF nW m (cB acc i v):=mn xl ..
theorem ql (n n' o m:Nat) (acc aE:Nat->KV):aF nW n (aJ o m (fun j=>uD ((aF nW n' acc).get j)) aE)=aF nW n (aJ o m acc aE):=mo xl ..
theorem qm (n n' o m:Nat) (acc aE:Nat->KV):aF nW n (aJ o m acc (fun j=>uD ((aF nW n' aE).get j)))=aF nW n (aJ o m acc aE):=mq xl ..
structure iq where
 color:Color
 cN:Int
 ly:Int
 jV:Int
 ff:Bool
 bin:Int
instance:Inhabited iq:=⟨by constructor<;>exact default⟩
def atW (x:iq):List KV:=[.int .u8 x.color.e0,.int .u8 x.color.e1,.int .u8 x.color.e2,.int .u8 x.color.e3,.int .i64 x.cN,.int .u8 x.ly,.int .i64 x.jV,.bool x.ff,.int .i64 x.bin]
def wc (x:iq):KV:=.agg (atW x)
def atX (c:Nat->KV):iq:=⟨⟨ay (c 0),ay (c 1),ay (c 2),ay (c 3)⟩,ay (c 4),ay (c 5),ay (c 6),dj (c 7),ay (c 8)⟩
def o4 (v:KV):iq:=atX fun k=>v.cells.getD k .ao
theorem Ba (x:iq):o4 (wc x)=x:=rfl
theorem aog:o4 .ao=default:=rfl
theorem qn (s:Sl iq) (v:iq):s.push v=aF o4 (s.n+1) (aH s.n (fun i=>wc (s.get i)) (ef [wc v])):=(ke Ba aog s v).symm
theorem qo (s t:Sl iq):s.join t=aF o4 (s.n+t.n) (aH s.n (fun i=>wc (s.get i)) (fun i=>wc (t.get i))):=(kf Ba s t).symm
theorem sJ (l:List iq):Sl.lit l=aF o4 l.length (ef (l.map wc)):=(lR Ba aog l).symm
theorem sK (s:Sl iq) (i:Nat) (v:iq):s.set i v=aF o4 s.n (cB (fun j=>wc (s.get j)) i (wc v)):=(lT Ba s i v).symm
theorem oy (s t:Sl iq) (o m:Nat):s.rl o m t=aF o4 s.n (aJ o m (fun j=>wc (s.get j)) (fun j=>wc (t.get j))):=(jg Ba s t o m).symm
theorem sL (m n n' : Nat) (acc aE:Nat->KV):aF o4 m (aH n (fun i=>wc ((aF o4 n' acc).get i)) aE)=aF o4 m (aH n acc aE):=ml Ba ..
theorem sM (m n n' : Nat) (acc aE:Nat->KV):aF o4 m (aH n acc (fun i=>wc ((aF o4 n' aE).get i)))=aF o4 m (aH n acc aE):=mm Ba ..
theorem sN (m n' i:Nat) (acc:Nat->KV) (v:KV):aF o4 m (cB (fun j=>wc ((aF o4 n' acc).get j)) i v)=aF o4 m (cB acc i v):=mn Ba ..
theorem sP (n n' o m:Nat) (acc aE:Nat->KV):aF o4 n (aJ o m (fun j=>wc ((aF o4 n' acc).get j)) aE)=aF o4 n (aJ o m acc aE):=mo Ba ..
theorem sQ (n n' o m:Nat) (acc aE:Nat->KV):aF o4 n (aJ o m acc (fun j=>wc ((aF o4 n' aE).get j)))=aF o4 n (aJ o m acc aE):=mq Ba ..
structure gM where
 bN:Az
 look:iq
instance:Inhabited gM:=⟨⟨default,default⟩⟩
def al1 (x:gM):List KV:=[.int .u8 x.bN.e0,.int .u8 x.bN.e1,.int .u8 x.bN.e2,.int .u8 x.bN.e3,.int .u8 x.bN.e4,.int .u8 x.look.color.e0,.int .u8 x.look.color.e1,.int .u8 x.look.color.e2,.int .u8 x.look.color.e3,.int .i64 x.look.cN,.int .u8 x.look.ly,.int .i64 x.look.jV,.bool x.look.ff,.int .i64 x.look.bin]
def rm (x:gM):KV:=.agg (al1 x)
def al2 (c:Nat->KV):gM:=⟨⟨ay (c 0),ay (c 1),ay (c 2),ay (c 3),ay (c 4)⟩,⟨⟨ay (c 5),ay (c 6),ay (c 7),ay (c 8)⟩,ay (c 9),ay (c 10),ay (c 11),dj (c 12),ay (c 13)⟩⟩
def lA (v:KV):gM:=al2 fun k=>v.cells.getD k .ao
theorem xm (x:gM):lA (rm x)=x:=rfl
theorem akW:lA .ao=default:=rfl
theorem oz (s:Sl gM) (v:gM):s.push v=aF lA (s.n+1) (aH s.n (fun i=>rm (s.get i)) (ef [rm v])):=(ke xm akW s v).symm
theorem oA (s t:Sl gM):s.join t=aF lA (s.n+t.n) (aH s.n (fun i=>rm (s.get i)) (fun i=>rm (t.get i))):=(kf xm s t).symm
theorem qp (l:List gM):Sl.lit l=aF lA l.length (ef (l.map rm)):=(lR xm akW l).symm
theorem qq (s:Sl gM) (i:Nat) (v:gM):s.set i v=aF lA s.n (cB (fun j=>rm (s.get j)) i (rm v)):=(lT xm s i v).symm
theorem mH (s t:Sl gM) (o m:Nat):s.rl o m t=aF lA s.n (aJ o m (fun j=>rm (s.get j)) (fun j=>rm (t.get j))):=(jg xm s t o m).symm
theorem qt (m n n' : Nat) (acc aE:Nat->KV):aF lA m (aH n (fun i=>rm ((aF lA n' acc).get i)) aE)=aF lA m (aH n acc aE):=ml xm ..
theorem qu (m n n' : Nat) (acc aE:Nat->KV):aF lA m (aH n acc (fun i=>rm ((aF lA n' aE).get i)))=aF lA m (aH n acc aE):=mm xm ..
theorem qv (m n' i:Nat) (acc:Nat->KV) (v:KV):aF lA m (cB (fun j=>rm ((aF lA n' acc).get j)) i v)=aF lA m (cB acc i v):=mn xm ..
theorem qw (n n' o m:Nat) (acc aE:Nat->KV):aF lA n (aJ o m (fun j=>rm ((aF lA n' acc).get j)) aE)=aF lA n (aJ o m acc aE):=mo xm ..
theorem qx (n n' o m:Nat) (acc aE:Nat->KV):aF lA n (aJ o m acc (fun j=>rm ((aF lA n' aE).get j)))=aF lA n (aJ o m acc aE):=mq xm ..
structure Node where
 kind:Int
 gd:dm
 uz:Int
 cl:fO
 nb:(Sl Int)
 cJ:Int
 b7:gM
instance:Inhabited Node:=⟨by constructor<;>exact default⟩
def avK (x:Node):List KV:=[.int .u8 x.kind,.int .i64 x.gd.m.e0.e0,.int .i64 x.gd.m.e0.e1,.int .i64 x.gd.m.e0.e2,.int .i64 x.gd.m.e1.e0,.int .i64 x.gd.m.e1.e1,.int .i64 x.gd.m.e1.e2,.int .i64 x.gd.m.e2.e0,.int .i64 x.gd.m.e2.e1,.int .i64 x.gd.m.e2.e2,.int .i64 x.gd.t.x,.int .i64 x.gd.t.y,.int .i64 x.gd.t.z,.int .u16 x.uz,.int .i64 x.cl.x,.int .i64 x.cl.y,.int .i64 x.cl.z,eA 3 (kI .i64) x.nb,.int .i64 x.cJ,.int .u8 x.b7.bN.e0,.int .u8 x.b7.bN.e1,.int .u8 x.b7.bN.e2,.int .u8 x.b7.bN.e3,.int .u8 x.b7.bN.e4,.int .u8 x.b7.look.color.e0,.int .u8 x.b7.look.color.e1,.int .u8 x.b7.look.color.e2,.int .u8 x.b7.look.color.e3,.int .i64 x.b7.look.cN,.int .u8 x.b7.look.ly,.int .i64 x.b7.look.jV,.bool x.b7.look.ff,.int .i64 x.b7.look.bin]
def lD (x:Node):KV:=.agg (avK x)
def avL (c:Nat->KV):Node:=⟨ay (c 0),⟨⟨⟨ay (c 1),ay (c 2),ay (c 3)⟩,⟨ay (c 4),ay (c 5),ay (c 6)⟩,⟨ay (c 7),ay (c 8),ay (c 9)⟩⟩,⟨ay (c 10),ay (c 11),ay (c 12)⟩⟩,ay (c 13),⟨ay (c 14),ay (c 15),ay (c 16)⟩,dP ay (c 17),ay (c 18),⟨⟨ay (c 19),ay (c 20),ay (c 21),ay (c 22),ay (c 23)⟩,⟨⟨ay (c 24),ay (c 25),ay (c 26),ay (c 27)⟩,ay (c 28),ay (c 29),ay (c 30),dj (c 31),ay (c 32)⟩⟩⟩
def ib (v:KV):Node:=avL fun k=>v.cells.getD k .ao
theorem Bb (x:Node):ib (lD x)=x:=rfl
theorem aoh:ib .ao=default:=rfl
theorem qy (s:Sl Node) (v:Node):s.push v=aF ib (s.n+1) (aH s.n (fun i=>lD (s.get i)) (ef [lD v])):=(ke Bb aoh s v).symm
theorem qz (s t:Sl Node):s.join t=aF ib (s.n+t.n) (aH s.n (fun i=>lD (s.get i)) (fun i=>lD (t.get i))):=(kf Bb s t).symm
theorem sR (l:List Node):Sl.lit l=aF ib l.length (ef (l.map lD)):=(lR Bb aoh l).symm
theorem sS (s:Sl Node) (i:Nat) (v:Node):s.set i v=aF ib s.n (cB (fun j=>lD (s.get j)) i (lD v)):=(lT Bb s i v).symm
theorem oB (s t:Sl Node) (o m:Nat):s.rl o m t=aF ib s.n (aJ o m (fun j=>lD (s.get j)) (fun j=>lD (t.get j))):=(jg Bb s t o m).symm
theorem sT (m n n' : Nat) (acc aE:Nat->KV):aF ib m (aH n (fun i=>lD ((aF ib n' acc).get i)) aE)=aF ib m (aH n acc aE):=ml Bb ..
theorem sU (m n n' : Nat) (acc aE:Nat->KV):aF ib m (aH n acc (fun i=>lD ((aF ib n' aE).get i)))=aF ib m (aH n acc aE):=mm Bb ..
theorem sV (m n' i:Nat) (acc:Nat->KV) (v:KV):aF ib m (cB (fun j=>lD ((aF ib n' acc).get j)) i v)=aF ib m (cB acc i v):=mn Bb ..
theorem sX (n n' o m:Nat) (acc aE:Nat->KV):aF ib n (aJ o m (fun j=>lD ((aF ib n' acc).get j)) aE)=aF ib n (aJ o m acc aE):=mo Bb ..
theorem sY (n n' o m:Nat) (acc aE:Nat->KV):aF ib n (aJ o m acc (fun j=>lD ((aF ib n' aE).get j)))=aF ib n (aJ o m acc aE):=mq Bb ..
structure rp where
 e0:Int
 e1:Int
instance:Inhabited rp:=⟨⟨default,default⟩⟩
def atY (x:rp):List KV:=[.int .i64 x.e0,.int .i64 x.e1]
def nX (x:rp):KV:=.agg (atY x)
def atZ (c:Nat->KV):rp:=⟨ay (c 0),ay (c 1)⟩
def jW (v:KV):rp:=atZ fun k=>v.cells.getD k .ao
theorem uo (x:rp):jW (nX x)=x:=rfl
theorem agX:jW .ao=default:=rfl
theorem mI (s:Sl rp) (v:rp):s.push v=aF jW (s.n+1) (aH s.n (fun i=>nX (s.get i)) (ef [nX v])):=(ke uo agX s v).symm
theorem mJ (s t:Sl rp):s.join t=aF jW (s.n+t.n) (aH s.n (fun i=>nX (s.get i)) (fun i=>nX (t.get i))):=(kf uo s t).symm
theorem oC (l:List rp):Sl.lit l=aF jW l.length (ef (l.map nX)):=(lR uo agX l).symm
theorem oD (s:Sl rp) (i:Nat) (v:rp):s.set i v=aF jW s.n (cB (fun j=>nX (s.get j)) i (nX v)):=(lT uo s i v).symm
theorem lG (s t:Sl rp) (o m:Nat):s.rl o m t=aF jW s.n (aJ o m (fun j=>nX (s.get j)) (fun j=>nX (t.get j))):=(jg uo s t o m).symm
theorem oE (m n n' : Nat) (acc aE:Nat->KV):aF jW m (aH n (fun i=>nX ((aF jW n' acc).get i)) aE)=aF jW m (aH n acc aE):=ml uo ..
theorem oG (m n n' : Nat) (acc aE:Nat->KV):aF jW m (aH n acc (fun i=>nX ((aF jW n' aE).get i)))=aF jW m (aH n acc aE):=mm uo ..
theorem oH (m n' i:Nat) (acc:Nat->KV) (v:KV):aF jW m (cB (fun j=>nX ((aF jW n' acc).get j)) i v)=aF jW m (cB acc i v):=mn uo ..
theorem oI (n n' o m:Nat) (acc aE:Nat->KV):aF jW n (aJ o m (fun j=>nX ((aF jW n' acc).get j)) aE)=aF jW n (aJ o m acc aE):=mo uo ..
theorem oJ (n n' o m:Nat) (acc aE:Nat->KV):aF jW n (aJ o m acc (fun j=>nX ((aF jW n' aE).get j)))=aF jW n (aJ o m acc aE):=mq uo ..
structure Prim where
 kind:Int
 index:(Sl Int)
instance:Inhabited Prim:=⟨⟨default,default⟩⟩
def agY (x:Prim):List KV:=[.int .u8 x.kind,eA 3 (kI .i64) x.index]
def rq (x:Prim):KV:=.agg (agY x)
def agZ (c:Nat->KV):Prim:=⟨ay (c 0),dP ay (c 1)⟩
def lL (v:KV):Prim:=agZ fun k=>v.cells.getD k .ao
theorem Bc (x:Prim):lL (rq x)=x:=rfl
theorem aoi:lL .ao=default:=rfl
theorem qA (s:Sl Prim) (v:Prim):s.push v=aF lL (s.n+1) (aH s.n (fun i=>rq (s.get i)) (ef [rq v])):=(ke Bc aoi s v).symm
theorem qB (s t:Sl Prim):s.join t=aF lL (s.n+t.n) (aH s.n (fun i=>rq (s.get i)) (fun i=>rq (t.get i))):=(kf Bc s t).symm
theorem sZ (l:List Prim):Sl.lit l=aF lL l.length (ef (l.map rq)):=(lR Bc aoi l).symm
theorem s5 (s:Sl Prim) (i:Nat) (v:Prim):s.set i v=aF lL s.n (cB (fun j=>rq (s.get j)) i (rq v)):=(lT Bc s i v).symm
theorem oK (s t:Sl Prim) (o m:Nat):s.rl o m t=aF lL s.n (aJ o m (fun j=>rq (s.get j)) (fun j=>rq (t.get j))):=(jg Bc s t o m).symm
theorem s6 (m n n' : Nat) (acc aE:Nat->KV):aF lL m (aH n (fun i=>rq ((aF lL n' acc).get i)) aE)=aF lL m (aH n acc aE):=ml Bc ..
theorem s7 (m n n' : Nat) (acc aE:Nat->KV):aF lL m (aH n acc (fun i=>rq ((aF lL n' aE).get i)))=aF lL m (aH n acc aE):=mm Bc ..
theorem s9 (m n' i:Nat) (acc:Nat->KV) (v:KV):aF lL m (cB (fun j=>rq ((aF lL n' acc).get j)) i v)=aF lL m (cB acc i v):=mn Bc ..
theorem ta (n n' o m:Nat) (acc aE:Nat->KV):aF lL n (aJ o m (fun j=>rq ((aF lL n' acc).get j)) aE)=aF lL n (aJ o m acc aE):=mo Bc ..
theorem te (n n' o m:Nat) (acc aE:Nat->KV):aF lL n (aJ o m acc (fun j=>rq ((aF lL n' aE).get j)))=aF lL n (aJ o m acc aE):=mq Bc ..
structure iR where
 gh:(Sl fO)
 uV:(Sl rp)
 cG:(Sl Prim)
instance:Inhabited iR:=⟨⟨default,default,default⟩⟩
def Wg (x:iR):List KV:=[eA 43 mr x.gh,eA 185 nX x.uV,eA 172 rq x.cG]
def nY (x:iR):KV:=.agg (Wg x)
def Wh (c:Nat->KV):iR:=⟨dP kL (c 0),dP jW (c 1),dP lL (c 2)⟩
def jI (v:KV):iR:=Wh fun k=>v.cells.getD k .ao
theorem Bd (x:iR):jI (nY x)=x:=rfl
theorem aoj:jI .ao=default:=rfl
theorem qC (s:Sl iR) (v:iR):s.push v=aF jI (s.n+1) (aH s.n (fun i=>nY (s.get i)) (ef [nY v])):=(ke Bd aoj s v).symm
theorem qD (s t:Sl iR):s.join t=aF jI (s.n+t.n) (aH s.n (fun i=>nY (s.get i)) (fun i=>nY (t.get i))):=(kf Bd s t).symm
theorem tf (l:List iR):Sl.lit l=aF jI l.length (ef (l.map nY)):=(lR Bd aoj l).symm
theorem tg (s:Sl iR) (i:Nat) (v:iR):s.set i v=aF jI s.n (cB (fun j=>nY (s.get j)) i (nY v)):=(lT Bd s i v).symm
theorem oL (s t:Sl iR) (o m:Nat):s.rl o m t=aF jI s.n (aJ o m (fun j=>nY (s.get j)) (fun j=>nY (t.get j))):=(jg Bd s t o m).symm
theorem th (m n n' : Nat) (acc aE:Nat->KV):aF jI m (aH n (fun i=>nY ((aF jI n' acc).get i)) aE)=aF jI m (aH n acc aE):=ml Bd ..
theorem ti (m n n' : Nat) (acc aE:Nat->KV):aF jI m (aH n acc (fun i=>nY ((aF jI n' aE).get i)))=aF jI m (aH n acc aE):=mm Bd ..
theorem tj (m n' i:Nat) (acc:Nat->KV) (v:KV):aF jI m (cB (fun j=>nY ((aF jI n' acc).get j)) i v)=aF jI m (cB acc i v):=mn Bd ..
theorem tl (n n' o m:Nat) (acc aE:Nat->KV):aF jI n (aJ o m (fun j=>nY ((aF jI n' acc).get j)) aE)=aF jI n (aJ o m acc aE):=mo Bd ..
theorem tq (n n' o m:Nat) (acc aE:Nat->KV):aF jI n (aJ o m acc (fun j=>nY ((aF jI n' aE).get j)))=aF jI n (aJ o m acc aE):=mq Bd ..
structure je where
 w:Int
 h:Int
 SY:(Sl Color)
instance:Inhabited je:=⟨⟨default,default,default⟩⟩
def asj (x:je):List KV:=[.int .i64 x.w,.int .i64 x.h,eA 58 uD x.SY]
def jE (x:je):KV:=.agg (asj x)
def asl (c:Nat->KV):je:=⟨ay (c 0),ay (c 1),dP nW (c 2)⟩
def eM (v:KV):je:=asl fun k=>v.cells.getD k .ao
theorem rJ (x:je):eM (jE x)=x:=rfl
theorem acQ:eM .ao=default:=rfl
theorem lH (s:Sl je) (v:je):s.push v=aF eM (s.n+1) (aH s.n (fun i=>jE (s.get i)) (ef [jE v])):=(ke rJ acQ s v).symm
theorem lI (s t:Sl je):s.join t=aF eM (s.n+t.n) (aH s.n (fun i=>jE (s.get i)) (fun i=>jE (t.get i))):=(kf rJ s t).symm
theorem mK (l:List je):Sl.lit l=aF eM l.length (ef (l.map jE)):=(lR rJ acQ l).symm
theorem mL (s:Sl je) (i:Nat) (v:je):s.set i v=aF eM s.n (cB (fun j=>jE (s.get j)) i (jE v)):=(lT rJ s i v).symm
theorem kM (s t:Sl je) (o m:Nat):s.rl o m t=aF eM s.n (aJ o m (fun j=>jE (s.get j)) (fun j=>jE (t.get j))):=(jg rJ s t o m).symm
theorem mM (m n n' : Nat) (acc aE:Nat->KV):aF eM m (aH n (fun i=>jE ((aF eM n' acc).get i)) aE)=aF eM m (aH n acc aE):=ml rJ ..
theorem mN (m n n' : Nat) (acc aE:Nat->KV):aF eM m (aH n acc (fun i=>jE ((aF eM n' aE).get i)))=aF eM m (aH n acc aE):=mm rJ ..
theorem mO (m n' i:Nat) (acc:Nat->KV) (v:KV):aF eM m (cB (fun j=>jE ((aF eM n' acc).get j)) i v)=aF eM m (cB acc i v):=mn rJ ..
theorem mP (n n' o m:Nat) (acc aE:Nat->KV):aF eM n (aJ o m (fun j=>jE ((aF eM n' acc).get j)) aE)=aF eM n (aJ o m acc aE):=mo rJ ..
theorem mQ (n n' o m:Nat) (acc aE:Nat->KV):aF eM n (aJ o m acc (fun j=>jE ((aF eM n' aE).get j)))=aF eM n (aJ o m acc aE):=mq rJ ..
structure aP where
 graph:dG
 nodes:(Sl Node)
 bX:(Sl iR)
 dD:(Sl je)
 root:Handle
instance:Inhabited aP:=⟨⟨default,default,default,default,default⟩⟩
def uE (x:aP):List KV:=[eA 111 ui x.graph.ca.bJ,eA 35 (eA 32 dL) x.graph.kids,eA 77 lD x.nodes,eA 88 nY x.bX,eA 91 jE x.dD,.int .i64 x.root.slot,.int .i64 x.root.gen]
def dx (x:aP):KV:=.agg (uE x)
def uF (c:Nat->KV):aP:=⟨⟨⟨dP nU (c 0)⟩,dP (dP cM) (c 1)⟩,dP ib (c 2),dP jI (c 3),dP eM (c 4),⟨ay (c 5),ay (c 6)⟩⟩
def b6 (v:KV):aP:=uF fun k=>v.cells.getD k .ao
theorem xn (x:aP):b6 (dx x)=x:=rfl
theorem akX:b6 .ao=default:=rfl
theorem oM (s:Sl aP) (v:aP):s.push v=aF b6 (s.n+1) (aH s.n (fun i=>dx (s.get i)) (ef [dx v])):=(ke xn akX s v).symm
theorem oO (s t:Sl aP):s.join t=aF b6 (s.n+t.n) (aH s.n (fun i=>dx (s.get i)) (fun i=>dx (t.get i))):=(kf xn s t).symm
theorem qE (l:List aP):Sl.lit l=aF b6 l.length (ef (l.map dx)):=(lR xn akX l).symm
theorem qF (s:Sl aP) (i:Nat) (v:aP):s.set i v=aF b6 s.n (cB (fun j=>dx (s.get j)) i (dx v)):=(lT xn s i v).symm
theorem mR (s t:Sl aP) (o m:Nat):s.rl o m t=aF b6 s.n (aJ o m (fun j=>dx (s.get j)) (fun j=>dx (t.get j))):=(jg xn s t o m).symm
theorem qG (m n n' : Nat) (acc aE:Nat->KV):aF b6 m (aH n (fun i=>dx ((aF b6 n' acc).get i)) aE)=aF b6 m (aH n acc aE):=ml xn ..
theorem qH (m n n' : Nat) (acc aE:Nat->KV):aF b6 m (aH n acc (fun i=>dx ((aF b6 n' aE).get i)))=aF b6 m (aH n acc aE):=mm xn ..
theorem qI (m n' i:Nat) (acc:Nat->KV) (v:KV):aF b6 m (cB (fun j=>dx ((aF b6 n' acc).get j)) i v)=aF b6 m (cB acc i v):=mn xn ..
theorem qJ (n n' o m:Nat) (acc aE:Nat->KV):aF b6 n (aJ o m (fun j=>dx ((aF b6 n' acc).get j)) aE)=aF b6 n (aJ o m acc aE):=mo xn ..
theorem qK (n n' o m:Nat) (acc aE:Nat->KV):aF b6 n (aJ o m acc (fun j=>dx ((aF b6 n' aE).get j)))=aF b6 n (aJ o m acc aE):=mq xn ..
structure jR where
 t2:Bool
 n:Int
 many:(Sl Int)
 step:Int
 s:aP
instance:Inhabited jR:=⟨⟨default,default,default,default,default⟩⟩
def zn (x:jR):List KV:=[.bool x.t2,.int .i64 x.n,eA 3 (kI .i64) x.many,.int .i64 x.step]
def zo (x:jR):List (List KV):=[uE x.s]
def MK (vs:List KV) (rs:List (List KV)):jR:=⟨dj (vs.getD 0 .ao),ay (vs.getD 1 .ao),dP ay (vs.getD 2 .ao),ay (vs.getD 3 .ao),uF (fun k=>(rs.getD 0 []).getD k .ao)⟩
def Ps:aV:=⟨[(2,⟨false,[.k .bool]⟩),(3,⟨false,[.k (.int .i64)]⟩),(4,⟨false,[.arr 3]⟩),(5,⟨false,[.k (.int .i64)]⟩)],[(1,[.k (.slice 111),.k (.slice 35),.k (.slice 77),.k (.slice 88),.k (.slice 91),.k (.int .i64),.k (.int .i64)],1)],[(1,0,0)]⟩
structure fI where
 t2:Bool
 n:Int
 many:(Sl Int)
 step:Int
 lx:(Sl Int)
 i:Int
 s:aP
instance:Inhabited fI:=⟨by constructor<;>exact default⟩
def wg (x:fI):List KV:=[.bool x.t2,.int .i64 x.n,eA 3 (kI .i64) x.many,.int .i64 x.step,eA 3 (kI .i64) x.lx,.int .i64 x.i]
def wh (x:fI):List (List KV):=[uE x.s]
def IZ (vs:List KV) (rs:List (List KV)):fI:=⟨dj (vs.getD 0 .ao),ay (vs.getD 1 .ao),dP ay (vs.getD 2 .ao),ay (vs.getD 3 .ao),dP ay (vs.getD 4 .ao),ay (vs.getD 5 .ao),uF (fun k=>(rs.getD 0 []).getD k .ao)⟩
def J9:aV:=⟨[(2,⟨false,[.k .bool]⟩),(3,⟨false,[.k (.int .i64)]⟩),(4,⟨false,[.arr 3]⟩),(5,⟨false,[.k (.int .i64)]⟩),(6,⟨false,[.arr 3]⟩),(7,⟨false,[.k (.int .i64)]⟩)],[(1,[.k (.slice 111),.k (.slice 35),.k (.slice 77),.k (.slice 88),.k (.slice 91),.k (.int .i64),.k (.int .i64)],1)],[(1,0,0)]⟩
structure eI where
 t2:Bool
 n:Int
 many:(Sl Int)
 step:Int
 lx:(Sl Int)
 i:Int
 k:Int
 s:aP
instance:Inhabited eI:=⟨by constructor<;>exact default⟩
def se (x:eI):List KV:=[.bool x.t2,.int .i64 x.n,eA 3 (kI .i64) x.many,.int .i64 x.step,eA 3 (kI .i64) x.lx,.int .i64 x.i,.int .i64 x.k]
def sf (x:eI):List (List KV):=[uE x.s]
def D5 (vs:List KV) (rs:List (List KV)):eI:=⟨dj (vs.getD 0 .ao),ay (vs.getD 1 .ao),dP ay (vs.getD 2 .ao),ay (vs.getD 3 .ao),dP ay (vs.getD 4 .ao),ay (vs.getD 5 .ao),ay (vs.getD 6 .ao),uF (fun k=>(rs.getD 0 []).getD k .ao)⟩
def FY:aV:=⟨[(2,⟨false,[.k .bool]⟩),(3,⟨false,[.k (.int .i64)]⟩),(4,⟨false,[.arr 3]⟩),(5,⟨false,[.k (.int .i64)]⟩),(6,⟨false,[.arr 3]⟩),(7,⟨false,[.k (.int .i64)]⟩),(8,⟨false,[.k (.int .i64)]⟩)],[(1,[.k (.slice 111),.k (.slice 35),.k (.slice 77),.k (.slice 88),.k (.slice 91),.k (.int .i64),.k (.int .i64)],1)],[(1,0,0)]⟩
def P1:=dB Tryz.prog (bp Tryz.prog [] [] (fun q=>Nat.beq q 3)) 9 9 40 16403018 (dF Tryz.prog 40 16403018) FY
def iU (x:eI):aW eI:=(cond ((decide ((0:Int)<=x.i))&&(decide (x.i < ((x.s.graph.kids.n:Nat):Int)))) (cond (decide (x.k < (((x.s.graph.kids.get (Int.toNat x.i)).n:Nat):Int))) (cond (decide (x.k < (1000:Int))) (cond ((decide ((0:Int)<=x.i))&&(decide (x.i < ((x.s.graph.kids.n:Nat):Int)))) (cond ((decide ((0:Int)<=x.k))&&(decide (x.k < (((x.s.graph.kids.get (Int.toNat x.i)).n:Nat):Int)))) (cond (decide (((x.s.graph.kids.get (Int.toNat x.i)).get (Int.toNat x.k)).slot >= (0:Int))) (cond (decide (((x.s.graph.kids.get (Int.toNat x.i)).get (Int.toNat x.k)).slot < x.n)) (cond ((decide ((0:Int)<=x.i))&&(decide (x.i < ((x.lx.n:Nat):Int)))) (cond ((decide ((0:Int)<=((x.s.graph.kids.get (Int.toNat x.i)).get (Int.toNat x.k)).slot))&&(decide (((x.s.graph.kids.get (Int.toNat x.i)).get (Int.toNat x.k)).slot < ((x.many.n:Nat):Int)))) (cond ((decide ((0:Int)<=x.i))&&(decide (x.i < ((x.lx.n:Nat):Int)))) (cond (cond (bz x.lx.n x.lx.n) (bz x.many.n x.many.n) false) (.next (⟨x.t2,x.n,x.many,x.step,(x.lx.set (0+(Int.toNat x.i)) (min (aR ((x.lx.get (0+(Int.toNat x.i)))+(x.many.get (0+(Int.toNat ((x.s.graph.kids.get (Int.toNat x.i)).get (Int.toNat x.k)).slot))))) (100000:Int))),x.i,(aR (x.k+(1:Int))),x.s⟩:eI)) .fail) .fail) .fail) .fail) (cond (cond (bz x.lx.n x.lx.n) (bz x.many.n x.many.n) false) (.next (⟨x.t2,x.n,x.many,x.step,x.lx,x.i,(aR (x.k+(1:Int))),x.s⟩:eI)) .fail)) (cond (cond (bz x.lx.n x.lx.n) (bz x.many.n x.many.n) false) (.next (⟨x.t2,x.n,x.many,x.step,x.lx,x.i,(aR (x.k+(1:Int))),x.s⟩:eI)) .fail)) .fail) .fail) (cond (cond (bz x.lx.n x.lx.n) (bz x.many.n x.many.n) false) (.out (aB.ae.exit 4) x) .fail)) (cond (cond (bz x.lx.n x.lx.n) (bz x.many.n x.many.n) false) (.out (aB.ae.exit 4) x) .fail)) .fail)
theorem ML (x:eI):P1 (se x) (sf x)=aW.enc se sf (iU x):=by
 unfold iU
 try simp only [aW.cf,iI]
 kernel_rfl
def nu:Lp:=⟨40,16403018,FY,fun vs rs=>dC se sf (goN iU (D5 vs rs)) [aB.ae.exit 4],false⟩
theorem xF:nu.Ok Tryz.prog:=b8 funcs mixed ah.nil au.nil (L:=9) (n:=9) (step:=iU) (ev:=se) (er:=sf) (pa:=D5) rfl (fun wv wr=>⟨by kernel_rfl,by kernel_rfl⟩) ML
theorem uq:bZ Tryz.prog nu.f nu.p=true:=by kernel_rfl
def Wi:=dB Tryz.prog (bp Tryz.prog [] [nu] (fun q=>Nat.beq q 3)) 9 9 40 64074 (dF Tryz.prog 40 64074) J9
def bF (x:fI):(aW eI):=(goN iU (⟨x.t2,x.n,x.many,x.step,(x.lx.set (0+(Int.toNat x.i)) (1:Int)),x.i,(0:Int),x.s⟩:eI))
def jx (x:fI):aW fI:=(cond (decide (x.i < x.n)) (cond ((decide ((0:Int)<=x.i))&&(decide (x.i < ((x.lx.n:Nat):Int)))) (cond (cond (bz x.lx.n x.lx.n) (bz x.many.n x.many.n) false) (cond ((bF x).by (aB.ae.exit 4)) (cond ((decide ((0:Int)<=(bF x).st.i))&&(decide ((bF x).st.i < (((bF x).st.lx.n:Nat):Int)))) (cond (decide (((bF x).st.lx.get (0+(Int.toNat (bF x).st.i))) > (10000:Int))) (cond (cond (bz (bF x).st.lx.n (bF x).st.lx.n) (bz (bF x).st.many.n (bF x).st.many.n) false) (.out aB.ae.ret (⟨true,(bF x).st.n,(bF x).st.many,(bF x).st.step,(bF x).st.lx,(bF x).st.i,(bF x).st.s⟩:fI)) .fail) (cond (cond (bz (bF x).st.lx.n (bF x).st.lx.n) (bz (bF x).st.many.n (bF x).st.many.n) false) (.next (⟨(bF x).st.t2,(bF x).st.n,(bF x).st.many,(bF x).st.step,(bF x).st.lx,(aR ((bF x).st.i+(1:Int))),(bF x).st.s⟩:fI)) .fail)) .fail) .fail) .fail) .fail) (cond (cond (bz x.lx.n x.lx.n) (bz x.many.n x.many.n) false) (.out (aB.ae.exit 2) x) .fail))
theorem Rn (x:fI):Wi (wg x) (wh x)=aW.enc wg wh (jx x):=by
 unfold jx
 try simp only [aW.cf,bF,iI]
 kernel_rfl
def tN:Lp:=⟨40,64074,J9,fun vs rs=>dC wg wh (goN jx (IZ vs rs)) [aB.ae.exit 2,aB.ae.ret],false⟩
theorem I0:tN.Ok Tryz.prog:=b8 funcs mixed ah.nil (au.cons xF uq au.nil) (L:=9) (n:=9) (step:=jx) (ev:=wg) (er:=wh) (pa:=IZ) rfl (fun wv wr=>⟨by kernel_rfl,by kernel_rfl⟩) Rn
theorem D6:bZ Tryz.prog tN.f tN.p=true:=by kernel_rfl
def aa7:=dB Tryz.prog (bp Tryz.prog [] [nu,tN] (fun q=>Nat.beq q 3)) 9 9 40 250 (dF Tryz.prog 40 250) Ps
def dN (x:jR):(aW fI):=(goN jx (⟨x.t2,x.n,x.many,x.step,(⟨(Int.toNat x.n),(fun i=>(0:Int))⟩:Sl _),(0:Int),x.s⟩:fI))
def nf (x:jR):aW jR:=(cond (decide (x.step < (18:Int))) (cond (((decide ((0:Int)<=x.n))&&(decide (x.n<=x.n)))&&(Nat.ble (8 * (Int.toNat x.n)) 281474976710656)) (cond (cond (bz (Int.toNat x.n) (Int.toNat x.n)) (bz x.many.n x.many.n) false) (cond ((dN x).by (aB.ae.exit 2)) (cond (bz (dN x).st.lx.n (dN x).st.lx.n) (.next (⟨(dN x).st.t2,(dN x).st.n,(dN x).st.lx,(aR ((dN x).st.step+(1:Int))),(dN x).st.s⟩:jR)) .fail) (cond ((dN x).by aB.ae.ret) (cond (bz (dN x).st.many.n (dN x).st.many.n) (.out aB.ae.ret (⟨(dN x).st.t2,(dN x).st.n,(dN x).st.many,(dN x).st.step,(dN x).st.s⟩:jR)) .fail) .fail)) .fail) .fail) (cond (bz x.many.n x.many.n) (.out (aB.ae.exit 0) x) .fail))
theorem Wj (x:jR):aa7 (zn x) (zo x)=aW.enc zn zo (nf x):=by
 unfold nf
 try simp only [aW.cf]
 kernel_rfl
def Br:Lp:=⟨40,250,Ps,fun vs rs=>dC zn zo (goN nf (MK vs rs)) [aB.ae.exit 0,aB.ae.ret],false⟩
theorem aa8:Br.Ok Tryz.prog:=b8 funcs mixed ah.nil (au.cons xF uq (au.cons I0 D6 au.nil)) (L:=9) (n:=9) (step:=nf) (ev:=zn) (er:=zo) (pa:=MK) rfl (fun wv wr=>⟨by kernel_rfl,by kernel_rfl⟩) Wj
theorem Ti:bZ Tryz.prog Br.f Br.p=true:=by kernel_rfl
def YB:List (Nat×(List KV->KR KV)):=[]
def YC:List Lp:=[nu,tN,Br]
theorem ag0:ah Tryz.prog YB:=ah.nil
theorem ag1:au Tryz.prog YC:=(au.cons xF uq (au.cons I0 D6 (au.cons aa8 Ti au.nil)))
def Fu (s:aP):(aW jR):=(goN nf (⟨false,((s.graph.kids.n:Nat):Int),(⟨(Int.toNat ((s.graph.kids.n:Nat):Int)),(fun i=>(0:Int))⟩:Sl _),(0:Int),s⟩:jR))
def Cr (s:aP):Option (Bool):=(cond (decide (((s.graph.kids.n:Nat):Int) > (300:Int))) (some (true)) (cond ((decide (((s.graph.kids.n:Nat):Int)<=((s.graph.kids.n:Nat):Int)))&&(Nat.ble (8 * (Int.toNat ((s.graph.kids.n:Nat):Int))) 281474976710656)) (cond (bz (Int.toNat ((s.graph.kids.n:Nat):Int)) (Int.toNat ((s.graph.kids.n:Nat):Int))) (cond ((Fu s).by (aB.ae.exit 0)) (some (false)) (cond ((Fu s).by aB.ae.ret) (some ((Fu s).st.t2)) none)) none) none))
theorem ajb (s:aP):cD Tryz.prog (bp Tryz.prog YB YC (fun q=>Nat.beq q 3)) 9 9 40 [dx s] = (Cr s).map kB:=by
 unfold Cr
 try simp only [bq]
 kernel_rfl
def Ka:List KV->KR KV:=bI Tryz.prog 40 (bL kB fun vs=>Cr (b6 (vs.getD 0 .ao)))
theorem ag3 (w:Nat->KV):ck Tryz.prog [34] w 0 = [dx (b6 (ax Tryz.prog (ai Tryz.prog aj) 34 (w 0)))]:=by kernel_rfl
theorem I1:bH Tryz.prog 40 Ka:=aL funcs mixed ag0 ag1 (L:=9) (n:=9) fun w=>by
 have e:aG Tryz.prog 40 = [34]:=by kernel_rfl
 rw [e,ag3]
 exact (ajb (b6 (ax Tryz.prog (ai Tryz.prog aj) 34 (w 0)))).trans (by kernel_rfl)
structure lJ where
 l:(Sl je)
 t2:Bool
 n:Int
 i:Int
instance:Inhabited lJ:=⟨⟨default,default,default,default⟩⟩
def zp (x:lJ):List KV:=[eA 91 jE x.l,.bool x.t2,.int .i64 x.n,.int .i64 x.i]
def zq (x:lJ):List (List KV):=[]
def MM (vs:List KV) (rs:List (List KV)):lJ:=⟨dP eM (vs.getD 0 .ao),dj (vs.getD 1 .ao),ay (vs.getD 2 .ao),ay (vs.getD 3 .ao)⟩
def Pt:aV:=⟨[(0,⟨false,[.k (.slice 91)]⟩),(2,⟨false,[.k .bool]⟩),(3,⟨false,[.k (.int .i64)]⟩),(4,⟨false,[.k (.int .i64)]⟩)],[],[]⟩
def aa9:=dB Tryz.prog (bp Tryz.prog [] [] (fun q=>Nat.beq q 3)) 9 9 42 58 (dF Tryz.prog 42 58) Pt
def ng (x:lJ):aW lJ:=(cond (decide (x.i < ((x.l.n:Nat):Int))) (cond (decide (x.i < (100:Int))) (cond ((decide ((0:Int)<=x.i))&&(decide (x.i < ((x.l.n:Nat):Int)))) (.next (⟨x.l,x.t2,(aR (x.n+(min (((x.l.get (Int.toNat x.i)).SY.n:Nat):Int) (100000:Int)))),(aR (x.i+(1:Int)))⟩:lJ)) .fail) (.out (aB.ae.exit 0) x)) (.out (aB.ae.exit 0) x))
theorem Wk (x:lJ):aa9 (zp x) (zq x)=aW.enc zp zq (ng x):=by
 unfold ng
 try simp only [aW.cf]
 kernel_rfl
def Bs:Lp:=⟨42,58,Pt,fun vs rs=>dC zp zq (goN ng (MM vs rs)) [aB.ae.exit 0],false⟩
theorem aba:Bs.Ok Tryz.prog:=b8 funcs mixed ah.nil au.nil (L:=9) (n:=9) (step:=ng) (ev:=zp) (er:=zq) (pa:=MM) rfl (fun wv wr=>⟨by kernel_rfl,by kernel_rfl⟩) Wk
theorem Tj:bZ Tryz.prog Bs.f Bs.p=true:=by kernel_rfl
def Uv:List (Nat×(List KV->KR KV)):=[]
def Uw:List Lp:=[Bs]
theorem adJ:ah Tryz.prog Uv:=ah.nil
theorem adK:au Tryz.prog Uw:=(au.cons aba Tj au.nil)
def Dk (l:(Sl je)):(aW lJ):=(goN ng (⟨l,false,(0:Int),(0:Int)⟩:lJ))
def zr (l:(Sl je)):Option (Bool):=(cond ((Dk l).by (aB.ae.exit 0)) (cond (decide ((((Dk l).st.l.n:Nat):Int) > (40:Int))) (some (true)) (some ((decide ((Dk l).st.n > (20000:Int)))))) none)
theorem ag4 (l:(Sl je)):cD Tryz.prog (bp Tryz.prog Uv Uw (fun q=>Nat.beq q 3)) 9 9 42 [(eA 91 jE) l] = (zr l).map kB:=by
 unfold zr
 try simp only [bq]
 kernel_rfl
def Hz:List KV->KR KV:=bI Tryz.prog 42 (bL kB fun vs=>zr ((dP eM) (vs.getD 0 .ao)))
theorem adL (w:Nat->KV):ck Tryz.prog [30] w 0 = [(eA 91 jE) ((dP eM) (ax Tryz.prog (ai Tryz.prog aj) 30 (w 0)))]:=by kernel_rfl
theorem GA:bH Tryz.prog 42 Hz:=aL funcs mixed adJ adK (L:=9) (n:=9) fun w=>by
 have e:aG Tryz.prog 42 = [30]:=by kernel_rfl
 rw [e,adL]
 exact (ag4 ((dP eM) (ax Tryz.prog (ai Tryz.prog aj) 30 (w 0)))).trans (by kernel_rfl)
structure jS where
 t2:Bool
 i:Int
 m:iR
instance:Inhabited jS:=⟨⟨default,default,default⟩⟩
def zt (x:jS):List KV:=[.bool x.t2,.int .i64 x.i]
def zu (x:jS):List (List KV):=[Wg x.m]
def MN (vs:List KV) (rs:List (List KV)):jS:=⟨dj (vs.getD 0 .ao),ay (vs.getD 1 .ao),Wh (fun k=>(rs.getD 0 []).getD k .ao)⟩
def Pu:aV:=⟨[(2,⟨false,[.k .bool]⟩),(3,⟨false,[.k (.int .i64)]⟩)],[(1,[.k (.slice 43),.k (.slice 185),.k (.slice 172)],1)],[(1,0,0)]⟩
def abb:=dB Tryz.prog (bp Tryz.prog [] [] (fun q=>Nat.beq q 3)) 9 9 43 58 (dF Tryz.prog 43 58) Pu
def jz (x:jS):aW jS:=(cond (decide (x.i < ((x.m.cG.n:Nat):Int))) (cond ((decide ((0:Int)<=x.i))&&(decide (x.i < ((x.m.cG.n:Nat):Int)))) (cond (decide ((((x.m.cG.get (Int.toNat x.i)).index.n:Nat):Int) > (1000:Int))) (.out aB.ae.ret (⟨true,x.i,x.m⟩:jS)) (.next (⟨x.t2,(aR (x.i+(1:Int))),x.m⟩:jS))) .fail) (.out (aB.ae.exit 0) x))
theorem Wl (x:jS):abb (zt x) (zu x)=aW.enc zt zu (jz x):=by
 unfold jz
 try simp only [aW.cf]
 kernel_rfl
def Bt:Lp:=⟨43,58,Pu,fun vs rs=>dC zt zu (goN jz (MN vs rs)) [aB.ae.exit 0,aB.ae.ret],false⟩
theorem abc:Bt.Ok Tryz.prog:=b8 funcs mixed ah.nil au.nil (L:=9) (n:=9) (step:=jz) (ev:=zt) (er:=zu) (pa:=MN) rfl (fun wv wr=>⟨by kernel_rfl,by kernel_rfl⟩) Wl
theorem Tk:bZ Tryz.prog Bt.f Bt.p=true:=by kernel_rfl
def Ux:List (Nat×(List KV->KR KV)):=[]
def Uy:List Lp:=[Bt]
theorem adM:ah Tryz.prog Ux:=ah.nil
theorem adN:au Tryz.prog Uy:=(au.cons abc Tk au.nil)
def Dl (m:iR):(aW jS):=(goN jz (⟨false,(0:Int),m⟩:jS))
def wi (m:iR):Option (Bool):=(cond (decide (((m.gh.n:Nat):Int) > (1000:Int))) (some (true)) (cond (decide (((m.uV.n:Nat):Int) > (1000:Int))) (some (true)) (cond (decide (((m.cG.n:Nat):Int) > (100:Int))) (some (true)) (cond ((Dl m).by (aB.ae.exit 0)) (some (false)) (cond ((Dl m).by aB.ae.ret) (some ((Dl m).st.t2)) none)))))
theorem ag5 (m:iR):cD Tryz.prog (bp Tryz.prog Ux Uy (fun q=>Nat.beq q 3)) 9 9 43 [nY m] = (wi m).map kB:=by
 unfold wi
 try simp only [bq]
 kernel_rfl
def HA:List KV->KR KV:=bI Tryz.prog 43 (bL kB fun vs=>wi (jI (vs.getD 0 .ao)))
theorem adO (w:Nat->KV):ck Tryz.prog [88] w 0 = [nY (jI (ax Tryz.prog (ai Tryz.prog aj) 88 (w 0)))]:=by kernel_rfl
theorem GB:bH Tryz.prog 43 HA:=aL funcs mixed adM adN (L:=9) (n:=9) fun w=>by
 have e:aG Tryz.prog 43 = [88]:=by kernel_rfl
 rw [e,adO]
 exact (ag5 (jI (ax Tryz.prog (ai Tryz.prog aj) 88 (w 0)))).trans (by kernel_rfl)
structure jm where
 t2:Bool
 i:Int
 s:aP
instance:Inhabited jm:=⟨⟨default,default,default⟩⟩
def xT (x:jm):List KV:=[.bool x.t2,.int .i64 x.i]
def xU (x:jm):List (List KV):=[uE x.s]
def Kb (vs:List KV) (rs:List (List KV)):jm:=⟨dj (vs.getD 0 .ao),ay (vs.getD 1 .ao),uF (fun k=>(rs.getD 0 []).getD k .ao)⟩
def MO:aV:=⟨[(2,⟨false,[.k .bool]⟩),(3,⟨false,[.k (.int .i64)]⟩)],[(1,[.k (.slice 111),.k (.slice 35),.k (.slice 77),.k (.slice 88),.k (.slice 91),.k (.int .i64),.k (.int .i64)],1)],[(1,0,0)]⟩
def YD:=dB Tryz.prog (bp Tryz.prog [(43,HA),(42,Hz),(41,Hx),(40,Ka)] [] (fun q=>Nat.beq q 3)) 9 9 12 122 (dF Tryz.prog 12 122) MO
def iX (x:jm):aW jm:=(cond (decide (x.i < ((x.s.nodes.n:Nat):Int))) (cond ((decide ((0:Int)<=x.i))&&(decide (x.i < ((x.s.nodes.n:Nat):Int)))) (cond (decide ((((x.s.nodes.get (Int.toNat x.i)).nb.n:Nat):Int) > (200:Int))) (.out aB.ae.ret (⟨true,x.i,x.s⟩:jm)) (.next (⟨x.t2,(aR (x.i+(1:Int))),x.s⟩:jm))) .fail) (.out (aB.ae.exit 0) x))
theorem Tl (x:jm):YD (xT x) (xU x)=aW.enc xT xU (iX x):=by
 unfold iX
 try simp only [aW.cf]
 kernel_rfl
def ve:Lp:=⟨12,122,MO,fun vs rs=>dC xT xU (goN iX (Kb vs rs)) [aB.ae.exit 0,aB.ae.ret],false⟩
theorem Kc:ve.Ok Tryz.prog:=b8 funcs mixed (ah.cons GB (ah.cons GA (ah.cons Gy (ah.cons I1 ah.nil)))) au.nil (L:=9) (n:=9) (step:=iX) (ev:=xT) (er:=xU) (pa:=Kb) rfl (fun wv wr=>⟨by kernel_rfl,by kernel_rfl⟩) Tl
theorem FZ:bZ Tryz.prog ve.f ve.p=true:=by kernel_rfl
structure ie where
 t2:Bool
 i:Int
 s:aP
instance:Inhabited ie:=⟨⟨default,default,default⟩⟩
def xV (x:ie):List KV:=[.bool x.t2,.int .i64 x.i]
def xW (x:ie):List (List KV):=[uE x.s]
def Kd (vs:List KV) (rs:List (List KV)):ie:=⟨dj (vs.getD 0 .ao),ay (vs.getD 1 .ao),uF (fun k=>(rs.getD 0 []).getD k .ao)⟩
def MP:aV:=⟨[(2,⟨false,[.k .bool]⟩),(4,⟨false,[.k (.int .i64)]⟩)],[(1,[.k (.slice 111),.k (.slice 35),.k (.slice 77),.k (.slice 88),.k (.slice 91),.k (.int .i64),.k (.int .i64)],1)],[(1,0,0)]⟩
def YE:=dB Tryz.prog (bp Tryz.prog [(43,HA),(42,Hz),(41,Hx),(40,Ka)] [ve] (fun q=>Nat.beq q 3)) 9 9 12 250 (dF Tryz.prog 12 250) MP
def B4 (x:ie):(Option Bool):=(wi (x.s.bX.get (Int.toNat x.i)))
def iY (x:ie):aW ie:=(cond (decide (x.i < ((x.s.bX.n:Nat):Int))) (cond ((decide ((0:Int)<=x.i))&&(decide (x.i < ((x.s.bX.n:Nat):Int)))) (cond (B4 x).isSome (cond ((B4 x).getD default) (.out aB.ae.ret (⟨true,x.i,x.s⟩:ie)) (.next (⟨x.t2,(aR (x.i+(1:Int))),x.s⟩:ie))) .fail) .fail) (.out (aB.ae.exit 2) x))
theorem Tn (x:ie):YE (xV x) (xW x)=aW.enc xV xW (iY x):=by
 unfold iY
 try simp only [aW.cf]
 kernel_rfl
def zv:Lp:=⟨12,250,MP,fun vs rs=>dC xV xW (goN iY (Kd vs rs)) [aB.ae.exit 2,aB.ae.ret],false⟩
theorem YF:zv.Ok Tryz.prog:=b8 funcs mixed (ah.cons GB (ah.cons GA (ah.cons Gy (ah.cons I1 ah.nil)))) (au.cons Kc FZ au.nil) (L:=9) (n:=9) (step:=iY) (ev:=xV) (er:=xW) (pa:=Kd) rfl (fun wv wr=>⟨by kernel_rfl,by kernel_rfl⟩) Tn
theorem Ro:bZ Tryz.prog zv.f zv.p=true:=by kernel_rfl
def Uz:List (Nat×(List KV->KR KV)):=[(43,HA),(42,Hz),(41,Hx),(40,Ka)]
def UA:List Lp:=[ve,zv]
theorem adP:ah Tryz.prog Uz:=(ah.cons GB (ah.cons GA (ah.cons Gy (ah.cons I1 ah.nil))))
theorem adQ:au Tryz.prog UA:=(au.cons Kc FZ (au.cons YF Ro au.nil))
def I2 (s:aP):(Option Bool):=(Cr s)
def I3 (s:aP):(Option Bool):=(zg s.graph)
def I4 (s:aP):(Option Bool):=(zr s.dD)
def vf (s:aP):(aW jm):=(goN iX (⟨false,(0:Int),s⟩:jm))
def Dm (s:aP):(aW ie):=(goN iY (⟨(vf s).st.t2,(0:Int),(vf s).st.s⟩:ie))
def zw (s:aP):Option (Bool):=(cond (I2 s).isSome (cond ((I2 s).getD default) (some (true)) (cond (I3 s).isSome (cond ((I3 s).getD default) (some (true)) (cond (decide (((s.nodes.n:Nat):Int) > (200:Int))) (some (true)) (cond (decide (((s.bX.n:Nat):Int) > (60:Int))) (some (true)) (cond (decide (((s.dD.n:Nat):Int) > (60:Int))) (some (true)) (cond (I4 s).isSome (cond ((I4 s).getD default) (some (true)) (cond ((vf s).by (aB.ae.exit 0)) (cond ((Dm s).by (aB.ae.exit 2)) (some (false)) (cond ((Dm s).by aB.ae.ret) (some ((Dm s).st.t2)) none)) (cond ((vf s).by aB.ae.ret) (some ((vf s).st.t2)) none))) none))))) none)) none)
theorem ag6 (s:aP):cD Tryz.prog (bp Tryz.prog Uz UA (fun q=>Nat.beq q 3)) 9 9 12 [dx s] = (zw s).map kB:=by
 unfold zw
 try simp only [bq]
 kernel_rfl
def YG:List KV->KR KV:=bI Tryz.prog 12 (bL kB fun vs=>zw (b6 (vs.getD 0 .ao)))
theorem adR (w:Nat->KV):ck Tryz.prog [34] w 0 = [dx (b6 (ax Tryz.prog (ai Tryz.prog aj) 34 (w 0)))]:=by kernel_rfl
theorem adS:bH Tryz.prog 12 YG:=aL funcs mixed adP adQ (L:=9) (n:=9) fun w=>by
 have e:aG Tryz.prog 12 = [34]:=by kernel_rfl
 rw [e,adR]
 exact (ag6 (b6 (ax Tryz.prog (ai Tryz.prog aj) 34 (w 0)))).trans (by kernel_rfl)
end
end Go.Proofs.YtckbdndhmcoihaaGreat.b
end
