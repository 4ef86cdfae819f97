/- Part of the proof of WorldMat: the machine, shown to be the model's, and plain models. No conditions. -/
import Derived.Test.YtckbdndhmcoihaaGreatFp
import Derived.OpenShut
import Derived.ChangeArms
import Derived.WideShapes
import Derived.Below
import Derived.KernelRfl
import Derived.Test.YtckbdndhmcoihaaGreatProg
set_option linter.unusedSimpArgs false
set_option linter.unusedVariables false
section
namespace Go.K
open Go Go.aB
mutual
def Tf:KV->Prop
 | .int k n=>(Lit.int k n).wf=true
 | .str s=>s.size<=maxLen
 | .ts _ _ n es _=>n<=maxLen/\Da es
 | .agg cs=>Da cs
 | _=>True
def Da:List KV->Prop
 | []=>True
 | v::vs=>Tf v/\Da vs
end
theorem Hy:∀ {a b:List KV},Da a->Da b->Da (a++b)
 | [],_,_,h=>h
 | x::a,b,h,k=>by
  simp only [Da] at h;exact ⟨h.1,Hy h.2 k⟩
theorem aaY:∀ {l:List KV},Da l->∀ v∈l,Tf v
 | [],_,v,h=>by simp at h
 | x::l,h,v,hv=>by
  simp only [Da] at h;rcases fA.1 hv with rfl | hv
  ·exact h.1
  ·exact aaY h.2 v hv
structure Tg (P:Program) (W:World) (E:Env) (B:St) (ρ:Ren):Prop where
 kC:vD ρ B W.heap.size W
 k:fX P E .empty B
 κ:∀ b,E.κ b=none
 wI:∀ b o,B.get b=some o->o.gf=false/\o.nD=none
 α:∀ b,E.α b=none
def Env.none:Env:=⟨fun _=>.none,fun _=>.none,fun _=>.none,fun _=>.none⟩
theorem NW.empty {P:Program} {E:Env} {B:St} (tF:∀ b,E.α b=none):NW P E .empty B:=by
 have hn:∀ b o,¬ aw.empty.get b=some o:=fun b o hb=>by simp [aw.empty,aw.get] at hb
 exact ⟨fun b v hb=>(hn b _ hb).elim,fun b v hb=>(hn b _ hb).elim,fun x ⟨b,v,_,_,hb,_⟩=>(hn b _ hb).elim,fun b c v u x L N L' N' hb=>(hn b _ hb).elim,fun b c v u x y L N L' N' cs e own g k cu e' rJ k' hb=>(hn b _ hb).elim,fun b x _=>tF b,fun b p e=>by rw [tF b] at e; simp at e,fun b x L N e=>by rw [tF b] at e; simp at e,fun b v x L N cs e own g k hb=>(hn b _ hb).elim,fun b v hb=>(hn b _ hb).elim⟩
theorem Tg.start (P:Program) (W:World):Tg P W .none .empty (Im []):=by
 refine ⟨vD.empty W,⟨?_,?_,?_,?_,?_,?_,?_,?_,?_,?_,?_,?_,?_,?_,.empty fun _=>rfl⟩,fun _=>rfl,fun b o h=>by simp [St.get,St.empty] at h,fun _=>rfl⟩
 ·intro b cs cg h; simp [aw.empty,aw.get] at h
 ·intro b cs cg h; simp [aw.empty,aw.get] at h
 ·intro b r h; simp [Env.none] at h
 ·intro b r h; simp [Env.none] at h
 ·intro b c r h; simp [Env.none] at h
 ·intro b c r _ _ _ _ _ _ h; simp [Env.none] at h
 ·intro b r h; simp [Env.none] at h
 ·intro b r h; simp [Env.none] at h
 ·intro b o h; simp [aw.empty,aw.get] at h
 ·intro b r h; simp [Env.none] at h
 ·intro b r h; simp [Env.none] at h
 ·intro b r h; simp [Env.none] at h
 ·intro g _; simp [St.members,St.empty]
 ·intro g x h; simp [St.members,St.empty] at h
theorem Tg.add {P:Program} {W:World} {E:Env} {B:St} {ρ:Ren} (h:Tg P W E B ρ) {cs:List Value} {l:aB.Loc}
  (hc:∀ (i:Nat) (v:Value),cs[i]? = some v->∃ v',W.cell? ⟨l.cb,l.eB+i,.none⟩=some v'/\VR ρ v v'/\scalar v=true) (hl:l.cb < W.heap.size) (hf:l.eB+cs.length<=l.CP) :
  Tg P W (E.il B.next ⟨cs,l.cg,false,.none⟩) (B.new (.row cs l.cg false .none)) (ρ.set B.next l)/\E.le (E.il B.next ⟨cs,l.cg,false,.none⟩)/\ρ.le (ρ.set B.next l):=by
 have hle:E.le (E.il B.next ⟨cs,l.cg,false,.none⟩):=⟨fun _ _ e=>e,fun _ _ e=>e,fun b r e=>by
  have:=h.k.nT b r e;simp only [Env.il]; rw [av (by omega)]; exact e,fun _ _ e=>e⟩
 have mA:=h.kC.NI l;have pj:∀ b o,(B.new (.row cs l.cg false .none)).get b=some o->(b=B.next/\o = .row cs l.cg false .none)\/(b≠B.next/\B.get b=some o):=by
  intro b o hb;rw [St.dz] at hb;split at hb
  ·rename_i e; simp at hb; exact .inl ⟨e,hb.symm⟩
  ·rename_i e; exact .inr ⟨e,hb⟩
 have akR:∀ b o,(B.new (.row cs l.cg false .none)).get b=some o->o.gf=false/\o.nD = .none:=by
  intro b o hb;rcases pj b o hb with ⟨_,rfl⟩ | ⟨_,hb⟩
  ·exact ⟨rfl,rfl⟩
  ·exact h.wI b o hb
 refine ⟨⟨⟨⟨?_,?_,?_,?_,?_,?_⟩,?_,h.kC.size,h.kC.JQ.mono mA⟩,?_,h.κ,akR,h.α⟩,hle,mA⟩
 ·intro b nM cg own cp hb
  rcases pj b _ hb with ⟨rfl,e⟩ | ⟨de,hb⟩
  ·simp only [cO.row.injEq] at e
   obtain ⟨rfl,rfl,rfl,rfl⟩:=e;refine ⟨l,by simp [Ren.set],⟨fun i v hi=>?_,fun _=>hl,fun e=>by simp at e,fun e=>by simp at e,hf,fun e=>by simp at e,rfl,hl,fun e=>by simp at e⟩⟩;obtain ⟨v',h1,h2,h3⟩:=hc i v hi;exact ⟨v',h1,h2.mono mA,h3⟩
  ·obtain ⟨l',h1,h2⟩:=h.kC.rel.row b nM cg own cp hb
   exact ⟨l',mA _ _ h1,⟨fun i v hi=>by obtain ⟨v',q1,q2,q3⟩:=h2.cells i v hi; exact ⟨v',q1,q2.mono mA,q3⟩,h2.wI,h2.gf,h2.there,h2.fits,h2.ends,h2.cg,h2.pG,h2.mark⟩⟩
 ·intro b es hb
  have:=(akR b _ hb).1;simp [cO.gf] at this
 ·intro b s pos hb
  have:=(akR b _ hb).1;simp [cO.gf] at this
 ·intro b st e t ps a c hb
  have:=(akR b _ hb).1;simp [cO.gf] at this
 ·intro b1 b2 o1 o2 l1 l2 _ h1 _ h3
  have:=(akR b1 _ h1).1;rw [h3] at this; simp at this
 ·intro b o bA f hb hk
  have:=(akR b _ hb).2;rw [hk] at this; simp at this
 ·intro b l' hb
  rw [St.cC];simp only [Ren.set] at hb;split at hb
  ·omega
  ·have:=h.kC.lW b l' hb; omega
 ·refine ⟨?_,?_,?_,?_,?_,?_,?_,?_,?_,?_,?_,?_,?_,?_,.empty h.α⟩
  ·intro b cs cg h; simp [aw.empty,aw.get] at h
  ·intro b cs cg h; simp [aw.empty,aw.get] at h
  ·intro b r hb
   simp only [Env.il] at hb;split at hb
   ·rename_i e
    simp at hb;subst hb e;simp
   ·have:=h.k.nT b r hb
    rw [St.dz,av (by omega)];exact h.k.z b r hb
  ·intro b x hb; have hb:E.κ b=some x:=hb; rw [h.κ b] at hb; simp at hb
  ·exact h.k.inj
  ·exact h.k.kR
  ·exact h.k.lW
  ·exact h.k.nS
  ·exact h.k.live
  ·intro b x hb; have:=h.k.iW b x hb; rw [St.cC]; omega
  ·intro b r hb
   simp only [Env.il] at hb;rw [St.cC];split at hb
   ·omega
   ·have:=h.k.nT b r hb; omega
  ·intro b g hb; have:=h.k.lu b g hb; rw [St.cC]; omega
  ·intro g hg; rw [St.cC] at hg; rw [St.lh]; exact h.k.fresh g (by omega)
  ·intro g x hx; rw [St.lh] at hx; rw [St.cC]; have:=h.k.mem g x hx; omega
def agD (P:Program):Nat->List Field->Option Nat
 | off,[]=>some off
 | off,f::fs=>cond (Nat.beq f.offset off) (agD P (off+P.cellsOf f.type) fs) .none
def Db (P:Program):Nat->TypeId->Bool
 | 0,_=>false
 | n+1,t=>match P.underlying t with
  | some (.int _) | some .bool | some .string=>true
  | some (.slice e)=>Nat.ble 1 (P.cellsOf e)&&Db P n e&&(match lay P 12 e with
   | some l=>Nat.beq l.ks.length (P.cellsOf e)&&(l.agg||Nat.beq l.ks.length 1)
   | .none=>false)
  | some (.struct fs)=>fs.toList.all (fun f=>Db P n f.type)&&(match agD P 0 fs.toList with
   | some k=>Nat.beq k (P.cellsOf t)
   | .none=>false)
  | some (.array len e)=>Db P n e&&Nat.beq (P.cellsOf t) (len * P.cellsOf e)
  | _=>false
def agE (W:World) (cs:List Value):Prop:=∀ a n c,Value.slice (some a) n c∈cs->0 < W.heap.size
def Got (P:Program) (W:World) (E:Env) (_:St) (ρ:Ren) (cs:List Value) (K:List KV->Prop):Prop:=
 ∃ E' B' bd ks,Tg P W E' B' bd/\E.le E'/\ρ.le bd/\ui P E' bd ks cs/\Da ks/\K ks
def afa {H:Type} (enc:TypeId×Value->H) (P:Program) (W:World) (n:Nat):Prop:=
 ∀ t,Db P n t=true->∀ (fuel:Nat) (cs:List Value) (x:DataW H×List MemPlace) (E:Env) (B:St) (ρ:Ren),DataW.trod enc P W 0 (fun _=>true) true fuel t cs=some x->agE W cs->Tg P W E B ρ->
  Got P W E B ρ cs fun ks=>∀ m l,lay P m t=some l->aK l.ks ks=true
section
variable {H:Type} {enc:TypeId×Value->H} {P:Program} {W:World} {E:Env} {B:St} {ρ:Ren}
theorem ui.append {E:Env} {ρ:Ren} {a b:List KV} {a' b' : List Value} (h:ui P E ρ a a') (k:ui P E ρ b b'):ui P E ρ (a++b) (a'++b'):=by
 obtain ⟨m,h1,h2⟩:=h;obtain ⟨l,h3,h4⟩:=k;exact ⟨m++l,h1.append h3,h2.append h4⟩
theorem ui.mono {E E' : Env} {ρ bd:Ren} {a:List KV} {a' : List Value} (h:ui P E ρ a a') (hE:E.le E') (mA:ρ.le bd):ui P E' bd a a':=by
 obtain ⟨m,h1,h2⟩:=h;exact ⟨m,h1.mono hE,h2.mono mA⟩
theorem ui.len {E:Env} {ρ:Ren} {a:List KV} {a' : List Value} (h:ui P E ρ a a'):a'.length=a.length:=by
 obtain ⟨m,h1,h2⟩:=h;rw [h2.length,h1.length]
theorem Lq:∀ {ks:List CK} {vs:List KV},aK ks vs=true->vs.length=ks.length
 | [],[],_=>rfl
 | [],_::_,h=>by simp [aK] at h
 | _::_,[],h=>by simp [aK] at h
 | k::ks,v::vs,h=>by
  simp only [aK,aA] at h;simp [Lq h.2]
theorem Lr:∀ {ks ls:List CK} {vs us:List KV},aK ks vs=true->aK ls us=true->aK (ks++ls) (vs++us)=true
 | [],_,[],_,_,h=>h
 | [],_,_::_,_,h,_=>by simp [aK] at h
 | _::_,_,[],_,h,_=>by simp [aK] at h
 | k::ks,ls,v::vs,us,h,h'=>by
  simp only [aK,aA] at h;simp only [List.cons_append,aK,aA];exact ⟨h.1,Lr h.2 h'⟩
theorem agE.sub {W:World} {cs ds:List Value} (h:agE W cs) (k:∀ v∈ds,v∈cs):agE W ds:=fun a n c hm=>h a n c (k _ hm)
theorem agF {cs:List Value} {i n:Nat} : ∀ v∈(cs.drop i).take n,v∈cs:=fun _ h=>List.mem_of_mem_drop (List.mem_of_mem_take h)
theorem acK (cs:List Value) (i m n:Nat):(cs.drop i).take m++(cs.drop (i+m)).take n=(cs.drop i).take (m+n):=by
 rw [List.take_add,List.drop_drop]
theorem Yk {n:Nat} (IH:afa enc P W n) {fuel:Nat} {cs:List Value} (hp:agE W cs):∀ (fs:List Field) (off k:Nat) (E:Env) (B:St) (ρ:Ren),Tg P W E B ρ->agD P off fs=some k->k<=cs.length->(∀ f∈fs,Db P n f.type=true)->
  (∀ f∈fs,∃ x,DataW.trod enc P W 0 (fun _=>true) true fuel f.type ((cs.drop f.offset).take (P.cellsOf f.type))=some x)->
  off<=k/\Got P W E B ρ ((cs.drop off).take (k - off)) fun ks=>∀ m l,Qv (lay P m) fs off=some l->aK l ks=true
 | [],off,k,E,B,ρ,hi,ht,hk,_,_=>by
  simp [agD] at ht; subst ht;refine ⟨aU _,E,B,ρ,[],hi,Env.le_refl _,Ren.le_refl _,?_,trivial,?_⟩
  ·rw [Nat.sub_self,List.take_zero]; exact ⟨[],.nil,.nil⟩
  ·intro m l h; simp [Qv] at h; subst h; rfl
 | f::fs,off,k,E,B,ρ,hi,ht,hk,he,hx=>by
  unfold agD at ht;cases hb:Nat.beq f.offset off with
  | false=>rw [hb] at ht; simp at ht
  | true=>
   rw [hb,ak] at ht;have Pj:=bu hb;obtain ⟨x,Hq⟩:=hx f (by simp);obtain ⟨E1,B1,og,ks1,h1,h2,h3,h4,h5,h6⟩:=IH f.type (he f (by simp)) fuel _ x E B ρ Hq (hp.sub agF) hi;obtain ⟨hle,E2,B2,yF,ks2,q1,q2,q3,q4,q5,q6⟩:=Yk IH hp fs (off+P.cellsOf f.type) k E1 B1 og h1 ht hk (fun g hg=>he g (by simp [hg])) (fun g hg=>hx g (by simp [hg]));have hlen:ks1.length=P.cellsOf f.type:=by
    rw [<- h4.len,nJ,List.length_drop,Pj];omega
   refine ⟨by omega,E2,B2,yF,ks1++ks2,q1,Env.le_trans h2 q2,Ren.le_trans h3 q3,?_,Hy h5 q5,?_⟩
   ·have:=(h4.mono q2 q3).append q4
    rw [Pj,acK] at this;rw [show k - off=P.cellsOf f.type+(k - (off+P.cellsOf f.type)) by omega];exact this
   ·intro m l hl
    unfold Qv at hl;rw [hb,ak] at hl;obtain ⟨l1,hl1,hl⟩:=dh.1 hl;obtain ⟨l2,nj,rfl⟩:=cS.1 hl;have CF:=h6 m l1 hl1;have awK:=Lq CF;rw [<- awK,hlen] at nj;exact Lr CF (q6 m l2 nj)
theorem acL {n:Nat} (IH:afa enc P W n) {fuel len c:Nat} {e:TypeId} {cs:List Value} (hp:agE W cs) (he:Db P n e=true) (hc:P.cellsOf e=c) (hk:len * c<=cs.length) (hx:∀ i,i < len->∃ x,DataW.trod enc P W 0 (fun _=>true) true fuel e ((cs.drop (i * c)).take c)=some x) (hi:Tg P W E B ρ):∀ j,j<=len->
  Got P W E B ρ (cs.take (j * c)) fun ks=>∀ m l,lay P m e=some l->aK (dI l.ks j) ks=true
 | 0,_=>by
  refine ⟨E,B,ρ,[],hi,Env.le_refl _,Ren.le_refl _,?_,trivial,fun m l _=>rfl⟩;rw [Nat.zero_mul,List.take_zero]; exact ⟨[],.nil,.nil⟩
 | j+1,hj=>by
  obtain ⟨E1,B1,og,ks1,h1,h2,h3,h4,h5,h6⟩:=acL IH hp he hc hk hx hi j (by omega);obtain ⟨x,Hq⟩:=hx j (by omega);obtain ⟨E2,B2,yF,ks2,q1,q2,q3,q4,q5,q6⟩:=IH e he fuel _ x E1 B1 og Hq (hp.sub agF) h1;refine ⟨E2,B2,yF,ks1++ks2,q1,Env.le_trans h2 q2,Ren.le_trans h3 q3,?_,Hy h5 q5,?_⟩
  ·have:=(h4.mono q2 q3).append q4
   have e:=acK cs 0 (j * c) c;simp only [List.drop_zero,bM] at e;rw [e] at this;rw [show (j+1) * c=j * c+c by rw [Nat.succ_mul]];exact this
  ·intro m l hl
   have:dI l.ks (j+1)=dI l.ks j++l.ks:=by
    have comm:∀ n,l.ks++dI l.ks n=dI l.ks n++l.ks:=by
     intro n
     induction n with
     | zero=>simp [dI]
     | succ n ih=>simp only [dI,List.append_assoc]; rw [ih]
    rw [<- comm]; rfl
   rw [this];exact Lr (h6 m l hl) (q6 m l hl)
theorem Yl {a:Addr} {i k:Nat} {v:Value} (h:W.cell? ((a.add i).add k)=some v):W.cell? ⟨a.block,a.off+i+k,.none⟩=some v/\a.block < W.heap.size/\(i+k=0->a.spot = .none):=by
 have hb:((a.add i).add k).block=a.block:=by unfold Addr.add; split <;> split <;> rfl
 have ho:((a.add i).add k).off=a.off+i+k:=by
  unfold Addr.add;split <;> split <;> simp_all
 have hs:((a.add i).add k).spot = .none:=by
  unfold World.cell? at h;split at h
  ·split at h
   ·simp at h
   ·rename_i hs; simpa using hs
  ·simp at h
 have he:(a.add i).add k=⟨a.block,a.off+i+k,.none⟩:=by
  generalize (a.add i).add k=p at hb ho hs;obtain ⟨b,o,s⟩:=p;simp at hb ho hs;simp [hb,ho,hs]
 refine ⟨he ▸ h,?_,fun e=>?_⟩
 ·rw [he] at h
  unfold World.cell? at h;split at h
  ·rename_i heq
   exact (vM.1 heq).1
  ·simp at h
 ·have h1:i=0:=by omega
  have h2:k=0:=by omega
  subst h1 h2;simpa [Addr.add] using hs
theorem agG {a:Addr} {n:Nat} {cs:List Value} (h:W.cells? 0 a n=some cs):cs.length=n/\∀ (k:Nat) (v:Value),cs[k]? = some v->W.cell? (a.add k)=some v:=by
 unfold World.cells? at h;rw [aY (E9 _)] at h;have hl:=mapM_some_length h;simp at hl;refine ⟨hl,fun k v hv=>?_⟩;have hk:k < n:=by rw [<- hl]; exact (dq.1 hv).1
 rw [mapM_some_get h k k (by simp [hk])];exact hv
theorem arw {ks:List KV} {agg:Bool} (h:Da ks):Tf (P0 agg ks):=by
 cases agg with
 | true=>exact h
 | false=>
  match ks,h with
  | [],_=>exact trivial
  | v::vs,h=>exact h.1
theorem Uj {E:Env} {ρ:Ren} : ∀ {ks:List CK} {vs:List KV} {m:List Value},aK ks vs=true->bC P E vs m->∀ v∈m,scalar v=true
 | [],[],m,_,h,v,hv=>by rw [h.cw] at hv; simp at hv
 | [],_::_,_,h,_,_,_=>by simp [aK] at h
 | _::_,[],_,h,_,_,_=>by simp [aK] at h
 | k::ks,u::vs,m,h,hm,v,hv=>by
  simp only [aK,aA] at h;obtain ⟨y,ys,rfl,h1,h2⟩:=hm.cons_inv;rcases fA.1 hv with rfl | hv
  ·refine h1.scalar ?_
   have:=h.1;cases u <;> first | rfl | (cases k <;> simp [kindOk] at this)
  ·exact Uj (ρ:=ρ) h.2 h2 v hv
theorem acM {n:Nat} (IH:afa enc P W n) {fuel len c:Nat} {e:TypeId} {l:Lay} {a:Addr} (he:Db P n e=true) (hl:lay P 12 e=some l) (Hj:l.ks.length=c) (ha:l.agg=true\/l.ks.length=1) (hc:P.cellsOf e=c) (hc1:1<=c)
  (hx:∀ i,i < len->∃ x,(W.cells? 0 (a.add (i * c)) c).bind (DataW.trod enc P W 0 (fun _=>true) true fuel e)=some x) (hi:Tg P W E B ρ):∀ j,j<=len->
  ∃ E' B' bd es us fl,Tg P W E' B' bd/\E.le E'/\ρ.le bd/\es.length=j/\bC P E' es us/\ga l es=true/\Da es/\fl.length=j * c/\qY c 0 fl us/\
   (∀ (i:Nat) (v:Value),fl[i]? = some v->∃ v',W.cell? ⟨a.block,a.off+i,.none⟩=some v'/\VR bd v v'/\scalar v=true)/\(0 < j->a.block < W.heap.size/\a.spot = .none)
 | 0,_=>⟨E,B,ρ,[],[],[],hi,Env.le_refl _,Ren.le_refl _,rfl,.nil,rfl,trivial,by simp,fun i x h=>by simp at h,fun i v h=>by simp at h,fun h=>by omega⟩
 | j+1,hj=>by
  obtain ⟨E1,B1,og,es,us,fl,h1,h2,h3,h4,h5,h6,h7,h8,h9,vX,JH⟩:=acM IH he hl Hj ha hc hc1 hx hi j (by omega);obtain ⟨x,Hq⟩:=hx j (by omega);obtain ⟨cs,K5,hx2⟩:=dh.1 Hq;obtain ⟨hlen,pj⟩:=agG K5;have D3:a.block < W.heap.size:=by
   have h0:0 < cs.length:=by rw [hlen]; omega
   exact (Yl (pj 0 _ (dr h0))).2.1
  obtain ⟨E2,B2,yF,ks,q1,q2,q3,⟨m,q4,q4'⟩,q5,q6⟩:=IH e he fuel cs x E1 B1 og hx2 (fun _ _ _ _=>by omega) h1;have hk:=q6 12 l hl;have hml:m.length=c:=by rw [q4.length,Lq hk,Hj]
  have BP:l.agg=true\/m.length=1:=by rw [hml,<- Hj]; exact ha
  have hsc:=Uj (ρ:=ρ) hk q4;have rb:=af6 hsc BP;have hul:us.length=j:=by rw [h5.length,h4]
  refine ⟨E2,B2,yF,es++[P0 l.agg ks],us++[mkE l.agg m],fl++m,q1,Env.le_trans h2 q2,Ren.le_trans h3 q3,by simp [h4],(h5.mono q2).append (.cons (af7 q4 BP) .nil),?_,Hy h7 ⟨arw q5,trivial⟩,?_,?_,?_,fun _=>⟨D3,?_⟩⟩
  ·have:∀ {es:List KV},ga l es=true->ga l (es++[P0 l.agg ks])=true:=by
    intro es
    induction es with
    | nil=>intro _; simp [ga,aaM hk ha]
    | cons e es ih=>
     intro h;simp only [ga,aA] at h;simp only [List.cons_append,ga,aA];exact ⟨h.1,ih h.2⟩
   exact this h6
  ·rw [nH,h8,hml,Nat.succ_mul]
  ·intro i y hy
   by_cases hi:i < j
   ·rw [r7 (by omega)] at hy
    obtain ⟨r1,r2⟩:=h9 i y hy;refine ⟨r1,fun k z hz=>?_⟩;have:=r2 k z hz;rw [r7 (dq.1 this).1];exact this
   ·rw [uC (by omega),hul] at hy
    have hij:i=j:=by
     have:=(dq.1 hy).1;simp at this;omega
    subst hij;simp at hy;subst hy;have fZ:(mkE l.agg m).cells.size=c:=by rw [<- Array.length_toList,rb,hml]
    refine ⟨fZ,fun k z hz=>?_⟩;rw [<- Array.getElem?_toList,rb] at hz;rw [uC (by rw [h8]; omega),h8,show 0+i * c+k - i * c=k by omega];exact hz
  ·intro i v hv
   by_cases hi:i < fl.length
   ·rw [r7 hi] at hv
    obtain ⟨v',r1,r2,r3⟩:=vX i v hv;exact ⟨v',r1,r2.mono q3,r3⟩
   ·rw [uC (by omega)] at hv
    obtain ⟨v',r1,r2⟩:=q4'.get hv;refine ⟨v',?_,r2,hsc v (jD hv)⟩;have:=(Yl (pj _ _ r1)).1;rw [h8] at this;rw [h8] at hi;rw [show a.off+i=a.off+j * c+(i - j * c) by omega];exact this
  ·by_cases h0:j=0
   ·subst h0
    have h0:0 < cs.length:=by rw [hlen]; omega
    exact (Yl (pj 0 _ (dr h0))).2.2 (by omega)
   ·exact (JH (by omega)).2
theorem aoa:∀ n,afa enc P W n
 | 0=>fun t ht=>by simp [Db] at ht
 | n+1=>by
  have IH:=aoa n;intro t ht fuel cs x E B ρ hx hp hi;have hn:∀ {m l},lay P m t=some l->∃ m',m=m' + 1:=by
   intro m l h;cases m with
   | zero=>simp [lay] at h
   | succ m=>exact ⟨m,rfl⟩
  unfold Db at ht;split at ht
  ·rename_i k hu
   obtain ⟨i,rfl,_,hw⟩:=DataW.trod_int hu hx;refine ⟨E,B,ρ,[.int k i],hi,Env.le_refl _,Ren.le_refl _,⟨_,.cons .mkInt .nil,.cons (by simp [VR]) .nil⟩,⟨hw,trivial⟩,fun m l h=>?_⟩;obtain ⟨m',rfl⟩:=hn h;simp only [lay,hu,di] at h;subst h;simp [aK,kindOk]
  ·rename_i hu
   obtain ⟨b,rfl,_⟩:=DataW.trod_bool hu hx;refine ⟨E,B,ρ,[.bool b],hi,Env.le_refl _,Ren.le_refl _,⟨_,.cons .tE .nil,.cons (by simp [VR]) .nil⟩,⟨trivial,trivial⟩,fun m l h=>?_⟩;obtain ⟨m',rfl⟩:=hn h;simp only [lay,hu,di] at h;subst h;simp [aK,kindOk]
  ·rename_i hu
   obtain ⟨s,rfl,_,hw⟩:=DataW.trod_string hu hx;refine ⟨E,B,ρ,[.str s],hi,Env.le_refl _,Ren.le_refl _,⟨_,.cons .mkStr .nil,.cons (by simp [VR]) .nil⟩,⟨hw,trivial⟩,fun m l h=>?_⟩;obtain ⟨m',rfl⟩:=hn h;simp only [lay,hu,di] at h;subst h;simp [aK,kindOk]
  ·rename_i e hu
   simp only [aA] at ht;obtain ⟨⟨zc,QO⟩,ht3⟩:=ht;have hc1:=fR zc;split at ht3
   ·rename_i l hl
    simp only [aA,uD] at ht3;have Hj:=bu ht3.1;have BP:l.agg=true\/l.ks.length=1:=ht3.2.imp id bu;have hlF:bB P e=l:=by simp [bB,hl]
    have fZ:bD P e=P.cellsOf e:=by rw [bD,hlF,Hj]
    have fin:∀ {ks:List KV} {m:Nat} {l' : Lay} {mk:Mk} {nn:Nat} {es:List KV} {acc:Nat->KV},mk = .any->lay P m t=some l'->ks = [.ts e mk nn es acc]->aK l'.ks ks=true:=by
     intro ks m l' mk nn es acc XV h ug;obtain ⟨m',rfl⟩:=hn h;simp only [lay,hu,di] at h;subst h ug XV;simp [aK,kindOk]
    rcases DataW.trod_slice hu hx with ⟨rfl,_⟩ | ⟨a,len,cap,elems,rest,fu,_,rfl,_,_,hle,aqH,C2,hE,hR,_⟩
    ·refine ⟨E,B,ρ,[.ts e .any 0 [] qX],hi,Env.le_refl _,Ren.le_refl _,⟨[.slice .none 0 0],.cons ?_ .nil,.cons (by simp [VR]) .nil⟩,⟨⟨E9 _,trivial⟩,trivial⟩,fun m l h=>fin rfl h rfl⟩
     simp only [VK];exact ⟨⟨rfl,fun i h=>by omega,rfl⟩,[],.nil,.none,0,rfl,aU _,.inl ⟨rfl,rfl⟩,trivial⟩
    ·have hxs:∀ i,i < len->∃ x,(W.cells? 0 (a.add (i * P.cellsOf e)) (P.cellsOf e)).bind (DataW.trod enc P W 0 (fun _=>true) true fu e)=some x:=by
      intro i h;rw [hE i h];exact ⟨_,dr (by rw [C2]; exact h)⟩
     obtain ⟨E1,B1,og,es,us,fl,h1,h2,h3,h4,h5,h6,h7,h8,h9,vX,JH⟩:=acM IH QO hl Hj BP rfl hc1 hxs hi len (aU _);have Gn:0 < cap->a.block < W.heap.size/\a.spot = .none:=by
      intro h0;by_cases Qp:0 < len
      ·exact JH Qp
      ·have Qp:len=0:=by omega
       subst Qp;obtain ⟨hr1,yr⟩:=hR rfl;have hr3:=yr 0 (by omega);rw [dr (by rw [hr1]; omega)] at hr3;obtain ⟨cu,as4,_⟩:=dh.1 hr3;obtain ⟨hlen,pj⟩:=agG as4;have h0:0 < cu.length:=by rw [hlen]; omega
       have:=Yl (pj 0 _ (dr h0));exact ⟨this.2.1,this.2.2 (by omega)⟩
     have hh:0 < W.heap.size:=hp a len cap (by simp);have hlenes:us.length=len:=by rw [h5.length,h4]
     have awL:∃ lc:aB.Loc,lc.cg=P.cellsOf e/\lc.cb < W.heap.size/\lc.eB+fl.length<=lc.CP/\(cap≠0->a=⟨lc.cb,lc.eB,.none⟩)/\lc.eB+cap * lc.cg<=lc.CP/\
       (∀ (i:Nat) (v:Value),fl[i]? = some v->∃ v',W.cell? ⟨lc.cb,lc.eB+i,.none⟩=some v'/\VR og v v'/\scalar v=true):=by
      by_cases h0:cap=0
      ·subst h0
       have Qp:len=0:=by omega
       subst Qp;refine ⟨⟨0,0,0,P.cellsOf e⟩,rfl,hh,by simp [h8],fun h=>absurd rfl h,by simp,fun i v hv=>?_⟩;have:fl = []:=by apply List.eq_nil_of_length_eq_zero; simp [h8]
       rw [this] at hv; simp at hv
      ·obtain ⟨p1,p2⟩:=Gn (by omega)
       refine ⟨⟨a.block,a.off,a.off+cap * P.cellsOf e,P.cellsOf e⟩,rfl,p1,?_,fun _=>?_,aU _,vX⟩
       ·rw [h8]; exact Nat.add_le_add_left (Nat.mul_le_mul_right _ hle) _
       ·obtain ⟨b,o,s⟩:=a
        simp at p2;simp [p2]
     obtain ⟨lc,l1,l2,l3,l4,l5,l6⟩:=awL;obtain ⟨i1,i2,i3⟩:=h1.add l6 l2 l3;refine ⟨_,_,_,[.ts e .any len es (ef es)],i1,Env.le_trans h2 i2,Ren.le_trans h3 i3,⟨[.slice (some ⟨B1.next,0,.none⟩) len len],.cons ?_ .nil,.cons ?_ .nil⟩,⟨⟨by omega,h7⟩,trivial⟩,fun m l h=>fin rfl h rfl⟩
     ·simp only [VK]
      refine ⟨⟨h4.symm,fun i _=>rfl,by rw [hlF]; exact h6⟩,us,h5.mono i2,some ⟨B1.next,0,.none⟩,len,rfl,aU _,.inr ⟨B1.next,0,⟨fl,lc.cg,false,.none⟩,rfl,by simp [Env.il],by rw [l1,fZ],?_⟩,trivial⟩;rw [fZ];exact h9
     ·simp only [VR]
      exact ⟨trivial,aU _,lc,a,cap,by simp [Ren.set],hle,fun h=>by simpa using l4 h,by simpa using l5,rfl⟩
   ·simp at ht3
  ·rename_i fs hu
   simp only [aA,ij] at ht;split at ht
   ·rename_i k hk
    have hkc:=bu ht.2;obtain ⟨xs,fu,_,_,hlen,hxs,hf⟩:=DataW.trod_struct hu hx;have hff:∀ f∈fs.toList,∃ x,DataW.trod enc P W 0 (fun _=>true) true fu f.type ((cs.drop f.offset).take (P.cellsOf f.type))=some x:=by
     intro f hm;obtain ⟨i,hi'⟩:=List.getElem?_of_mem hm;have hi2:fs[i]? = some f:=by simpa using hi'
     have bG:i < xs.length:=by rw [hxs]; exact (vM.1 hi2).1
     exact ⟨xs[i],by rw [hf i f hi2]; exact dr bG⟩
    obtain ⟨_,E1,B1,og,ks,h1,h2,h3,h4,h5,h6⟩:=Yk IH hp fs.toList 0 k E B ρ hi hk (by rw [hkc,hlen]; exact aU _) ht.1 hff;refine ⟨E1,B1,og,ks,h1,h2,h3,?_,h5,fun m l h=>?_⟩
    ·have e:(cs.drop 0).take (k - 0)=cs:=by rw [List.drop_zero,Nat.sub_zero,hkc,<- hlen,List.take_length]
     rw [e] at h4;exact h4
    ·obtain ⟨m',rfl⟩:=hn h
     simp only [lay,hu,cS] at h;obtain ⟨l',uz,rfl⟩:=h;exact h6 m' l' uz
   ·simp at ht
  ·rename_i len e hu
   simp only [aA] at ht;have hkc:=bu ht.2;obtain ⟨xs,fu,_,_,hlen,hxs,hf⟩:=DataW.trod_array hu hx;have hff:∀ i,i < len->∃ x,DataW.trod enc P W 0 (fun _=>true) true fu e ((cs.drop (i * P.cellsOf e)).take (P.cellsOf e))=some x:=by
    intro i h;exact ⟨xs[i],by rw [hf i h]; exact dr (by rw [hxs]; exact h)⟩
   obtain ⟨E1,B1,og,ks,h1,h2,h3,h4,h5,h6⟩:=acL IH hp ht.1 rfl (by rw [hlen,hkc]; exact aU _) hff hi len (aU _);refine ⟨E1,B1,og,ks,h1,h2,h3,?_,h5,fun m l h=>?_⟩
   ·rw [<- hkc,<- hlen,List.take_length] at h4
    exact h4
   ·obtain ⟨m',rfl⟩:=hn h
    simp only [lay,hu,cS] at h;obtain ⟨l',uz,rfl⟩:=h;exact h6 m' l' uz
  ·simp at ht
end
end Go.K
end
section
namespace Go.K
open Go Go.aB Go.WideShapes
mutual
def Gz (P:Program):KV->Prop
 | .ts T _ n es acc=>ku P T n es acc/\zg P es
 | .agg cs=>zg P cs
 | _=>True
def zg (P:Program):List KV->Prop
 | []=>True
 | v::vs=>Gz P v/\zg P vs
end
mutual
theorem VK.deep {P:Program} {E:Env} : ∀ {v:KV} {u:Value},VK P E v u->Gz P v
 | .ts T m n es acc,u,h=>by
  obtain ⟨h1,us,h2,_⟩:=h.mD;exact ⟨h1,bC.deep h2⟩
 | .agg cs,u,h=>by
  obtain ⟨l,_,h1⟩:=h.mi;exact bC.deep (vs:=cs) h1
 | .int _ _,_,_ | .bool _,_,_ | .str _,_,_ | .nb _,_,_ | .tp ..,_,_ | .ptr ..,_,_ | .al ..,_,_ | .ap ..,_,_ | .sl ..,_,_ | .G1,_,_ | .lY,_,_ | .CV,_,_ | .map _,_,_ | .fn ..,_,_ | .Ip,_,_ | .iface ..,_,_ | .Iq,_,_ | .ao,_,_=>trivial
theorem bC.deep {P:Program} {E:Env} : ∀ {vs:List KV} {us:List Value},bC P E vs us->zg P vs
 | [],_,_=>trivial
 | v::vs,us,h=>by
  simp only [bC] at h;obtain ⟨y,ys,_,h1,h2⟩:=h;exact ⟨VK.deep h1,bC.deep h2⟩
end
def ma (P:Program):List TypeId->List KV->Bool
 | [],[]=>true
 | t::ts,v::vs=>cP (bB P t) v&&ma P ts vs
 | _,_=>false
theorem acN {P:Program} : ∀ {ts:List TypeId} {aw9:List KV},ma P ts aw9=true->aw9.length=ts.length
 | [],[],_=>rfl
 | [],_::_,h=>by simp [ma] at h
 | _::_,[],h=>by simp [ma] at h
 | t::ts,v::vs,h=>by
  simp only [ma,aA] at h;simp [acN h.2]
def SZ (P:Program) (t:TypeId):Bool:=Db P 30 t&&(match lay P 12 t with
 | some l=>Nat.beq l.ks.length (P.cellsOf t)
 | .none=>false)
section
variable {H:Type} {enc:TypeId×Value->H} {P:Program} {W:World}
theorem alX {r:Reach} {base:Nat} {t:TypeId} {v:Value} (h:Value.okWide P W r base t v):agE W v.cells.toList:=by
 intro a n c hm;have cell:∀ u,Cell.okWide P W r base u (.slice (some a) n c)->0 < W.heap.size:=by
  intro u hu;unfold Cell.okWide at hu;split at hu <;> try (rename_i heq; simp at heq; done)
  unfold Cell.ok at hu;split at hu <;> try (rename_i heq; simp at heq; done)
  ·rename_i e heq
   simp at heq;obtain ⟨rfl,rfl,rfl⟩:=heq;obtain ⟨_,_,_,_,row,cells,hs,_⟩:=hu;unfold World.shape? at hs;split at hs
   ·rename_i hh
    have:=(vM.1 hh).1;omega
   ·simp at hs
  ·exact hu.elim
 unfold Value.okWide at h;split at h
 ·obtain ⟨cs,rfl,_,ts,_,_,hc⟩:=h
  obtain ⟨i,hi⟩:=List.getElem?_of_mem hm;obtain ⟨u,_,hu⟩:=hc i _ (by simpa [Value.cells] using hi);exact cell u hu
 ·obtain ⟨cs,rfl,_,ts,_,_,hc⟩:=h
  obtain ⟨i,hi⟩:=List.getElem?_of_mem hm;obtain ⟨u,_,hu⟩:=hc i _ (by simpa [Value.cells] using hi);exact cell u hu
 ·have hv:v.cells.toList = [v]\/∃ cs,v = .agg cs:=by cases v <;> first | exact .inl rfl | exact .inr ⟨_,rfl⟩
  rcases hv with hv | ⟨cs,rfl⟩
  ·rw [hv] at hm
   simp at hm;subst hm;exact cell t h
  ·exfalso
   unfold Cell.okWide at h;split at h <;> try (rename_i heq; simp at heq; done)
   unfold Cell.ok at h;split at h <;> first | (rename_i heq; simp at heq; done) | exact h.elim
theorem asi {E:Env} {B:St} {ρ:Ren} {t:TypeId} {v:Value} {d:DataW H} {ps:List MemPlace} {r:Reach} {base:Nat} (ht:SZ P t=true) (hd:DataW.Trod enc P W 0 (fun _=>true) true t v d ps) (hw:Value.okWide P W r base t v) (hi:Tg P W E B ρ) :
  ∃ E' B' bd a,Tg P W E' B' bd/\E.le E'/\ρ.le bd/\VC P E' bd a v/\cP (bB P t) a=true/\Tf a:=by
 unfold SZ at ht;simp only [aA] at ht;obtain ⟨zc,QO⟩:=ht;split at QO
 ·rename_i l hl
  obtain ⟨fuel,hf⟩:=hd;obtain ⟨E1,B1,og,ks,h1,h2,h3,⟨m,h4,h4'⟩,h5,h6⟩:=aoa 30 t zc fuel _ _ E B ρ hf (alX hw) hi;have hk:=h6 12 l hl;have hlF:bB P t=l:=by simp [bB,hl]
  have arx:(l.agg=true/\∃ cs:Array Value,v = .agg cs)\/(l.agg=false/\l.ks.length=1/\v.cells.toList = [v]):=by
   unfold Db at zc;split at zc
   ·rename_i k hu
    obtain ⟨n,rfl⟩:=okWide_int hu hw;simp only [lay,hu,di] at hl;subst hl; exact .inr ⟨rfl,rfl,rfl⟩
   ·rename_i hu
    obtain ⟨n,rfl⟩:=okWide_bool hu hw;simp only [lay,hu,di] at hl;subst hl; exact .inr ⟨rfl,rfl,rfl⟩
   ·rename_i hu
    obtain ⟨n,rfl⟩:=okWide_string hu hw;simp only [lay,hu,di] at hl;subst hl; exact .inr ⟨rfl,rfl,rfl⟩
   ·rename_i e hu
    obtain ⟨a,n,c,rfl⟩:=okWide_slice hu hw;simp only [lay,hu,di] at hl;subst hl; exact .inr ⟨rfl,rfl,rfl⟩
   ·rename_i fs hu
    simp only [lay,hu,cS] at hl;obtain ⟨_,_,rfl⟩:=hl;unfold Value.okWide at hw;rw [hu] at hw;obtain ⟨cs,rfl,_⟩:=hw;exact .inl ⟨rfl,cs,rfl⟩
   ·rename_i len e hu
    simp only [lay,hu,cS] at hl;obtain ⟨_,_,rfl⟩:=hl;unfold Value.okWide at hw;rw [hu] at hw;obtain ⟨cs,rfl,_⟩:=hw;exact .inl ⟨rfl,cs,rfl⟩
   ·simp at zc
  refine ⟨E1,B1,og,P0 l.agg ks,h1,h2,h3,?_,?_,arw h5⟩
  ·rcases arx with ⟨ha,cs,rfl⟩ | ⟨ha,hlen,hv⟩
   ·rw [ha]
    exact ⟨.agg ⟨m⟩,.rW h4,VR.rW (l':=cs.toList) h4'⟩
   ·rw [ha]
    rw [hv] at h4';have hml:m.length=1:=by have:=h4'.length; simpa using this.symm
    have:=af7 (agg:=false) h4 (.inr hml)
    match m,hml,h4',this with
    | [y],_,h4',this=>
     obtain ⟨z,zs,e,q1,_⟩:=h4'.cons_inv;simp at e;refine ⟨y,this,?_⟩;rw [e.1]; exact q1
  ·rw [hlF]
   exact aaM hk (arx.imp (·.1) (·.2.1))
 ·simp at QO
theorem agH {r:Reach} {base:Nat} : ∀ {ts:List TypeId} {vs:List Value} {ds:List (DataW H)} {ps:List MemPlace} {E:Env} {B:St} {ρ:Ren},(∀ t∈ts,SZ P t=true)->DataW.TrodAll enc P W 0 (fun _=>true) true ts vs ds ps->
  (∀ (j:Nat) t v,ts[j]? = some t->vs[j]? = some v->Value.okWide P W r base t v)->Tg P W E B ρ->∃ E' B' bd aw9,Tg P W E' B' bd/\E.le E'/\ρ.le bd/\ui P E' bd aw9 vs/\ma P ts aw9=true/\Da aw9
 | [],vs,ds,ps,E,B,ρ,_,h,_,hi=>by
  obtain ⟨rfl,_,_⟩:=Go.ChangeShapes.trodAll_nil h;exact ⟨E,B,ρ,[],hi,Env.le_refl _,Ren.le_refl _,⟨[],.nil,.nil⟩,rfl,trivial⟩
 | t::ts,vs,ds,ps,E,B,ρ,ht,h,hw,hi=>by
  obtain ⟨v,vs1,d,ds1,a,b,rfl,rfl,rfl,h1,h2⟩:=Go.ChangeShapes.trodAll_cons h;obtain ⟨E1,B1,og,x,q1,q2,q3,⟨u,q4,q4'⟩,q5,q6⟩:=asi (ht t (by simp)) h1 (hw 0 t v rfl rfl) hi;obtain ⟨E2,B2,yF,xs,p1,p2,p3,⟨m,p4,p4'⟩,p5,p6⟩:=agH (fun t' h'=>ht t' (by simp [h'])) h2 (fun j t' v' h3 h4=>hw (j+1) t' v' (by simpa using h3) (by simpa using h4)) q1;exact ⟨E2,B2,yF,x::xs,p1,Env.le_trans q2 p2,Ren.le_trans q3 p3,⟨u::m,.cons (q4.mono p2) p4,.cons (q4'.mono p3) p4'⟩,by simp [ma,q5,p5],⟨q6,p6⟩⟩
theorem atS {S:List KV->Prop} (hP:P.funcs.toList.all pd=true) (hm:P.follows .mixedOrders=true) {cfg:fE} (kb:u6 P cfg.pc) (o4:Ay P cfg) {L n:Nat} {f:FuncId} {ts:List TypeId} (hts:ts.all (SZ P)=true)
  (mj:∀ aw9,ma P ts aw9=true->Da aw9->zg P aw9->S aw9->cD P cfg L n f (normArgs P ts aw9)=some (.bool true)) {args:Array Value} (hS:∀ aw9 E ρ,ma P ts aw9=true->ui P E ρ aw9 args.toList->S aw9) {ds:List (DataW H)} {ps:List MemPlace} {r:Reach} {base:Nat}
  (hd:DataW.TrodAll enc P W 0 (fun _=>true) true ts args.toList ds ps) (hw:∀ (j:Nat) t v,ts[j]? = some t->args.toList[j]? = some v->Value.okWide P W r base t v) :
  Calls P f args W fun e w'=>e = .returned (.bool true)/\RowKit.Below W.heap.size W w':=by
 obtain ⟨E,B,ρ,aw9,h1,_,_,h4,h5,h6⟩:=agH (ij.1 hts) hd hw (Tg.start P W);have avJ:zg P aw9:=by obtain ⟨m,q,_⟩:=h4; exact q.deep
 have mX:=mj aw9 h5 h6 avJ (hS aw9 E ρ h5 h4);have h4:ui P E ρ (normArgs P ts aw9) args.toList:=by
  obtain ⟨m,q,q'⟩:=h4;exact ⟨m,bC.Q1 (.of rfl) q (acN h5),q'⟩
 have xG:=xk (R:=KV) hP hm kb o4 L n;obtain ⟨fn,c,hf,hc,dt,hnm,mX⟩:=Q0 hP mX;have:=Oj kb xG hm L hf hc dt (o4.2 f fn c hf hc) mX h4 (base:=W.heap.size) (w:=W) ⟨h1.k,h1.kC⟩;refine this.mono ?_;rintro e w' ⟨vs,cX,E1,A1,B1,og,rfl,⟨m,q1,q1'⟩,q2,q3⟩;have q3:Bool.rec (motive:=fun _=>Option KV) .none (some (Iv (za P (uW P f) (Ar A1 vs).1))) (Nat.beq vs.length (uW P f).length)=some (.bool true):=q3;obtain ⟨E2,_,q1⟩:=J1 q2.kC q1;cases hb:Nat.beq vs.length (uW P f).length with
 | false=>rw [hb] at q3; exact absurd q3 (by simp)
 | true=>
  rw [hb] at q3;have q3:some (Iv (za P (uW P f) (Ar A1 vs).1))=some (.bool true):=q3;simp only [di] at q3;have hv:VC P E2 og (Iv (za P (uW P f) (Ar A1 vs).1)) (alQ cX):=QZ ⟨m,by rw [II]; exact bC.Q1 (.of rfl) q1 ((N9 A1 vs).trans (bu hb)),q1'⟩;rw [q3] at hv;have hg:=q2.gP;refine ⟨by rw [hv.gi],hg.kept.os,hg.kept.tape,hg.kept.output,hg.kept.size,fun k hk=>hg.kept.block k hk ?_⟩;rintro ⟨b,o,l,ho,K9,_⟩;rw [(h1.wI b o ho).1] at K9;simp at K9
theorem auD (hP:P.funcs.toList.all pd=true) (hm:P.follows .mixedOrders=true) {cfg:fE} (kb:u6 P cfg.pc) (o4:Ay P cfg) {L n:Nat} {f:FuncId} {ts:List TypeId} (hts:ts.all (SZ P)=true)
  (mj:∀ aw9,ma P ts aw9=true->Da aw9->zg P aw9->cD P cfg L n f (normArgs P ts aw9)=some (.bool true)) {args:Array Value} {ds:List (DataW H)} {ps:List MemPlace} {r:Reach} {base:Nat}
  (hd:DataW.TrodAll enc P W 0 (fun _=>true) true ts args.toList ds ps) (hw:∀ (j:Nat) t v,ts[j]? = some t->args.toList[j]? = some v->Value.okWide P W r base t v) :
  Calls P f args W fun e w'=>e = .returned (.bool true)/\RowKit.Below W.heap.size W w':=
 atS (S:=fun _=>True) hP hm kb o4 hts (fun aw9 h1 h2 h3 _=>mj aw9 h1 h2 h3) (fun _ _ _ _ _=>trivial) hd hw
end
noncomputable def akS:List (Nat×(List KV->KR KV))->FuncId->Option (List KV->KR KV)
 | [],_=>.none
 | p::ps,g=>cond (Nat.beq p.1 g) (some p.2) (akS ps g)
theorem ary {P:Program} : ∀ {ps:List (Nat×(List KV->KR KV))},(∀ p∈ps,bH P p.1 p.2)->u6 P (akS ps)
 | [],_=>fun g F h=>by simp [akS] at h
 | p::ps,h=>fun g F hF=>by
  unfold akS at hF;cases hb:Nat.beq p.1 g with
  | true=>
   rw [hb] at hF;simp only [ak,di] at hF;have:=bu hb;subst this hF;exact h p (by simp)
  | false=>
   rw [hb] at hF;exact ary (fun q hq=>h q (yY _ hq)) g F hF
theorem aob (l:Lay):cP l .ao=false:=by
 show (!l.agg&&aK l.ks [.ao])=false;cases l.ks with
 | nil=>simp [aK]
 | cons c cs=>cases c <;> simp [aK,kindOk]
theorem apU {P:Program} {t:TypeId} {v:KV} (h:cP (bB P t) (XL P t v)=true):∃ w,XL P t v=ax P (ai P aj) t w:=by
 unfold XL at h ⊢;cases hb:cP (bB P t) (fe (bB P t) v) with
 | false=>rw [hb,ba,aob] at h; simp at h
 | true=>exact ⟨fe (bB P t) v,rfl⟩
theorem Ou:∀ {ks:List CK} {cs:List KV},aK ks cs=true->CW ks cs=cs
 | [],[],_=>rfl
 | [],_::_,h=>by simp [aK] at h
 | _::_,[],h=>by simp [aK] at h
 | k::ks,v::vs,h=>by
  simp only [aK,aA] at h;have e:oY k v=v:=by
   unfold oY;split
   ·simp [kindOk] at h
   ·rename_i t t' m n es acc
    cases m <;> simp [kindOk] at h;obtain ⟨rfl,_⟩:=h;rw [yZ,ak]
   ·rw [h.1]; rfl
  rw [CW,e,Ou h.2]
theorem aoc {l:Lay} {v:KV} (h:cP l v=true):fe l v=v:=by
 by_cases ha:∃ cs,v = .agg cs
 ·obtain ⟨cs,rfl⟩:=ha
  simp only [cP,aA] at h;show cond (l.agg&&Nat.beq cs.length l.ks.length) (KV.agg (CW l.ks cs)) .ao=_;rw [h.1,tG h.2,Ou h.2];simp
 ·have h1:(!l.agg&&aK l.ks [v])=true:=by
   cases v <;> first | exact h | exact absurd ⟨_,rfl⟩ ha | simp [cP] at h
  simp only [aA,mz] at h1;have e:fe l v=cond l.agg .ao (match l.ks with | [c]=>oY c v | _=>.ao):=by
   cases v <;> first | rfl | exact absurd ⟨_,rfl⟩ ha
  rw [e,h1.1,ba]
  match hk:l.ks,h1.2 with
  | [c],h2=>
   have:=Ou h2;simpa [CW] using this
  | [],h2=>simp [aK] at h2
  | _::_::_,h2=>simp [aK] at h2
theorem apV {P:Program} {t:TypeId} {v:KV} (h:cP (bB P t) v=true):XL P t v=ax P (ai P aj) t v:=by
 unfold XL;rw [aoc h,h,ak]
noncomputable def ck (P:Program):List TypeId->(Nat->KV)->Nat->List KV
 | [],_,_=>[]
 | t::ts,w,k=>ax P (ai P aj) t (w k)::ck P ts w (Nat.succ k)
theorem Ym {P:Program} : ∀ {ts:List TypeId} {w w' : Nat->KV} {k:Nat},(∀ i,k<=i->w i=w' i)->ck P ts w k=ck P ts w' k
 | [],_,_,_,_=>rfl
 | t::ts,w,w',k,h=>by
  rw [ck,ck,h k (aU _),Ym fun i hi=>h i (by omega)]
theorem Ov {P:Program} : ∀ {ts:List TypeId} {aw9:List KV} (k:Nat),ma P ts (normArgs P ts aw9)=true->∃ w,normArgs P ts aw9=ck P ts w k
 | [],aw9,k,_=>⟨fun _=>.ao,by cases aw9 <;> rfl⟩
 | t::ts,[],k,h=>by simp [normArgs,ma] at h
 | t::ts,v::vs,k,h=>by
  simp only [normArgs,ma,aA] at h;obtain ⟨w,hw⟩:=apU h.1;obtain ⟨w',hw'⟩:=Ov (k+1) h.2;refine ⟨fun i=>if i=k then w else w' i,?_⟩;rw [normArgs,ck,hw,hw',aY rfl];rw [Ym (w:=w') (w':=fun i=>if i=k then w else w' i) fun i hi=>by rw [av (by omega)]]
theorem agI {P:Program} : ∀ {ts:List TypeId} {aw9:List KV} (k:Nat) {w:Nat->KV},ma P ts aw9=true->(∀ i,i < aw9.length->w (k+i)=aw9.getD i .ao)->normArgs P ts aw9=ck P ts w k
 | [],[],k,_,_,_=>rfl
 | [],_::_,_,_,h,_=>by simp [ma] at h
 | _::_,[],_,_,h,_=>by simp [ma] at h
 | t::ts,v::vs,k,w,h,hw=>by
  simp only [ma,aA] at h;rw [normArgs,ck,apV h.1,agI (k+1) (w:=w) h.2 fun i hi=>by have:=hw (i+1) (by simp; omega); rw [show k+1+i=k+(i+1) by omega,this]; rfl];have:=hw 0 (by simp);rw [CH] at this;rw [this]; rfl
noncomputable def bI (P:Program) (g:FuncId) (F:List KV->KR KV):List KV->KR KV:=fun aw9=>cond (ma P (aG P g) aw9) (F aw9) .no
theorem atT {P:Program} {g:FuncId} {F:List KV->KR KV} (hP:P.funcs.toList.all pd=true) (hm:P.follows .mixedOrders=true) {cfg:fE} (kb:u6 P cfg.pc) (o4:Ay P cfg) {L n:Nat}
  (h:∀ w v,bf (F (ck P (aG P g) w 0)) v->cD P cfg L n g (ck P (aG P g) w 0)=some v) (hy:Nat.blt g yB=true:=by rfl):bH P g (bI P g F):=
 aty hy hP hm fun aw9 v _ hF=>by
  unfold bI at hF;obtain ⟨hb,hF⟩:=bf.cond hF;obtain ⟨w,hw⟩:=Ov 0 hb;rw [hw] at hF ⊢;exact ⟨cfg,L,n,kb,o4,h w v hF⟩
noncomputable def atU (P:Program) (d:CD) (w:KV):KV:=
 match d with
 | .k c=>ai P aj (leaf c w)
 | .lit v=>v
 | .bA t=>ai P aj (leaf (.slice t) w)
 | .arr t=>ai P aj (leaf (.slice t) w)
 | .ref v=>v
noncomputable def Ls (P:Program):List CD->(Nat->KV)->Nat->List KV
 | [],_,_=>[]
 | d::ds,w,k=>atU P d (w k)::Ls P ds w (Nat.succ k)
noncomputable def alY (P:Program) (d:VD) (w:Nat->KV):KV:=Bool.rec (motive:=fun _=>KV) ((Ls P d.ks w 0).headD .ao) (.agg (Ls P d.ks w 0)) d.agg
noncomputable def tL (P:Program):List (Tmp×VD)->(Nat->Nat->KV)->Nat->List KV
 | [],_,_=>[]
 | p::ps,w,k=>alY P p.2 (w k)::tL P ps w (Nat.succ k)
noncomputable def tM (P:Program):List (Tmp×List CD×Nat)->(Nat->Nat->KV)->Nat->List (List KV)
 | [],_,_=>[]
 | p::ps,w,k=>Ls P p.2.1 (w k) 0::tM P ps w (Nat.succ k)
theorem akT {P:Program} {A:aw} {d:CD} {v:KV} (h:lk d (gm P A d v)=true):∃ w,gm P A d v=atU P d w:=by
 cases d with
 | ref u=>exact ⟨.ao,rfl⟩
 | k c=>
  have e:gm P A (.k c) v=cond (kindOk c (oY c v)) (ai P aj (leaf c (oY c v))) .ao:=rfl;cases hb:kindOk c (oY c v) with
  | true=>exact ⟨oY c v,by rw [e,hb]; rfl⟩
  | false=>
   rw [e,hb] at h;cases c <;> simp [lk,kindOk] at h
 | lit u=>
  have e:gm P A (.lit u) v=cond (yK u v) u .ao:=rfl;cases hb:yK u v with
  | true=>exact ⟨.ao,by rw [e,hb]; rfl⟩
  | false=>
   rw [e,hb,ba] at h;have h:yK u .ao=true:=h;cases u <;> first | (simp [yK] at h; done) | (rename_i f a b; cases f <;> cases a <;> cases b <;> simp [yK] at h)
 | bA t=>
  cases v with
  | lY=>exact ⟨.ts t .any 0 [] qX,rfl⟩
  | ts t' m n es acc=>
   cases m with
   | bA f=>
    have e:gm P A (.bA t) (.ts t' (.bA f) n es acc)=cond (Nat.beq t t') (ai P aj (.ts t .any n es acc)) .ao:=rfl;cases hb:Nat.beq t t' with
    | true=>exact ⟨.ts t .any n es acc,by rw [e,hb]; rfl⟩
    | false=>rw [e,hb] at h; simp [lk,kindOk] at h
   | _=>simp [gm,lk,kindOk] at h
  | _=>simp [gm,lk,kindOk] at h
 | arr t=>
  rcases aaV h with rfl | ⟨b,n,m,N,es,acc,rfl,_,he⟩
  ·exact ⟨.ts t .any 0 [] qX,rfl⟩
  ·exact ⟨.ts t .any N es acc,he⟩
theorem Yn {P:Program} : ∀ {ds:List CD} {w w' : Nat->KV} {k:Nat},(∀ i,k<=i->w i=w' i)->Ls P ds w k=Ls P ds w' k
 | [],_,_,_,_=>rfl
 | t::ts,w,w',k,h=>by
  rw [Ls,Ls,h k (aU _),Yn fun i hi=>h i (by omega)]
theorem aaZ {P:Program} {A:aw} : ∀ {ds:List CD} {vs:List KV} (k:Nat),dT ds (gp P A ds vs)=true->∃ w,gp P A ds vs=Ls P ds w k
 | [],vs,k,_=>⟨fun _=>.ao,by cases vs <;> rfl⟩
 | d::ds,[],k,h=>by simp [gp,dT] at h
 | d::ds,v::vs,k,h=>by
  simp only [gp,dT,aA] at h;obtain ⟨w,hw⟩:=akT h.1;obtain ⟨w',hw'⟩:=aaZ (k+1) h.2;refine ⟨fun i=>if i=k then w else w' i,?_⟩;rw [gp,Ls,hw,hw',aY rfl];rw [Yn (w:=w') (w':=fun i=>if i=k then w else w' i) fun i hi=>by rw [av (by omega)]]
theorem asj {P:Program} {A:aw} {d:VD} {v:KV} (h:zd d (xP P A d v)=true):∃ w,xP P A d v=alY P d w:=by
 have BP:=A9 h;rcases Ba h with ⟨cs,rfl,h1,h2,h3⟩ | ⟨h0,c,h1,h2,h3,h4,h5⟩
 ·obtain ⟨w,hw⟩:=aaZ 0 h3
  refine ⟨w,?_⟩;have:d.agg=true:=by
   rcases BP with ⟨_,_,q,_⟩ | ⟨q,_⟩
   ·exact q
   ·exact absurd h2 (q _)
  rw [h2,hw,alY,this]
 ·obtain ⟨w,hw⟩:=akT h3
  refine ⟨fun _=>w,?_⟩;have:d.agg=false:=by
   rcases BP with ⟨cs,q,_⟩ | ⟨_,q,_⟩
   ·rw [h2] at q; exact absurd q (h5 _)
   ·exact q
  rw [h2,hw,alY,this,h1]; rfl
theorem Uk {P:Program} : ∀ {ps:List (Tmp×VD)} {w w' : Nat->Nat->KV} {k:Nat},(∀ i,k<=i->w i=w' i)->tL P ps w k=tL P ps w' k
 | [],_,_,_,_=>rfl
 | t::ts,w,w',k,h=>by
  rw [tL,tL,h k (aU _),Uk fun i hi=>h i (by omega)]
theorem agJ {P:Program} {t:bO} {A:aw} : ∀ {ps:List (Tmp×VD)} (k:Nat),jU ps (r5 P t A ps)=true->∃ w,r5 P t A ps=tL P ps w k
 | [],k,_=>⟨fun _ _=>.ao,rfl⟩
 | p::ps,k,h=>by
  simp only [r5,jU,aA] at h;obtain ⟨w,hw⟩:=asj h.1;obtain ⟨w',hw'⟩:=agJ (k+1) h.2;refine ⟨fun i=>if i=k then w else w' i,?_⟩;rw [r5,tL,hw,hw',aY rfl];rw [Uk (w:=w') (w':=fun i=>if i=k then w else w' i) fun i hi=>by rw [av (by omega)]]
theorem Ul {P:Program} : ∀ {ps:List (Tmp×List CD×Nat)} {w w' : Nat->Nat->KV} {k:Nat},(∀ i,k<=i->w i=w' i)->tM P ps w k=tM P ps w' k
 | [],_,_,_,_=>rfl
 | t::ts,w,w',k,h=>by
  rw [tM,tM,h k (aU _),Ul fun i hi=>h i (by omega)]
theorem agK {P:Program} : ∀ {ps:List (Tmp×List CD×Nat)} {rs:List (List KV)} (k:Nat),rs.length=ps.length->(∀ (i:Nat) p r,ps[i]? = some p->rs[i]? = some r->dT p.2.1 r=true)->
  (∀ (i:Nat) p,ps[i]? = some p->∃ A nM,rs[i]? = some (gp P A p.2.1 nM)/\nM.length=p.2.1.length)->∃ w,rs=tM P ps w k
 | [],[],k,_,_,_=>⟨fun _ _=>.ao,rfl⟩
 | [],_::_,_,h,_,_=>by simp at h
 | _::_,[],_,h,_,_=>by simp at h
 | p::ps,r::rs,k,hl,hg,hn=>by
  obtain ⟨A,nM,h1,_⟩:=hn 0 p rfl;simp only [List.getElem?_cons_zero,di] at h1;have h2:=hg 0 p r rfl rfl;rw [h1] at h2;obtain ⟨w,hw⟩:=aaZ 0 h2;obtain ⟨w',hw'⟩:=agK (ps:=ps) (rs:=rs) (k+1) (by simpa using hl) (fun i p r a b=>hg (i+1) p r (by simpa using a) (by simpa using b)) fun i p a=>by simpa using hn (i+1) p (by simpa using a)
  refine ⟨fun i=>if i=k then w else w' i,?_⟩;rw [tM,h1,hw,aY rfl];congr 1;rw [hw'];exact Ul fun i hi=>by rw [av (by omega)]
theorem D4.form {P:Program} {S:aV} {vs:List KV} {rs:List (List KV)} (h:D4 P S vs rs):∃ wv wr,vs=tL P S.gT wv 0/\rs=tM P S.rows wr 0:=by
 obtain ⟨t,A,ht⟩:=h.vn;have hv:=h.v;rw [ht] at hv;obtain ⟨wv,hwv⟩:=agJ 0 hv;obtain ⟨wr,hwr⟩:=agK 0 h.vb h.Aq h.rn;exact ⟨wv,wr,by rw [ht,hwv],hwr⟩
inductive aW (X:Type) where
 | fail
 | next (x:X)
 | out (e:ae) (x:X)
def aW.enc {X:Type} (ev:X->List KV) (er:X->List (List KV)):aW X->Option (ae×List KV×List (List KV))
 | .fail=>.none
 | .next x=>some (.normal,ev x,er x)
 | .out e x=>some (e,ev x,er x)
theorem aW.cf {X:Type} (ev:X->List KV) (er:X->List (List KV)) (c:Bool) (a b:aW X):aW.enc ev er (cond c a b)=cond c (aW.enc ev er a) (aW.enc ev er b):=by cases c <;> rfl
def aW.go {X:Type} (step:X->aW X):Nat->X->aW X
 | 0,_=>.fail
 | n+1,x=>match step x with
  | .fail=>.fail
  | .next x=>aW.go step n x
  | .out e x=>cond (va e) .fail (.out e x)
def sG:ae->ae->Bool
 | .normal,.normal=>true
 | .exit i,.exit j=>Nat.beq i j
 | .goto i,.goto j=>Nat.beq i j
 | .ret,.ret=>true
 | _,_=>false
theorem alZ {a b:ae} (h:sG a b=true):a=b:=by
 cases a <;> cases b <;> simp [sG] at h <;> first | rfl | (subst h; rfl)
def aW.by {X:Type} (s:aW X) (e:ae):Bool:=
 match s with
 | .out e' _=>sG e' e
 | _=>false
def aW.st {X:Type} [Inhabited X] (s:aW X):X:=
 match s with
 | .out _ x=>x
 | _=>default
theorem go_iter {X:Type} {step:X->aW X} {ev:X->List KV} {er:X->List (List KV)} {rd:List KV->List (List KV)->Option (ae×List KV×List (List KV))} (h:∀ x,step x = .fail\/rd (ev x) (er x)=aW.enc ev er (step x)) :
  ∀ (n:Nat) (x:X) (e:ae) (y:X),aW.go step n x = .out e y->B5 rd n (ev x) (er x)=some (e,ev y,er y)
 | 0,x,e,y,hg=>by simp [aW.go] at hg
 | n+1,x,e,y,hg=>by
  simp only [aW.go] at hg;have hx:=h x;cases hs:step x with
  | fail=>rw [hs] at hg; simp at hg
  | next x'=>
   have hx:=hx.resolve_left (by rw [hs]; simp);rw [hs] at hg hx;simp only [B5,hx,aW.enc,va,ak];exact go_iter h n x' e y hg
  | out e' x'=>
   have hx:=hx.resolve_left (by rw [hs]; simp);rw [hs] at hg hx;simp only at hg;cases hn:va e' with
   | true=>rw [hn] at hg; simp at hg
   | false=>
    rw [hn,ba] at hg;simp only [aW.out.injEq] at hg;obtain ⟨rfl,rfl⟩:=hg;simp only [B5,hx,aW.enc,hn,ba]
def dC {X:Type} [Inhabited X] (ev:X->List KV) (er:X->List (List KV)) (s:aW X):List ae->v7
 | []=>.no
 | e::es=>.br (s.by e) (.out e (ev s.st) (er s.st)) (dC ev er s es)
theorem agL {X:Type} [Inhabited X] {ev:X->List KV} {er:X->List (List KV)} {s:aW X} : ∀ {es:List ae} {e:ae} {vs:List KV} {rs:List (List KV)},(dC ev er s es).ev=some (e,vs,rs)->∃ x,s = .out e x/\vs=ev x/\rs=er x
 | [],e,vs,rs,h=>by simp [dC,v7.ev] at h
 | e'::es,e,vs,rs,h=>by
  simp only [dC,v7.ev] at h;cases hb:s.by e' with
  | false=>rw [hb] at h; exact agL h
  | true=>
   rw [hb,ak] at h;simp only [di,fS] at h;obtain ⟨rfl,rfl,rfl⟩:=h;cases s with
   | out e0 x=>
    have:=alZ (show sG e0 e' = true from hb);subst this;exact ⟨x,rfl,rfl,rfl⟩
   | fail=>simp [aW.by] at hb
   | next x=>simp [aW.by] at hb
def goN {X:Type} (step:X->aW X) (x:X):aW X:=aW.go step iI x
theorem aod {P:Program} {l:Lp} {X:Type} [Inhabited X] {cfg:fE} {L n:Nat} (kb:u6 P cfg.pc) (o4:Ay P cfg) {step:X->aW X} {ev:X->List KV} {er:X->List (List KV)} {es:List ae} {pa:List KV->List (List KV)->X}
  (hF:∀ vs rs,l.F vs rs=dC ev er (goN step (pa vs rs)) es) (gR:∀ wv wr,ev (pa (tL P l.S.gT wv 0) (tM P l.S.rows wr 0))=tL P l.S.gT wv 0/\er (pa (tL P l.S.gT wv 0) (tM P l.S.rows wr 0))=tM P l.S.rows wr 0)
  (yz:∀ x,step x = .fail\/aru l.st P cfg L n l.f l.p (dF P l.f l.p) l.S (ev x) (er x)=aW.enc ev er (step x)):l.Ok P:=
 ⟨cfg,L,n,kb,o4,fun vs rs e cX o5 dt yI=>by
  obtain ⟨wv,wr,rfl,rfl⟩:=dt.form;obtain ⟨h1,h2⟩:=gR wv wr;rw [hF] at yI;obtain ⟨y,hy,rfl,rfl⟩:=agL yI;have:=go_iter yz iI _ e y hy;rw [h1,h2] at this;exact this⟩
theorem aW.lit {X:Type} {ev:X->List KV} {er:X->List (List KV)} {R:Option (ae×List KV×List (List KV))} {k n:Int} {a b:aW X} (h:k=n->R=aW.enc ev er a) (h' : b = .fail\/R=aW.enc ev er b):cond (k==n) a b = .fail\/R=aW.enc ev er (cond (k==n) a b):=by
 cases e:k==n with
 | true=>exact .inr (h (by simpa using e))
 | false=>exact h'
theorem alR {P:Program} {aw9:List KV} (h:ma P [] aw9=true):aw9 = []:=by
 cases aw9 with
 | nil=>rfl
 | cons a aw9=>simp [ma] at h
theorem asl {ks:List CK} {v:KV} (h:cP ⟨true,ks⟩ v=true):∃ cs,v = .agg cs/\aK ks cs=true:=by
 cases v with
 | agg cs=>exact ⟨cs,rfl,by simpa [cP] using h⟩
 | nb cs=>simp [cP] at h
 | _=>simp [cP] at h
end Go.K
end
section
namespace Go.K
open Go Go.aB
variable {P:Program} {E:Env}
theorem l8.below {base:Nat} {ρ:Ren} {B:St} {w w' : World} (hs:vD ρ B base w) (h:RowKit.Below w.heap.size w w'):l8 base ρ B w ρ B w':=by
 refine ⟨⟨.Hi (fun b o hg hd=>?_) hs.rel.apart hs.rel.b5,hs.lW,o9 hs.size h.size,hs.JQ⟩,fun _ _=>rfl,⟨h.os,h.tape,h.output,h.size,fun k hk _=>h.block k hk⟩,aU _,aU _,fun _ _ _=>rfl,fun _ _ hk=>hk⟩;obtain ⟨l,e,ok⟩:=hs.rel.obj hg hd;exact ⟨l,e,ok.ik (Ren.le_refl _) (h.block _ (ok.lt hd)) h.size⟩
theorem aoe {g:FuncId} {F:List KV->KR KV} (hc:Cn P g)
  (h:∀ args v (E:Env) (A:aw) (B:St) (ρ:Ren) (base:Nat) (w:World) (ib:List Value),bf (F (normArgs P (aG P g) args)) v->args.length=(aG P g).length->ui P E ρ args ib->KJ P E A B ρ base w->
   Calls P g ib.toArray w fun e w'=>∃ v',e = .returned v'/\VC P E ρ v v'/\RowKit.Below w.heap.size w w'):bH P g F:=
 fun args v hF hlen=>⟨hc,fun E A B ρ base w ib hv hj=>(h args v E A B ρ base w ib hF hlen hv hj).mono fun _ _ ⟨v',h1,h2,h3⟩=>
  ⟨v',E,B,ρ,h1,h2,hj.k,l8.below hj.s h3,Env.le_refl _,aU _,fun _ _ _ _=>rfl,fun _ _ h=>.inl h,fun _ _ h=>.inl h,fun _ _ h=>.inl ⟨_,h⟩,fun _ _ _ _=>rfl,fun _ h=>.inl h,fun _ h=>.inl h,fun _ _ h=>.inl h,fun _ h=>.inl h,fun _ _ cs _ _ _ h=>⟨cs,h,rfl⟩⟩⟩
end Go.K
end
section
namespace Go.K
open Go Go.aB
structure Sl (α:Type) where
 n:Nat
 get:Nat->α
instance {α:Type} [Inhabited α] : Inhabited (Sl α):=⟨⟨0,fun _=>default⟩⟩
def eA {α:Type} (T:TypeId) (k:α->KV) (s:Sl α):KV:=.ts T .any s.n ((List.range s.n).map fun i=>k (s.get i)) (fun i=>k (s.get i))
def aF {α:Type} (p:KV->α) (n:Nat) (acc:Nat->KV):Sl α:=⟨n,fun i=>p (acc i)⟩
def dP {α:Type} (p:KV->α) (v:KV):Sl α:=aF p (lenOf v) (Av v)
def kI (k:IntKind) (n:Int):KV:=.int k n
def kB (b:Bool):KV:=.bool b
abbrev aR (n:Int):Int:=IntKind.wrap .i64 n
abbrev w16 (n:Int):Int:=IntKind.wrap .u16 n
def Sl.push {α:Type} [Inhabited α] (s:Sl α) (v:α):Sl α:=⟨s.n+1,fun i=>cond (Nat.blt i s.n) (s.get i) (cond (Nat.beq i s.n) v default)⟩
def Sl.join {α:Type} (s t:Sl α):Sl α:=⟨s.n+t.n,fun i=>cond (Nat.blt i s.n) (s.get i) (t.get (i - s.n))⟩
def Sl.lit {α:Type} [Inhabited α] (l:List α):Sl α:=⟨l.length,fun i=>l.getD i default⟩
theorem lT {α:Type} [Inhabited α] {p:KV->α} {k:α->KV} (h:∀ x,p (k x)=x) (hd:p .ao=default) (l:List α):aF p l.length (ef (l.map k))=Sl.lit l:=by
 unfold aF Sl.lit ef;congr 1;funext i;rw [iL,iL,CG];cases l[i]? with
 | none=>exact hd
 | some x=>exact h x
theorem kf {α:Type} [Inhabited α] {p:KV->α} {k:α->KV} (h:∀ x,p (k x)=x) (hd:p .ao=default) (s:Sl α) (v:α):aF p (s.n+1) (aH s.n (fun i=>k (s.get i)) (ef [k v]))=s.push v:=by
 unfold aF Sl.push;congr 1;funext i;unfold aH;cases hb:Nat.blt i s.n with
 | true=>exact h _
 | false=>
  have hi:s.n<=i:=by
   cases Nat.lt_or_ge i s.n with
   | inl h=>rw [<- cq,hb] at h; simp at h
   | inr h=>exact h
  rw [ba,ba];cases hq:Nat.beq i s.n with
  | true=>
   have:=bu hq;subst this;rw [Nat.sub_self,ak];exact h v
  | false=>
   have de:i≠s.n:=fun e=>by rw [e,yZ] at hq; simp at hq
   rw [ba];obtain ⟨j,hj⟩:∃ j,i - s.n=j+1:=⟨i - s.n - 1,by omega⟩
   rw [hj];exact hd
theorem kh {α:Type} {p:KV->α} {k:α->KV} (h:∀ x,p (k x)=x) (s t:Sl α):aF p (s.n+t.n) (aH s.n (fun i=>k (s.get i)) (fun i=>k (t.get i)))=s.join t:=by
 unfold aF Sl.join;congr 1;funext i;unfold aH;cases Nat.blt i s.n <;> exact h _
def Sl.set {α:Type} (s:Sl α) (i:Nat) (v:α):Sl α:=⟨s.n,fun j=>cond (Nat.beq j i) v (s.get j)⟩
def Sl.rp {α:Type} (s:Sl α) (o k:Nat) (t:Sl α):Sl α:=⟨s.n,fun j=>cond (Nat.blt j o) (s.get j) (cond (Nat.blt j (o+k)) (t.get (j - o)) (s.get j))⟩
theorem lU {α:Type} {p:KV->α} {k:α->KV} (h:∀ x,p (k x)=x) (s:Sl α) (i:Nat) (v:α):aF p s.n (cB (fun j=>k (s.get j)) i (k v))=s.set i v:=by
 unfold aF Sl.set;congr 1;funext j;unfold cB;cases Nat.beq j i <;> exact h _
theorem jh {α:Type} {p:KV->α} {k:α->KV} (h:∀ x,p (k x)=x) (s t:Sl α) (o m:Nat):aF p s.n (aJ o m (fun j=>k (s.get j)) (fun j=>k (t.get j)))=s.rp o m t:=by
 unfold aF Sl.rp;congr 1;funext j;unfold aJ;cases Nat.blt j o with
 | true=>exact h _
 | false=>cases Nat.blt j (o+m) <;> exact h _
theorem mm {α:Type} {p:KV->α} {k:α->KV} (h:∀ x,p (k x)=x) (m n n' : Nat) (acc aE:Nat->KV):aF p m (aH n (fun i=>k ((aF p n' acc).get i)) aE)=aF p m (aH n acc aE):=by
 unfold aF;congr 1;funext i;unfold aH;cases Nat.blt i n with
 | true=>exact h _
 | false=>rfl
theorem mn {α:Type} {p:KV->α} {k:α->KV} (h:∀ x,p (k x)=x) (m n n' : Nat) (acc aE:Nat->KV):aF p m (aH n acc (fun i=>k ((aF p n' aE).get i)))=aF p m (aH n acc aE):=by
 unfold aF;congr 1;funext i;unfold aH;cases Nat.blt i n with
 | true=>rfl
 | false=>exact h _
theorem mo {α:Type} {p:KV->α} {k:α->KV} (h:∀ x,p (k x)=x) (m n' i:Nat) (acc:Nat->KV) (v:KV):aF p m (cB (fun j=>k ((aF p n' acc).get j)) i v)=aF p m (cB acc i v):=by
 unfold aF;congr 1;funext j;unfold cB;cases Nat.beq j i with
 | true=>rfl
 | false=>exact h _
theorem mq {α:Type} {p:KV->α} {k:α->KV} (h:∀ x,p (k x)=x) (n n' o m:Nat) (acc aE:Nat->KV):aF p n (aJ o m (fun j=>k ((aF p n' acc).get j)) aE)=aF p n (aJ o m acc aE):=by
 unfold aF;congr 1;funext j;unfold aJ;cases Nat.blt j o with
 | true=>exact h _
 | false=>
  cases Nat.blt j (o+m) with
  | true=>rfl
  | false=>exact h _
theorem mr {α:Type} {p:KV->α} {k:α->KV} (h:∀ x,p (k x)=x) (n n' o m:Nat) (acc aE:Nat->KV):aF p n (aJ o m acc (fun j=>k ((aF p n' aE).get j)))=aF p n (aJ o m acc aE):=by
 unfold aF;congr 1;funext j;unfold aJ;cases Nat.blt j o with
 | true=>rfl
 | false=>
  cases Nat.blt j (o+m) with
  | true=>exact h _
  | false=>rfl
theorem je (m n n' : Nat) (acc aE:Nat->KV):aF (fun v=>ay (v.cells.getD 0 .ao)) m (aH n (fun i=>kI .i64 ((aF (fun v=>ay (v.cells.getD 0 .ao)) n' acc).get i)) aE)=aF (fun v=>ay (v.cells.getD 0 .ao)) m (aH n acc aE):=mm (k:=kI .i64) (fun _=>rfl) ..
theorem ju (m n n' : Nat) (acc aE:Nat->KV):aF (fun v=>ay (v.cells.getD 0 .ao)) m (aH n acc (fun i=>kI .i64 ((aF (fun v=>ay (v.cells.getD 0 .ao)) n' aE).get i)))=aF (fun v=>ay (v.cells.getD 0 .ao)) m (aH n acc aE):=mn (k:=kI .i64) (fun _=>rfl) ..
theorem jv (m n' i:Nat) (acc:Nat->KV) (v:KV):aF (fun v=>ay (v.cells.getD 0 .ao)) m (cB (fun j=>kI .i64 ((aF (fun v=>ay (v.cells.getD 0 .ao)) n' acc).get j)) i v)=aF (fun v=>ay (v.cells.getD 0 .ao)) m (cB acc i v):=mo (k:=kI .i64) (fun _=>rfl) ..
theorem jw (n n' o m:Nat) (acc aE:Nat->KV):aF (fun v=>ay (v.cells.getD 0 .ao)) n (aJ o m (fun j=>kI .i64 ((aF (fun v=>ay (v.cells.getD 0 .ao)) n' acc).get j)) aE)=aF (fun v=>ay (v.cells.getD 0 .ao)) n (aJ o m acc aE):=mq (k:=kI .i64) (fun _=>rfl) ..
theorem jx (n n' o m:Nat) (acc aE:Nat->KV):aF (fun v=>ay (v.cells.getD 0 .ao)) n (aJ o m acc (fun j=>kI .i64 ((aF (fun v=>ay (v.cells.getD 0 .ao)) n' aE).get j)))=aF (fun v=>ay (v.cells.getD 0 .ao)) n (aJ o m acc aE):=mr (k:=kI .i64) (fun _=>rfl) ..
theorem iJ (s:Sl Int) (i:Nat) (v:Int):s.set i v=aF (fun v=>ay (v.cells.getD 0 .ao)) s.n (cB (fun j=>kI .i64 (s.get j)) i (kI .i64 v)):=(lU (k:=kI .i64) (fun _=>rfl) s i v).symm
theorem gq (s:Sl Bool) (i:Nat) (v:Bool):s.set i v=aF (fun v=>dj (v.cells.getD 0 .ao)) s.n (cB (fun j=>kB (s.get j)) i (kB v)):=(lU (k:=kB) (fun _=>rfl) s i v).symm
theorem eV (s t:Sl Int) (o m:Nat):s.rp o m t=aF (fun v=>ay (v.cells.getD 0 .ao)) s.n (aJ o m (fun j=>kI .i64 (s.get j)) (fun j=>kI .i64 (t.get j))):=(jh (k:=kI .i64) (fun _=>rfl) s t o m).symm
theorem dJ (s t:Sl Bool) (o m:Nat):s.rp o m t=aF (fun v=>dj (v.cells.getD 0 .ao)) s.n (aJ o m (fun j=>kB (s.get j)) (fun j=>kB (t.get j))):=(jh (k:=kB) (fun _=>rfl) s t o m).symm
theorem fL (s:Sl Int) (v:Int):s.push v=aF (fun v=>ay (v.cells.getD 0 .ao)) (s.n+1) (aH s.n (fun i=>kI .i64 (s.get i)) (ef [kI .i64 v])):=(kf (fun _=>rfl) rfl s v).symm
theorem fY (s t:Sl Int):s.join t=aF (fun v=>ay (v.cells.getD 0 .ao)) (s.n+t.n) (aH s.n (fun i=>kI .i64 (s.get i)) (fun i=>kI .i64 (t.get i))):=(kh (fun _=>rfl) s t).symm
theorem iK (l:List Int):Sl.lit l=aF (fun v=>ay (v.cells.getD 0 .ao)) l.length (ef (l.map (kI .i64))):=(lT (fun _=>rfl) rfl l).symm
theorem gu (l:List Bool):Sl.lit l=aF (fun v=>dj (v.cells.getD 0 .ao)) l.length (ef (l.map kB)):=(lT (fun _=>rfl) rfl l).symm
theorem eW (s:Sl Bool) (v:Bool):s.push v=aF (fun v=>dj (v.cells.getD 0 .ao)) (s.n+1) (aH s.n (fun i=>kB (s.get i)) (ef [kB v])):=(kf (fun _=>rfl) rfl s v).symm
theorem eX (s t:Sl Bool):s.join t=aF (fun v=>dj (v.cells.getD 0 .ao)) (s.n+t.n) (aH s.n (fun i=>kB (s.get i)) (fun i=>kB (t.get i))):=(kh (fun _=>rfl) s t).symm
theorem bq {α β:Type} (f:α->β) (c:Bool) (a b:Option α):Option.map f (cond c a b)=cond c (Option.map f a) (Option.map f b):=by cases c <;> rfl
def ah (P:Program) (ps:List (Nat×(List KV->KR KV))):Prop:=∀ p∈ps,bH P p.1 p.2
theorem ah.nil {P:Program} : ah P []:=fun p hp=>by simp at hp
theorem ah.cons {P:Program} {g:Nat} {F:List KV->KR KV} {ps:List (Nat×(List KV->KR KV))} (h:bH P g F) (t:ah P ps):ah P ((g,F)::ps):=fun p hp=>by
 rcases fA.1 hp with rfl | hp
 ·exact h
 ·exact t p hp
theorem ah.pc {P:Program} {ps:List (Nat×(List KV->KR KV))} (h:ah P ps):u6 P (akS ps):=ary h
def au (P:Program) (ls:List Lp):Prop:=∀ l∈ls,l.Ok P/\bZ P l.f l.p=true
theorem au.nil {P:Program} : au P []:=fun p hp=>by simp at hp
theorem au.cons {P:Program} {l:Lp} {ls:List Lp} (h:l.Ok P) (h' : bZ P l.f l.p=true) (t:au P ls):au P (l::ls):=fun p hp=>by
 rcases fA.1 hp with rfl | hp
 ·exact ⟨h,h'⟩
 ·exact t p hp
def Rc (P:Program) (fs:List Fc):Prop:=∀ c∈fs,c.Ok P
theorem Rc.nil {P:Program} : Rc P []:=fun p hp=>by simp at hp
noncomputable def bp (P:Program) (ps:List (Nat×(List KV->KR KV))) (ls:List Lp) (mt:TypeId->Bool:=fun _=>false) (fz:Bool:=false) (eg:Bool:=false) (fs:List Fc:=[]):fE:=⟨akS ps,agC P ls,⟨akQ P fs,mt,fz,eg⟩⟩
noncomputable def bL {R:Type} [Inhabited R] (k:R->KV) (r:List KV->Option R):List KV->KR KV:=fun aw9=>.lQ (r aw9).isSome (k ((r aw9).getD default))
theorem aL {P:Program} {R:Type} [Inhabited R] {k:R->KV} {r:List KV->Option R} {g:FuncId} (hP:P.funcs.toList.all pd=true) (hm:P.follows .mixedOrders=true) {ps:List (Nat×(List KV->KR KV))} {ls:List Lp} (kb:ah P ps) (o4:au P ls) {L n:Nat} {mt:TypeId->Bool} {fz eg:Bool} {fs:List Fc}
  (h:∀ w,cD P (bp P ps ls mt fz eg fs) L n g (ck P (aG P g) w 0)=(r (ck P (aG P g) w 0)).map k) (hy:Nat.blt g yB=true:=by rfl) (hfs:Rc P fs:=by exact Rc.nil):bH P g (bI P g (bL k r)):=
 atT (cfg:=bp P ps ls mt fz eg fs) hP hm kb.pc (ae8 hP hm (ae9 hP hm hfs) o4) (hy:=hy) fun w v hv=>by
  obtain ⟨h1,h2⟩:=bf.lQ hv;rw [h w];cases hr:r (ck P (aG P g) w 0) with
  | none=>rw [hr] at h1; simp at h1
  | some x=>rw [hr] at h2; rw [<- h2]; rfl
theorem b8 {P:Program} {l:Lp} {X:Type} [Inhabited X] (hP:P.funcs.toList.all pd=true) (hm:P.follows .mixedOrders=true) {ps:List (Nat×(List KV->KR KV))} {ls:List Lp} (kb:ah P ps) (o4:au P ls) {L n:Nat} {mt:TypeId->Bool} {fz eg:Bool} {fs:List Fc} {step:X->aW X} {ev:X->List KV} {er:X->List (List KV)} {es:List ae} {pa:List KV->List (List KV)->X}
  (hF:l.F=fun vs rs=>dC ev er (goN step (pa vs rs)) es) (gR:∀ wv wr,ev (pa (tL P l.S.gT wv 0) (tM P l.S.rows wr 0))=tL P l.S.gT wv 0/\er (pa (tL P l.S.gT wv 0) (tM P l.S.rows wr 0))=tM P l.S.rows wr 0)
  (yz:∀ x,dB P (bp P ps ls mt fz eg fs) L n l.f l.p (dF P l.f l.p) l.S (ev x) (er x)=aW.enc ev er (step x)) (hfs:Rc P fs:=by exact Rc.nil) (hs:l.st=false:=by rfl):l.Ok P:=
 aod (cfg:=bp P ps ls mt fz eg fs) kb.pc (ae8 hP hm (ae9 hP hm hfs) o4) (fun _ _=>by rw [hF]) gR (fun x=>.inr (by rw [hs]; exact yz x))
theorem Yo {P:Program} {l:Lp} {X:Type} [Inhabited X] (hP:P.funcs.toList.all pd=true) (hm:P.follows .mixedOrders=true) {ps:List (Nat×(List KV->KR KV))} {ls:List Lp} (kb:ah P ps) (o4:au P ls) {L n:Nat} {mt:TypeId->Bool} {fz eg:Bool} {fs:List Fc} {step:X->aW X} {ev:X->List KV} {er:X->List (List KV)} {es:List ae} {pa:List KV->List (List KV)->X}
  (hF:l.F=fun vs rs=>dC ev er (goN step (pa vs rs)) es) (gR:∀ wv wr,ev (pa (tL P l.S.gT wv 0) (tM P l.S.rows wr 0))=tL P l.S.gT wv 0/\er (pa (tL P l.S.gT wv 0) (tM P l.S.rows wr 0))=tM P l.S.rows wr 0)
  (yz:∀ x,step x = .fail\/dB P (bp P ps ls mt fz eg fs) L n l.f l.p (dF P l.f l.p) l.S (ev x) (er x)=aW.enc ev er (step x)) (hfs:Rc P fs:=by exact Rc.nil) (hs:l.st=false:=by rfl):l.Ok P:=
 aod (cfg:=bp P ps ls mt fz eg fs) kb.pc (ae8 hP hm (ae9 hP hm hfs) o4) (fun _ _=>by rw [hF]) gR (fun x=>by rw [hs]; exact yz x)
end Go.K
end
section
namespace Go.Proofs.YtckbdndhmcoihaaGreat.b
open Go.K
theorem funcs:Tryz.prog.funcs.toList.all aB.pd=true:=by kernel_rfl
theorem mixed:Tryz.prog.follows .mixedOrders=true:=by kernel_rfl
end Go.Proofs.YtckbdndhmcoihaaGreat.b
end
section
namespace Go.Proofs.YtckbdndhmcoihaaGreat.b
open Go.K
noncomputable section
structure Slot where
 gen:Int
 live:Bool
instance:Inhabited Slot:=⟨⟨default,default⟩⟩
def avK (x:Slot):List KV:=[.int .i64 x.gen,.bool x.live]
def uk (x:Slot):KV:=.agg (avK x)
def avL (c:Nat->KV):Slot:=⟨ay (c 0),dj (c 1)⟩
def nW (v:KV):Slot:=avL fun k=>v.cells.getD k .ao
theorem Bb (x:Slot):nW (uk x)=x:=rfl
theorem aof:nW .ao=default:=rfl
theorem eY (s:Sl Slot) (v:Slot):s.push v=aF nW (s.n+1) (aH s.n (fun i=>uk (s.get i)) (ef [uk v])):=(kf Bb aof s v).symm
theorem eZ (s t:Sl Slot):s.join t=aF nW (s.n+t.n) (aH s.n (fun i=>uk (s.get i)) (fun i=>uk (t.get i))):=(kh Bb s t).symm
theorem gw (l:List Slot):Sl.lit l=aF nW l.length (ef (l.map uk)):=(lT Bb aof l).symm
theorem gx (s:Sl Slot) (i:Nat) (v:Slot):s.set i v=aF nW s.n (cB (fun j=>uk (s.get j)) i (uk v)):=(lU Bb s i v).symm
theorem dK (s t:Sl Slot) (o m:Nat):s.rp o m t=aF nW s.n (aJ o m (fun j=>uk (s.get j)) (fun j=>uk (t.get j))):=(jh Bb s t o m).symm
theorem gz (m n n' : Nat) (acc aE:Nat->KV):aF nW m (aH n (fun i=>uk ((aF nW n' acc).get i)) aE)=aF nW m (aH n acc aE):=mm Bb ..
theorem gA (m n n' : Nat) (acc aE:Nat->KV):aF nW m (aH n acc (fun i=>uk ((aF nW n' aE).get i)))=aF nW m (aH n acc aE):=mn Bb ..
theorem gC (m n' i:Nat) (acc:Nat->KV) (v:KV):aF nW m (cB (fun j=>uk ((aF nW n' acc).get j)) i v)=aF nW m (cB acc i v):=mo Bb ..
theorem gD (n n' o m:Nat) (acc aE:Nat->KV):aF nW n (aJ o m (fun j=>uk ((aF nW n' acc).get j)) aE)=aF nW n (aJ o m acc aE):=mq Bb ..
theorem gE (n n' o m:Nat) (acc aE:Nat->KV):aF nW n (aJ o m acc (fun j=>uk ((aF nW n' aE).get j)))=aF nW n (aJ o m acc aE):=mr Bb ..
def IX:List (Nat×(List KV->KR KV)):=[]
def IY:List Lp:=[]
theorem Rd:ah Tryz.prog IX:=ah.nil
theorem Re:au Tryz.prog IY:=au.nil
def Dc (s:Slot):Option (Bool):=(cond (decide (s.gen < (1:Int))) (some (true)) (some ((decide (s.gen > (1073741824:Int))))))
theorem Th (s:Slot):cD Tryz.prog (bp Tryz.prog IX IY (fun _=>false)) 9 9 172 [uk s] = (Dc s).map kB:=by
 unfold Dc
 try simp only [bq,eY,eZ,gw,gz,gA,gC,gD,gE,gx,dK,fL,fY,iK,je,ju,jv,jw,jx,eW,eX,gu,iJ,gq,eV,dJ]
 kernel_rfl
def Dd:List KV->KR KV:=bI Tryz.prog 172 (bL kB fun vs=>Dc (nW (vs.getD 0 .ao)))
theorem Rf (w:Nat->KV):ck Tryz.prog [111] w 0 = [uk (nW (ax Tryz.prog (ai Tryz.prog aj) 111 (w 0)))]:=by kernel_rfl
theorem FX:bH Tryz.prog 172 Dd:=aL funcs mixed Rd Re (L:=9) (n:=9) fun w=>by
 have e:aG Tryz.prog 172 = [111]:=by kernel_rfl
 rw [e,Rf]
 exact (Th (nW (ax Tryz.prog (ai Tryz.prog aj) 111 (w 0)))).trans (by kernel_rfl)
structure jI where
 bJ:(Sl Slot)
instance:Inhabited jI:=⟨⟨default⟩⟩
def arz (x:jI):List KV:=[eA 111 uk x.bJ]
def jg (x:jI):KV:=.agg (arz x)
def arA (c:Nat->KV):jI:=⟨dP nW (c 0)⟩
def iP (v:KV):jI:=arA fun k=>v.cells.getD k .ao
theorem xl (x:jI):iP (jg x)=x:=rfl
theorem akU:iP .ao=default:=rfl
theorem dW (s:Sl jI) (v:jI):s.push v=aF iP (s.n+1) (aH s.n (fun i=>jg (s.get i)) (ef [jg v])):=(kf xl akU s v).symm
theorem dX (s t:Sl jI):s.join t=aF iP (s.n+t.n) (aH s.n (fun i=>jg (s.get i)) (fun i=>jg (t.get i))):=(kh xl s t).symm
theorem fj (l:List jI):Sl.lit l=aF iP l.length (ef (l.map jg)):=(lT xl akU l).symm
theorem fk (s:Sl jI) (i:Nat) (v:jI):s.set i v=aF iP s.n (cB (fun j=>jg (s.get j)) i (jg v)):=(lU xl s i v).symm
theorem dw (s t:Sl jI) (o m:Nat):s.rp o m t=aF iP s.n (aJ o m (fun j=>jg (s.get j)) (fun j=>jg (t.get j))):=(jh xl s t o m).symm
theorem fo (m n n' : Nat) (acc aE:Nat->KV):aF iP m (aH n (fun i=>jg ((aF iP n' acc).get i)) aE)=aF iP m (aH n acc aE):=mm xl ..
theorem fp (m n n' : Nat) (acc aE:Nat->KV):aF iP m (aH n acc (fun i=>jg ((aF iP n' aE).get i)))=aF iP m (aH n acc aE):=mn xl ..
theorem fq (m n' i:Nat) (acc:Nat->KV) (v:KV):aF iP m (cB (fun j=>jg ((aF iP n' acc).get j)) i v)=aF iP m (cB acc i v):=mo xl ..
theorem fv (n n' o m:Nat) (acc aE:Nat->KV):aF iP n (aJ o m (fun j=>jg ((aF iP n' acc).get j)) aE)=aF iP n (aJ o m acc aE):=mq xl ..
theorem fw (n n' o m:Nat) (acc aE:Nat->KV):aF iP n (aJ o m acc (fun j=>jg ((aF iP n' aE).get j)))=aF iP n (aJ o m acc aE):=mr xl ..
structure bx where
 s:(Sl Slot)
 t4:Int
 t7:Int
 t8:Int
instance:Inhabited bx:=⟨⟨default,default,default,default⟩⟩
def gU (x:bx):List KV:=[eA 111 uk x.s,.fn (.func 172) [] [],.int .i64 x.t4,.int .i64 x.t7,.int .i64 x.t8]
def gV (x:bx):List (List KV):=[]
def nX (vs:List KV) (rs:List (List KV)):bx:=⟨dP nW (vs.getD 0 .ao),ay (vs.getD 2 .ao),ay (vs.getD 3 .ao),ay (vs.getD 4 .ao)⟩
def oi:aV:=⟨[(0,⟨false,[.k (.slice 111)]⟩),(1,⟨false,[.lit (.fn (.func 172) [] [])]⟩),(4,⟨false,[.k (.int .i64)]⟩),(7,⟨false,[.k (.int .i64)]⟩),(8,⟨false,[.k (.int .i64)]⟩)],[],[]⟩
def v8:=dB Tryz.prog (bp Tryz.prog [(172,Dd)] [] (fun _=>false)) 9 9 210 26 (dF Tryz.prog 210 26) oi
def du (x:bx):aW bx:=(cond (decide (x.t8 < x.t7)) (cond ((decide ((0:Int)<=x.t8))&&(decide (x.t8 < ((x.s.n:Nat):Int)))) (cond (decide ((x.s.get (Int.toNat x.t8)).gen < (1:Int))) (.out aB.ae.ret (⟨x.s,x.t8,x.t7,x.t8⟩:bx)) (cond (decide ((x.s.get (Int.toNat x.t8)).gen > (1073741824:Int))) (.out aB.ae.ret (⟨x.s,x.t8,x.t7,x.t8⟩:bx)) (.next (⟨x.s,x.t4,x.t7,(aR (x.t8+(1:Int)))⟩:bx)))) .fail) (.out (aB.ae.exit 0) x))
theorem vc (x:bx):v8 (gU x) (gV x)=aW.enc gU gV (du x):=by
 unfold du
 try simp only [aW.cf,dW,dX,fj,fo,fp,fq,fv,fw,fk,dw,eY,eZ,gw,gz,gA,gC,gD,gE,gx,dK,fL,fY,iK,je,ju,jv,jw,jx,eW,eX,gu,iJ,gq,eV,dJ]
 kernel_rfl
def iq:Lp:=⟨210,26,oi,fun vs rs=>dC gU gV (goN du (nX vs rs)) [aB.ae.exit 0,aB.ae.ret],false⟩
theorem wa:iq.Ok Tryz.prog:=b8 funcs mixed (ah.cons FX ah.nil) au.nil (L:=9) (n:=9) (step:=du) (ev:=gU) (er:=gV) (pa:=nX) rfl (fun wv wr=>⟨by kernel_rfl,by kernel_rfl⟩) vc
theorem uA:bZ Tryz.prog iq.f iq.p=true:=by kernel_rfl
def Po:List (Nat×(List KV->KR KV)):=[(172,Dd)]
def Pp:List Lp:=[iq]
theorem Yp:ah Tryz.prog Po:=(ah.cons FX ah.nil)
theorem Yq:au Tryz.prog Pp:=(au.cons wa uA au.nil)
def vd (a:jI):(aW bx):=(goN du (⟨a.bJ,(0:Int),((a.bJ.n:Nat):Int),(0:Int)⟩:bx))
def fB (a:jI):Option (Int):=(cond (decide (((a.bJ.n:Nat):Int) > (128:Int))) (some ((8:Int))) (cond ((vd a).by (aB.ae.exit 0)) (some ((0:Int))) (cond ((vd a).by aB.ae.ret) (cond (decide ((vd a).st.t4 >= (0:Int))) (some ((8:Int))) (some ((0:Int)))) none)))
theorem aa0 (a:jI):cD Tryz.prog (bp Tryz.prog Po Pp (fun _=>false)) 9 9 120 [jg a] = (fB a).map (kI .i64):=by
 unfold fB
 try simp only [bq,dW,dX,fj,fo,fp,fq,fv,fw,fk,dw,eY,eZ,gw,gz,gA,gC,gD,gE,gx,dK,fL,fY,iK,je,ju,jv,jw,jx,eW,eX,gu,iJ,gq,eV,dJ]
 kernel_rfl
def Rg:List KV->KR KV:=bI Tryz.prog 120 (bL (kI .i64) fun vs=>fB (iP (vs.getD 0 .ao)))
theorem Yr (w:Nat->KV):ck Tryz.prog [24] w 0 = [jg (iP (ax Tryz.prog (ai Tryz.prog aj) 24 (w 0)))]:=by kernel_rfl
theorem J7:bH Tryz.prog 120 Rg:=aL funcs mixed Yp Yq (L:=9) (n:=9) fun w=>by
 have e:aG Tryz.prog 120 = [24]:=by kernel_rfl
 rw [e,Yr]
 exact (aa0 (iP (ax Tryz.prog (ai Tryz.prog aj) 24 (w 0)))).trans (by kernel_rfl)
structure Handle where
 slot:Int
 gen:Int
instance:Inhabited Handle:=⟨⟨default,default⟩⟩
def agM (x:Handle):List KV:=[.int .i64 x.slot,.int .i64 x.gen]
def dL (x:Handle):KV:=.agg (agM x)
def agN (c:Nat->KV):Handle:=⟨ay (c 0),ay (c 1)⟩
def cM (v:KV):Handle:=agN fun k=>v.cells.getD k .ao
theorem um (x:Handle):cM (dL x)=x:=rfl
theorem agO:cM .ao=default:=rfl
theorem db (s:Sl Handle) (v:Handle):s.push v=aF cM (s.n+1) (aH s.n (fun i=>dL (s.get i)) (ef [dL v])):=(kf um agO s v).symm
theorem dM (s t:Sl Handle):s.join t=aF cM (s.n+t.n) (aH s.n (fun i=>dL (s.get i)) (fun i=>dL (t.get i))):=(kh um s t).symm
theorem dY (l:List Handle):Sl.lit l=aF cM l.length (ef (l.map dL)):=(lT um agO l).symm
theorem eN (s:Sl Handle) (i:Nat) (v:Handle):s.set i v=aF cM s.n (cB (fun j=>dL (s.get j)) i (dL v)):=(lU um s i v).symm
theorem dn (s t:Sl Handle) (o m:Nat):s.rp o m t=aF cM s.n (aJ o m (fun j=>dL (s.get j)) (fun j=>dL (t.get j))):=(jh um s t o m).symm
theorem dZ (m n n' : Nat) (acc aE:Nat->KV):aF cM m (aH n (fun i=>dL ((aF cM n' acc).get i)) aE)=aF cM m (aH n acc aE):=mm um ..
theorem eO (m n n' : Nat) (acc aE:Nat->KV):aF cM m (aH n acc (fun i=>dL ((aF cM n' aE).get i)))=aF cM m (aH n acc aE):=mn um ..
theorem eP (m n' i:Nat) (acc:Nat->KV) (v:KV):aF cM m (cB (fun j=>dL ((aF cM n' acc).get j)) i v)=aF cM m (cB acc i v):=mo um ..
theorem eQ (n n' o m:Nat) (acc aE:Nat->KV):aF cM n (aJ o m (fun j=>dL ((aF cM n' acc).get j)) aE)=aF cM n (aJ o m acc aE):=mq um ..
theorem eR (n n' o m:Nat) (acc aE:Nat->KV):aF cM n (aJ o m acc (fun j=>dL ((aF cM n' aE).get j)))=aF cM n (aJ o m acc aE):=mr um ..
def Rh:List (Nat×(List KV->KR KV)):=[]
def Ri:List Lp:=[]
theorem aa1:ah Tryz.prog Rh:=ah.nil
theorem aa2:au Tryz.prog Ri:=au.nil
def nE (a:jI) (h:Handle):Option (Bool):=(cond (decide (h.slot >= (0:Int))) (cond (decide (h.slot < ((a.bJ.n:Nat):Int))) (cond ((decide ((0:Int)<=h.slot))&&(decide (h.slot < ((a.bJ.n:Nat):Int)))) (some ((((a.bJ.get (Int.toNat h.slot)).gen==h.gen)&&(((a.bJ.get (Int.toNat h.slot)).live==true)&&true)))) none) (some (false))) (some (false)))
theorem adF (a:jI) (h:Handle):cD Tryz.prog (bp Tryz.prog Rh Ri (fun _=>false)) 9 9 128 [jg a,dL h] = (nE a h).map kB:=by
 unfold nE
 try simp only [bq,db,dM,dY,dZ,eO,eP,eQ,eR,eN,dn,dW,dX,fj,fo,fp,fq,fv,fw,fk,dw,eY,eZ,gw,gz,gA,gC,gD,gE,gx,dK,fL,fY,iK,je,ju,jv,jw,jx,eW,eX,gu,iJ,gq,eV,dJ]
 kernel_rfl
def Um:List KV->KR KV:=bI Tryz.prog 128 (bL kB fun vs=>nE (iP (vs.getD 0 .ao)) (cM (vs.getD 1 .ao)))
theorem aa3 (w:Nat->KV):ck Tryz.prog [24,32] w 0 = [jg (iP (ax Tryz.prog (ai Tryz.prog aj) 24 (w 0))),dL (cM (ax Tryz.prog (ai Tryz.prog aj) 32 (w 1)))]:=by kernel_rfl
theorem aa4:bH Tryz.prog 128 Um:=aL funcs mixed aa1 aa2 (L:=9) (n:=9) fun w=>by
 have e:aG Tryz.prog 128 = [24,32]:=by kernel_rfl
 rw [e,aa3]
 exact (adF (iP (ax Tryz.prog (ai Tryz.prog aj) 24 (w 0))) (cM (ax Tryz.prog (ai Tryz.prog aj) 32 (w 1)))).trans (by kernel_rfl)
def Pq:List (Nat×(List KV->KR KV)):=[(128,Um),(120,Rg)]
def Pr:List Lp:=[]
theorem Ys:ah Tryz.prog Pq:=(ah.cons aa4 (ah.cons J7 ah.nil))
theorem Yt:au Tryz.prog Pr:=au.nil
def ve (a:jI) (h:Handle):(Option Int):=(fB a)
def vf (a:jI) (h:Handle):(Option Bool):=(nE a h)
def eG (a:jI) (h:Handle):Option (Bool):=(cond (ve a h).isSome (cond (((ve a h).getD default)==(0:Int)) (cond (vf a h).isSome (some (((vf a h).getD default))) none) (some (false))) none)
theorem aa5 (a:jI) (h:Handle):cD Tryz.prog (bp Tryz.prog Pq Pr (fun _=>false)) 9 9 77 [jg a,dL h] = (eG a h).map kB:=by
 unfold eG
 try simp only [bq,db,dM,dY,dZ,eO,eP,eQ,eR,eN,dn,dW,dX,fj,fo,fp,fq,fv,fw,fk,dw,eY,eZ,gw,gz,gA,gC,gD,gE,gx,dK,fL,fY,iK,je,ju,jv,jw,jx,eW,eX,gu,iJ,gq,eV,dJ]
 kernel_rfl
def yO:List KV->KR KV:=bI Tryz.prog 77 (bL kB fun vs=>eG (iP (vs.getD 0 .ao)) (cM (vs.getD 1 .ao)))
theorem Yu (w:Nat->KV):ck Tryz.prog [24,32] w 0 = [jg (iP (ax Tryz.prog (ai Tryz.prog aj) 24 (w 0))),dL (cM (ax Tryz.prog (ai Tryz.prog aj) 32 (w 1)))]:=by kernel_rfl
theorem tN:bH Tryz.prog 77 yO:=aL funcs mixed Ys Yt (L:=9) (n:=9) fun w=>by
 have e:aG Tryz.prog 77 = [24,32]:=by kernel_rfl
 rw [e,Yu]
 exact (aa5 (iP (ax Tryz.prog (ai Tryz.prog aj) 24 (w 0))) (cM (ax Tryz.prog (ai Tryz.prog aj) 32 (w 1)))).trans (by kernel_rfl)
structure dG where
 ca:jI
 kids:(Sl (Sl Handle))
instance:Inhabited dG:=⟨⟨default,default⟩⟩
def Ow (x:dG):List KV:=[eA 111 uk x.ca.bJ,eA 35 (eA 32 dL) x.kids]
def pf (x:dG):KV:=.agg (Ow x)
def Ox (c:Nat->KV):dG:=⟨⟨dP nW (c 0)⟩,dP (dP cM) (c 1)⟩
def jE (v:KV):dG:=Ox fun k=>v.cells.getD k .ao
theorem xm (x:dG):jE (pf x)=x:=rfl
theorem akV:jE .ao=default:=rfl
theorem fG (s:Sl dG) (v:dG):s.push v=aF jE (s.n+1) (aH s.n (fun i=>pf (s.get i)) (ef [pf v])):=(kf xm akV s v).symm
theorem fH (s t:Sl dG):s.join t=aF jE (s.n+t.n) (aH s.n (fun i=>pf (s.get i)) (fun i=>pf (t.get i))):=(kh xm s t).symm
theorem gW (l:List dG):Sl.lit l=aF jE l.length (ef (l.map pf)):=(lT xm akV l).symm
theorem gX (s:Sl dG) (i:Nat) (v:dG):s.set i v=aF jE s.n (cB (fun j=>pf (s.get j)) i (pf v)):=(lU xm s i v).symm
theorem eJ (s t:Sl dG) (o m:Nat):s.rp o m t=aF jE s.n (aJ o m (fun j=>pf (s.get j)) (fun j=>pf (t.get j))):=(jh xm s t o m).symm
theorem gY (m n n' : Nat) (acc aE:Nat->KV):aF jE m (aH n (fun i=>pf ((aF jE n' acc).get i)) aE)=aF jE m (aH n acc aE):=mm xm ..
theorem gZ (m n n' : Nat) (acc aE:Nat->KV):aF jE m (aH n acc (fun i=>pf ((aF jE n' aE).get i)))=aF jE m (aH n acc aE):=mn xm ..
theorem hD (m n' i:Nat) (acc:Nat->KV) (v:KV):aF jE m (cB (fun j=>pf ((aF jE n' acc).get j)) i v)=aF jE m (cB acc i v):=mo xm ..
theorem hH (n n' o m:Nat) (acc aE:Nat->KV):aF jE n (aJ o m (fun j=>pf ((aF jE n' acc).get j)) aE)=aF jE n (aJ o m acc aE):=mq xm ..
theorem hJ (n n' o m:Nat) (acc aE:Nat->KV):aF jE n (aJ o m acc (fun j=>pf ((aF jE n' aE).get j)))=aF jE n (aJ o m acc aE):=mr xm ..
structure jV where
 t2:Bool
 n:Int
 i:Int
 g:dG
instance:Inhabited jV:=⟨⟨default,default,default,default⟩⟩
def xR (x:jV):List KV:=[.bool x.t2,.int .i64 x.n,.int .i64 x.i]
def xS (x:jV):List (List KV):=[Ow x.g]
def J8 (vs:List KV) (rs:List (List KV)):jV:=⟨dj (vs.getD 0 .ao),ay (vs.getD 1 .ao),ay (vs.getD 2 .ao),Ox (fun k=>(rs.getD 0 []).getD k .ao)⟩
def MH:aV:=⟨[(2,⟨false,[.k .bool]⟩),(3,⟨false,[.k (.int .i64)]⟩),(4,⟨false,[.k (.int .i64)]⟩)],[(1,[.k (.slice 111),.k (.slice 35)],1)],[(1,0,0)]⟩
def Yv:=dB Tryz.prog (bp Tryz.prog [] [] (fun q=>Nat.beq q 4)) 9 9 41 122 (dF Tryz.prog 41 122) MH
def lZ (x:jV):aW jV:=(cond (decide (x.i < ((x.g.kids.n:Nat):Int))) (cond ((decide ((0:Int)<=x.i))&&(decide (x.i < ((x.g.kids.n:Nat):Int)))) (cond (decide ((aR (x.n+(((x.g.kids.get (Int.toNat x.i)).n:Nat):Int))) > (400:Int))) (.out aB.ae.ret (⟨true,(aR (x.n+(((x.g.kids.get (Int.toNat x.i)).n:Nat):Int))),x.i,x.g⟩:jV)) (.next (⟨x.t2,(aR (x.n+(((x.g.kids.get (Int.toNat x.i)).n:Nat):Int))),(aR (x.i+(1:Int))),x.g⟩:jV))) .fail) (.out (aB.ae.exit 0) x))
theorem Ti (x:jV):Yv (xR x) (xS x)=aW.enc xR xS (lZ x):=by
 unfold lZ
 try simp only [aW.cf,fG,fH,gW,gY,gZ,hD,hH,hJ,gX,eJ,db,dM,dY,dZ,eO,eP,eQ,eR,eN,dn,dW,dX,fj,fo,fp,fq,fv,fw,fk,dw,eY,eZ,gw,gz,gA,gC,gD,gE,gx,dK,fL,fY,iK,je,ju,jv,jw,jx,eW,eX,gu,iJ,gq,eV,dJ]
 kernel_rfl
def zh:Lp:=⟨41,122,MH,fun vs rs=>dC xR xS (goN lZ (J8 vs rs)) [aB.ae.exit 0,aB.ae.ret],false⟩
theorem Yw:zh.Ok Tryz.prog:=b8 funcs mixed ah.nil au.nil (L:=9) (n:=9) (step:=lZ) (ev:=xR) (er:=xS) (pa:=J8) rfl (fun wv wr=>⟨by kernel_rfl,by kernel_rfl⟩) Ti
theorem Rj:bZ Tryz.prog zh.f zh.p=true:=by kernel_rfl
def Un:List (Nat×(List KV->KR KV)):=[]
def Uo:List Lp:=[zh]
theorem adG:ah Tryz.prog Un:=ah.nil
theorem adH:au Tryz.prog Uo:=(au.cons Yw Rj au.nil)
def De (g:dG):(aW jV):=(goN lZ (⟨false,(0:Int),(0:Int),g⟩:jV))
def zi (g:dG):Option (Bool):=(cond (decide (((g.ca.bJ.n:Nat):Int) > (200:Int))) (some (true)) (cond (decide (((g.kids.n:Nat):Int) > (200:Int))) (some (true)) (cond ((De g).by (aB.ae.exit 0)) (some (false)) (cond ((De g).by aB.ae.ret) (some ((De g).st.t2)) none))))
theorem agP (g:dG):cD Tryz.prog (bp Tryz.prog Un Uo (fun q=>Nat.beq q 4)) 9 9 41 [pf g] = (zi g).map kB:=by
 unfold zi
 try simp only [bq,fG,fH,gW,gY,gZ,hD,hH,hJ,gX,eJ,db,dM,dY,dZ,eO,eP,eQ,eR,eN,dn,dW,dX,fj,fo,fp,fq,fv,fw,fk,dw,eY,eZ,gw,gz,gA,gC,gD,gE,gx,dK,fL,fY,iK,je,ju,jv,jw,jx,eW,eX,gu,iJ,gq,eV,dJ]
 kernel_rfl
def Hz:List KV->KR KV:=bI Tryz.prog 41 (bL kB fun vs=>zi (jE (vs.getD 0 .ao)))
theorem Ps (w:Nat->KV):ck Tryz.prog [27] w 0 = [pf (jE (ax Tryz.prog (ai Tryz.prog aj) 27 (w 0)))]:=by kernel_rfl
theorem GA:bH Tryz.prog 41 Hz:=aL funcs mixed adG adH (L:=9) (n:=9) fun w=>by
 have e:aG Tryz.prog 41 = [27]:=by kernel_rfl
 rw [e,Ps]
 exact (agP (jE (ax Tryz.prog (ai Tryz.prog aj) 27 (w 0)))).trans (by kernel_rfl)
structure kS where
 t2:Bool
 i:Int
 a:jI
instance:Inhabited kS:=⟨⟨default,default,default⟩⟩
def Df (x:kS):List KV:=[.bool x.t2,.int .i64 x.i]
def Dg (x:kS):List (List KV):=[arz x.a]
def Rl (vs:List KV) (rs:List (List KV)):kS:=⟨dj (vs.getD 0 .ao),ay (vs.getD 1 .ao),arA (fun k=>(rs.getD 0 []).getD k .ao)⟩
def Uq:aV:=⟨[(2,⟨false,[.k .bool]⟩),(3,⟨false,[.k (.int .i64)]⟩)],[(1,[.k (.slice 111)],1)],[(1,0,0)]⟩
def agQ:=dB Tryz.prog (bp Tryz.prog [] [] (fun q=>Nat.beq q 4)) 9 9 176 26 (dF Tryz.prog 176 26) Uq
def rQ (x:kS):aW kS:=(cond (decide (x.i < ((x.a.bJ.n:Nat):Int))) (cond ((decide ((0:Int)<=x.i))&&(decide (x.i < ((x.a.bJ.n:Nat):Int)))) (cond (decide ((x.a.bJ.get (Int.toNat x.i)).gen < (1:Int))) (.out aB.ae.ret (⟨false,x.i,x.a⟩:kS)) (cond ((decide ((0:Int)<=x.i))&&(decide (x.i < ((x.a.bJ.n:Nat):Int)))) (cond (decide ((x.a.bJ.get (Int.toNat x.i)).gen > (1073741824:Int))) (.out aB.ae.ret (⟨false,x.i,x.a⟩:kS)) (.next (⟨x.t2,(aR (x.i+(1:Int))),x.a⟩:kS))) .fail)) .fail) (.out (aB.ae.exit 0) x))
theorem aa6 (x:kS):agQ (Df x) (Dg x)=aW.enc Df Dg (rQ x):=by
 unfold rQ
 try simp only [aW.cf,fG,fH,gW,gY,gZ,hD,hH,hJ,gX,eJ,db,dM,dY,dZ,eO,eP,eQ,eR,eN,dn,dW,dX,fj,fo,fp,fq,fv,fw,fk,dw,eY,eZ,gw,gz,gA,gC,gD,gE,gx,dK,fL,fY,iK,je,ju,jv,jw,jx,eW,eX,gu,iJ,gq,eV,dJ]
 kernel_rfl
def Fs:Lp:=⟨176,26,Uq,fun vs rs=>dC Df Dg (goN rQ (Rl vs rs)) [aB.ae.exit 0,aB.ae.ret],false⟩
theorem agR:Fs.Ok Tryz.prog:=b8 funcs mixed ah.nil au.nil (L:=9) (n:=9) (step:=rQ) (ev:=Df) (er:=Dg) (pa:=Rl) rfl (fun wv wr=>⟨by kernel_rfl,by kernel_rfl⟩) aa6
theorem Yx:bZ Tryz.prog Fs.f Fs.p=true:=by kernel_rfl
def acO:List (Nat×(List KV->KR KV)):=[]
def acP:List Lp:=[Fs]
theorem ai6:ah Tryz.prog acO:=ah.nil
theorem ai7:au Tryz.prog acP:=(au.cons agR Yx au.nil)
def zj (a:jI):(aW kS):=(goN rQ (⟨false,(0:Int),a⟩:kS))
def ED (a:jI):Option (Bool):=(cond ((zj a).by (aB.ae.exit 0)) (some ((decide ((((zj a).st.a.bJ.n:Nat):Int)<=(128:Int))))) (cond ((zj a).by aB.ae.ret) (some ((zj a).st.t2)) none))
theorem al1 (a:jI):cD Tryz.prog (bp Tryz.prog acO acP (fun q=>Nat.beq q 4)) 9 9 176 [jg a] = (ED a).map kB:=by
 unfold ED
 try simp only [bq,fG,fH,gW,gY,gZ,hD,hH,hJ,gX,eJ,db,dM,dY,dZ,eO,eP,eQ,eR,eN,dn,dW,dX,fj,fo,fp,fq,fv,fw,fk,dw,eY,eZ,gw,gz,gA,gC,gD,gE,gx,dK,fL,fY,iK,je,ju,jv,jw,jx,eW,eX,gu,iJ,gq,eV,dJ]
 kernel_rfl
def Oy:List KV->KR KV:=bI Tryz.prog 176 (bL kB fun vs=>ED (iP (vs.getD 0 .ao)))
theorem ai8 (w:Nat->KV):ck Tryz.prog [24] w 0 = [jg (iP (ax Tryz.prog (ai Tryz.prog aj) 24 (w 0)))]:=by kernel_rfl
theorem Lt:bH Tryz.prog 176 Oy:=aL funcs mixed ai6 ai7 (L:=9) (n:=9) fun w=>by
 have e:aG Tryz.prog 176 = [24]:=by kernel_rfl
 rw [e,ai8]
 exact (al1 (iP (ax Tryz.prog (ai Tryz.prog aj) 24 (w 0)))).trans (by kernel_rfl)
def Yy:List (Nat×(List KV->KR KV)):=[]
def Yz:List Lp:=[]
theorem agS:ah Tryz.prog Yy:=ah.nil
theorem agT:au Tryz.prog Yz:=au.nil
def yP (a:jI) (h:Handle):Option (Bool):=(cond (decide (h.slot >= (0:Int))) (cond (decide (h.slot < ((a.bJ.n:Nat):Int))) (cond ((decide ((0:Int)<=h.slot))&&(decide (h.slot < ((a.bJ.n:Nat):Int)))) (cond (a.bJ.get (Int.toNat h.slot)).live (cond ((decide ((0:Int)<=h.slot))&&(decide (h.slot < ((a.bJ.n:Nat):Int)))) (some (((a.bJ.get (Int.toNat h.slot)).gen==h.gen))) none) (some (false))) none) (some (false))) (some (false)))
theorem ai9 (a:jI) (h:Handle):cD Tryz.prog (bp Tryz.prog Yy Yz (fun q=>Nat.beq q 4)) 9 9 177 [jg a,dL h] = (yP a h).map kB:=by
 unfold yP
 try simp only [bq,fG,fH,gW,gY,gZ,hD,hH,hJ,gX,eJ,db,dM,dY,dZ,eO,eP,eQ,eR,eN,dn,dW,dX,fj,fo,fp,fq,fv,fw,fk,dw,eY,eZ,gw,gz,gA,gC,gD,gE,gx,dK,fL,fY,iK,je,ju,jv,jw,jx,eW,eX,gu,iJ,gq,eV,dJ]
 kernel_rfl
def FY:List KV->KR KV:=bI Tryz.prog 177 (bL kB fun vs=>yP (iP (vs.getD 0 .ao)) (cM (vs.getD 1 .ao)))
theorem agU (w:Nat->KV):ck Tryz.prog [24,32] w 0 = [jg (iP (ax Tryz.prog (ai Tryz.prog aj) 24 (w 0))),dL (cM (ax Tryz.prog (ai Tryz.prog aj) 32 (w 1)))]:=by kernel_rfl
theorem Dh:bH Tryz.prog 177 FY:=aL funcs mixed agS agT (L:=9) (n:=9) fun w=>by
 have e:aG Tryz.prog 177 = [24,32]:=by kernel_rfl
 rw [e,agU]
 exact (ai9 (iP (ax Tryz.prog (ai Tryz.prog aj) 24 (w 0))) (cM (ax Tryz.prog (ai Tryz.prog aj) 32 (w 1)))).trans (by kernel_rfl)
structure jl where
 t2:Bool
 cH:(Sl Bool)
 n:Int
 again:Int
 g:dG
instance:Inhabited jl:=⟨⟨default,default,default,default,default⟩⟩
def xT (x:jl):List KV:=[.bool x.t2,eA 4 kB x.cH,.int .i64 x.n,.int .i64 x.again]
def xU (x:jl):List (List KV):=[Ow x.g]
def J9 (vs:List KV) (rs:List (List KV)):jl:=⟨dj (vs.getD 0 .ao),dP dj (vs.getD 1 .ao),ay (vs.getD 2 .ao),ay (vs.getD 3 .ao),Ox (fun k=>(rs.getD 0 []).getD k .ao)⟩
def MI:aV:=⟨[(2,⟨false,[.k .bool]⟩),(3,⟨false,[.arr 4]⟩),(4,⟨false,[.k (.int .i64)]⟩),(5,⟨false,[.k (.int .i64)]⟩)],[(1,[.k (.slice 111),.k (.slice 35)],1)],[(1,0,0)]⟩
structure e8 where
 t2:Bool
 cH:(Sl Bool)
 n:Int
 again:Int
 i:Int
 g:dG
instance:Inhabited e8:=⟨by constructor<;>exact default⟩
def wb (x:e8):List KV:=[.bool x.t2,eA 4 kB x.cH,.int .i64 x.n,.int .i64 x.again,.int .i64 x.i]
def wg (x:e8):List (List KV):=[Ow x.g]
def IZ (vs:List KV) (rs:List (List KV)):e8:=⟨dj (vs.getD 0 .ao),dP dj (vs.getD 1 .ao),ay (vs.getD 2 .ao),ay (vs.getD 3 .ao),ay (vs.getD 4 .ao),Ox (fun k=>(rs.getD 0 []).getD k .ao)⟩
def Ka:aV:=⟨[(2,⟨false,[.k .bool]⟩),(3,⟨false,[.arr 4]⟩),(4,⟨false,[.k (.int .i64)]⟩),(5,⟨false,[.k (.int .i64)]⟩),(6,⟨false,[.k (.int .i64)]⟩)],[(1,[.k (.slice 111),.k (.slice 35)],1)],[(1,0,0)]⟩
structure eH where
 t2:Bool
 cH:(Sl Bool)
 n:Int
 again:Int
 i:Int
 all:Bool
 k:Int
 g:dG
instance:Inhabited eH:=⟨by constructor<;>exact default⟩
def se (x:eH):List KV:=[.bool x.t2,eA 4 kB x.cH,.int .i64 x.n,.int .i64 x.again,.int .i64 x.i,.bool x.all,.int .i64 x.k]
def sf (x:eH):List (List KV):=[Ow x.g]
def D5 (vs:List KV) (rs:List (List KV)):eH:=⟨dj (vs.getD 0 .ao),dP dj (vs.getD 1 .ao),ay (vs.getD 2 .ao),ay (vs.getD 3 .ao),ay (vs.getD 4 .ao),dj (vs.getD 5 .ao),ay (vs.getD 6 .ao),Ox (fun k=>(rs.getD 0 []).getD k .ao)⟩
def FZ:aV:=⟨[(2,⟨false,[.k .bool]⟩),(3,⟨false,[.arr 4]⟩),(4,⟨false,[.k (.int .i64)]⟩),(5,⟨false,[.k (.int .i64)]⟩),(6,⟨false,[.k (.int .i64)]⟩),(7,⟨false,[.k .bool]⟩),(8,⟨false,[.k (.int .i64)]⟩)],[(1,[.k (.slice 111),.k (.slice 35)],1)],[(1,0,0)]⟩
def P2:=dB Tryz.prog (bp Tryz.prog [] [] (fun q=>Nat.beq q 4)) 9 9 178 2003530 (dF Tryz.prog 178 2003530) FZ
def iR (x:eH):aW eH:=(cond ((decide ((0:Int)<=x.i))&&(decide (x.i < ((x.g.kids.n:Nat):Int)))) (cond (decide (x.k < (((x.g.kids.get (Int.toNat x.i)).n:Nat):Int))) (cond ((decide ((0:Int)<=x.i))&&(decide (x.i < ((x.g.kids.n:Nat):Int)))) (cond ((decide ((0:Int)<=x.k))&&(decide (x.k < (((x.g.kids.get (Int.toNat x.i)).n:Nat):Int)))) (cond ((decide ((0:Int)<=((x.g.kids.get (Int.toNat x.i)).get (Int.toNat x.k)).slot))&&(decide (((x.g.kids.get (Int.toNat x.i)).get (Int.toNat x.k)).slot < ((x.cH.n:Nat):Int)))) (cond (!(x.cH.get (0+(Int.toNat ((x.g.kids.get (Int.toNat x.i)).get (Int.toNat x.k)).slot)))) (cond (bz x.cH.n x.cH.n) (.next (⟨x.t2,x.cH,x.n,x.again,x.i,false,(aR (x.k+(1:Int))),x.g⟩:eH)) .fail) (cond (bz x.cH.n x.cH.n) (.next (⟨x.t2,x.cH,x.n,x.again,x.i,x.all,(aR (x.k+(1:Int))),x.g⟩:eH)) .fail)) .fail) .fail) .fail) (cond (bz x.cH.n x.cH.n) (.out (aB.ae.exit 4) x) .fail)) .fail)
theorem MJ (x:eH):P2 (se x) (sf x)=aW.enc se sf (iR x):=by
 unfold iR
 try simp only [aW.cf,fG,fH,gW,gY,gZ,hD,hH,hJ,gX,eJ,db,dM,dY,dZ,eO,eP,eQ,eR,eN,dn,dW,dX,fj,fo,fp,fq,fv,fw,fk,dw,eY,eZ,gw,gz,gA,gC,gD,gE,gx,dK,fL,fY,iK,je,ju,jv,jw,jx,eW,eX,gu,iJ,gq,eV,dJ]
 kernel_rfl
def nv:Lp:=⟨178,2003530,FZ,fun vs rs=>dC se sf (goN iR (D5 vs rs)) [aB.ae.exit 4],false⟩
theorem xH:nv.Ok Tryz.prog:=b8 funcs mixed ah.nil au.nil (L:=9) (n:=9) (step:=iR) (ev:=se) (er:=sf) (pa:=D5) rfl (fun wv wr=>⟨by kernel_rfl,by kernel_rfl⟩) MJ
theorem uo:bZ Tryz.prog nv.f nv.p=true:=by kernel_rfl
def Wf:=dB Tryz.prog (bp Tryz.prog [] [nv] (fun q=>Nat.beq q 4)) 9 9 178 7826 (dF Tryz.prog 178 7826) Ka
def bh (x:e8):(aW eH):=(goN iR (⟨x.t2,x.cH,x.n,x.again,x.i,true,(0:Int),x.g⟩:eH))
def ke (x:e8):aW e8:=(cond (decide (x.i < ((x.g.kids.n:Nat):Int))) (cond (bz x.cH.n x.cH.n) (cond ((bh x).by (aB.ae.exit 4)) (cond (bh x).st.all (cond ((decide ((0:Int)<=(bh x).st.i))&&(decide ((bh x).st.i < (((bh x).st.cH.n:Nat):Int)))) (cond (!((bh x).st.cH.get (0+(Int.toNat (bh x).st.i)))) (cond ((decide ((0:Int)<=(bh x).st.i))&&(decide ((bh x).st.i < (((bh x).st.cH.n:Nat):Int)))) (cond (bz (bh x).st.cH.n (bh x).st.cH.n) (.next (⟨(bh x).st.t2,((bh x).st.cH.set (0+(Int.toNat (bh x).st.i)) true),(aR ((bh x).st.n+(1:Int))),(bh x).st.again,(aR ((bh x).st.i+(1:Int))),(bh x).st.g⟩:e8)) .fail) .fail) (cond (bz (bh x).st.cH.n (bh x).st.cH.n) (.next (⟨(bh x).st.t2,(bh x).st.cH,(bh x).st.n,(bh x).st.again,(aR ((bh x).st.i+(1:Int))),(bh x).st.g⟩:e8)) .fail)) .fail) (cond (bz (bh x).st.cH.n (bh x).st.cH.n) (.next (⟨(bh x).st.t2,(bh x).st.cH,(bh x).st.n,(bh x).st.again,(aR ((bh x).st.i+(1:Int))),(bh x).st.g⟩:e8)) .fail)) .fail) .fail) (cond (bz x.cH.n x.cH.n) (.out (aB.ae.exit 2) x) .fail))
theorem Rm (x:e8):Wf (wb x) (wg x)=aW.enc wb wg (ke x):=by
 unfold ke
 try simp only [aW.cf,fG,fH,gW,gY,gZ,hD,hH,hJ,gX,eJ,db,dM,dY,dZ,eO,eP,eQ,eR,eN,dn,dW,dX,fj,fo,fp,fq,fv,fw,fk,dw,eY,eZ,gw,gz,gA,gC,gD,gE,gx,dK,fL,fY,iK,je,ju,jv,jw,jx,eW,eX,gu,iJ,gq,eV,dJ]
 kernel_rfl
def tP:Lp:=⟨178,7826,Ka,fun vs rs=>dC wb wg (goN ke (IZ vs rs)) [aB.ae.exit 2],false⟩
theorem I0:tP.Ok Tryz.prog:=b8 funcs mixed ah.nil (au.cons xH uo au.nil) (L:=9) (n:=9) (step:=ke) (ev:=wb) (er:=wg) (pa:=IZ) rfl (fun wv wr=>⟨by kernel_rfl,by kernel_rfl⟩) Rm
theorem D6:bZ Tryz.prog tP.f tP.p=true:=by kernel_rfl
def YA:=dB Tryz.prog (bp Tryz.prog [] [nv,tP] (fun q=>Nat.beq q 4)) 9 9 178 122 (dF Tryz.prog 178 122) MI
def kx (x:jl):(aW e8):=(goN ke (⟨x.t2,x.cH,x.n,x.again,(0:Int),x.g⟩:e8))
def l7 (x:jl):aW jl:=(cond (decide (x.again < ((x.g.kids.n:Nat):Int))) (cond (bz x.cH.n x.cH.n) (cond ((kx x).by (aB.ae.exit 2)) (cond (bz (kx x).st.cH.n (kx x).st.cH.n) (.next (⟨(kx x).st.t2,(kx x).st.cH,(kx x).st.n,(aR ((kx x).st.again+(1:Int))),(kx x).st.g⟩:jl)) .fail) .fail) .fail) (cond (bz x.cH.n x.cH.n) (.out (aB.ae.exit 0) x) .fail))
theorem Tj (x:jl):YA (xT x) (xU x)=aW.enc xT xU (l7 x):=by
 unfold l7
 try simp only [aW.cf,fG,fH,gW,gY,gZ,hD,hH,hJ,gX,eJ,db,dM,dY,dZ,eO,eP,eQ,eR,eN,dn,dW,dX,fj,fo,fp,fq,fv,fw,fk,dw,eY,eZ,gw,gz,gA,gC,gD,gE,gx,dK,fL,fY,iK,je,ju,jv,jw,jx,eW,eX,gu,iJ,gq,eV,dJ]
 kernel_rfl
def zk:Lp:=⟨178,122,MI,fun vs rs=>dC xT xU (goN l7 (J9 vs rs)) [aB.ae.exit 0],false⟩
theorem YB:zk.Ok Tryz.prog:=b8 funcs mixed ah.nil (au.cons xH uo (au.cons I0 D6 au.nil)) (L:=9) (n:=9) (step:=l7) (ev:=xT) (er:=xU) (pa:=J9) rfl (fun wv wr=>⟨by kernel_rfl,by kernel_rfl⟩) Tj
theorem Rn:bZ Tryz.prog zk.f zk.p=true:=by kernel_rfl
def Ur:List (Nat×(List KV->KR KV)):=[]
def Ut:List Lp:=[nv,tP,zk]
theorem adI:ah Tryz.prog Ur:=ah.nil
theorem adJ:au Tryz.prog Ut:=(au.cons xH uo (au.cons I0 D6 (au.cons YB Rn au.nil)))
def Di (g:dG):(aW jl):=(goN l7 (⟨false,(⟨(Int.toNat ((g.kids.n:Nat):Int)),(fun i=>false)⟩:Sl _),(0:Int),(0:Int),g⟩:jl))
def zl (g:dG):Option (Bool):=(cond ((decide (((g.kids.n:Nat):Int)<=((g.kids.n:Nat):Int)))&&(Nat.ble (1 * (Int.toNat ((g.kids.n:Nat):Int))) 281474976710656)) (cond (bz (Int.toNat ((g.kids.n:Nat):Int)) (Int.toNat ((g.kids.n:Nat):Int))) (cond ((Di g).by (aB.ae.exit 0)) (some (((Di g).st.n==(((Di g).st.g.kids.n:Nat):Int)))) none) none) none)
theorem agV (g:dG):cD Tryz.prog (bp Tryz.prog Ur Ut (fun q=>Nat.beq q 4)) 9 9 178 [pf g] = (zl g).map kB:=by
 unfold zl
 try simp only [bq,fG,fH,gW,gY,gZ,hD,hH,hJ,gX,eJ,db,dM,dY,dZ,eO,eP,eQ,eR,eN,dn,dW,dX,fj,fo,fp,fq,fv,fw,fk,dw,eY,eZ,gw,gz,gA,gC,gD,gE,gx,dK,fL,fY,iK,je,ju,jv,jw,jx,eW,eX,gu,iJ,gq,eV,dJ]
 kernel_rfl
def HA:List KV->KR KV:=bI Tryz.prog 178 (bL kB fun vs=>zl (jE (vs.getD 0 .ao)))
theorem adK (w:Nat->KV):ck Tryz.prog [27] w 0 = [pf (jE (ax Tryz.prog (ai Tryz.prog aj) 27 (w 0)))]:=by kernel_rfl
theorem GB:bH Tryz.prog 178 HA:=aL funcs mixed adI adJ (L:=9) (n:=9) fun w=>by
 have e:aG Tryz.prog 178 = [27]:=by kernel_rfl
 rw [e,adK]
 exact (agV (jE (ax Tryz.prog (ai Tryz.prog aj) 27 (w 0)))).trans (by kernel_rfl)
structure dV where
 t2:Bool
 i:Int
 g:dG
instance:Inhabited dV:=⟨⟨default,default,default⟩⟩
def Dj (x:dV):List KV:=[.bool x.t2,.int .i64 x.i]
def Dk (x:dV):List (List KV):=[Ow x.g]
def Ro (vs:List KV) (rs:List (List KV)):dV:=⟨dj (vs.getD 0 .ao),ay (vs.getD 1 .ao),Ox (fun k=>(rs.getD 0 []).getD k .ao)⟩
def Uu:aV:=⟨[(2,⟨false,[.k .bool]⟩),(3,⟨false,[.k (.int .i64)]⟩)],[(1,[.k (.slice 111),.k (.slice 35)],1)],[(1,0,0)]⟩
structure cj where
 t2:Bool
 i:Int
 k:Int
 g:dG
instance:Inhabited cj:=⟨⟨default,default,default,default⟩⟩
def zm (x:cj):List KV:=[.bool x.t2,.int .i64 x.i,.int .i64 x.k]
def zn (x:cj):List (List KV):=[Ow x.g]
def MK (vs:List KV) (rs:List (List KV)):cj:=⟨dj (vs.getD 0 .ao),ay (vs.getD 1 .ao),ay (vs.getD 2 .ao),Ox (fun k=>(rs.getD 0 []).getD k .ao)⟩
def Pt:aV:=⟨[(2,⟨false,[.k .bool]⟩),(3,⟨false,[.k (.int .i64)]⟩),(4,⟨false,[.k (.int .i64)]⟩)],[(1,[.k (.slice 111),.k (.slice 35)],1)],[(1,0,0)]⟩
def aa7:=dB Tryz.prog (bp Tryz.prog [(178,HA),(177,FY),(176,Oy)] [] (fun q=>Nat.beq q 4)) 9 9 129 7462 (dF Tryz.prog 129 7462) Pt
def Dl (x:cj):(Option Bool):=(yP x.g.ca ((x.g.kids.get (Int.toNat x.i)).get (Int.toNat x.k)))
def cn (x:cj):aW cj:=(cond ((decide ((0:Int)<=x.i))&&(decide (x.i < ((x.g.kids.n:Nat):Int)))) (cond (decide (x.k < (((x.g.kids.get (Int.toNat x.i)).n:Nat):Int))) (cond ((decide ((0:Int)<=x.i))&&(decide (x.i < ((x.g.kids.n:Nat):Int)))) (cond ((decide ((0:Int)<=x.k))&&(decide (x.k < (((x.g.kids.get (Int.toNat x.i)).n:Nat):Int)))) (cond (Dl x).isSome (cond (!((Dl x).getD default)) (.out aB.ae.ret (⟨false,x.i,x.k,x.g⟩:cj)) (.next (⟨x.t2,x.i,(aR (x.k+(1:Int))),x.g⟩:cj))) .fail) .fail) .fail) (.out (aB.ae.exit 2) x)) .fail)
theorem Wg (x:cj):aa7 (zm x) (zn x)=aW.enc zm zn (cn x):=by
 unfold cn
 try simp only [aW.cf,fG,fH,gW,gY,gZ,hD,hH,hJ,gX,eJ,db,dM,dY,dZ,eO,eP,eQ,eR,eN,dn,dW,dX,fj,fo,fp,fq,fv,fw,fk,dw,eY,eZ,gw,gz,gA,gC,gD,gE,gx,dK,fL,fY,iK,je,ju,jv,jw,jx,eW,eX,gu,iJ,gq,eV,dJ]
 kernel_rfl
def wN:Lp:=⟨129,7462,Pt,fun vs rs=>dC zm zn (goN cn (MK vs rs)) [aB.ae.exit 2,aB.ae.ret],false⟩
theorem ML:wN.Ok Tryz.prog:=b8 funcs mixed (ah.cons GB (ah.cons Dh (ah.cons Lt ah.nil))) au.nil (L:=9) (n:=9) (step:=cn) (ev:=zm) (er:=zn) (pa:=MK) rfl (fun wv wr=>⟨by kernel_rfl,by kernel_rfl⟩) Wg
theorem G3:bZ Tryz.prog wN.f wN.p=true:=by kernel_rfl
def agW:=dB Tryz.prog (bp Tryz.prog [(178,HA),(177,FY),(176,Oy)] [wN] (fun q=>Nat.beq q 4)) 9 9 129 58 (dF Tryz.prog 129 58) Uu
def fg (x:dV):(aW cj):=(goN cn (⟨x.t2,x.i,(0:Int),x.g⟩:cj))
def rR (x:dV):aW dV:=(cond (decide (x.i < ((x.g.kids.n:Nat):Int))) (cond ((decide ((0:Int)<=x.i))&&(decide (x.i < ((x.g.kids.n:Nat):Int)))) (cond (decide ((((x.g.kids.get (Int.toNat x.i)).n:Nat):Int) > (16:Int))) (.out aB.ae.ret (⟨false,x.i,x.g⟩:dV)) (cond ((decide ((0:Int)<=x.i))&&(decide (x.i < ((x.g.kids.n:Nat):Int)))) (cond (decide ((((x.g.kids.get (Int.toNat x.i)).n:Nat):Int) > (0:Int))) (cond ((decide ((0:Int)<=x.i))&&(decide (x.i < ((x.g.ca.bJ.n:Nat):Int)))) (cond (!(x.g.ca.bJ.get (Int.toNat x.i)).live) (.out aB.ae.ret (⟨false,x.i,x.g⟩:dV)) (cond ((fg x).by (aB.ae.exit 2)) (.next (⟨(fg x).st.t2,(aR ((fg x).st.i+(1:Int))),(fg x).st.g⟩:dV)) (cond ((fg x).by aB.ae.ret) (.out aB.ae.ret (⟨(fg x).st.t2,(fg x).st.i,(fg x).st.g⟩:dV)) .fail))) .fail) (cond ((fg x).by (aB.ae.exit 2)) (.next (⟨(fg x).st.t2,(aR ((fg x).st.i+(1:Int))),(fg x).st.g⟩:dV)) (cond ((fg x).by aB.ae.ret) (.out aB.ae.ret (⟨(fg x).st.t2,(fg x).st.i,(fg x).st.g⟩:dV)) .fail))) .fail)) .fail) (.out (aB.ae.exit 0) x))
theorem aa8 (x:dV):agW (Dj x) (Dk x)=aW.enc Dj Dk (rR x):=by
 unfold rR
 try simp only [aW.cf,fG,fH,gW,gY,gZ,hD,hH,hJ,gX,eJ,db,dM,dY,dZ,eO,eP,eQ,eR,eN,dn,dW,dX,fj,fo,fp,fq,fv,fw,fk,dw,eY,eZ,gw,gz,gA,gC,gD,gE,gx,dK,fL,fY,iK,je,ju,jv,jw,jx,eW,eX,gu,iJ,gq,eV,dJ]
 kernel_rfl
def Ft:Lp:=⟨129,58,Uu,fun vs rs=>dC Dj Dk (goN rR (Ro vs rs)) [aB.ae.exit 0,aB.ae.ret],false⟩
theorem agX:Ft.Ok Tryz.prog:=b8 funcs mixed (ah.cons GB (ah.cons Dh (ah.cons Lt ah.nil))) (au.cons ML G3 au.nil) (L:=9) (n:=9) (step:=rR) (ev:=Dj) (er:=Dk) (pa:=Ro) rfl (fun wv wr=>⟨by kernel_rfl,by kernel_rfl⟩) aa8
theorem YC:bZ Tryz.prog Ft.f Ft.p=true:=by kernel_rfl
def acQ:List (Nat×(List KV->KR KV)):=[(178,HA),(177,FY),(176,Oy)]
def acR:List Lp:=[wN,Ft]
theorem aja:ah Tryz.prog acQ:=(ah.cons GB (ah.cons Dh (ah.cons Lt ah.nil)))
theorem ajb:au Tryz.prog acR:=(au.cons ML G3 (au.cons agX YC au.nil))
def Oz (g:dG):(Option Bool):=(ED g.ca)
def zo (g:dG):(aW dV):=(goN rR (⟨false,(0:Int),g⟩:dV))
def OA (g:dG):(Option Bool):=(zl (zo g).st.g)
def EE (g:dG):Option (Bool):=(cond (Oz g).isSome (cond (!((Oz g).getD default)) (some (false)) (cond (((g.kids.n:Nat):Int) != ((g.ca.bJ.n:Nat):Int)) (some (false)) (cond ((zo g).by (aB.ae.exit 0)) (cond (OA g).isSome (some (((OA g).getD default))) none) (cond ((zo g).by aB.ae.ret) (some ((zo g).st.t2)) none)))) none)
theorem al2 (g:dG):cD Tryz.prog (bp Tryz.prog acQ acR (fun q=>Nat.beq q 4)) 9 9 129 [pf g] = (EE g).map kB:=by
 unfold EE
 try simp only [bq,fG,fH,gW,gY,gZ,hD,hH,hJ,gX,eJ,db,dM,dY,dZ,eO,eP,eQ,eR,eN,dn,dW,dX,fj,fo,fp,fq,fv,fw,fk,dw,eY,eZ,gw,gz,gA,gC,gD,gE,gx,dK,fL,fY,iK,je,ju,jv,jw,jx,eW,eX,gu,iJ,gq,eV,dJ]
 kernel_rfl
def Wh:List KV->KR KV:=bI Tryz.prog 129 (bL kB fun vs=>EE (jE (vs.getD 0 .ao)))
theorem ajc (w:Nat->KV):ck Tryz.prog [27] w 0 = [pf (jE (ax Tryz.prog (ai Tryz.prog aj) 27 (w 0)))]:=by kernel_rfl
theorem Uv:bH Tryz.prog 129 Wh:=aL funcs mixed aja ajb (L:=9) (n:=9) fun w=>by
 have e:aG Tryz.prog 129 = [27]:=by kernel_rfl
 rw [e,ajc]
 exact (al2 (jE (ax Tryz.prog (ai Tryz.prog aj) 27 (w 0)))).trans (by kernel_rfl)
structure az where
 e0:Int
 e1:Int
 e2:Int
instance:Inhabited az:=⟨⟨default,default,default⟩⟩
def atW (x:az):List KV:=[.int .i64 x.e0,.int .i64 x.e1,.int .i64 x.e2]
def df (x:az):KV:=.agg (atW x)
def atX (c:Nat->KV):az:=⟨ay (c 0),ay (c 1),ay (c 2)⟩
def dv (v:KV):az:=atX fun k=>v.cells.getD k .ao
theorem uq (x:az):dv (df x)=x:=rfl
theorem agY:dv .ao=default:=rfl
theorem jN (s:Sl az) (v:az):s.push v=aF dv (s.n+1) (aH s.n (fun i=>df (s.get i)) (ef [df v])):=(kf uq agY s v).symm
theorem ll (s t:Sl az):s.join t=aF dv (s.n+t.n) (aH s.n (fun i=>df (s.get i)) (fun i=>df (t.get i))):=(kh uq s t).symm
theorem oj (l:List az):Sl.lit l=aF dv l.length (ef (l.map df)):=(lT uq agY l).symm
theorem om (s:Sl az) (i:Nat) (v:az):s.set i v=aF dv s.n (cB (fun j=>df (s.get j)) i (df v)):=(lU uq s i v).symm
theorem lG (s t:Sl az) (o m:Nat):s.rp o m t=aF dv s.n (aJ o m (fun j=>df (s.get j)) (fun j=>df (t.get j))):=(jh uq s t o m).symm
theorem oo (m n n' : Nat) (acc aE:Nat->KV):aF dv m (aH n (fun i=>df ((aF dv n' acc).get i)) aE)=aF dv m (aH n acc aE):=mm uq ..
theorem oq (m n n' : Nat) (acc aE:Nat->KV):aF dv m (aH n acc (fun i=>df ((aF dv n' aE).get i)))=aF dv m (aH n acc aE):=mn uq ..
theorem ot (m n' i:Nat) (acc:Nat->KV) (v:KV):aF dv m (cB (fun j=>df ((aF dv n' acc).get j)) i v)=aF dv m (cB acc i v):=mo uq ..
theorem ou (n n' o m:Nat) (acc aE:Nat->KV):aF dv n (aJ o m (fun j=>df ((aF dv n' acc).get j)) aE)=aF dv n (aJ o m acc aE):=mq uq ..
theorem ov (n n' o m:Nat) (acc aE:Nat->KV):aF dv n (aJ o m acc (fun j=>df ((aF dv n' aE).get j)))=aF dv n (aJ o m acc aE):=mr uq ..
structure bw where
 e0:az
 e1:az
 e2:az
instance:Inhabited bw:=⟨⟨default,default,default⟩⟩
def aog (x:bw):List KV:=[.int .i64 x.e0.e0,.int .i64 x.e0.e1,.int .i64 x.e0.e2,.int .i64 x.e1.e0,.int .i64 x.e1.e1,.int .i64 x.e1.e2,.int .i64 x.e2.e0,.int .i64 x.e2.e1,.int .i64 x.e2.e2]
def gb (x:bw):KV:=.agg (aog x)
def aoh (c:Nat->KV):bw:=⟨⟨ay (c 0),ay (c 1),ay (c 2)⟩,⟨ay (c 3),ay (c 4),ay (c 5)⟩,⟨ay (c 6),ay (c 7),ay (c 8)⟩⟩
def cV (v:KV):bw:=aoh fun k=>v.cells.getD k .ao
theorem nF (x:bw):cV (gb x)=x:=rfl
theorem Uw:cV .ao=default:=rfl
theorem jQ (s:Sl bw) (v:bw):s.push v=aF cV (s.n+1) (aH s.n (fun i=>gb (s.get i)) (ef [gb v])):=(kf nF Uw s v).symm
theorem jR (s t:Sl bw):s.join t=aF cV (s.n+t.n) (aH s.n (fun i=>gb (s.get i)) (fun i=>gb (t.get i))):=(kh nF s t).symm
theorem kE (l:List bw):Sl.lit l=aF cV l.length (ef (l.map gb)):=(lT nF Uw l).symm
theorem kF (s:Sl bw) (i:Nat) (v:bw):s.set i v=aF cV s.n (cB (fun j=>gb (s.get j)) i (gb v)):=(lU nF s i v).symm
theorem jm (s t:Sl bw) (o m:Nat):s.rp o m t=aF cV s.n (aJ o m (fun j=>gb (s.get j)) (fun j=>gb (t.get j))):=(jh nF s t o m).symm
theorem kG (m n n' : Nat) (acc aE:Nat->KV):aF cV m (aH n (fun i=>gb ((aF cV n' acc).get i)) aE)=aF cV m (aH n acc aE):=mm nF ..
theorem kH (m n n' : Nat) (acc aE:Nat->KV):aF cV m (aH n acc (fun i=>gb ((aF cV n' aE).get i)))=aF cV m (aH n acc aE):=mn nF ..
theorem kJ (m n' i:Nat) (acc:Nat->KV) (v:KV):aF cV m (cB (fun j=>gb ((aF cV n' acc).get j)) i v)=aF cV m (cB acc i v):=mo nF ..
theorem kK (n n' o m:Nat) (acc aE:Nat->KV):aF cV n (aJ o m (fun j=>gb ((aF cV n' acc).get j)) aE)=aF cV n (aJ o m acc aE):=mq nF ..
theorem kL (n n' o m:Nat) (acc aE:Nat->KV):aF cV n (aJ o m acc (fun j=>gb ((aF cV n' aE).get j)))=aF cV n (aJ o m acc aE):=mr nF ..
structure fO where
 x:Int
 y:Int
 z:Int
instance:Inhabited fO:=⟨⟨default,default,default⟩⟩
def awM (x:fO):List KV:=[.int .i64 x.x,.int .i64 x.y,.int .i64 x.z]
def mu (x:fO):KV:=.agg (awM x)
def awN (c:Nat->KV):fO:=⟨ay (c 0),ay (c 1),ay (c 2)⟩
def kM (v:KV):fO:=awN fun k=>v.cells.getD k .ao
theorem Fu (x:fO):kM (mu x)=x:=rfl
theorem arB:kM .ao=default:=rfl
theorem sH (s:Sl fO) (v:fO):s.push v=aF kM (s.n+1) (aH s.n (fun i=>mu (s.get i)) (ef [mu v])):=(kf Fu arB s v).symm
theorem sI (s t:Sl fO):s.join t=aF kM (s.n+t.n) (aH s.n (fun i=>mu (s.get i)) (fun i=>mu (t.get i))):=(kh Fu s t).symm
theorem wO (l:List fO):Sl.lit l=aF kM l.length (ef (l.map mu)):=(lT Fu arB l).symm
theorem wP (s:Sl fO) (i:Nat) (v:fO):s.set i v=aF kM s.n (cB (fun j=>mu (s.get j)) i (mu v)):=(lU Fu s i v).symm
theorem p9 (s t:Sl fO) (o m:Nat):s.rp o m t=aF kM s.n (aJ o m (fun j=>mu (s.get j)) (fun j=>mu (t.get j))):=(jh Fu s t o m).symm
theorem wQ (m n n' : Nat) (acc aE:Nat->KV):aF kM m (aH n (fun i=>mu ((aF kM n' acc).get i)) aE)=aF kM m (aH n acc aE):=mm Fu ..
theorem wR (m n n' : Nat) (acc aE:Nat->KV):aF kM m (aH n acc (fun i=>mu ((aF kM n' aE).get i)))=aF kM m (aH n acc aE):=mn Fu ..
theorem wS (m n' i:Nat) (acc:Nat->KV) (v:KV):aF kM m (cB (fun j=>mu ((aF kM n' acc).get j)) i v)=aF kM m (cB acc i v):=mo Fu ..
theorem wT (n n' o m:Nat) (acc aE:Nat->KV):aF kM n (aJ o m (fun j=>mu ((aF kM n' acc).get j)) aE)=aF kM n (aJ o m acc aE):=mq Fu ..
theorem wU (n n' o m:Nat) (acc aE:Nat->KV):aF kM n (aJ o m acc (fun j=>mu ((aF kM n' aE).get j)))=aF kM n (aJ o m acc aE):=mr Fu ..
structure dm where
 m:bw
 t:fO
instance:Inhabited dm:=⟨⟨default,default⟩⟩
def arC (x:dm):List KV:=[.int .i64 x.m.e0.e0,.int .i64 x.m.e0.e1,.int .i64 x.m.e0.e2,.int .i64 x.m.e1.e0,.int .i64 x.m.e1.e1,.int .i64 x.m.e1.e2,.int .i64 x.m.e2.e0,.int .i64 x.m.e2.e1,.int .i64 x.m.e2.e2,.int .i64 x.t.x,.int .i64 x.t.y,.int .i64 x.t.z]
def mv (x:dm):KV:=.agg (arC x)
def arD (c:Nat->KV):dm:=⟨⟨⟨ay (c 0),ay (c 1),ay (c 2)⟩,⟨ay (c 3),ay (c 4),ay (c 5)⟩,⟨ay (c 6),ay (c 7),ay (c 8)⟩⟩,⟨ay (c 9),ay (c 10),ay (c 11)⟩⟩
def mw (v:KV):dm:=arD fun k=>v.cells.getD k .ao
theorem Fv (x:dm):mw (mv x)=x:=rfl
theorem arE:mw .ao=default:=rfl
theorem sJ (s:Sl dm) (v:dm):s.push v=aF mw (s.n+1) (aH s.n (fun i=>mv (s.get i)) (ef [mv v])):=(kf Fv arE s v).symm
theorem sK (s t:Sl dm):s.join t=aF mw (s.n+t.n) (aH s.n (fun i=>mv (s.get i)) (fun i=>mv (t.get i))):=(kh Fv s t).symm
theorem wV (l:List dm):Sl.lit l=aF mw l.length (ef (l.map mv)):=(lT Fv arE l).symm
theorem wW (s:Sl dm) (i:Nat) (v:dm):s.set i v=aF mw s.n (cB (fun j=>mv (s.get j)) i (mv v)):=(lU Fv s i v).symm
theorem qa (s t:Sl dm) (o m:Nat):s.rp o m t=aF mw s.n (aJ o m (fun j=>mv (s.get j)) (fun j=>mv (t.get j))):=(jh Fv s t o m).symm
theorem wX (m n n' : Nat) (acc aE:Nat->KV):aF mw m (aH n (fun i=>mv ((aF mw n' acc).get i)) aE)=aF mw m (aH n acc aE):=mm Fv ..
theorem wY (m n n' : Nat) (acc aE:Nat->KV):aF mw m (aH n acc (fun i=>mv ((aF mw n' aE).get i)))=aF mw m (aH n acc aE):=mn Fv ..
theorem wZ (m n' i:Nat) (acc:Nat->KV) (v:KV):aF mw m (cB (fun j=>mv ((aF mw n' acc).get j)) i v)=aF mw m (cB acc i v):=mo Fv ..
theorem w4 (n n' o m:Nat) (acc aE:Nat->KV):aF mw n (aJ o m (fun j=>mv ((aF mw n' acc).get j)) aE)=aF mw n (aJ o m acc aE):=mq Fv ..
theorem w5 (n n' o m:Nat) (acc aE:Nat->KV):aF mw n (aJ o m acc (fun j=>mv ((aF mw n' aE).get j)))=aF mw n (aJ o m acc aE):=mr Fv ..
structure AB where
 e0:Int
 e1:Int
 e2:Int
 e3:Int
 e4:Int
instance:Inhabited AB:=⟨⟨default,default,default,default,default⟩⟩
def auE (x:AB):List KV:=[.int .u8 x.e0,.int .u8 x.e1,.int .u8 x.e2,.int .u8 x.e3,.int .u8 x.e4]
def wh (x:AB):KV:=.agg (auE x)
def auF (c:Nat->KV):AB:=⟨ay (c 0),ay (c 1),ay (c 2),ay (c 3),ay (c 4)⟩
def pg (v:KV):AB:=auF fun k=>v.cells.getD k .ao
theorem xn (x:AB):pg (wh x)=x:=rfl
theorem akW:pg .ao=default:=rfl
theorem ow (s:Sl AB) (v:AB):s.push v=aF pg (s.n+1) (aH s.n (fun i=>wh (s.get i)) (ef [wh v])):=(kf xn akW s v).symm
theorem ox (s t:Sl AB):s.join t=aF pg (s.n+t.n) (aH s.n (fun i=>wh (s.get i)) (fun i=>wh (t.get i))):=(kh xn s t).symm
theorem qb (l:List AB):Sl.lit l=aF pg l.length (ef (l.map wh)):=(lT xn akW l).symm
theorem qc (s:Sl AB) (i:Nat) (v:AB):s.set i v=aF pg s.n (cB (fun j=>wh (s.get j)) i (wh v)):=(lU xn s i v).symm
theorem mG (s t:Sl AB) (o m:Nat):s.rp o m t=aF pg s.n (aJ o m (fun j=>wh (s.get j)) (fun j=>wh (t.get j))):=(jh xn s t o m).symm
theorem qd (m n n' : Nat) (acc aE:Nat->KV):aF pg m (aH n (fun i=>wh ((aF pg n' acc).get i)) aE)=aF pg m (aH n acc aE):=mm xn ..
theorem qe (m n n' : Nat) (acc aE:Nat->KV):aF pg m (aH n acc (fun i=>wh ((aF pg n' aE).get i)))=aF pg m (aH n acc aE):=mn xn ..
theorem qf (m n' i:Nat) (acc:Nat->KV) (v:KV):aF pg m (cB (fun j=>wh ((aF pg n' acc).get j)) i v)=aF pg m (cB acc i v):=mo xn ..
theorem qg (n n' o m:Nat) (acc aE:Nat->KV):aF pg n (aJ o m (fun j=>wh ((aF pg n' acc).get j)) aE)=aF pg n (aJ o m acc aE):=mq xn ..
theorem qh (n n' o m:Nat) (acc aE:Nat->KV):aF pg n (aJ o m acc (fun j=>wh ((aF pg n' aE).get j)))=aF pg n (aJ o m acc aE):=mr xn ..
structure Color where
 e0:Int
 e1:Int
 e2:Int
 e3:Int
instance:Inhabited Color:=⟨⟨default,default,default,default⟩⟩
def auG (x:Color):List KV:=[.int .u8 x.e0,.int .u8 x.e1,.int .u8 x.e2,.int .u8 x.e3]
def uF (x:Color):KV:=.agg (auG x)
def auH (c:Nat->KV):Color:=⟨ay (c 0),ay (c 1),ay (c 2),ay (c 3)⟩
def nY (v:KV):Color:=auH fun k=>v.cells.getD k .ao
theorem xo (x:Color):nY (uF x)=x:=rfl
theorem akX:nY .ao=default:=rfl
theorem oy (s:Sl Color) (v:Color):s.push v=aF nY (s.n+1) (aH s.n (fun i=>uF (s.get i)) (ef [uF v])):=(kf xo akX s v).symm
theorem oz (s t:Sl Color):s.join t=aF nY (s.n+t.n) (aH s.n (fun i=>uF (s.get i)) (fun i=>uF (t.get i))):=(kh xo s t).symm
theorem qi (l:List Color):Sl.lit l=aF nY l.length (ef (l.map uF)):=(lT xo akX l).symm
theorem qj (s:Sl Color) (i:Nat) (v:Color):s.set i v=aF nY s.n (cB (fun j=>uF (s.get j)) i (uF v)):=(lU xo s i v).symm
theorem mH (s t:Sl Color) (o m:Nat):s.rp o m t=aF nY s.n (aJ o m (fun j=>uF (s.get j)) (fun j=>uF (t.get j))):=(jh xo s t o m).symm
theorem qk (m n n' : Nat) (acc aE:Nat->KV):aF nY m (aH n (fun i=>uF ((aF nY n' acc).get i)) aE)=aF nY m (aH n acc aE):=mm xo ..
theorem ql (m n n' : Nat) (acc aE:Nat->KV):aF nY m (aH n acc (fun i=>uF ((aF nY n' aE).get i)))=aF nY m (aH n acc aE):=mn xo ..
theorem qm (m n' i:Nat) (acc:Nat->KV) (v:KV):aF nY m (cB (fun j=>uF ((aF nY n' acc).get j)) i v)=aF nY m (cB acc i v):=mo xo ..
theorem qn (n n' o m:Nat) (acc aE:Nat->KV):aF nY n (aJ o m (fun j=>uF ((aF nY n' acc).get j)) aE)=aF nY n (aJ o m acc aE):=mq xo ..
theorem qo (n n' o m:Nat) (acc aE:Nat->KV):aF nY n (aJ o m acc (fun j=>uF ((aF nY n' aE).get j)))=aF nY n (aJ o m acc aE):=mr xo ..
structure ir where
 color:Color
 cN:Int
 lz:Int
 jW:Int
 ff:Bool
 bin:Int
instance:Inhabited ir:=⟨by constructor<;>exact default⟩
def atY (x:ir):List KV:=[.int .u8 x.color.e0,.int .u8 x.color.e1,.int .u8 x.color.e2,.int .u8 x.color.e3,.int .i64 x.cN,.int .u8 x.lz,.int .i64 x.jW,.bool x.ff,.int .i64 x.bin]
def wi (x:ir):KV:=.agg (atY x)
def atZ (c:Nat->KV):ir:=⟨⟨ay (c 0),ay (c 1),ay (c 2),ay (c 3)⟩,ay (c 4),ay (c 5),ay (c 6),dj (c 7),ay (c 8)⟩
def o6 (v:KV):ir:=atZ fun k=>v.cells.getD k .ao
theorem Bc (x:ir):o6 (wi x)=x:=rfl
theorem aoi:o6 .ao=default:=rfl
theorem qp (s:Sl ir) (v:ir):s.push v=aF o6 (s.n+1) (aH s.n (fun i=>wi (s.get i)) (ef [wi v])):=(kf Bc aoi s v).symm
theorem qq (s t:Sl ir):s.join t=aF o6 (s.n+t.n) (aH s.n (fun i=>wi (s.get i)) (fun i=>wi (t.get i))):=(kh Bc s t).symm
theorem sL (l:List ir):Sl.lit l=aF o6 l.length (ef (l.map wi)):=(lT Bc aoi l).symm
theorem sM (s:Sl ir) (i:Nat) (v:ir):s.set i v=aF o6 s.n (cB (fun j=>wi (s.get j)) i (wi v)):=(lU Bc s i v).symm
theorem oA (s t:Sl ir) (o m:Nat):s.rp o m t=aF o6 s.n (aJ o m (fun j=>wi (s.get j)) (fun j=>wi (t.get j))):=(jh Bc s t o m).symm
theorem sN (m n n' : Nat) (acc aE:Nat->KV):aF o6 m (aH n (fun i=>wi ((aF o6 n' acc).get i)) aE)=aF o6 m (aH n acc aE):=mm Bc ..
theorem sP (m n n' : Nat) (acc aE:Nat->KV):aF o6 m (aH n acc (fun i=>wi ((aF o6 n' aE).get i)))=aF o6 m (aH n acc aE):=mn Bc ..
theorem sQ (m n' i:Nat) (acc:Nat->KV) (v:KV):aF o6 m (cB (fun j=>wi ((aF o6 n' acc).get j)) i v)=aF o6 m (cB acc i v):=mo Bc ..
theorem sR (n n' o m:Nat) (acc aE:Nat->KV):aF o6 n (aJ o m (fun j=>wi ((aF o6 n' acc).get j)) aE)=aF o6 n (aJ o m acc aE):=mq Bc ..
theorem sS (n n' o m:Nat) (acc aE:Nat->KV):aF o6 n (aJ o m acc (fun j=>wi ((aF o6 n' aE).get j)))=aF o6 n (aJ o m acc aE):=mr Bc ..
structure gN where
 bN:AB
 look:ir
instance:Inhabited gN:=⟨⟨default,default⟩⟩
def al3 (x:gN):List KV:=[.int .u8 x.bN.e0,.int .u8 x.bN.e1,.int .u8 x.bN.e2,.int .u8 x.bN.e3,.int .u8 x.bN.e4,.int .u8 x.look.color.e0,.int .u8 x.look.color.e1,.int .u8 x.look.color.e2,.int .u8 x.look.color.e3,.int .i64 x.look.cN,.int .u8 x.look.lz,.int .i64 x.look.jW,.bool x.look.ff,.int .i64 x.look.bin]
def rq (x:gN):KV:=.agg (al3 x)
def al4 (c:Nat->KV):gN:=⟨⟨ay (c 0),ay (c 1),ay (c 2),ay (c 3),ay (c 4)⟩,⟨⟨ay (c 5),ay (c 6),ay (c 7),ay (c 8)⟩,ay (c 9),ay (c 10),ay (c 11),dj (c 12),ay (c 13)⟩⟩
def lB (v:KV):gN:=al4 fun k=>v.cells.getD k .ao
theorem xp (x:gN):lB (rq x)=x:=rfl
theorem akY:lB .ao=default:=rfl
theorem oB (s:Sl gN) (v:gN):s.push v=aF lB (s.n+1) (aH s.n (fun i=>rq (s.get i)) (ef [rq v])):=(kf xp akY s v).symm
theorem oC (s t:Sl gN):s.join t=aF lB (s.n+t.n) (aH s.n (fun i=>rq (s.get i)) (fun i=>rq (t.get i))):=(kh xp s t).symm
theorem qt (l:List gN):Sl.lit l=aF lB l.length (ef (l.map rq)):=(lT xp akY l).symm
theorem qu (s:Sl gN) (i:Nat) (v:gN):s.set i v=aF lB s.n (cB (fun j=>rq (s.get j)) i (rq v)):=(lU xp s i v).symm
theorem mI (s t:Sl gN) (o m:Nat):s.rp o m t=aF lB s.n (aJ o m (fun j=>rq (s.get j)) (fun j=>rq (t.get j))):=(jh xp s t o m).symm
theorem qv (m n n' : Nat) (acc aE:Nat->KV):aF lB m (aH n (fun i=>rq ((aF lB n' acc).get i)) aE)=aF lB m (aH n acc aE):=mm xp ..
theorem qw (m n n' : Nat) (acc aE:Nat->KV):aF lB m (aH n acc (fun i=>rq ((aF lB n' aE).get i)))=aF lB m (aH n acc aE):=mn xp ..
theorem qx (m n' i:Nat) (acc:Nat->KV) (v:KV):aF lB m (cB (fun j=>rq ((aF lB n' acc).get j)) i v)=aF lB m (cB acc i v):=mo xp ..
theorem qy (n n' o m:Nat) (acc aE:Nat->KV):aF lB n (aJ o m (fun j=>rq ((aF lB n' acc).get j)) aE)=aF lB n (aJ o m acc aE):=mq xp ..
theorem qz (n n' o m:Nat) (acc aE:Nat->KV):aF lB n (aJ o m acc (fun j=>rq ((aF lB n' aE).get j)))=aF lB n (aJ o m acc aE):=mr xp ..
structure Node where
 kind:Int
 gd:dm
 uB:Int
 cl:fO
 nc:(Sl Int)
 cJ:Int
 b7:gN
instance:Inhabited Node:=⟨by constructor<;>exact default⟩
def avM (x:Node):List KV:=[.int .u8 x.kind,.int .i64 x.gd.m.e0.e0,.int .i64 x.gd.m.e0.e1,.int .i64 x.gd.m.e0.e2,.int .i64 x.gd.m.e1.e0,.int .i64 x.gd.m.e1.e1,.int .i64 x.gd.m.e1.e2,.int .i64 x.gd.m.e2.e0,.int .i64 x.gd.m.e2.e1,.int .i64 x.gd.m.e2.e2,.int .i64 x.gd.t.x,.int .i64 x.gd.t.y,.int .i64 x.gd.t.z,.int .u16 x.uB,.int .i64 x.cl.x,.int .i64 x.cl.y,.int .i64 x.cl.z,eA 3 (kI .i64) x.nc,.int .i64 x.cJ,.int .u8 x.b7.bN.e0,.int .u8 x.b7.bN.e1,.int .u8 x.b7.bN.e2,.int .u8 x.b7.bN.e3,.int .u8 x.b7.bN.e4,.int .u8 x.b7.look.color.e0,.int .u8 x.b7.look.color.e1,.int .u8 x.b7.look.color.e2,.int .u8 x.b7.look.color.e3,.int .i64 x.b7.look.cN,.int .u8 x.b7.look.lz,.int .i64 x.b7.look.jW,.bool x.b7.look.ff,.int .i64 x.b7.look.bin]
def lE (x:Node):KV:=.agg (avM x)
def avN (c:Nat->KV):Node:=⟨ay (c 0),⟨⟨⟨ay (c 1),ay (c 2),ay (c 3)⟩,⟨ay (c 4),ay (c 5),ay (c 6)⟩,⟨ay (c 7),ay (c 8),ay (c 9)⟩⟩,⟨ay (c 10),ay (c 11),ay (c 12)⟩⟩,ay (c 13),⟨ay (c 14),ay (c 15),ay (c 16)⟩,dP ay (c 17),ay (c 18),⟨⟨ay (c 19),ay (c 20),ay (c 21),ay (c 22),ay (c 23)⟩,⟨⟨ay (c 24),ay (c 25),ay (c 26),ay (c 27)⟩,ay (c 28),ay (c 29),ay (c 30),dj (c 31),ay (c 32)⟩⟩⟩
def ie (v:KV):Node:=avN fun k=>v.cells.getD k .ao
theorem Bd (x:Node):ie (lE x)=x:=rfl
theorem aoj:ie .ao=default:=rfl
theorem qA (s:Sl Node) (v:Node):s.push v=aF ie (s.n+1) (aH s.n (fun i=>lE (s.get i)) (ef [lE v])):=(kf Bd aoj s v).symm
theorem qB (s t:Sl Node):s.join t=aF ie (s.n+t.n) (aH s.n (fun i=>lE (s.get i)) (fun i=>lE (t.get i))):=(kh Bd s t).symm
theorem sT (l:List Node):Sl.lit l=aF ie l.length (ef (l.map lE)):=(lT Bd aoj l).symm
theorem sU (s:Sl Node) (i:Nat) (v:Node):s.set i v=aF ie s.n (cB (fun j=>lE (s.get j)) i (lE v)):=(lU Bd s i v).symm
theorem oD (s t:Sl Node) (o m:Nat):s.rp o m t=aF ie s.n (aJ o m (fun j=>lE (s.get j)) (fun j=>lE (t.get j))):=(jh Bd s t o m).symm
theorem sV (m n n' : Nat) (acc aE:Nat->KV):aF ie m (aH n (fun i=>lE ((aF ie n' acc).get i)) aE)=aF ie m (aH n acc aE):=mm Bd ..
theorem sX (m n n' : Nat) (acc aE:Nat->KV):aF ie m (aH n acc (fun i=>lE ((aF ie n' aE).get i)))=aF ie m (aH n acc aE):=mn Bd ..
theorem sY (m n' i:Nat) (acc:Nat->KV) (v:KV):aF ie m (cB (fun j=>lE ((aF ie n' acc).get j)) i v)=aF ie m (cB acc i v):=mo Bd ..
theorem sZ (n n' o m:Nat) (acc aE:Nat->KV):aF ie n (aJ o m (fun j=>lE ((aF ie n' acc).get j)) aE)=aF ie n (aJ o m acc aE):=mq Bd ..
theorem s5 (n n' o m:Nat) (acc aE:Nat->KV):aF ie n (aJ o m acc (fun j=>lE ((aF ie n' aE).get j)))=aF ie n (aJ o m acc aE):=mr Bd ..
structure ru where
 e0:Int
 e1:Int
instance:Inhabited ru:=⟨⟨default,default⟩⟩
def at0 (x:ru):List KV:=[.int .i64 x.e0,.int .i64 x.e1]
def nZ (x:ru):KV:=.agg (at0 x)
def at1 (c:Nat->KV):ru:=⟨ay (c 0),ay (c 1)⟩
def jX (v:KV):ru:=at1 fun k=>v.cells.getD k .ao
theorem ur (x:ru):jX (nZ x)=x:=rfl
theorem agZ:jX .ao=default:=rfl
theorem mJ (s:Sl ru) (v:ru):s.push v=aF jX (s.n+1) (aH s.n (fun i=>nZ (s.get i)) (ef [nZ v])):=(kf ur agZ s v).symm
theorem mK (s t:Sl ru):s.join t=aF jX (s.n+t.n) (aH s.n (fun i=>nZ (s.get i)) (fun i=>nZ (t.get i))):=(kh ur s t).symm
theorem oE (l:List ru):Sl.lit l=aF jX l.length (ef (l.map nZ)):=(lT ur agZ l).symm
theorem oG (s:Sl ru) (i:Nat) (v:ru):s.set i v=aF jX s.n (cB (fun j=>nZ (s.get j)) i (nZ v)):=(lU ur s i v).symm
theorem lH (s t:Sl ru) (o m:Nat):s.rp o m t=aF jX s.n (aJ o m (fun j=>nZ (s.get j)) (fun j=>nZ (t.get j))):=(jh ur s t o m).symm
theorem oH (m n n' : Nat) (acc aE:Nat->KV):aF jX m (aH n (fun i=>nZ ((aF jX n' acc).get i)) aE)=aF jX m (aH n acc aE):=mm ur ..
theorem oI (m n n' : Nat) (acc aE:Nat->KV):aF jX m (aH n acc (fun i=>nZ ((aF jX n' aE).get i)))=aF jX m (aH n acc aE):=mn ur ..
theorem oJ (m n' i:Nat) (acc:Nat->KV) (v:KV):aF jX m (cB (fun j=>nZ ((aF jX n' acc).get j)) i v)=aF jX m (cB acc i v):=mo ur ..
theorem oK (n n' o m:Nat) (acc aE:Nat->KV):aF jX n (aJ o m (fun j=>nZ ((aF jX n' acc).get j)) aE)=aF jX n (aJ o m acc aE):=mq ur ..
theorem oL (n n' o m:Nat) (acc aE:Nat->KV):aF jX n (aJ o m acc (fun j=>nZ ((aF jX n' aE).get j)))=aF jX n (aJ o m acc aE):=mr ur ..
structure Prim where
 kind:Int
 index:(Sl Int)
instance:Inhabited Prim:=⟨⟨default,default⟩⟩
def ag0 (x:Prim):List KV:=[.int .u8 x.kind,eA 3 (kI .i64) x.index]
def rv (x:Prim):KV:=.agg (ag0 x)
def ag1 (c:Nat->KV):Prim:=⟨ay (c 0),dP ay (c 1)⟩
def lM (v:KV):Prim:=ag1 fun k=>v.cells.getD k .ao
theorem Bf (x:Prim):lM (rv x)=x:=rfl
theorem aok:lM .ao=default:=rfl
theorem qC (s:Sl Prim) (v:Prim):s.push v=aF lM (s.n+1) (aH s.n (fun i=>rv (s.get i)) (ef [rv v])):=(kf Bf aok s v).symm
theorem qD (s t:Sl Prim):s.join t=aF lM (s.n+t.n) (aH s.n (fun i=>rv (s.get i)) (fun i=>rv (t.get i))):=(kh Bf s t).symm
theorem s6 (l:List Prim):Sl.lit l=aF lM l.length (ef (l.map rv)):=(lT Bf aok l).symm
theorem s7 (s:Sl Prim) (i:Nat) (v:Prim):s.set i v=aF lM s.n (cB (fun j=>rv (s.get j)) i (rv v)):=(lU Bf s i v).symm
theorem oM (s t:Sl Prim) (o m:Nat):s.rp o m t=aF lM s.n (aJ o m (fun j=>rv (s.get j)) (fun j=>rv (t.get j))):=(jh Bf s t o m).symm
theorem s9 (m n n' : Nat) (acc aE:Nat->KV):aF lM m (aH n (fun i=>rv ((aF lM n' acc).get i)) aE)=aF lM m (aH n acc aE):=mm Bf ..
theorem ta (m n n' : Nat) (acc aE:Nat->KV):aF lM m (aH n acc (fun i=>rv ((aF lM n' aE).get i)))=aF lM m (aH n acc aE):=mn Bf ..
theorem te (m n' i:Nat) (acc:Nat->KV) (v:KV):aF lM m (cB (fun j=>rv ((aF lM n' acc).get j)) i v)=aF lM m (cB acc i v):=mo Bf ..
theorem tf (n n' o m:Nat) (acc aE:Nat->KV):aF lM n (aJ o m (fun j=>rv ((aF lM n' acc).get j)) aE)=aF lM n (aJ o m acc aE):=mq Bf ..
theorem tg (n n' o m:Nat) (acc aE:Nat->KV):aF lM n (aJ o m acc (fun j=>rv ((aF lM n' aE).get j)))=aF lM n (aJ o m acc aE):=mr Bf ..
structure iU where
 gh:(Sl fO)
 uV:(Sl ru)
 cG:(Sl Prim)
instance:Inhabited iU:=⟨⟨default,default,default⟩⟩
def Wi (x:iU):List KV:=[eA 43 mu x.gh,eA 185 nZ x.uV,eA 172 rv x.cG]
def n5 (x:iU):KV:=.agg (Wi x)
def Wj (c:Nat->KV):iU:=⟨dP kM (c 0),dP jX (c 1),dP lM (c 2)⟩
def jJ (v:KV):iU:=Wj fun k=>v.cells.getD k .ao
theorem Bg (x:iU):jJ (n5 x)=x:=rfl
theorem aol:jJ .ao=default:=rfl
theorem qE (s:Sl iU) (v:iU):s.push v=aF jJ (s.n+1) (aH s.n (fun i=>n5 (s.get i)) (ef [n5 v])):=(kf Bg aol s v).symm
theorem qF (s t:Sl iU):s.join t=aF jJ (s.n+t.n) (aH s.n (fun i=>n5 (s.get i)) (fun i=>n5 (t.get i))):=(kh Bg s t).symm
theorem th (l:List iU):Sl.lit l=aF jJ l.length (ef (l.map n5)):=(lT Bg aol l).symm
theorem ti (s:Sl iU) (i:Nat) (v:iU):s.set i v=aF jJ s.n (cB (fun j=>n5 (s.get j)) i (n5 v)):=(lU Bg s i v).symm
theorem oO (s t:Sl iU) (o m:Nat):s.rp o m t=aF jJ s.n (aJ o m (fun j=>n5 (s.get j)) (fun j=>n5 (t.get j))):=(jh Bg s t o m).symm
theorem tj (m n n' : Nat) (acc aE:Nat->KV):aF jJ m (aH n (fun i=>n5 ((aF jJ n' acc).get i)) aE)=aF jJ m (aH n acc aE):=mm Bg ..
theorem tl (m n n' : Nat) (acc aE:Nat->KV):aF jJ m (aH n acc (fun i=>n5 ((aF jJ n' aE).get i)))=aF jJ m (aH n acc aE):=mn Bg ..
theorem tq (m n' i:Nat) (acc:Nat->KV) (v:KV):aF jJ m (cB (fun j=>n5 ((aF jJ n' acc).get j)) i v)=aF jJ m (cB acc i v):=mo Bg ..
theorem tr (n n' o m:Nat) (acc aE:Nat->KV):aF jJ n (aJ o m (fun j=>n5 ((aF jJ n' acc).get j)) aE)=aF jJ n (aJ o m acc aE):=mq Bg ..
theorem tt (n n' o m:Nat) (acc aE:Nat->KV):aF jJ n (aJ o m acc (fun j=>n5 ((aF jJ n' aE).get j)))=aF jJ n (aJ o m acc aE):=mr Bg ..
structure jf where
 w:Int
 h:Int
 S3:(Sl Color)
instance:Inhabited jf:=⟨⟨default,default,default⟩⟩
def asm (x:jf):List KV:=[.int .i64 x.w,.int .i64 x.h,eA 58 uF x.S3]
def jF (x:jf):KV:=.agg (asm x)
def asn (c:Nat->KV):jf:=⟨ay (c 0),ay (c 1),dP nY (c 2)⟩
def eM (v:KV):jf:=asn fun k=>v.cells.getD k .ao
theorem rL (x:jf):eM (jF x)=x:=rfl
theorem acS:eM .ao=default:=rfl
theorem lI (s:Sl jf) (v:jf):s.push v=aF eM (s.n+1) (aH s.n (fun i=>jF (s.get i)) (ef [jF v])):=(kf rL acS s v).symm
theorem lJ (s t:Sl jf):s.join t=aF eM (s.n+t.n) (aH s.n (fun i=>jF (s.get i)) (fun i=>jF (t.get i))):=(kh rL s t).symm
theorem mL (l:List jf):Sl.lit l=aF eM l.length (ef (l.map jF)):=(lT rL acS l).symm
theorem mM (s:Sl jf) (i:Nat) (v:jf):s.set i v=aF eM s.n (cB (fun j=>jF (s.get j)) i (jF v)):=(lU rL s i v).symm
theorem kN (s t:Sl jf) (o m:Nat):s.rp o m t=aF eM s.n (aJ o m (fun j=>jF (s.get j)) (fun j=>jF (t.get j))):=(jh rL s t o m).symm
theorem mN (m n n' : Nat) (acc aE:Nat->KV):aF eM m (aH n (fun i=>jF ((aF eM n' acc).get i)) aE)=aF eM m (aH n acc aE):=mm rL ..
theorem mO (m n n' : Nat) (acc aE:Nat->KV):aF eM m (aH n acc (fun i=>jF ((aF eM n' aE).get i)))=aF eM m (aH n acc aE):=mn rL ..
theorem mP (m n' i:Nat) (acc:Nat->KV) (v:KV):aF eM m (cB (fun j=>jF ((aF eM n' acc).get j)) i v)=aF eM m (cB acc i v):=mo rL ..
theorem mQ (n n' o m:Nat) (acc aE:Nat->KV):aF eM n (aJ o m (fun j=>jF ((aF eM n' acc).get j)) aE)=aF eM n (aJ o m acc aE):=mq rL ..
theorem mR (n n' o m:Nat) (acc aE:Nat->KV):aF eM n (aJ o m acc (fun j=>jF ((aF eM n' aE).get j)))=aF eM n (aJ o m acc aE):=mr rL ..
structure aP where
 graph:dG
 nodes:(Sl Node)
 bX:(Sl iU)
 dD:(Sl jf)
 root:Handle
instance:Inhabited aP:=⟨⟨default,default,default,default,default⟩⟩
def uG (x:aP):List KV:=[eA 111 uk x.graph.ca.bJ,eA 35 (eA 32 dL) x.graph.kids,eA 77 lE x.nodes,eA 88 n5 x.bX,eA 91 jF x.dD,.int .i64 x.root.slot,.int .i64 x.root.gen]
def dx (x:aP):KV:=.agg (uG x)
def uH (c:Nat->KV):aP:=⟨⟨⟨dP nW (c 0)⟩,dP (dP cM) (c 1)⟩,dP ie (c 2),dP jJ (c 3),dP eM (c 4),⟨ay (c 5),ay (c 6)⟩⟩
def b6 (v:KV):aP:=uH fun k=>v.cells.getD k .ao
theorem xq (x:aP):b6 (dx x)=x:=rfl
theorem akZ:b6 .ao=default:=rfl
theorem oP (s:Sl aP) (v:aP):s.push v=aF b6 (s.n+1) (aH s.n (fun i=>dx (s.get i)) (ef [dx v])):=(kf xq akZ s v).symm
theorem oQ (s t:Sl aP):s.join t=aF b6 (s.n+t.n) (aH s.n (fun i=>dx (s.get i)) (fun i=>dx (t.get i))):=(kh xq s t).symm
theorem qG (l:List aP):Sl.lit l=aF b6 l.length (ef (l.map dx)):=(lT xq akZ l).symm
theorem qH (s:Sl aP) (i:Nat) (v:aP):s.set i v=aF b6 s.n (cB (fun j=>dx (s.get j)) i (dx v)):=(lU xq s i v).symm
theorem mS (s t:Sl aP) (o m:Nat):s.rp o m t=aF b6 s.n (aJ o m (fun j=>dx (s.get j)) (fun j=>dx (t.get j))):=(jh xq s t o m).symm
theorem qI (m n n' : Nat) (acc aE:Nat->KV):aF b6 m (aH n (fun i=>dx ((aF b6 n' acc).get i)) aE)=aF b6 m (aH n acc aE):=mm xq ..
theorem qJ (m n n' : Nat) (acc aE:Nat->KV):aF b6 m (aH n acc (fun i=>dx ((aF b6 n' aE).get i)))=aF b6 m (aH n acc aE):=mn xq ..
theorem qK (m n' i:Nat) (acc:Nat->KV) (v:KV):aF b6 m (cB (fun j=>dx ((aF b6 n' acc).get j)) i v)=aF b6 m (cB acc i v):=mo xq ..
theorem qL (n n' o m:Nat) (acc aE:Nat->KV):aF b6 n (aJ o m (fun j=>dx ((aF b6 n' acc).get j)) aE)=aF b6 n (aJ o m acc aE):=mq xq ..
theorem qM (n n' o m:Nat) (acc aE:Nat->KV):aF b6 n (aJ o m acc (fun j=>dx ((aF b6 n' aE).get j)))=aF b6 n (aJ o m acc aE):=mr xq ..
structure jS where
 t2:Bool
 n:Int
 many:(Sl Int)
 step:Int
 s:aP
instance:Inhabited jS:=⟨⟨default,default,default,default,default⟩⟩
def zp (x:jS):List KV:=[.bool x.t2,.int .i64 x.n,eA 3 (kI .i64) x.many,.int .i64 x.step]
def zq (x:jS):List (List KV):=[uG x.s]
def MM (vs:List KV) (rs:List (List KV)):jS:=⟨dj (vs.getD 0 .ao),ay (vs.getD 1 .ao),dP ay (vs.getD 2 .ao),ay (vs.getD 3 .ao),uH (fun k=>(rs.getD 0 []).getD k .ao)⟩
def Pu:aV:=⟨[(2,⟨false,[.k .bool]⟩),(3,⟨false,[.k (.int .i64)]⟩),(4,⟨false,[.arr 3]⟩),(5,⟨false,[.k (.int .i64)]⟩)],[(1,[.k (.slice 111),.k (.slice 35),.k (.slice 77),.k (.slice 88),.k (.slice 91),.k (.int .i64),.k (.int .i64)],1)],[(1,0,0)]⟩
structure fI where
 t2:Bool
 n:Int
 many:(Sl Int)
 step:Int
 ly:(Sl Int)
 i:Int
 s:aP
instance:Inhabited fI:=⟨by constructor<;>exact default⟩
def wj (x:fI):List KV:=[.bool x.t2,.int .i64 x.n,eA 3 (kI .i64) x.many,.int .i64 x.step,eA 3 (kI .i64) x.ly,.int .i64 x.i]
def wk (x:fI):List (List KV):=[uG x.s]
def I1 (vs:List KV) (rs:List (List KV)):fI:=⟨dj (vs.getD 0 .ao),ay (vs.getD 1 .ao),dP ay (vs.getD 2 .ao),ay (vs.getD 3 .ao),dP ay (vs.getD 4 .ao),ay (vs.getD 5 .ao),uH (fun k=>(rs.getD 0 []).getD k .ao)⟩
def Kb:aV:=⟨[(2,⟨false,[.k .bool]⟩),(3,⟨false,[.k (.int .i64)]⟩),(4,⟨false,[.arr 3]⟩),(5,⟨false,[.k (.int .i64)]⟩),(6,⟨false,[.arr 3]⟩),(7,⟨false,[.k (.int .i64)]⟩)],[(1,[.k (.slice 111),.k (.slice 35),.k (.slice 77),.k (.slice 88),.k (.slice 91),.k (.int .i64),.k (.int .i64)],1)],[(1,0,0)]⟩
structure eI where
 t2:Bool
 n:Int
 many:(Sl Int)
 step:Int
 ly:(Sl Int)
 i:Int
 k:Int
 s:aP
instance:Inhabited eI:=⟨by constructor<;>exact default⟩
def sh (x:eI):List KV:=[.bool x.t2,.int .i64 x.n,eA 3 (kI .i64) x.many,.int .i64 x.step,eA 3 (kI .i64) x.ly,.int .i64 x.i,.int .i64 x.k]
def si (x:eI):List (List KV):=[uG x.s]
def D7 (vs:List KV) (rs:List (List KV)):eI:=⟨dj (vs.getD 0 .ao),ay (vs.getD 1 .ao),dP ay (vs.getD 2 .ao),ay (vs.getD 3 .ao),dP ay (vs.getD 4 .ao),ay (vs.getD 5 .ao),ay (vs.getD 6 .ao),uH (fun k=>(rs.getD 0 []).getD k .ao)⟩
def F1:aV:=⟨[(2,⟨false,[.k .bool]⟩),(3,⟨false,[.k (.int .i64)]⟩),(4,⟨false,[.arr 3]⟩),(5,⟨false,[.k (.int .i64)]⟩),(6,⟨false,[.arr 3]⟩),(7,⟨false,[.k (.int .i64)]⟩),(8,⟨false,[.k (.int .i64)]⟩)],[(1,[.k (.slice 111),.k (.slice 35),.k (.slice 77),.k (.slice 88),.k (.slice 91),.k (.int .i64),.k (.int .i64)],1)],[(1,0,0)]⟩
def P3:=dB Tryz.prog (bp Tryz.prog [] [] (fun q=>Nat.beq q 3)) 9 9 40 16403018 (dF Tryz.prog 40 16403018) F1
def iV (x:eI):aW eI:=(cond ((decide ((0:Int)<=x.i))&&(decide (x.i < ((x.s.graph.kids.n:Nat):Int)))) (cond (decide (x.k < (((x.s.graph.kids.get (Int.toNat x.i)).n:Nat):Int))) (cond (decide (x.k < (1000:Int))) (cond ((decide ((0:Int)<=x.i))&&(decide (x.i < ((x.s.graph.kids.n:Nat):Int)))) (cond ((decide ((0:Int)<=x.k))&&(decide (x.k < (((x.s.graph.kids.get (Int.toNat x.i)).n:Nat):Int)))) (cond (decide (((x.s.graph.kids.get (Int.toNat x.i)).get (Int.toNat x.k)).slot >= (0:Int))) (cond (decide (((x.s.graph.kids.get (Int.toNat x.i)).get (Int.toNat x.k)).slot < x.n)) (cond ((decide ((0:Int)<=x.i))&&(decide (x.i < ((x.ly.n:Nat):Int)))) (cond ((decide ((0:Int)<=((x.s.graph.kids.get (Int.toNat x.i)).get (Int.toNat x.k)).slot))&&(decide (((x.s.graph.kids.get (Int.toNat x.i)).get (Int.toNat x.k)).slot < ((x.many.n:Nat):Int)))) (cond ((decide ((0:Int)<=x.i))&&(decide (x.i < ((x.ly.n:Nat):Int)))) (cond (cond (bz x.ly.n x.ly.n) (bz x.many.n x.many.n) false) (.next (⟨x.t2,x.n,x.many,x.step,(x.ly.set (0+(Int.toNat x.i)) (min (aR ((x.ly.get (0+(Int.toNat x.i)))+(x.many.get (0+(Int.toNat ((x.s.graph.kids.get (Int.toNat x.i)).get (Int.toNat x.k)).slot))))) (100000:Int))),x.i,(aR (x.k+(1:Int))),x.s⟩:eI)) .fail) .fail) .fail) .fail) (cond (cond (bz x.ly.n x.ly.n) (bz x.many.n x.many.n) false) (.next (⟨x.t2,x.n,x.many,x.step,x.ly,x.i,(aR (x.k+(1:Int))),x.s⟩:eI)) .fail)) (cond (cond (bz x.ly.n x.ly.n) (bz x.many.n x.many.n) false) (.next (⟨x.t2,x.n,x.many,x.step,x.ly,x.i,(aR (x.k+(1:Int))),x.s⟩:eI)) .fail)) .fail) .fail) (cond (cond (bz x.ly.n x.ly.n) (bz x.many.n x.many.n) false) (.out (aB.ae.exit 4) x) .fail)) (cond (cond (bz x.ly.n x.ly.n) (bz x.many.n x.many.n) false) (.out (aB.ae.exit 4) x) .fail)) .fail)
theorem MN (x:eI):P3 (sh x) (si x)=aW.enc sh si (iV x):=by
 unfold iV
 try simp only [aW.cf,iJ]
 kernel_rfl
def nw:Lp:=⟨40,16403018,F1,fun vs rs=>dC sh si (goN iV (D7 vs rs)) [aB.ae.exit 4],false⟩
theorem xI:nw.Ok Tryz.prog:=b8 funcs mixed ah.nil au.nil (L:=9) (n:=9) (step:=iV) (ev:=sh) (er:=si) (pa:=D7) rfl (fun wv wr=>⟨by kernel_rfl,by kernel_rfl⟩) MN
theorem uu:bZ Tryz.prog nw.f nw.p=true:=by kernel_rfl
def Wk:=dB Tryz.prog (bp Tryz.prog [] [nw] (fun q=>Nat.beq q 3)) 9 9 40 64074 (dF Tryz.prog 40 64074) Kb
def bF (x:fI):(aW eI):=(goN iV (⟨x.t2,x.n,x.many,x.step,(x.ly.set (0+(Int.toNat x.i)) (1:Int)),x.i,(0:Int),x.s⟩:eI))
def jy (x:fI):aW fI:=(cond (decide (x.i < x.n)) (cond ((decide ((0:Int)<=x.i))&&(decide (x.i < ((x.ly.n:Nat):Int)))) (cond (cond (bz x.ly.n x.ly.n) (bz x.many.n x.many.n) false) (cond ((bF x).by (aB.ae.exit 4)) (cond ((decide ((0:Int)<=(bF x).st.i))&&(decide ((bF x).st.i < (((bF x).st.ly.n:Nat):Int)))) (cond (decide (((bF x).st.ly.get (0+(Int.toNat (bF x).st.i))) > (10000:Int))) (cond (cond (bz (bF x).st.ly.n (bF x).st.ly.n) (bz (bF x).st.many.n (bF x).st.many.n) false) (.out aB.ae.ret (⟨true,(bF x).st.n,(bF x).st.many,(bF x).st.step,(bF x).st.ly,(bF x).st.i,(bF x).st.s⟩:fI)) .fail) (cond (cond (bz (bF x).st.ly.n (bF x).st.ly.n) (bz (bF x).st.many.n (bF x).st.many.n) false) (.next (⟨(bF x).st.t2,(bF x).st.n,(bF x).st.many,(bF x).st.step,(bF x).st.ly,(aR ((bF x).st.i+(1:Int))),(bF x).st.s⟩:fI)) .fail)) .fail) .fail) .fail) .fail) (cond (cond (bz x.ly.n x.ly.n) (bz x.many.n x.many.n) false) (.out (aB.ae.exit 2) x) .fail))
theorem Rp (x:fI):Wk (wj x) (wk x)=aW.enc wj wk (jy x):=by
 unfold jy
 try simp only [aW.cf,bF,iJ]
 kernel_rfl
def tQ:Lp:=⟨40,64074,Kb,fun vs rs=>dC wj wk (goN jy (I1 vs rs)) [aB.ae.exit 2,aB.ae.ret],false⟩
theorem I2:tQ.Ok Tryz.prog:=b8 funcs mixed ah.nil (au.cons xI uu au.nil) (L:=9) (n:=9) (step:=jy) (ev:=wj) (er:=wk) (pa:=I1) rfl (fun wv wr=>⟨by kernel_rfl,by kernel_rfl⟩) Rp
theorem D8:bZ Tryz.prog tQ.f tQ.p=true:=by kernel_rfl
def aa9:=dB Tryz.prog (bp Tryz.prog [] [nw,tQ] (fun q=>Nat.beq q 3)) 9 9 40 250 (dF Tryz.prog 40 250) Pu
def dN (x:jS):(aW fI):=(goN jy (⟨x.t2,x.n,x.many,x.step,(⟨(Int.toNat x.n),(fun i=>(0:Int))⟩:Sl _),(0:Int),x.s⟩:fI))
def ng (x:jS):aW jS:=(cond (decide (x.step < (18:Int))) (cond (((decide ((0:Int)<=x.n))&&(decide (x.n<=x.n)))&&(Nat.ble (8 * (Int.toNat x.n)) 281474976710656)) (cond (cond (bz (Int.toNat x.n) (Int.toNat x.n)) (bz x.many.n x.many.n) false) (cond ((dN x).by (aB.ae.exit 2)) (cond (bz (dN x).st.ly.n (dN x).st.ly.n) (.next (⟨(dN x).st.t2,(dN x).st.n,(dN x).st.ly,(aR ((dN x).st.step+(1:Int))),(dN x).st.s⟩:jS)) .fail) (cond ((dN x).by aB.ae.ret) (cond (bz (dN x).st.many.n (dN x).st.many.n) (.out aB.ae.ret (⟨(dN x).st.t2,(dN x).st.n,(dN x).st.many,(dN x).st.step,(dN x).st.s⟩:jS)) .fail) .fail)) .fail) .fail) (cond (bz x.many.n x.many.n) (.out (aB.ae.exit 0) x) .fail))
theorem Wl (x:jS):aa9 (zp x) (zq x)=aW.enc zp zq (ng x):=by
 unfold ng
 try simp only [aW.cf]
 kernel_rfl
def Bt:Lp:=⟨40,250,Pu,fun vs rs=>dC zp zq (goN ng (MM vs rs)) [aB.ae.exit 0,aB.ae.ret],false⟩
theorem aba:Bt.Ok Tryz.prog:=b8 funcs mixed ah.nil (au.cons xI uu (au.cons I2 D8 au.nil)) (L:=9) (n:=9) (step:=ng) (ev:=zp) (er:=zq) (pa:=MM) rfl (fun wv wr=>⟨by kernel_rfl,by kernel_rfl⟩) Wl
theorem Tk:bZ Tryz.prog Bt.f Bt.p=true:=by kernel_rfl
def YD:List (Nat×(List KV->KR KV)):=[]
def YE:List Lp:=[nw,tQ,Bt]
theorem ag3:ah Tryz.prog YD:=ah.nil
theorem ag4:au Tryz.prog YE:=(au.cons xI uu (au.cons I2 D8 (au.cons aba Tk au.nil)))
def Fw (s:aP):(aW jS):=(goN ng (⟨false,((s.graph.kids.n:Nat):Int),(⟨(Int.toNat ((s.graph.kids.n:Nat):Int)),(fun i=>(0:Int))⟩:Sl _),(0:Int),s⟩:jS))
def Ct (s:aP):Option (Bool):=(cond (decide (((s.graph.kids.n:Nat):Int) > (300:Int))) (some (true)) (cond ((decide (((s.graph.kids.n:Nat):Int)<=((s.graph.kids.n:Nat):Int)))&&(Nat.ble (8 * (Int.toNat ((s.graph.kids.n:Nat):Int))) 281474976710656)) (cond (bz (Int.toNat ((s.graph.kids.n:Nat):Int)) (Int.toNat ((s.graph.kids.n:Nat):Int))) (cond ((Fw s).by (aB.ae.exit 0)) (some (false)) (cond ((Fw s).by aB.ae.ret) (some ((Fw s).st.t2)) none)) none) none))
theorem ajd (s:aP):cD Tryz.prog (bp Tryz.prog YD YE (fun q=>Nat.beq q 3)) 9 9 40 [dx s] = (Ct s).map kB:=by
 unfold Ct
 try simp only [bq]
 kernel_rfl
def Kc:List KV->KR KV:=bI Tryz.prog 40 (bL kB fun vs=>Ct (b6 (vs.getD 0 .ao)))
theorem ag5 (w:Nat->KV):ck Tryz.prog [34] w 0 = [dx (b6 (ax Tryz.prog (ai Tryz.prog aj) 34 (w 0)))]:=by kernel_rfl
theorem I3:bH Tryz.prog 40 Kc:=aL funcs mixed ag3 ag4 (L:=9) (n:=9) fun w=>by
 have e:aG Tryz.prog 40 = [34]:=by kernel_rfl
 rw [e,ag5]
 exact (ajd (b6 (ax Tryz.prog (ai Tryz.prog aj) 34 (w 0)))).trans (by kernel_rfl)
structure lK where
 l:(Sl jf)
 t2:Bool
 n:Int
 i:Int
instance:Inhabited lK:=⟨⟨default,default,default,default⟩⟩
def zr (x:lK):List KV:=[eA 91 jF x.l,.bool x.t2,.int .i64 x.n,.int .i64 x.i]
def zt (x:lK):List (List KV):=[]
def MO (vs:List KV) (rs:List (List KV)):lK:=⟨dP eM (vs.getD 0 .ao),dj (vs.getD 1 .ao),ay (vs.getD 2 .ao),ay (vs.getD 3 .ao)⟩
def Pv:aV:=⟨[(0,⟨false,[.k (.slice 91)]⟩),(2,⟨false,[.k .bool]⟩),(3,⟨false,[.k (.int .i64)]⟩),(4,⟨false,[.k (.int .i64)]⟩)],[],[]⟩
def abb:=dB Tryz.prog (bp Tryz.prog [] [] (fun q=>Nat.beq q 3)) 9 9 42 58 (dF Tryz.prog 42 58) Pv
def nh (x:lK):aW lK:=(cond (decide (x.i < ((x.l.n:Nat):Int))) (cond (decide (x.i < (100:Int))) (cond ((decide ((0:Int)<=x.i))&&(decide (x.i < ((x.l.n:Nat):Int)))) (.next (⟨x.l,x.t2,(aR (x.n+(min (((x.l.get (Int.toNat x.i)).S3.n:Nat):Int) (100000:Int)))),(aR (x.i+(1:Int)))⟩:lK)) .fail) (.out (aB.ae.exit 0) x)) (.out (aB.ae.exit 0) x))
theorem Wm (x:lK):abb (zr x) (zt x)=aW.enc zr zt (nh x):=by
 unfold nh
 try simp only [aW.cf]
 kernel_rfl
def Bu:Lp:=⟨42,58,Pv,fun vs rs=>dC zr zt (goN nh (MO vs rs)) [aB.ae.exit 0],false⟩
theorem abc:Bu.Ok Tryz.prog:=b8 funcs mixed ah.nil au.nil (L:=9) (n:=9) (step:=nh) (ev:=zr) (er:=zt) (pa:=MO) rfl (fun wv wr=>⟨by kernel_rfl,by kernel_rfl⟩) Wm
theorem Tl:bZ Tryz.prog Bu.f Bu.p=true:=by kernel_rfl
def Ux:List (Nat×(List KV->KR KV)):=[]
def Uy:List Lp:=[Bu]
theorem adL:ah Tryz.prog Ux:=ah.nil
theorem adM:au Tryz.prog Uy:=(au.cons abc Tl au.nil)
def Dm (l:(Sl jf)):(aW lK):=(goN nh (⟨l,false,(0:Int),(0:Int)⟩:lK))
def zu (l:(Sl jf)):Option (Bool):=(cond ((Dm l).by (aB.ae.exit 0)) (cond (decide ((((Dm l).st.l.n:Nat):Int) > (40:Int))) (some (true)) (some ((decide ((Dm l).st.n > (20000:Int)))))) none)
theorem ag6 (l:(Sl jf)):cD Tryz.prog (bp Tryz.prog Ux Uy (fun q=>Nat.beq q 3)) 9 9 42 [(eA 91 jF) l] = (zu l).map kB:=by
 unfold zu
 try simp only [bq]
 kernel_rfl
def HB:List KV->KR KV:=bI Tryz.prog 42 (bL kB fun vs=>zu ((dP eM) (vs.getD 0 .ao)))
theorem adN (w:Nat->KV):ck Tryz.prog [30] w 0 = [(eA 91 jF) ((dP eM) (ax Tryz.prog (ai Tryz.prog aj) 30 (w 0)))]:=by kernel_rfl
theorem GC:bH Tryz.prog 42 HB:=aL funcs mixed adL adM (L:=9) (n:=9) fun w=>by
 have e:aG Tryz.prog 42 = [30]:=by kernel_rfl
 rw [e,adN]
 exact (ag6 ((dP eM) (ax Tryz.prog (ai Tryz.prog aj) 30 (w 0)))).trans (by kernel_rfl)
structure jT where
 t2:Bool
 i:Int
 m:iU
instance:Inhabited jT:=⟨⟨default,default,default⟩⟩
def zv (x:jT):List KV:=[.bool x.t2,.int .i64 x.i]
def zw (x:jT):List (List KV):=[Wi x.m]
def MP (vs:List KV) (rs:List (List KV)):jT:=⟨dj (vs.getD 0 .ao),ay (vs.getD 1 .ao),Wj (fun k=>(rs.getD 0 []).getD k .ao)⟩
def Pw:aV:=⟨[(2,⟨false,[.k .bool]⟩),(3,⟨false,[.k (.int .i64)]⟩)],[(1,[.k (.slice 43),.k (.slice 185),.k (.slice 172)],1)],[(1,0,0)]⟩
def abd:=dB Tryz.prog (bp Tryz.prog [] [] (fun q=>Nat.beq q 3)) 9 9 43 58 (dF Tryz.prog 43 58) Pw
def jB (x:jT):aW jT:=(cond (decide (x.i < ((x.m.cG.n:Nat):Int))) (cond ((decide ((0:Int)<=x.i))&&(decide (x.i < ((x.m.cG.n:Nat):Int)))) (cond (decide ((((x.m.cG.get (Int.toNat x.i)).index.n:Nat):Int) > (1000:Int))) (.out aB.ae.ret (⟨true,x.i,x.m⟩:jT)) (.next (⟨x.t2,(aR (x.i+(1:Int))),x.m⟩:jT))) .fail) (.out (aB.ae.exit 0) x))
theorem Wn (x:jT):abd (zv x) (zw x)=aW.enc zv zw (jB x):=by
 unfold jB
 try simp only [aW.cf]
 kernel_rfl
def Bv:Lp:=⟨43,58,Pw,fun vs rs=>dC zv zw (goN jB (MP vs rs)) [aB.ae.exit 0,aB.ae.ret],false⟩
theorem abe:Bv.Ok Tryz.prog:=b8 funcs mixed ah.nil au.nil (L:=9) (n:=9) (step:=jB) (ev:=zv) (er:=zw) (pa:=MP) rfl (fun wv wr=>⟨by kernel_rfl,by kernel_rfl⟩) Wn
theorem Tn:bZ Tryz.prog Bv.f Bv.p=true:=by kernel_rfl
def Uz:List (Nat×(List KV->KR KV)):=[]
def UA:List Lp:=[Bv]
theorem adO:ah Tryz.prog Uz:=ah.nil
theorem adP:au Tryz.prog UA:=(au.cons abe Tn au.nil)
def Dn (m:iU):(aW jT):=(goN jB (⟨false,(0:Int),m⟩:jT))
def wm (m:iU):Option (Bool):=(cond (decide (((m.gh.n:Nat):Int) > (1000:Int))) (some (true)) (cond (decide (((m.uV.n:Nat):Int) > (1000:Int))) (some (true)) (cond (decide (((m.cG.n:Nat):Int) > (100:Int))) (some (true)) (cond ((Dn m).by (aB.ae.exit 0)) (some (false)) (cond ((Dn m).by aB.ae.ret) (some ((Dn m).st.t2)) none)))))
theorem ag7 (m:iU):cD Tryz.prog (bp Tryz.prog Uz UA (fun q=>Nat.beq q 3)) 9 9 43 [n5 m] = (wm m).map kB:=by
 unfold wm
 try simp only [bq]
 kernel_rfl
def HC:List KV->KR KV:=bI Tryz.prog 43 (bL kB fun vs=>wm (jJ (vs.getD 0 .ao)))
theorem adQ (w:Nat->KV):ck Tryz.prog [88] w 0 = [n5 (jJ (ax Tryz.prog (ai Tryz.prog aj) 88 (w 0)))]:=by kernel_rfl
theorem GD:bH Tryz.prog 43 HC:=aL funcs mixed adO adP (L:=9) (n:=9) fun w=>by
 have e:aG Tryz.prog 43 = [88]:=by kernel_rfl
 rw [e,adQ]
 exact (ag7 (jJ (ax Tryz.prog (ai Tryz.prog aj) 88 (w 0)))).trans (by kernel_rfl)
structure jn where
 t2:Bool
 i:Int
 s:aP
instance:Inhabited jn:=⟨⟨default,default,default⟩⟩
def xV (x:jn):List KV:=[.bool x.t2,.int .i64 x.i]
def xW (x:jn):List (List KV):=[uG x.s]
def Kd (vs:List KV) (rs:List (List KV)):jn:=⟨dj (vs.getD 0 .ao),ay (vs.getD 1 .ao),uH (fun k=>(rs.getD 0 []).getD k .ao)⟩
def MQ:aV:=⟨[(2,⟨false,[.k .bool]⟩),(3,⟨false,[.k (.int .i64)]⟩)],[(1,[.k (.slice 111),.k (.slice 35),.k (.slice 77),.k (.slice 88),.k (.slice 91),.k (.int .i64),.k (.int .i64)],1)],[(1,0,0)]⟩
def YF:=dB Tryz.prog (bp Tryz.prog [(43,HC),(42,HB),(41,Hz),(40,Kc)] [] (fun q=>Nat.beq q 3)) 9 9 12 122 (dF Tryz.prog 12 122) MQ
def iY (x:jn):aW jn:=(cond (decide (x.i < ((x.s.nodes.n:Nat):Int))) (cond ((decide ((0:Int)<=x.i))&&(decide (x.i < ((x.s.nodes.n:Nat):Int)))) (cond (decide ((((x.s.nodes.get (Int.toNat x.i)).nc.n:Nat):Int) > (200:Int))) (.out aB.ae.ret (⟨true,x.i,x.s⟩:jn)) (.next (⟨x.t2,(aR (x.i+(1:Int))),x.s⟩:jn))) .fail) (.out (aB.ae.exit 0) x))
theorem Tp (x:jn):YF (xV x) (xW x)=aW.enc xV xW (iY x):=by
 unfold iY
 try simp only [aW.cf]
 kernel_rfl
def vg:Lp:=⟨12,122,MQ,fun vs rs=>dC xV xW (goN iY (Kd vs rs)) [aB.ae.exit 0,aB.ae.ret],false⟩
theorem Ke:vg.Ok Tryz.prog:=b8 funcs mixed (ah.cons GD (ah.cons GC (ah.cons GA (ah.cons I3 ah.nil)))) au.nil (L:=9) (n:=9) (step:=iY) (ev:=xV) (er:=xW) (pa:=Kd) rfl (fun wv wr=>⟨by kernel_rfl,by kernel_rfl⟩) Tp
theorem F2:bZ Tryz.prog vg.f vg.p=true:=by kernel_rfl
structure ig where
 t2:Bool
 i:Int
 s:aP
instance:Inhabited ig:=⟨⟨default,default,default⟩⟩
def xX (x:ig):List KV:=[.bool x.t2,.int .i64 x.i]
def xY (x:ig):List (List KV):=[uG x.s]
def Kf (vs:List KV) (rs:List (List KV)):ig:=⟨dj (vs.getD 0 .ao),ay (vs.getD 1 .ao),uH (fun k=>(rs.getD 0 []).getD k .ao)⟩
def MR:aV:=⟨[(2,⟨false,[.k .bool]⟩),(4,⟨false,[.k (.int .i64)]⟩)],[(1,[.k (.slice 111),.k (.slice 35),.k (.slice 77),.k (.slice 88),.k (.slice 91),.k (.int .i64),.k (.int .i64)],1)],[(1,0,0)]⟩
def YG:=dB Tryz.prog (bp Tryz.prog [(43,HC),(42,HB),(41,Hz),(40,Kc)] [vg] (fun q=>Nat.beq q 3)) 9 9 12 250 (dF Tryz.prog 12 250) MR
def B6 (x:ig):(Option Bool):=(wm (x.s.bX.get (Int.toNat x.i)))
def iZ (x:ig):aW ig:=(cond (decide (x.i < ((x.s.bX.n:Nat):Int))) (cond ((decide ((0:Int)<=x.i))&&(decide (x.i < ((x.s.bX.n:Nat):Int)))) (cond (B6 x).isSome (cond ((B6 x).getD default) (.out aB.ae.ret (⟨true,x.i,x.s⟩:ig)) (.next (⟨x.t2,(aR (x.i+(1:Int))),x.s⟩:ig))) .fail) .fail) (.out (aB.ae.exit 2) x))
theorem Tq (x:ig):YG (xX x) (xY x)=aW.enc xX xY (iZ x):=by
 unfold iZ
 try simp only [aW.cf]
 kernel_rfl
def zx:Lp:=⟨12,250,MR,fun vs rs=>dC xX xY (goN iZ (Kf vs rs)) [aB.ae.exit 2,aB.ae.ret],false⟩
theorem YH:zx.Ok Tryz.prog:=b8 funcs mixed (ah.cons GD (ah.cons GC (ah.cons GA (ah.cons I3 ah.nil)))) (au.cons Ke F2 au.nil) (L:=9) (n:=9) (step:=iZ) (ev:=xX) (er:=xY) (pa:=Kf) rfl (fun wv wr=>⟨by kernel_rfl,by kernel_rfl⟩) Tq
theorem Rq:bZ Tryz.prog zx.f zx.p=true:=by kernel_rfl
def UB:List (Nat×(List KV->KR KV)):=[(43,HC),(42,HB),(41,Hz),(40,Kc)]
def UC:List Lp:=[vg,zx]
theorem adR:ah Tryz.prog UB:=(ah.cons GD (ah.cons GC (ah.cons GA (ah.cons I3 ah.nil))))
theorem adS:au Tryz.prog UC:=(au.cons Ke F2 (au.cons YH Rq au.nil))
def I4 (s:aP):(Option Bool):=(Ct s)
def I5 (s:aP):(Option Bool):=(zi s.graph)
def I6 (s:aP):(Option Bool):=(zu s.dD)
def vh (s:aP):(aW jn):=(goN iY (⟨false,(0:Int),s⟩:jn))
def Dp (s:aP):(aW ig):=(goN iZ (⟨(vh s).st.t2,(0:Int),(vh s).st.s⟩:ig))
def zy (s:aP):Option (Bool):=(cond (I4 s).isSome (cond ((I4 s).getD default) (some (true)) (cond (I5 s).isSome (cond ((I5 s).getD default) (some (true)) (cond (decide (((s.nodes.n:Nat):Int) > (200:Int))) (some (true)) (cond (decide (((s.bX.n:Nat):Int) > (60:Int))) (some (true)) (cond (decide (((s.dD.n:Nat):Int) > (60:Int))) (some (true)) (cond (I6 s).isSome (cond ((I6 s).getD default) (some (true)) (cond ((vh s).by (aB.ae.exit 0)) (cond ((Dp s).by (aB.ae.exit 2)) (some (false)) (cond ((Dp s).by aB.ae.ret) (some ((Dp s).st.t2)) none)) (cond ((vh s).by aB.ae.ret) (some ((vh s).st.t2)) none))) none))))) none)) none)
theorem ag8 (s:aP):cD Tryz.prog (bp Tryz.prog UB UC (fun q=>Nat.beq q 3)) 9 9 12 [dx s] = (zy s).map kB:=by
 unfold zy
 try simp only [bq]
 kernel_rfl
def YI:List KV->KR KV:=bI Tryz.prog 12 (bL kB fun vs=>zy (b6 (vs.getD 0 .ao)))
theorem adT (w:Nat->KV):ck Tryz.prog [34] w 0 = [dx (b6 (ax Tryz.prog (ai Tryz.prog aj) 34 (w 0)))]:=by kernel_rfl
theorem adU:bH Tryz.prog 12 YI:=aL funcs mixed adR adS (L:=9) (n:=9) fun w=>by
 have e:aG Tryz.prog 12 = [34]:=by kernel_rfl
 rw [e,adT]
 exact (ag8 (b6 (ax Tryz.prog (ai Tryz.prog aj) 34 (w 0)))).trans (by kernel_rfl)
end
end Go.Proofs.YtckbdndhmcoihaaGreat.b
end
