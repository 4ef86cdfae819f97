/- Part of the proof of PathsOne: the machine, shown to be the model's, and plain models. No conditions. -/
import Derived.SizedLaws
import Derived.Test.YtckbdndhmcoihaaGreatFp
import Derived.OpenShut
import Derived.ChangeArms
import Derived.WideShapes
import Derived.Below
import Derived.KernelRfl
import Derived.Test.YtckbdndhmcoihaaGreatProg
set_option linter.unusedSimpArgs false
set_option linter.unusedVariables false
section
namespace Go.K
open Go Go.aq
mutual
def JH (P:Program):KV->Prop
 | .int k n=>(Lit.int k n).wf=true
 | .str s=>s.size<=maxLen
 | .ts T _ n es acc=>n<=maxLen/\zg P es/\acc=lU es/\n * P.bytesOf T<=reachBytes
 | .agg cs=>zg P cs
 | _=>True
def zg (P:Program):List KV->Prop
 | []=>True
 | v::vs=>JH P v/\zg P vs
end
theorem FJ {P:Program} : ∀ {a b:List KV},zg P a->zg P b->zg P (a++b)
 | [],_,_,h=>h
 | x::a,b,h,k=>by
  simp only [zg] at h;exact ⟨h.1,FJ h.2 k⟩
theorem X8 {P:Program} : ∀ {l:List KV},zg P l->∀ v∈l,JH P v
 | [],_,v,h=>by simp at h
 | x::l,h,v,hv=>by
  simp only [zg] at h;rcases dv.1 hv with rfl | hv
  ·exact h.1
  ·exact X8 h.2 v hv
structure RE (P:Program) (W:World) (E:Env) (B:St) (ρ:Ren):Prop where
 gX:ra ρ B W.heap.size W
 k:dU P E .empty B
 κ:∀ b,E.κ b=none
 se:∀ b o,B.get b=some o->o.dX=false/\o.kC=none
 α:∀ b,E.α b=none
def Env.none:Env:=⟨fun _=>.none,fun _=>.none,fun _=>.none,fun _=>.none⟩
theorem MA.empty {P:Program} {E:Env} {B:St} (pq:∀ b,E.α b=none):MA P E .empty B:=by
 have hn:∀ b o,¬ ao.empty.get b=some o:=fun b o hb=>by simp [ao.empty,ao.get] at hb
 exact ⟨fun b v hb=>(hn b _ hb).elim,fun b v hb=>(hn b _ hb).elim,fun x ⟨b,v,_,_,hb,_⟩=>(hn b _ hb).elim,fun b c v u x L N L' N' hb=>(hn b _ hb).elim,fun b c v u x y L N L' N' cs e own g k bV e' od k' hb=>(hn b _ hb).elim,fun b x _=>pq b,fun b p e=>by rw [pq b] at e; simp at e,fun b x L N e=>by rw [pq b] at e; simp at e,fun b v x L N cs e own g k hb=>(hn b _ hb).elim,fun b v hb=>(hn b _ hb).elim⟩
theorem RE.start (P:Program) (W:World):RE P W .none .empty (Gr []):=by
 refine ⟨ra.empty W,⟨?_,?_,?_,?_,?_,?_,?_,?_,?_,?_,?_,?_,?_,?_,.empty fun _=>rfl⟩,fun _=>rfl,fun b o h=>by simp [St.get,St.empty] at h,fun _=>rfl⟩
 ·intro b cs bH h; simp [ao.empty,ao.get] at h
 ·intro b cs bH h; simp [ao.empty,ao.get] at h
 ·intro b r h; simp [Env.none] at h
 ·intro b r h; simp [Env.none] at h
 ·intro b c r h; simp [Env.none] at h
 ·intro b c r _ _ _ _ _ _ h; simp [Env.none] at h
 ·intro b r h; simp [Env.none] at h
 ·intro b r h; simp [Env.none] at h
 ·intro b o h; simp [ao.empty,ao.get] at h
 ·intro b r h; simp [Env.none] at h
 ·intro b r h; simp [Env.none] at h
 ·intro b r h; simp [Env.none] at h
 ·intro g _; simp [St.members,St.empty]
 ·intro g x h; simp [St.members,St.empty] at h
theorem RE.add {P:Program} {W:World} {E:Env} {B:St} {ρ:Ren} (h:RE P W E B ρ) {cs:List Value} {l:aq.Loc}
  (hc:∀ (i:Nat) (v:Value),cs[i]? = some v->∃ v',W.cell? ⟨l.cb,l.dn+i,.none⟩=some v'/\VR ρ v v'/\scalar v=true) (hl:l.cb < W.heap.size) (hf:l.dn+cs.length<=l.yR) :
  RE P W (E.eZ B.next ⟨cs,l.bH,false,.none⟩) (B.new (.row cs l.bH false .none)) (ρ.set B.next l)/\E.le (E.eZ B.next ⟨cs,l.bH,false,.none⟩)/\ρ.le (ρ.set B.next l):=by
 have hle:E.le (E.eZ B.next ⟨cs,l.bH,false,.none⟩):=⟨fun _ _ e=>e,fun _ _ e=>e,fun b r e=>by
  have:=h.k.kR b r e;simp only [Env.eZ]; rw [ak (by omega)]; exact e,fun _ _ e=>e⟩
 have jU:=h.gX.Ml l;have lY:∀ b o,(B.new (.row cs l.bH false .none)).get b=some o->(b=B.next/\o = .row cs l.bH false .none)\/(b≠B.next/\B.get b=some o):=by
  intro b o hb;rw [St.cS] at hb;split at hb
  ·rename_i e; simp at hb; exact .inl ⟨e,hb.symm⟩
  ·rename_i e; exact .inr ⟨e,hb⟩
 have afq:∀ b o,(B.new (.row cs l.bH false .none)).get b=some o->o.dX=false/\o.kC = .none:=by
  intro b o hb;rcases lY b o hb with ⟨_,rfl⟩ | ⟨_,hb⟩
  ·exact ⟨rfl,rfl⟩
  ·exact h.se b o hb
 refine ⟨⟨⟨⟨?_,?_,?_,?_,?_,?_⟩,?_,h.gX.size,h.gX.H5.mono jU⟩,?_,h.κ,afq,h.α⟩,hle,jU⟩
 ·intro b kL bH own bQ hb
  rcases lY b _ hb with ⟨rfl,e⟩ | ⟨cH,hb⟩
  ·simp only [cw.row.injEq] at e
   obtain ⟨rfl,rfl,rfl,rfl⟩:=e;refine ⟨l,by simp [Ren.set],⟨fun i v hi=>?_,fun _=>hl,fun e=>by simp at e,fun e=>by simp at e,hf,fun e=>by simp at e,rfl,hl,fun e=>by simp at e⟩⟩;obtain ⟨v',h1,h2,h3⟩:=hc i v hi;exact ⟨v',h1,h2.mono jU,h3⟩
  ·obtain ⟨l',h1,h2⟩:=h.gX.rel.row b kL bH own bQ hb
   exact ⟨l',jU _ _ h1,⟨fun i v hi=>by obtain ⟨v',q1,q2,q3⟩:=h2.cells i v hi; exact ⟨v',q1,q2.mono jU,q3⟩,h2.se,h2.dX,h2.there,h2.fits,h2.ends,h2.bH,h2.mw,h2.mark⟩⟩
 ·intro b es hb
  have:=(afq b _ hb).1;simp [cw.dX] at this
 ·intro b s pos hb
  have:=(afq b _ hb).1;simp [cw.dX] at this
 ·intro b st e t ps a c hb
  have:=(afq b _ hb).1;simp [cw.dX] at this
 ·intro b1 b2 o1 o2 l1 l2 _ h1 _ h3
  have:=(afq b1 _ h1).1;rw [h3] at this; simp at this
 ·intro b o aQ f hb hk
  have:=(afq b _ hb).2;rw [hk] at this; simp at this
 ·intro b l' hb
  rw [St.b7];simp only [Ren.set] at hb;split at hb
  ·omega
  ·have:=h.gX.jx b l' hb; omega
 ·refine ⟨?_,?_,?_,?_,?_,?_,?_,?_,?_,?_,?_,?_,?_,?_,.empty h.α⟩
  ·intro b cs bH h; simp [ao.empty,ao.get] at h
  ·intro b cs bH h; simp [ao.empty,ao.get] at h
  ·intro b r hb
   simp only [Env.eZ] at hb;split at hb
   ·rename_i e
    simp at hb;subst hb e;simp
   ·have:=h.k.kR b r hb
    rw [St.cS,ak (by omega)];exact h.k.z b r hb
  ·intro b x hb; have hb:E.κ b=some x:=hb; rw [h.κ b] at hb; simp at hb
  ·exact h.k.inj
  ·exact h.k.ib
  ·exact h.k.jx
  ·exact h.k.kQ
  ·exact h.k.live
  ·intro b x hb; have:=h.k.fk b x hb; rw [St.b7]; omega
  ·intro b r hb
   simp only [Env.eZ] at hb;rw [St.b7];split at hb
   ·omega
   ·have:=h.k.kR b r hb; omega
  ·intro b g hb; have:=h.k.iR b g hb; rw [St.b7]; omega
  ·intro g hg; rw [St.b7] at hg; rw [St.iA]; exact h.k.fresh g (by omega)
  ·intro g x hx; rw [St.iA] at hx; rw [St.b7]; have:=h.k.mem g x hx; omega
def acH (P:Program):Nat->List Field->Option Nat
 | off,[]=>some off
 | off,f::fs=>cond (Nat.beq f.offset off) (acH P (off+P.cellsOf f.type) fs) .none
def zh (P:Program):Nat->TypeId->Bool
 | 0,_=>false
 | n+1,t=>match P.underlying t with
  | some (.int _) | some .bool | some .string=>true
  | some (.slice e)=>Nat.ble 1 (P.cellsOf e)&&zh P n e&&(match lay P 12 e with
   | some l=>Nat.beq l.ks.length (P.cellsOf e)&&(l.agg||Nat.beq l.ks.length 1)
   | .none=>false)
  | some (.struct fs)=>fs.toList.all (fun f=>zh P n f.type)&&(match acH P 0 fs.toList with
   | some k=>Nat.beq k (P.cellsOf t)
   | .none=>false)
  | some (.array len e)=>zh P n e&&Nat.beq (P.cellsOf t) (len * P.cellsOf e)
  | _=>false
def acI (W:World) (cs:List Value):Prop:=∀ a n c,Value.slice (some a) n c∈cs->0 < W.heap.size
def Got (P:Program) (W:World) (E:Env) (_:St) (ρ:Ren) (cs:List Value) (K:List KV->Prop):Prop:=
 ∃ E' B' aJ ks,RE P W E' B' aJ/\E.le E'/\ρ.le aJ/\qc P E' aJ ks cs/\zg P ks/\K ks
def aa9 {H:Type} (enc:TypeId×Value->H) (P:Program) (W:World) (n:Nat):Prop:=
 ∀ t,zh P n t=true->∀ (fuel:Nat) (cs:List Value) (x:DataW H×List MemPlace) (E:Env) (B:St) (ρ:Ren),DataW.trod enc P W 0 (fun _=>true) true fuel t cs=some x->(∀ w∈DataW.weights P t x.1,w<=reachBytes)->acI W cs->RE P W E B ρ->
  Got P W E B ρ cs fun ks=>∀ m l,lay P m t=some l->aA l.ks ks=true
section
variable {H:Type} {enc:TypeId×Value->H} {P:Program} {W:World} {E:Env} {B:St} {ρ:Ren}
theorem qc.append {E:Env} {ρ:Ren} {a b:List KV} {a' b' : List Value} (h:qc P E ρ a a') (k:qc P E ρ b b'):qc P E ρ (a++b) (a'++b'):=by
 obtain ⟨m,h1,h2⟩:=h;obtain ⟨l,h3,h4⟩:=k;exact ⟨m++l,h1.append h3,h2.append h4⟩
theorem qc.mono {E E' : Env} {ρ aJ:Ren} {a:List KV} {a' : List Value} (h:qc P E ρ a a') (hE:E.le E') (jU:ρ.le aJ):qc P E' aJ a a':=by
 obtain ⟨m,h1,h2⟩:=h;exact ⟨m,h1.mono hE,h2.mono jU⟩
theorem qc.len {E:Env} {ρ:Ren} {a:List KV} {a' : List Value} (h:qc P E ρ a a'):a'.length=a.length:=by
 obtain ⟨m,h1,h2⟩:=h;rw [h2.length,h1.length]
theorem JI:∀ {ks:List CK} {vs:List KV},aA ks vs=true->vs.length=ks.length
 | [],[],_=>rfl
 | [],_::_,h=>by simp [aA] at h
 | _::_,[],h=>by simp [aA] at h
 | k::ks,v::vs,h=>by
  simp only [aA,au] at h;simp [JI h.2]
theorem JJ:∀ {ks ls:List CK} {vs us:List KV},aA ks vs=true->aA ls us=true->aA (ks++ls) (vs++us)=true
 | [],_,[],_,_,h=>h
 | [],_,_::_,_,h,_=>by simp [aA] at h
 | _::_,_,[],_,h,_=>by simp [aA] at h
 | k::ks,ls,v::vs,us,h,h'=>by
  simp only [aA,au] at h;simp only [List.cons_append,aA,au];exact ⟨h.1,JJ h.2 h'⟩
theorem acI.sub {W:World} {cs ds:List Value} (h:acI W cs) (k:∀ v∈ds,v∈cs):acI W ds:=fun a n c hm=>h a n c (k _ hm)
theorem acJ {cs:List Value} {i n:Nat} : ∀ v∈(cs.drop i).take n,v∈cs:=fun _ h=>List.mem_of_mem_drop (List.mem_of_mem_take h)
theorem ZK (cs:List Value) (i m n:Nat):(cs.drop i).take m++(cs.drop (i+m)).take n=(cs.drop i).take (m+n):=by
 rw [List.take_add,List.drop_drop]
theorem VV {n:Nat} (IH:aa9 enc P W n) {fuel:Nat} {cs:List Value} (hp:acI W cs):∀ (fs:List Field) (off k:Nat) (E:Env) (B:St) (ρ:Ren),RE P W E B ρ->acH P off fs=some k->k<=cs.length->(∀ f∈fs,zh P n f.type=true)->
  (∀ f∈fs,∃ x,DataW.trod enc P W 0 (fun _=>true) true fuel f.type ((cs.drop f.offset).take (P.cellsOf f.type))=some x/\∀ w∈DataW.weights P f.type x.1,w<=reachBytes)->
  off<=k/\Got P W E B ρ ((cs.drop off).take (k - off)) fun ks=>∀ m l,O0 (lay P m) fs off=some l->aA l ks=true
 | [],off,k,E,B,ρ,hi,ht,hk,_,_=>by
  simp [acH] at ht; subst ht;refine ⟨aH _,E,B,ρ,[],hi,Env.le_refl _,Ren.le_refl _,?_,trivial,?_⟩
  ·rw [Nat.sub_self,List.take_zero]; exact ⟨[],.nil,.nil⟩
  ·intro m l h; simp [O0] at h; subst h; rfl
 | f::fs,off,k,E,B,ρ,hi,ht,hk,he,hx=>by
  unfold acH at ht;cases hb:Nat.beq f.offset off with
  | false=>rw [hb] at ht; simp at ht
  | true=>
   rw [hb,aj] at ht;have NF:=aW hb;obtain ⟨x,Fz,OQ⟩:=hx f (by simp);obtain ⟨E1,B1,lr,ks1,h1,h2,h3,h4,h5,h6⟩:=IH f.type (he f (by simp)) fuel _ x E B ρ Fz OQ (hp.sub acJ) hi;obtain ⟨hle,E2,B2,tV,ks2,q1,q2,q3,q4,q5,q6⟩:=VV IH hp fs (off+P.cellsOf f.type) k E1 B1 lr h1 ht hk (fun g hg=>he g (by simp [hg])) (fun g hg=>hx g (by simp [hg]));have hlen:ks1.length=P.cellsOf f.type:=by
    rw [<- h4.len,kG,List.length_drop,NF];omega
   refine ⟨by omega,E2,B2,tV,ks1++ks2,q1,Env.le_trans h2 q2,Ren.le_trans h3 q3,?_,FJ h5 q5,?_⟩
   ·have:=(h4.mono q2 q3).append q4
    rw [NF,ZK] at this;rw [show k - off=P.cellsOf f.type+(k - (off+P.cellsOf f.type)) by omega];exact this
   ·intro m l hl
    unfold O0 at hl;rw [hb,aj] at hl;obtain ⟨l1,hl1,hl⟩:=cI.1 hl;obtain ⟨l2,kf,rfl⟩:=cC.1 hl;have yJ:=h6 m l1 hl1;have arN:=JI yJ;rw [<- arN,hlen] at kf;exact JJ yJ (q6 m l2 kf)
theorem ZL {n:Nat} (IH:aa9 enc P W n) {fuel len c:Nat} {e:TypeId} {cs:List Value} (hp:acI W cs) (he:zh P n e=true) (hc:P.cellsOf e=c) (hk:len * c<=cs.length) (hx:∀ i,i < len->∃ x,DataW.trod enc P W 0 (fun _=>true) true fuel e ((cs.drop (i * c)).take c)=some x/\∀ w∈DataW.weights P e x.1,w<=reachBytes) (hi:RE P W E B ρ):∀ j,j<=len->
  Got P W E B ρ (cs.take (j * c)) fun ks=>∀ m l,lay P m e=some l->aA (cY l.ks j) ks=true
 | 0,_=>by
  refine ⟨E,B,ρ,[],hi,Env.le_refl _,Ren.le_refl _,?_,trivial,fun m l _=>rfl⟩;rw [Nat.zero_mul,List.take_zero]; exact ⟨[],.nil,.nil⟩
 | j+1,hj=>by
  obtain ⟨E1,B1,lr,ks1,h1,h2,h3,h4,h5,h6⟩:=ZL IH hp he hc hk hx hi j (by omega);obtain ⟨x,Fz,OQ⟩:=hx j (by omega);obtain ⟨E2,B2,tV,ks2,q1,q2,q3,q4,q5,q6⟩:=IH e he fuel _ x E1 B1 lr Fz OQ (hp.sub acJ) h1;refine ⟨E2,B2,tV,ks1++ks2,q1,Env.le_trans h2 q2,Ren.le_trans h3 q3,?_,FJ h5 q5,?_⟩
  ·have:=(h4.mono q2 q3).append q4
   have e:=ZK cs 0 (j * c) c;simp only [List.drop_zero,bp] at e;rw [e] at this;rw [show (j+1) * c=j * c+c by rw [Nat.succ_mul]];exact this
  ·intro m l hl
   have:cY l.ks (j+1)=cY l.ks j++l.ks:=by
    have comm:∀ n,l.ks++cY l.ks n=cY l.ks n++l.ks:=by
     intro n
     induction n with
     | zero=>simp [cY]
     | succ n ih=>simp only [cY,List.append_assoc]; rw [ih]
    rw [<- comm]; rfl
   rw [this];exact JJ (h6 m l hl) (q6 m l hl)
theorem VW {a:Addr} {i k:Nat} {v:Value} (h:W.cell? ((a.add i).add k)=some v):W.cell? ⟨a.block,a.off+i+k,.none⟩=some v/\a.block < W.heap.size/\(i+k=0->a.spot = .none):=by
 have hb:((a.add i).add k).block=a.block:=by unfold Addr.add; split <;> split <;> rfl
 have ho:((a.add i).add k).off=a.off+i+k:=by
  unfold Addr.add;split <;> split <;> simp_all
 have hs:((a.add i).add k).spot = .none:=by
  unfold World.cell? at h;split at h
  ·split at h
   ·simp at h
   ·rename_i hs; simpa using hs
  ·simp at h
 have he:(a.add i).add k=⟨a.block,a.off+i+k,.none⟩:=by
  generalize (a.add i).add k=p at hb ho hs;obtain ⟨b,o,s⟩:=p;simp at hb ho hs;simp [hb,ho,hs]
 refine ⟨he ▸ h,?_,fun e=>?_⟩
 ·rw [he] at h
  unfold World.cell? at h;split at h
  ·rename_i heq
   exact (rA.1 heq).1
  ·simp at h
 ·have h1:i=0:=by omega
  have h2:k=0:=by omega
  subst h1 h2;simpa [Addr.add] using hs
theorem acK {a:Addr} {n:Nat} {cs:List Value} (h:W.cells? 0 a n=some cs):cs.length=n/\∀ (k:Nat) (v:Value),cs[k]? = some v->W.cell? (a.add k)=some v:=by
 unfold World.cells? at h;rw [aI (yK _)] at h;have hl:=mapM_some_length h;simp at hl;refine ⟨hl,fun k v hv=>?_⟩;have hk:k < n:=by rw [<- hl]; exact (cP.1 hv).1
 rw [mapM_some_get h k k (by simp [hk])];exact hv
theorem amb {ks:List KV} {agg:Bool} (h:zg P ks):JH P (OA agg ks):=by
 cases agg with
 | true=>exact h
 | false=>
  match ks,h with
  | [],_=>exact trivial
  | v::vs,h=>exact h.1
theorem Sq {E:Env} {ρ:Ren} : ∀ {ks:List CK} {vs:List KV} {m:List Value},aA ks vs=true->ba P E vs m->∀ v∈m,scalar v=true
 | [],[],m,_,h,v,hv=>by rw [h.bZ] at hv; simp at hv
 | [],_::_,_,h,_,_,_=>by simp [aA] at h
 | _::_,[],_,h,_,_,_=>by simp [aA] at h
 | k::ks,u::vs,m,h,hm,v,hv=>by
  simp only [aA,au] at h;obtain ⟨y,ys,rfl,h1,h2⟩:=hm.cons_inv;rcases dv.1 hv with rfl | hv
  ·refine h1.scalar ?_
   have:=h.1;cases u <;> first | rfl | (cases k <;> simp [kindOk] at this)
  ·exact Sq (ρ:=ρ) h.2 h2 v hv
theorem ZM {n:Nat} (IH:aa9 enc P W n) {fuel len c:Nat} {e:TypeId} {l:Lay} {a:Addr} (he:zh P n e=true) (hl:lay P 12 e=some l) (Fs:l.ks.length=c) (ha:l.agg=true\/l.ks.length=1) (hc:P.cellsOf e=c) (hc1:1<=c)
  (hx:∀ i,i < len->∃ x,(W.cells? 0 (a.add (i * c)) c).bind (DataW.trod enc P W 0 (fun _=>true) true fuel e)=some x/\∀ w∈DataW.weights P e x.1,w<=reachBytes) (hi:RE P W E B ρ):∀ j,j<=len->
  ∃ E' B' aJ es us fl,RE P W E' B' aJ/\E.le E'/\ρ.le aJ/\es.length=j/\ba P E' es us/\dV l es=true/\zg P es/\fl.length=j * c/\nG c 0 fl us/\
   (∀ (i:Nat) (v:Value),fl[i]? = some v->∃ v',W.cell? ⟨a.block,a.off+i,.none⟩=some v'/\VR aJ v v'/\scalar v=true)/\(0 < j->a.block < W.heap.size/\a.spot = .none)
 | 0,_=>⟨E,B,ρ,[],[],[],hi,Env.le_refl _,Ren.le_refl _,rfl,.nil,rfl,trivial,by simp,fun i x h=>by simp at h,fun i v h=>by simp at h,fun h=>by omega⟩
 | j+1,hj=>by
  obtain ⟨E1,B1,lr,es,us,fl,h1,h2,h3,h4,h5,h6,h7,h8,h9,rK,HU⟩:=ZM IH he hl Fs ha hc hc1 hx hi j (by omega);obtain ⟨x,Fz,OQ⟩:=hx j (by omega);obtain ⟨cs,Jp,hx2⟩:=cI.1 Fz;obtain ⟨hlen,lY⟩:=acK Jp;have AL:a.block < W.heap.size:=by
   have h0:0 < cs.length:=by rw [hlen]; omega
   exact (VW (lY 0 _ (cM h0))).2.1
  obtain ⟨E2,B2,tV,ks,q1,q2,q3,⟨m,q4,q4'⟩,q5,q6⟩:=IH e he fuel cs x E1 B1 lr hx2 OQ (fun _ _ _ _=>by omega) h1;have hk:=q6 12 l hl;have Xs:m.length=c:=by rw [q4.length,JI hk,Fs]
  have xb:l.agg=true\/m.length=1:=by rw [Xs,<- Fs]; exact ha
  have hsc:=Sq (ρ:=ρ) hk q4;have nL:=ab8 hsc xb;have hul:us.length=j:=by rw [h5.length,h4]
  refine ⟨E2,B2,tV,es++[OA l.agg ks],us++[mkE l.agg m],fl++m,q1,Env.le_trans h2 q2,Ren.le_trans h3 q3,by simp [h4],(h5.mono q2).append (.cons (ab9 q4 xb) .nil),?_,FJ h7 ⟨amb q5,trivial⟩,?_,?_,?_,fun _=>⟨AL,?_⟩⟩
  ·have:∀ {es:List KV},dV l es=true->dV l (es++[OA l.agg ks])=true:=by
    intro es
    induction es with
    | nil=>intro _; simp [dV,XT hk ha]
    | cons e es ih=>
     intro h;simp only [dV,au] at h;simp only [List.cons_append,dV,au];exact ⟨h.1,ih h.2⟩
   exact this h6
  ·rw [kF,h8,Xs,Nat.succ_mul]
  ·intro i y hy
   by_cases hi:i < j
   ·rw [oM (by omega)] at hy
    obtain ⟨r1,r2⟩:=h9 i y hy;refine ⟨r1,fun k z hz=>?_⟩;have:=r2 k z hz;rw [oM (cP.1 this).1];exact this
   ·rw [qd (by omega),hul] at hy
    have hij:i=j:=by
     have:=(cP.1 hy).1;simp at this;omega
    subst hij;simp at hy;subst hy;have dK:(mkE l.agg m).cells.size=c:=by rw [<- Array.length_toList,nL,Xs]
    refine ⟨dK,fun k z hz=>?_⟩;rw [<- Array.getElem?_toList,nL] at hz;rw [qd (by rw [h8]; omega),h8,show 0+i * c+k - i * c=k by omega];exact hz
  ·intro i v hv
   by_cases hi:i < fl.length
   ·rw [oM hi] at hv
    obtain ⟨v',r1,r2,r3⟩:=rK i v hv;exact ⟨v',r1,r2.mono q3,r3⟩
   ·rw [qd (by omega)] at hv
    obtain ⟨v',r1,r2⟩:=q4'.get hv;refine ⟨v',?_,r2,hsc v (fR hv)⟩;have:=(VW (lY _ _ r1)).1;rw [h8] at this;rw [h8] at hi;rw [show a.off+i=a.off+j * c+(i - j * c) by omega];exact this
  ·by_cases h0:j=0
   ·subst h0
    have h0:0 < cs.length:=by rw [hlen]; omega
    exact (VW (lY 0 _ (cM h0))).2.2 (by omega)
   ·exact (HU (by omega)).2
theorem DS {e:TypeId} : ∀ {l:List (DataW H)} {d:DataW H},d∈l->∀ w∈DataW.weights P e d,w∈DataW.weightsAll P e l
 | [],_,h,_,_=>by simp at h
 | x::l,d,h,w,hw=>by
  simp only [DataW.weightsAll,iW];rcases dv.1 h with rfl | h
  ·exact .inl hw
  ·exact .inr (DS h w hw)
theorem ait:∀ n,aa9 enc P W n
 | 0=>fun t ht=>by simp [zh] at ht
 | n+1=>by
  have IH:=ait n;intro t ht fuel cs x E B ρ hx hz hp hi;have hn:∀ {m l},lay P m t=some l->∃ m',m=m' + 1:=by
   intro m l h;cases m with
   | zero=>simp [lay] at h
   | succ m=>exact ⟨m,rfl⟩
  unfold zh at ht;split at ht
  ·rename_i k hu
   obtain ⟨i,rfl,_,hw⟩:=DataW.trod_int hu hx;refine ⟨E,B,ρ,[.int k i],hi,Env.le_refl _,Ren.le_refl _,⟨_,.cons .mkInt .nil,.cons (by simp [VR]) .nil⟩,⟨hw,trivial⟩,fun m l h=>?_⟩;obtain ⟨m',rfl⟩:=hn h;simp only [lay,hu,cJ] at h;subst h;simp [aA,kindOk]
  ·rename_i hu
   obtain ⟨b,rfl,_⟩:=DataW.trod_bool hu hx;refine ⟨E,B,ρ,[.bool b],hi,Env.le_refl _,Ren.le_refl _,⟨_,.cons .po .nil,.cons (by simp [VR]) .nil⟩,⟨trivial,trivial⟩,fun m l h=>?_⟩;obtain ⟨m',rfl⟩:=hn h;simp only [lay,hu,cJ] at h;subst h;simp [aA,kindOk]
  ·rename_i hu
   obtain ⟨s,rfl,_,hw⟩:=DataW.trod_string hu hx;refine ⟨E,B,ρ,[.str s],hi,Env.le_refl _,Ren.le_refl _,⟨_,.cons .mkStr .nil,.cons (by simp [VR]) .nil⟩,⟨hw,trivial⟩,fun m l h=>?_⟩;obtain ⟨m',rfl⟩:=hn h;simp only [lay,hu,cJ] at h;subst h;simp [aA,kindOk]
  ·rename_i e hu
   simp only [au] at ht;obtain ⟨⟨uQ,Pl⟩,ht3⟩:=ht;have hc1:=dI uQ;split at ht3
   ·rename_i l hl
    simp only [au,qe] at ht3;have Fs:=aW ht3.1;have xb:l.agg=true\/l.ks.length=1:=ht3.2.imp id aW;have hlF:aX P e=l:=by simp [aX,hl]
    have dK:bf P e=P.cellsOf e:=by rw [bf,hlF,Fs]
    have fin:∀ {ks:List KV} {m:Nat} {l' : Lay} {mk:Mk} {nn:Nat} {es:List KV} {acc:Nat->KV},mk = .any->lay P m t=some l'->ks = [.ts e mk nn es acc]->aA l'.ks ks=true:=by
     intro ks m l' mk nn es acc Vr h pT;obtain ⟨m',rfl⟩:=hn h;simp only [lay,hu,cJ] at h;subst h pT Vr;simp [aA,kindOk]
    rcases DataW.trod_slice hu hx with ⟨rfl,_⟩ | ⟨a,len,cap,elems,rest,fu,_,rfl,hxe,_,hle,alq,y8,hE,hR,_⟩
    ·refine ⟨E,B,ρ,[.ts e .any 0 [] l7],hi,Env.le_refl _,Ren.le_refl _,⟨[.slice .none 0 0],.cons ?_ .nil,.cons (by simp [VR]) .nil⟩,⟨⟨yK _,trivial,rfl,by rw [Nat.zero_mul]; exact yK _⟩,trivial⟩,fun m l h=>fin rfl h rfl⟩
     simp only [VK];exact ⟨⟨rfl,fun i h=>by omega,rfl⟩,[],.nil,.none,0,rfl,aH _,.inl ⟨rfl,rfl⟩,trivial⟩
    ·have apo:len * P.bytesOf e<=reachBytes:=by
      refine kH (Nat.mul_le_mul_right _ ?_) (hz ((elems.length+rest.length) * P.bytesOf e) ?_)
      ·omega
      ·rw [hxe]; simp [DataW.weights,hu]
     have hxs:∀ i,i < len->∃ x,(W.cells? 0 (a.add (i * P.cellsOf e)) (P.cellsOf e)).bind (DataW.trod enc P W 0 (fun _=>true) true fu e)=some x/\∀ w∈DataW.weights P e x.1,w<=reachBytes:=by
      intro i h;rw [hE i h];have hi:i < elems.length:=by rw [y8]; exact h
      refine ⟨_,cM hi,fun w hw=>hz w ?_⟩;rw [hxe];have:=DS (l:=elems.map (·.1)) (List.mem_map.2 ⟨_,L6 hi,rfl⟩) w hw;simp only [DataW.weights,hu,dv,iW];exact .inr (.inl this)
     obtain ⟨E1,B1,lr,es,us,fl,h1,h2,h3,h4,h5,h6,h7,h8,h9,rK,HU⟩:=ZM IH Pl hl Fs xb rfl hc1 hxs hi len (aH _);have DG:0 < cap->a.block < W.heap.size/\a.spot = .none:=by
      intro h0;by_cases OU:0 < len
      ·exact HU OU
      ·have OU:len=0:=by omega
       subst OU;obtain ⟨hr1,tK⟩:=hR rfl;have hr3:=tK 0 (by omega);rw [cM (by rw [hr1]; omega)] at hr3;obtain ⟨bV,anH,_⟩:=cI.1 hr3;obtain ⟨hlen,lY⟩:=acK anH;have h0:0 < bV.length:=by rw [hlen]; omega
       have:=VW (lY 0 _ (cM h0));exact ⟨this.2.1,this.2.2 (by omega)⟩
     have hh:0 < W.heap.size:=hp a len cap (by simp);have hlenes:us.length=len:=by rw [h5.length,h4]
     have arO:∃ lc:aq.Loc,lc.bH=P.cellsOf e/\lc.cb < W.heap.size/\lc.dn+fl.length<=lc.yR/\(cap≠0->a=⟨lc.cb,lc.dn,.none⟩)/\lc.dn+cap * lc.bH<=lc.yR/\
       (∀ (i:Nat) (v:Value),fl[i]? = some v->∃ v',W.cell? ⟨lc.cb,lc.dn+i,.none⟩=some v'/\VR lr v v'/\scalar v=true):=by
      by_cases h0:cap=0
      ·subst h0
       have OU:len=0:=by omega
       subst OU;refine ⟨⟨0,0,0,P.cellsOf e⟩,rfl,hh,by simp [h8],fun h=>absurd rfl h,by simp,fun i v hv=>?_⟩;have:fl = []:=by apply List.eq_nil_of_length_eq_zero; simp [h8]
       rw [this] at hv; simp at hv
      ·obtain ⟨p1,p2⟩:=DG (by omega)
       refine ⟨⟨a.block,a.off,a.off+cap * P.cellsOf e,P.cellsOf e⟩,rfl,p1,?_,fun _=>?_,aH _,rK⟩
       ·rw [h8]; exact Nat.add_le_add_left (Nat.mul_le_mul_right _ hle) _
       ·obtain ⟨b,o,s⟩:=a
        simp at p2;simp [p2]
     obtain ⟨lc,l1,l2,l3,l4,l5,l6⟩:=arO;obtain ⟨i1,i2,i3⟩:=h1.add l6 l2 l3;refine ⟨_,_,_,[.ts e .any len es (lU es)],i1,Env.le_trans h2 i2,Ren.le_trans h3 i3,⟨[.slice (some ⟨B1.next,0,.none⟩) len len],.cons ?_ .nil,.cons ?_ .nil⟩,⟨⟨by omega,h7,rfl,apo⟩,trivial⟩,fun m l h=>fin rfl h rfl⟩
     ·simp only [VK]
      refine ⟨⟨h4.symm,fun i _=>rfl,by rw [hlF]; exact h6⟩,us,h5.mono i2,some ⟨B1.next,0,.none⟩,len,rfl,aH _,.inr ⟨B1.next,0,⟨fl,lc.bH,false,.none⟩,rfl,by simp [Env.eZ],by rw [l1,dK],?_⟩,trivial⟩;rw [dK];exact h9
     ·simp only [VR]
      exact ⟨trivial,aH _,lc,a,cap,by simp [Ren.set],hle,fun h=>by simpa using l4 h,by simpa using l5,rfl⟩
   ·simp at ht3
  ·rename_i fs hu
   simp only [au,eM] at ht;split at ht
   ·rename_i k hk
    have hkc:=aW ht.2;obtain ⟨xs,fu,_,hxe,hlen,hxs,hf⟩:=DataW.trod_struct hu hx;have hff:∀ f∈fs.toList,∃ x,DataW.trod enc P W 0 (fun _=>true) true fu f.type ((cs.drop f.offset).take (P.cellsOf f.type))=some x/\∀ w∈DataW.weights P f.type x.1,w<=reachBytes:=by
     intro f hm;obtain ⟨i,hi'⟩:=List.getElem?_of_mem hm;have hi2:fs[i]? = some f:=by simpa using hi'
     have bh:i < xs.length:=by rw [hxs]; exact (rA.1 hi2).1
     refine ⟨xs[i],by rw [hf i f hi2]; exact cM bh,fun w hw=>hz w ?_⟩;rw [hxe];simp only [DataW.weights,hu];exact DataW.weights_mem_each (j:=i) (t:=f.type) (d:=xs[i].1) (by rw [uG,hi']; rfl) (by rw [uG,cM bh]; rfl) w hw
    obtain ⟨_,E1,B1,lr,ks,h1,h2,h3,h4,h5,h6⟩:=VV IH hp fs.toList 0 k E B ρ hi hk (by rw [hkc,hlen]; exact aH _) ht.1 hff;refine ⟨E1,B1,lr,ks,h1,h2,h3,?_,h5,fun m l h=>?_⟩
    ·have e:(cs.drop 0).take (k - 0)=cs:=by rw [List.drop_zero,Nat.sub_zero,hkc,<- hlen,List.take_length]
     rw [e] at h4;exact h4
    ·obtain ⟨m',rfl⟩:=hn h
     simp only [lay,hu,cC] at h;obtain ⟨l',qb,rfl⟩:=h;exact h6 m' l' qb
   ·simp at ht
  ·rename_i len e hu
   simp only [au] at ht;have hkc:=aW ht.2;obtain ⟨xs,fu,_,hxe,hlen,hxs,hf⟩:=DataW.trod_array hu hx;have hff:∀ i,i < len->∃ x,DataW.trod enc P W 0 (fun _=>true) true fu e ((cs.drop (i * P.cellsOf e)).take (P.cellsOf e))=some x/\∀ w∈DataW.weights P e x.1,w<=reachBytes:=by
    intro i h;have hi:i < xs.length:=by rw [hxs]; exact h
    refine ⟨xs[i],by rw [hf i h]; exact cM hi,fun w hw=>hz w ?_⟩;rw [hxe];simp only [DataW.weights,hu];exact DS (l:=xs.map (·.1)) (List.mem_map.2 ⟨_,L6 hi,rfl⟩) w hw
   obtain ⟨E1,B1,lr,ks,h1,h2,h3,h4,h5,h6⟩:=ZL IH hp ht.1 rfl (by rw [hlen,hkc]; exact aH _) hff hi len (aH _);refine ⟨E1,B1,lr,ks,h1,h2,h3,?_,h5,fun m l h=>?_⟩
   ·rw [<- hkc,<- hlen,List.take_length] at h4
    exact h4
   ·obtain ⟨m',rfl⟩:=hn h
    simp only [lay,hu,cC] at h;obtain ⟨l',qb,rfl⟩:=h;exact h6 m' l' qb
  ·simp at ht
end
end Go.K
end
section
namespace Go.K
open Go Go.aq Go.WideShapes
mutual
def xt (P:Program):KV->Prop
 | .ts T _ n es acc=>gL P T n es acc/\uW P es
 | .agg cs=>uW P cs
 | _=>True
def uW (P:Program):List KV->Prop
 | []=>True
 | v::vs=>xt P v/\uW P vs
end
mutual
theorem VK.deep {P:Program} {E:Env} : ∀ {v:KV} {u:Value},VK P E v u->xt P v
 | .ts T m n es acc,u,h=>by
  obtain ⟨h1,us,h2,_⟩:=h.jY;exact ⟨h1,ba.deep h2⟩
 | .agg cs,u,h=>by
  obtain ⟨l,_,h1⟩:=h.jP;exact ba.deep (vs:=cs) h1
 | .int _ _,_,_ | .bool _,_,_ | .str _,_,_ | .jV _,_,_ | .tp ..,_,_ | .ptr ..,_,_ | .al ..,_,_ | .ap ..,_,_ | .sl ..,_,_ | .E4,_,_ | .jz,_,_ | .yX,_,_ | .map _,_,_ | .fn ..,_,_ | .Gs,_,_ | .iface ..,_,_ | .Gt,_,_ | .bA,_,_=>trivial
theorem ba.deep {P:Program} {E:Env} : ∀ {vs:List KV} {us:List Value},ba P E vs us->uW P vs
 | [],_,_=>trivial
 | v::vs,us,h=>by
  simp only [ba] at h;obtain ⟨y,ys,_,h1,h2⟩:=h;exact ⟨VK.deep h1,ba.deep h2⟩
end
def j2 (P:Program):List TypeId->List KV->Bool
 | [],[]=>true
 | t::ts,v::vs=>cl (aX P t) v&&j2 P ts vs
 | _,_=>false
theorem ZN {P:Program} : ∀ {ts:List TypeId} {asg:List KV},j2 P ts asg=true->asg.length=ts.length
 | [],[],_=>rfl
 | [],_::_,h=>by simp [j2] at h
 | _::_,[],h=>by simp [j2] at h
 | t::ts,v::vs,h=>by
  simp only [j2,au] at h;simp [ZN h.2]
def VX (P:Program) (t:TypeId):Bool:=zh P 30 t&&(match lay P 12 t with
 | some l=>Nat.beq l.ks.length (P.cellsOf t)
 | .none=>false)
section
variable {H:Type} {enc:TypeId×Value->H} {P:Program} {W:World}
theorem agu {r:Reach} {base:Nat} {t:TypeId} {v:Value} (h:Value.okWide P W r base t v):acI W v.cells.toList:=by
 intro a n c hm;have cell:∀ u,Cell.okWide P W r base u (.slice (some a) n c)->0 < W.heap.size:=by
  intro u hu;unfold Cell.okWide at hu;split at hu <;> try (rename_i heq; simp at heq; done)
  unfold Cell.ok at hu;split at hu <;> try (rename_i heq; simp at heq; done)
  ·rename_i e heq
   simp at heq;obtain ⟨rfl,rfl,rfl⟩:=heq;obtain ⟨_,_,_,_,row,cells,hs,_⟩:=hu;unfold World.shape? at hs;split at hs
   ·rename_i hh
    have:=(rA.1 hh).1;omega
   ·simp at hs
  ·exact hu.elim
 unfold Value.okWide at h;split at h
 ·obtain ⟨cs,rfl,_,ts,_,_,hc⟩:=h
  obtain ⟨i,hi⟩:=List.getElem?_of_mem hm;obtain ⟨u,_,hu⟩:=hc i _ (by simpa [Value.cells] using hi);exact cell u hu
 ·obtain ⟨cs,rfl,_,ts,_,_,hc⟩:=h
  obtain ⟨i,hi⟩:=List.getElem?_of_mem hm;obtain ⟨u,_,hu⟩:=hc i _ (by simpa [Value.cells] using hi);exact cell u hu
 ·have hv:v.cells.toList = [v]\/∃ cs,v = .agg cs:=by cases v <;> first | exact .inl rfl | exact .inr ⟨_,rfl⟩
  rcases hv with hv | ⟨cs,rfl⟩
  ·rw [hv] at hm
   simp at hm;subst hm;exact cell t h
  ·exfalso
   unfold Cell.okWide at h;split at h <;> try (rename_i heq; simp at heq; done)
   unfold Cell.ok at h;split at h <;> first | (rename_i heq; simp at heq; done) | exact h.elim
theorem amU {E:Env} {B:St} {ρ:Ren} {t:TypeId} {v:Value} {d:DataW H} {ps:List MemPlace} {r:Reach} {base:Nat} (ht:VX P t=true) (hd:DataW.Trod enc P W 0 (fun _=>true) true t v d ps) (hz:∀ w∈DataW.weights P t d,w<=reachBytes) (hw:Value.okWide P W r base t v) (hi:RE P W E B ρ) :
  ∃ E' B' aJ a,RE P W E' B' aJ/\E.le E'/\ρ.le aJ/\VC P E' aJ a v/\cl (aX P t) a=true/\JH P a:=by
 unfold VX at ht;simp only [au] at ht;obtain ⟨uQ,Pl⟩:=ht;split at Pl
 ·rename_i l hl
  obtain ⟨fuel,hf⟩:=hd;obtain ⟨E1,B1,lr,ks,h1,h2,h3,⟨m,h4,h4'⟩,h5,h6⟩:=ait 30 t uQ fuel _ _ E B ρ hf hz (agu hw) hi;have hk:=h6 12 l hl;have hlF:aX P t=l:=by simp [aX,hl]
  have amc:(l.agg=true/\∃ cs:Array Value,v = .agg cs)\/(l.agg=false/\l.ks.length=1/\v.cells.toList = [v]):=by
   unfold zh at uQ;split at uQ
   ·rename_i k hu
    obtain ⟨n,rfl⟩:=okWide_int hu hw;simp only [lay,hu,cJ] at hl;subst hl; exact .inr ⟨rfl,rfl,rfl⟩
   ·rename_i hu
    obtain ⟨n,rfl⟩:=okWide_bool hu hw;simp only [lay,hu,cJ] at hl;subst hl; exact .inr ⟨rfl,rfl,rfl⟩
   ·rename_i hu
    obtain ⟨n,rfl⟩:=okWide_string hu hw;simp only [lay,hu,cJ] at hl;subst hl; exact .inr ⟨rfl,rfl,rfl⟩
   ·rename_i e hu
    obtain ⟨a,n,c,rfl⟩:=okWide_slice hu hw;simp only [lay,hu,cJ] at hl;subst hl; exact .inr ⟨rfl,rfl,rfl⟩
   ·rename_i fs hu
    simp only [lay,hu,cC] at hl;obtain ⟨_,_,rfl⟩:=hl;unfold Value.okWide at hw;rw [hu] at hw;obtain ⟨cs,rfl,_⟩:=hw;exact .inl ⟨rfl,cs,rfl⟩
   ·rename_i len e hu
    simp only [lay,hu,cC] at hl;obtain ⟨_,_,rfl⟩:=hl;unfold Value.okWide at hw;rw [hu] at hw;obtain ⟨cs,rfl,_⟩:=hw;exact .inl ⟨rfl,cs,rfl⟩
   ·simp at uQ
  refine ⟨E1,B1,lr,OA l.agg ks,h1,h2,h3,?_,?_,amb h5⟩
  ·rcases amc with ⟨ha,cs,rfl⟩ | ⟨ha,hlen,hv⟩
   ·rw [ha]
    exact ⟨.agg ⟨m⟩,.ow h4,VR.ow (l':=cs.toList) h4'⟩
   ·rw [ha]
    rw [hv] at h4';have Xs:m.length=1:=by have:=h4'.length; simpa using this.symm
    have:=ab9 (agg:=false) h4 (.inr Xs)
    match m,Xs,h4',this with
    | [y],_,h4',this=>
     obtain ⟨z,zs,e,q1,_⟩:=h4'.cons_inv;simp at e;refine ⟨y,this,?_⟩;rw [e.1]; exact q1
  ·rw [hlF]
   exact XT hk (amc.imp (·.1) (·.2.1))
 ·simp at Pl
theorem acL {r:Reach} {base:Nat} : ∀ {ts:List TypeId} {vs:List Value} {ds:List (DataW H)} {ps:List MemPlace} {E:Env} {B:St} {ρ:Ren},(∀ t∈ts,VX P t=true)->DataW.TrodAll enc P W 0 (fun _=>true) true ts vs ds ps->(∀ w∈DataW.weightsEach P ts ds,w<=reachBytes)->
  (∀ (j:Nat) t v,ts[j]? = some t->vs[j]? = some v->Value.okWide P W r base t v)->RE P W E B ρ->∃ E' B' aJ asg,RE P W E' B' aJ/\E.le E'/\ρ.le aJ/\qc P E' aJ asg vs/\j2 P ts asg=true/\zg P asg
 | [],vs,ds,ps,E,B,ρ,_,h,_,_,hi=>by
  obtain ⟨rfl,_,_⟩:=Go.ChangeShapes.trodAll_nil h;exact ⟨E,B,ρ,[],hi,Env.le_refl _,Ren.le_refl _,⟨[],.nil,.nil⟩,rfl,trivial⟩
 | t::ts,vs,ds,ps,E,B,ρ,ht,h,hz,hw,hi=>by
  obtain ⟨v,vs1,d,ds1,a,b,rfl,rfl,rfl,h1,h2⟩:=Go.ChangeShapes.trodAll_cons h;obtain ⟨E1,B1,lr,x,q1,q2,q3,⟨u,q4,q4'⟩,q5,q6⟩:=amU (ht t (by simp)) h1 (fun w hw=>hz w (by simp only [DataW.weightsEach,iW]; exact .inl hw)) (hw 0 t v rfl rfl) hi;obtain ⟨E2,B2,tV,xs,p1,p2,p3,⟨m,p4,p4'⟩,p5,p6⟩:=acL (fun t' h'=>ht t' (by simp [h'])) h2 (fun w hw=>hz w (by simp only [DataW.weightsEach,iW]; exact .inr hw)) (fun j t' v' h3 h4=>hw (j+1) t' v' (by simpa using h3) (by simpa using h4)) q1;exact ⟨E2,B2,tV,x::xs,p1,Env.le_trans q2 p2,Ren.le_trans q3 p3,⟨u::m,.cons (q4.mono p2) p4,.cons (q4'.mono p3) p4'⟩,by simp [j2,q5,p5],⟨q6,p6⟩⟩
theorem Sr:∀ {ts us:List TypeId} {ds gs:List (DataW H)},∀ w∈DataW.weightsEach P ts ds,w∈DataW.weightsEach P (ts++us) (ds++gs)
 | [],_,_,_,w,h=>by simp [DataW.weightsEach] at h
 | _::_,_,[],_,w,h=>by simp [DataW.weightsEach] at h
 | t::ts,us,d::ds,gs,w,h=>by
  simp only [List.cons_append,DataW.weightsEach,iW] at h ⊢;exact h.imp id (Sr w)
theorem aiu {ts us:List TypeId} {ds gs:List (DataW H)} (h:(DataW.weightsEach P (ts++us) (ds++gs)).all (·<=reachBytes)=true):∀ w∈DataW.weightsEach P ts ds,w<=reachBytes:=fun w hw=>by
 have:=eM.1 h w (Sr w hw);simpa using this
theorem apq (hP:P.funcs.toList.all mA=true) (hm:P.follows .mixedOrders=true) {cfg:dE} (gw:ru P cfg.pc) (kU:xl P cfg) {L n:Nat} {f:FuncId} {ts:List TypeId} (hts:ts.all (VX P)=true)
  (kh:∀ asg,j2 P ts asg=true->zg P asg->uW P asg->xh P cfg L n f (normArgs P ts asg)=some (.bool true)) {args:Array Value} {ds:List (DataW H)} {ps:List MemPlace} {r:Reach} {base:Nat}
  (hd:DataW.TrodAll enc P W 0 (fun _=>true) true ts args.toList ds ps) (hz:∀ w∈DataW.weightsEach P ts ds,w<=reachBytes) (hw:∀ (j:Nat) t v,ts[j]? = some t->args.toList[j]? = some v->Value.okWide P W r base t v) :
  Calls P f args W fun e w'=>e = .returned (.bool true)/\RowKit.Below W.heap.size W w':=by
 obtain ⟨E,B,ρ,asg,h1,_,_,h4,h5,h6⟩:=acL (eM.1 hts) hd hz hw (RE.start P W);have aqI:uW P asg:=by obtain ⟨m,q,_⟩:=h4; exact q.deep
 have j5:=kh asg h5 h6 aqI;have h4:qc P E ρ (normArgs P ts asg) args.toList:=by
  obtain ⟨m,q,q'⟩:=h4;exact ⟨m,ba.Py (.of rfl) q (ZN h5),q'⟩
 have sX:=sI (R:=KV) hP hm gw kU L n;obtain ⟨fn,c,hf,hc,cQ,hnm,j5⟩:=Px hP j5;have:=MV gw sX hm L hf hc cQ (kU.2 f fn c hf hc) j5 h4 (base:=W.heap.size) (w:=W) ⟨h1.k,h1.gX⟩;refine this.mono ?_;rintro e w' ⟨vs,cE,E1,A1,B1,lr,rfl,⟨m,q1,q1'⟩,q2,q3⟩;have q3:Bool.rec (motive:=fun _=>Option KV) .none (some (Gw (uN P (qz P f) (vy A1 vs).1))) (Nat.beq vs.length (qz P f).length)=some (.bool true):=q3;obtain ⟨E2,_,q1⟩:=Ii q2.gX q1;cases hb:Nat.beq vs.length (qz P f).length with
 | false=>rw [hb] at q3; exact absurd q3 (by simp)
 | true=>
  rw [hb] at q3;have q3:some (Gw (uN P (qz P f) (vy A1 vs).1))=some (.bool true):=q3;simp only [cJ] at q3;have hv:VC P E2 lr (Gw (uN P (qz P f) (vy A1 vs).1)) (agn cE):=Pw ⟨m,by rw [GI]; exact ba.Py (.of rfl) q1 ((MM A1 vs).trans (aW hb)),q1'⟩;rw [q3] at hv;have hg:=q2.eF;refine ⟨by rw [hv.dY],hg.kept.os,hg.kept.tape,hg.kept.output,hg.kept.size,fun k hk=>hg.kept.block k hk ?_⟩;rintro ⟨b,o,l,ho,Jt,_⟩;rw [(h1.se b o ho).1] at Jt;simp at Jt
end
noncomputable def afr:List (Nat×(List KV->KR KV))->FuncId->Option (List KV->KR KV)
 | [],_=>.none
 | p::ps,g=>cond (Nat.beq p.1 g) (some p.2) (afr ps g)
theorem amd {P:Program} : ∀ {ps:List (Nat×(List KV->KR KV))},(∀ p∈ps,aY P p.1 p.2)->ru P (afr ps)
 | [],_=>fun g F h=>by simp [afr] at h
 | p::ps,h=>fun g F hF=>by
  unfold afr at hF;cases hb:Nat.beq p.1 g with
  | true=>
   rw [hb] at hF;simp only [aj,cJ] at hF;have:=aW hb;subst this hF;exact h p (by simp)
  | false=>
   rw [hb] at hF;exact amd (fun q hq=>h q (uF _ hq)) g F hF
theorem aiv (l:Lay):cl l .bA=false:=by
 show (!l.agg&&aA l.ks [.bA])=false;cases l.ks with
 | nil=>simp [aA]
 | cons c cs=>cases c <;> simp [aA,kindOk]
theorem aks {P:Program} {t:TypeId} {v:KV} (h:cl (aX P t) (Vh P t v)=true):∃ w,Vh P t v=eE P (bI P dx) t w:=by
 unfold Vh at h ⊢;cases hb:cl (aX P t) (dy (aX P t) v) with
 | false=>rw [hb,aF,aiv] at h; simp at h
 | true=>exact ⟨dy (aX P t) v,rfl⟩
theorem M3:∀ {ks:List CK} {cs:List KV},aA ks cs=true->yY ks cs=cs
 | [],[],_=>rfl
 | [],_::_,h=>by simp [aA] at h
 | _::_,[],h=>by simp [aA] at h
 | k::ks,v::vs,h=>by
  simp only [aA,au] at h;have e:lM k v=v:=by
   unfold lM;split
   ·simp [kindOk] at h
   ·rename_i t t' m n es acc
    cases m <;> simp [kindOk] at h;obtain ⟨rfl,_⟩:=h;rw [tf,aj]
   ·rw [h.1]; rfl
  rw [yY,e,M3 h.2]
theorem aiw {l:Lay} {v:KV} (h:cl l v=true):dy l v=v:=by
 by_cases ha:∃ cs,v = .agg cs
 ·obtain ⟨cs,rfl⟩:=ha
  simp only [cl,au] at h;show cond (l.agg&&Nat.beq cs.length l.ks.length) (KV.agg (yY l.ks cs)) .bA=_;rw [h.1,pr h.2,M3 h.2];simp
 ·have h1:(!l.agg&&aA l.ks [v])=true:=by
   cases v <;> first | exact h | exact absurd ⟨_,rfl⟩ ha | simp [cl] at h
  simp only [au,jT] at h1;have e:dy l v=cond l.agg .bA (match l.ks with | [c]=>lM c v | _=>.bA):=by
   cases v <;> first | rfl | exact absurd ⟨_,rfl⟩ ha
  rw [e,h1.1,aF]
  match hk:l.ks,h1.2 with
  | [c],h2=>
   have:=M3 h2;simpa [yY] using this
  | [],h2=>simp [aA] at h2
  | _::_::_,h2=>simp [aA] at h2
theorem akt {P:Program} {t:TypeId} {v:KV} (h:cl (aX P t) v=true):Vh P t v=eE P (bI P dx) t v:=by
 unfold Vh;rw [aiw h,h,aj]
noncomputable def rO (P:Program):List TypeId->(Nat->KV)->Nat->List KV
 | [],_,_=>[]
 | t::ts,w,k=>eE P (bI P dx) t (w k)::rO P ts w (Nat.succ k)
theorem VY {P:Program} : ∀ {ts:List TypeId} {w w' : Nat->KV} {k:Nat},(∀ i,k<=i->w i=w' i)->rO P ts w k=rO P ts w' k
 | [],_,_,_,_=>rfl
 | t::ts,w,w',k,h=>by
  rw [rO,rO,h k (aH _),VY fun i hi=>h i (by omega)]
theorem M4 {P:Program} : ∀ {ts:List TypeId} {asg:List KV} (k:Nat),j2 P ts (normArgs P ts asg)=true->∃ w,normArgs P ts asg=rO P ts w k
 | [],asg,k,_=>⟨fun _=>.bA,by cases asg <;> rfl⟩
 | t::ts,[],k,h=>by simp [normArgs,j2] at h
 | t::ts,v::vs,k,h=>by
  simp only [normArgs,j2,au] at h;obtain ⟨w,hw⟩:=aks h.1;obtain ⟨w',hw'⟩:=M4 (k+1) h.2;refine ⟨fun i=>if i=k then w else w' i,?_⟩;rw [normArgs,rO,hw,hw',aI rfl];rw [VY (w:=w') (w':=fun i=>if i=k then w else w' i) fun i hi=>by rw [ak (by omega)]]
theorem acM {P:Program} : ∀ {ts:List TypeId} {asg:List KV} (k:Nat) {w:Nat->KV},j2 P ts asg=true->(∀ i,i < asg.length->w (k+i)=asg.getD i .bA)->normArgs P ts asg=rO P ts w k
 | [],[],k,_,_,_=>rfl
 | [],_::_,_,_,h,_=>by simp [j2] at h
 | _::_,[],_,_,h,_=>by simp [j2] at h
 | t::ts,v::vs,k,w,h,hw=>by
  simp only [j2,au] at h;rw [normArgs,rO,akt h.1,acM (k+1) (w:=w) h.2 fun i hi=>by have:=hw (i+1) (by simp; omega); rw [show k+1+i=k+(i+1) by omega,this]; rfl];have:=hw 0 (by simp);rw [yL] at this;rw [this]; rfl
noncomputable def aZ (P:Program) (g:FuncId) (F:List KV->KR KV):List KV->KR KV:=fun asg=>cond (j2 P (cn P g) asg) (F asg) .no
theorem aou {P:Program} {g:FuncId} {F:List KV->KR KV} (hP:P.funcs.toList.all mA=true) (hm:P.follows .mixedOrders=true) {cfg:dE} (gw:ru P cfg.pc) (kU:xl P cfg) {L n:Nat}
  (h:∀ w v,aK (F (rO P (cn P g) w 0)) v->xh P cfg L n g (rO P (cn P g) w 0)=some v) (hy:Nat.blt g yB=true:=by rfl):aY P g (aZ P g F):=
 aob hy hP hm fun asg v _ hF=>by
  unfold aZ at hF;obtain ⟨hb,hF⟩:=aK.cond hF;obtain ⟨w,hw⟩:=M4 0 hb;rw [hw] at hF ⊢;exact ⟨cfg,L,n,gw,kU,h w v hF⟩
noncomputable def aov (P:Program) (d:CD) (w:KV):KV:=
 match d with
 | .k c=>bI P dx (leaf c w)
 | .lit v=>v
 | .aQ t=>bI P dx (leaf (.slice t) w)
 | .arr t=>bI P dx (leaf (.slice t) w)
 | .ref v=>v
noncomputable def JK (P:Program):List CD->(Nat->KV)->Nat->List KV
 | [],_,_=>[]
 | d::ds,w,k=>aov P d (w k)::JK P ds w (Nat.succ k)
noncomputable def agv (P:Program) (d:VD) (w:Nat->KV):KV:=Bool.rec (motive:=fun _=>KV) ((JK P d.ks w 0).headD .bA) (.agg (JK P d.ks w 0)) d.agg
noncomputable def nb (P:Program):List (Tmp×VD)->(Nat->Nat->KV)->Nat->List KV
 | [],_,_=>[]
 | p::ps,w,k=>agv P p.2 (w k)::nb P ps w (Nat.succ k)
noncomputable def nc (P:Program):List (Tmp×List CD×Nat)->(Nat->Nat->KV)->Nat->List (List KV)
 | [],_,_=>[]
 | p::ps,w,k=>JK P p.2.1 (w k) 0::nc P ps w (Nat.succ k)
theorem afs {P:Program} {A:ao} {d:CD} {v:KV} (h:iD d (ee P A d v)=true):∃ w,ee P A d v=aov P d w:=by
 cases d with
 | ref u=>exact ⟨.bA,rfl⟩
 | k c=>
  have e:ee P A (.k c) v=cond (kindOk c (lM c v)) (bI P dx (leaf c (lM c v))) .bA:=rfl;cases hb:kindOk c (lM c v) with
  | true=>exact ⟨lM c v,by rw [e,hb]; rfl⟩
  | false=>
   rw [e,hb] at h;cases c <;> simp [iD,kindOk] at h
 | lit u=>
  have e:ee P A (.lit u) v=cond (ua u v) u .bA:=rfl;cases hb:ua u v with
  | true=>exact ⟨.bA,by rw [e,hb]; rfl⟩
  | false=>
   rw [e,hb,aF] at h;have h:ua u .bA=true:=h;cases u <;> first | (simp [ua] at h; done) | (rename_i f a b; cases f <;> cases a <;> cases b <;> simp [ua] at h)
 | aQ t=>
  cases v with
  | jz=>exact ⟨.ts t .any 0 [] l7,rfl⟩
  | ts t' m n es acc=>
   cases m with
   | aQ f=>
    have e:ee P A (.aQ t) (.ts t' (.aQ f) n es acc)=cond (Nat.beq t t') (bI P dx (.ts t .any n es acc)) .bA:=rfl;cases hb:Nat.beq t t' with
    | true=>exact ⟨.ts t .any n es acc,by rw [e,hb]; rfl⟩
    | false=>rw [e,hb] at h; simp [iD,kindOk] at h
   | _=>simp [ee,iD,kindOk] at h
  | _=>simp [ee,iD,kindOk] at h
 | arr t=>
  rcases X5 h with rfl | ⟨b,n,m,N,es,acc,rfl,_,he⟩
  ·exact ⟨.ts t .any 0 [] l7,rfl⟩
  ·exact ⟨.ts t .any N es acc,he⟩
theorem VZ {P:Program} : ∀ {ds:List CD} {w w' : Nat->KV} {k:Nat},(∀ i,k<=i->w i=w' i)->JK P ds w k=JK P ds w' k
 | [],_,_,_,_=>rfl
 | t::ts,w,w',k,h=>by
  rw [JK,JK,h k (aH _),VZ fun i hi=>h i (by omega)]
theorem X9 {P:Program} {A:ao} : ∀ {ds:List CD} {vs:List KV} (k:Nat),di ds (ef P A ds vs)=true->∃ w,ef P A ds vs=JK P ds w k
 | [],vs,k,_=>⟨fun _=>.bA,by cases vs <;> rfl⟩
 | d::ds,[],k,h=>by simp [ef,di] at h
 | d::ds,v::vs,k,h=>by
  simp only [ef,di,au] at h;obtain ⟨w,hw⟩:=afs h.1;obtain ⟨w',hw'⟩:=X9 (k+1) h.2;refine ⟨fun i=>if i=k then w else w' i,?_⟩;rw [ef,JK,hw,hw',aI rfl];rw [VZ (w:=w') (w':=fun i=>if i=k then w else w' i) fun i hi=>by rw [ak (by omega)]]
theorem amV {P:Program} {A:ao} {d:VD} {v:KV} (h:uR d (tq P A d v)=true):∃ w,tq P A d v=agv P d w:=by
 have xb:=wa h;rcases wb h with ⟨cs,rfl,h1,h2,h3⟩ | ⟨h0,c,h1,h2,h3,h4,h5⟩
 ·obtain ⟨w,hw⟩:=X9 0 h3
  refine ⟨w,?_⟩;have:d.agg=true:=by
   rcases xb with ⟨_,_,q,_⟩ | ⟨q,_⟩
   ·exact q
   ·exact absurd h2 (q _)
  rw [h2,hw,agv,this]
 ·obtain ⟨w,hw⟩:=afs h3
  refine ⟨fun _=>w,?_⟩;have:d.agg=false:=by
   rcases xb with ⟨cs,q,_⟩ | ⟨_,q,_⟩
   ·rw [h2] at q; exact absurd q (h5 _)
   ·exact q
  rw [h2,hw,agv,this,h1]; rfl
theorem Ss {P:Program} : ∀ {ps:List (Tmp×VD)} {w w' : Nat->Nat->KV} {k:Nat},(∀ i,k<=i->w i=w' i)->nb P ps w k=nb P ps w' k
 | [],_,_,_,_=>rfl
 | t::ts,w,w',k,h=>by
  rw [nb,nb,h k (aH _),Ss fun i hi=>h i (by omega)]
theorem acN {P:Program} {t:bq} {A:ao} : ∀ {ps:List (Tmp×VD)} (k:Nat),gm ps (oA P t A ps)=true->∃ w,oA P t A ps=nb P ps w k
 | [],k,_=>⟨fun _ _=>.bA,rfl⟩
 | p::ps,k,h=>by
  simp only [oA,gm,au] at h;obtain ⟨w,hw⟩:=amV h.1;obtain ⟨w',hw'⟩:=acN (k+1) h.2;refine ⟨fun i=>if i=k then w else w' i,?_⟩;rw [oA,nb,hw,hw',aI rfl];rw [Ss (w:=w') (w':=fun i=>if i=k then w else w' i) fun i hi=>by rw [ak (by omega)]]
theorem Su {P:Program} : ∀ {ps:List (Tmp×List CD×Nat)} {w w' : Nat->Nat->KV} {k:Nat},(∀ i,k<=i->w i=w' i)->nc P ps w k=nc P ps w' k
 | [],_,_,_,_=>rfl
 | t::ts,w,w',k,h=>by
  rw [nc,nc,h k (aH _),Su fun i hi=>h i (by omega)]
theorem acO {P:Program} : ∀ {ps:List (Tmp×List CD×Nat)} {rs:List (List KV)} (k:Nat),rs.length=ps.length->(∀ (i:Nat) p r,ps[i]? = some p->rs[i]? = some r->di p.2.1 r=true)->
  (∀ (i:Nat) p,ps[i]? = some p->∃ A kL,rs[i]? = some (ef P A p.2.1 kL)/\kL.length=p.2.1.length)->∃ w,rs=nc P ps w k
 | [],[],k,_,_,_=>⟨fun _ _=>.bA,rfl⟩
 | [],_::_,_,h,_,_=>by simp at h
 | _::_,[],_,h,_,_=>by simp at h
 | p::ps,r::rs,k,hl,hg,hn=>by
  obtain ⟨A,kL,h1,_⟩:=hn 0 p rfl;simp only [List.getElem?_cons_zero,cJ] at h1;have h2:=hg 0 p r rfl rfl;rw [h1] at h2;obtain ⟨w,hw⟩:=X9 0 h2;obtain ⟨w',hw'⟩:=acO (ps:=ps) (rs:=rs) (k+1) (by simpa using hl) (fun i p r a b=>hg (i+1) p r (by simpa using a) (by simpa using b)) fun i p a=>by simpa using hn (i+1) p (by simpa using a)
  refine ⟨fun i=>if i=k then w else w' i,?_⟩;rw [nc,h1,hw,aI rfl];congr 1;rw [hw'];exact Su fun i hi=>by rw [ak (by omega)]
theorem AO.form {P:Program} {S:aB} {vs:List KV} {rs:List (List KV)} (h:AO P S vs rs):∃ wv wr,vs=nb P S.eh wv 0/\rs=nc P S.rows wr 0:=by
 obtain ⟨t,A,ht⟩:=h.vn;have hv:=h.v;rw [ht] at hv;obtain ⟨wv,hwv⟩:=acN 0 hv;obtain ⟨wr,hwr⟩:=acO 0 h.qG h.vx h.rn;exact ⟨wv,wr,by rw [ht,hwv],hwr⟩
inductive ax (X:Type) where
 | fail
 | next (x:X)
 | out (e:ae) (x:X)
def ax.enc {X:Type} (ev:X->List KV) (er:X->List (List KV)):ax X->Option (ae×List KV×List (List KV))
 | .fail=>.none
 | .next x=>some (.normal,ev x,er x)
 | .out e x=>some (e,ev x,er x)
theorem ax.aO {X:Type} (ev:X->List KV) (er:X->List (List KV)) (c:Bool) (a b:ax X):ax.enc ev er (cond c a b)=cond c (ax.enc ev er a) (ax.enc ev er b):=by cases c <;> rfl
def ax.go {X:Type} (step:X->ax X):Nat->X->ax X
 | 0,_=>.fail
 | n+1,x=>match step x with
  | .fail=>.fail
  | .next x=>ax.go step n x
  | .out e x=>cond (ku e) .fail (.out e x)
def nf:ae->ae->Bool
 | .normal,.normal=>true
 | .exit i,.exit j=>Nat.beq i j
 | .goto i,.goto j=>Nat.beq i j
 | .ret,.ret=>true
 | _,_=>false
theorem agw {a b:ae} (h:nf a b=true):a=b:=by
 cases a <;> cases b <;> simp [nf] at h <;> first | rfl | (subst h; rfl)
def ax.by {X:Type} (s:ax X) (e:ae):Bool:=
 match s with
 | .out e' _=>nf e' e
 | _=>false
def ax.st {X:Type} [Inhabited X] (s:ax X):X:=
 match s with
 | .out _ x=>x
 | _=>default
theorem go_iter {X:Type} {step:X->ax X} {ev:X->List KV} {er:X->List (List KV)} {rd:List KV->List (List KV)->Option (ae×List KV×List (List KV))} (h:∀ x,step x = .fail\/rd (ev x) (er x)=ax.enc ev er (step x)) :
  ∀ (n:Nat) (x:X) (e:ae) (y:X),ax.go step n x = .out e y->xq rd n (ev x) (er x)=some (e,ev y,er y)
 | 0,x,e,y,hg=>by simp [ax.go] at hg
 | n+1,x,e,y,hg=>by
  simp only [ax.go] at hg;have hx:=h x;cases hs:step x with
  | fail=>rw [hs] at hg; simp at hg
  | next x'=>
   have hx:=hx.resolve_left (by rw [hs]; simp);rw [hs] at hg hx;simp only [xq,hx,ax.enc,ku,aj];exact go_iter h n x' e y hg
  | out e' x'=>
   have hx:=hx.resolve_left (by rw [hs]; simp);rw [hs] at hg hx;simp only at hg;cases hn:ku e' with
   | true=>rw [hn] at hg; simp at hg
   | false=>
    rw [hn,aF] at hg;simp only [ax.out.injEq] at hg;obtain ⟨rfl,rfl⟩:=hg;simp only [xq,hx,ax.enc,hn,aF]
def bU {X:Type} [Inhabited X] (ev:X->List KV) (er:X->List (List KV)) (s:ax X):List ae->rN
 | []=>.no
 | e::es=>.br (s.by e) (.out e (ev s.st) (er s.st)) (bU ev er s es)
theorem acP {X:Type} [Inhabited X] {ev:X->List KV} {er:X->List (List KV)} {s:ax X} : ∀ {es:List ae} {e:ae} {vs:List KV} {rs:List (List KV)},(bU ev er s es).ev=some (e,vs,rs)->∃ x,s = .out e x/\vs=ev x/\rs=er x
 | [],e,vs,rs,h=>by simp [bU,rN.ev] at h
 | e'::es,e,vs,rs,h=>by
  simp only [bU,rN.ev] at h;cases hb:s.by e' with
  | false=>rw [hb] at h; exact acP h
  | true=>
   rw [hb,aj] at h;simp only [cJ,dJ] at h;obtain ⟨rfl,rfl,rfl⟩:=h;cases s with
   | out e0 x=>
    have:=agw (show nf e0 e' = true from hb);subst this;exact ⟨x,rfl,rfl,rfl⟩
   | fail=>simp [ax.by] at hb
   | next x=>simp [ax.by] at hb
def goN {X:Type} (step:X->ax X) (x:X):ax X:=ax.go step dZ x
theorem aix {P:Program} {l:Lp} {X:Type} [Inhabited X] {cfg:dE} {L n:Nat} (gw:ru P cfg.pc) (kU:xl P cfg) {step:X->ax X} {ev:X->List KV} {er:X->List (List KV)} {es:List ae} {pa:List KV->List (List KV)->X}
  (hF:∀ vs rs,l.F vs rs=bU ev er (goN step (pa vs rs)) es) (eK:∀ wv wr,ev (pa (nb P l.S.eh wv 0) (nc P l.S.rows wr 0))=nb P l.S.eh wv 0/\er (pa (nb P l.S.eh wv 0) (nc P l.S.rows wr 0))=nc P l.S.rows wr 0)
  (sT:∀ x,step x = .fail\/al9 l.st P cfg L n l.f l.p (qg P l.f l.p) l.S (ev x) (er x)=ax.enc ev er (step x)):l.Ok P:=
 ⟨cfg,L,n,gw,kU,fun vs rs e cE lP cQ tY=>by
  obtain ⟨wv,wr,rfl,rfl⟩:=cQ.form;obtain ⟨h1,h2⟩:=eK wv wr;rw [hF] at tY;obtain ⟨y,hy,rfl,rfl⟩:=acP tY;have:=go_iter sT dZ _ e y hy;rw [h1,h2] at this;exact this⟩
theorem ax.lit {X:Type} {ev:X->List KV} {er:X->List (List KV)} {R:Option (ae×List KV×List (List KV))} {k n:Int} {a b:ax X} (h:k=n->R=ax.enc ev er a) (h' : b = .fail\/R=ax.enc ev er b):cond (k==n) a b = .fail\/R=ax.enc ev er (cond (k==n) a b):=by
 cases e:k==n with
 | true=>exact .inr (h (by simpa using e))
 | false=>exact h'
theorem ago {P:Program} {asg:List KV} (h:j2 P [] asg=true):asg = []:=by
 cases asg with
 | nil=>rfl
 | cons a asg=>simp [j2] at h
theorem amW {ks:List CK} {v:KV} (h:cl ⟨true,ks⟩ v=true):∃ cs,v = .agg cs/\aA ks cs=true:=by
 cases v with
 | agg cs=>exact ⟨cs,rfl,by simpa [cl] using h⟩
 | jV cs=>simp [cl] at h
 | _=>simp [cl] at h
theorem amX {k:CK} {v:KV} (h:cl ⟨false,[k]⟩ v=true):kindOk k v=true:=by
 cases v with
 | agg cs=>simp [cl] at h
 | jV cs=>simp [cl] at h
 | _=>simpa [cl,aA] using h
end Go.K
end
section
namespace Go.K
open Go Go.aq
variable {P:Program} {E:Env}
theorem jG.below {base:Nat} {ρ:Ren} {B:St} {w w' : World} (hs:ra ρ B base w) (h:RowKit.Below w.heap.size w w'):jG base ρ B w ρ B w':=by
 refine ⟨⟨.Fq (fun b o hg hd=>?_) hs.rel.apart hs.rel.bC,hs.jx,kH hs.size h.size,hs.H5⟩,fun _ _=>rfl,⟨h.os,h.tape,h.output,h.size,fun k hk _=>h.block k hk⟩,aH _,aH _,fun _ _ _=>rfl,fun _ _ hk=>hk⟩;obtain ⟨l,e,ok⟩:=hs.rel.obj hg hd;exact ⟨l,e,ok.eY (Ren.le_refl _) (h.block _ (ok.lt hd)) h.size⟩
theorem aiy {g:FuncId} {F:List KV->KR KV} (hc:yf P g)
  (h:∀ args v (E:Env) (A:ao) (B:St) (ρ:Ren) (base:Nat) (w:World) (eV:List Value),aK (F (normArgs P (cn P g) args)) v->args.length=(cn P g).length->qc P E ρ args eV->KJ P E A B ρ base w->
   Calls P g eV.toArray w fun e w'=>∃ v',e = .returned v'/\VC P E ρ v v'/\RowKit.Below w.heap.size w w'):aY P g F:=
 fun args v hF hlen=>⟨hc,fun E A B ρ base w eV hv hj=>(h args v E A B ρ base w eV hF hlen hv hj).mono fun _ _ ⟨v',h1,h2,h3⟩=>
  ⟨v',E,B,ρ,h1,h2,hj.k,jG.below hj.s h3,Env.le_refl _,aH _,fun _ _ _ _=>rfl,fun _ _ h=>.inl h,fun _ _ h=>.inl h,fun _ _ h=>.inl ⟨_,h⟩,fun _ _ _ _=>rfl,fun _ h=>.inl h,fun _ h=>.inl h,fun _ _ h=>.inl h,fun _ h=>.inl h,fun _ _ cs _ _ _ h=>⟨cs,h,rfl⟩⟩⟩
end Go.K
end
section
namespace Go.K
open Go Go.aq
structure Sl (α:Type) where
 n:Nat
 get:Nat->α
instance {α:Type} [Inhabited α] : Inhabited (Sl α):=⟨⟨0,fun _=>default⟩⟩
def dc {α:Type} (T:TypeId) (k:α->KV) (s:Sl α):KV:=.ts T .any s.n ((List.range s.n).map fun i=>k (s.get i)) (fun i=>k (s.get i))
def rb {α:Type} (p:KV->α) (n:Nat) (acc:Nat->KV):Sl α:=⟨n,fun i=>p (acc i)⟩
def cT {α:Type} (p:KV->α) (v:KV):Sl α:=rb p (lenOf v) (nN v)
def kI (k:IntKind) (n:Int):KV:=.int k n
def kB (b:Bool):KV:=.bool b
abbrev aV (n:Int):Int:=IntKind.wrap .i64 n
abbrev w8 (n:Int):Int:=IntKind.wrap .u8 n
abbrev w16 (n:Int):Int:=IntKind.wrap .u16 n
def Sl.push {α:Type} [Inhabited α] (s:Sl α) (v:α):Sl α:=⟨s.n+1,fun i=>cond (Nat.blt i s.n) (s.get i) (cond (Nat.beq i s.n) v default)⟩
def Sl.join {α:Type} (s t:Sl α):Sl α:=⟨s.n+t.n,fun i=>cond (Nat.blt i s.n) (s.get i) (t.get (i - s.n))⟩
def Sl.lit {α:Type} [Inhabited α] (l:List α):Sl α:=⟨l.length,fun i=>l.getD i default⟩
theorem aiz {α:Type} [Inhabited α] {p:KV->α} {k:α->KV} (h:∀ x,p (k x)=x) (hd:p .bA=default) (l:List α):rb p l.length (lU (l.map k))=Sl.lit l:=by
 unfold rb Sl.lit lU;congr 1;funext i;rw [eX,eX,uG];cases l[i]? with
 | none=>exact hd
 | some x=>exact h x
theorem yk {α:Type} [Inhabited α] {p:KV->α} {k:α->KV} (h:∀ x,p (k x)=x) (hd:p .bA=default) (s:Sl α) (v:α):rb p (s.n+1) (dw s.n (fun i=>k (s.get i)) (lU [k v]))=s.push v:=by
 unfold rb Sl.push;congr 1;funext i;unfold dw;cases hb:Nat.blt i s.n with
 | true=>exact h _
 | false=>
  have hi:s.n<=i:=by
   cases Nat.lt_or_ge i s.n with
   | inl h=>rw [<- bO,hb] at h; simp at h
   | inr h=>exact h
  rw [aF,aF];cases hq:Nat.beq i s.n with
  | true=>
   have:=aW hq;subst this;rw [Nat.sub_self,aj];exact h v
  | false=>
   have cH:i≠s.n:=fun e=>by rw [e,tf] at hq; simp at hq
   rw [aF];obtain ⟨j,hj⟩:∃ j,i - s.n=j+1:=⟨i - s.n - 1,by omega⟩
   rw [hj];exact hd
theorem Gb {α:Type} {p:KV->α} {k:α->KV} (h:∀ x,p (k x)=x) (s t:Sl α):rb p (s.n+t.n) (dw s.n (fun i=>k (s.get i)) (fun i=>k (t.get i)))=s.join t:=by
 unfold rb Sl.join;congr 1;funext i;unfold dw;cases Nat.blt i s.n <;> exact h _
def Sl.set {α:Type} (s:Sl α) (i:Nat) (v:α):Sl α:=⟨s.n,fun j=>cond (Nat.beq j i) v (s.get j)⟩
theorem aiA {α:Type} {p:KV->α} {k:α->KV} (h:∀ x,p (k x)=x) (s:Sl α) (i:Nat) (v:α):rb p s.n (Ms (fun j=>k (s.get j)) i (k v))=s.set i v:=by
 unfold rb Sl.set;congr 1;funext j;unfold Ms;cases Nat.beq j i <;> exact h _
theorem aiB {α:Type} {p:KV->α} {k:α->KV} (h:∀ x,p (k x)=x) (m n n' : Nat) (acc iC:Nat->KV):rb p m (dw n (fun i=>k ((rb p n' acc).get i)) iC)=rb p m (dw n acc iC):=by
 unfold rb;congr 1;funext i;unfold dw;cases Nat.blt i n with
 | true=>exact h _
 | false=>rfl
theorem aox (m n n' : Nat) (acc iC:Nat->KV):rb (fun v=>av (v.cells.getD 0 .bA)) m (dw n (fun i=>kI .i64 ((rb (fun v=>av (v.cells.getD 0 .bA)) n' acc).get i)) iC)=rb (fun v=>av (v.cells.getD 0 .bA)) m (dw n acc iC):=aiB (k:=kI .i64) (fun _=>rfl) ..
theorem aiC (s:Sl Int) (i:Nat) (v:Int):s.set i v=rb (fun v=>av (v.cells.getD 0 .bA)) s.n (Ms (fun j=>kI .i64 (s.get j)) i (kI .i64 v)):=(aiA (k:=kI .i64) (fun _=>rfl) s i v).symm
theorem amY (s:Sl Bool) (i:Nat) (v:Bool):s.set i v=rb (fun v=>cK (v.cells.getD 0 .bA)) s.n (Ms (fun j=>kB (s.get j)) i (kB v)):=(aiA (k:=kB) (fun _=>rfl) s i v).symm
theorem aft (s:Sl Int) (v:Int):s.push v=rb (fun v=>av (v.cells.getD 0 .bA)) (s.n+1) (dw s.n (fun i=>kI .i64 (s.get i)) (lU [kI .i64 v])):=(yk (fun _=>rfl) rfl s v).symm
theorem afu (s t:Sl Int):s.join t=rb (fun v=>av (v.cells.getD 0 .bA)) (s.n+t.n) (dw s.n (fun i=>kI .i64 (s.get i)) (fun i=>kI .i64 (t.get i))):=(Gb (fun _=>rfl) s t).symm
theorem aiD (l:List Int):Sl.lit l=rb (fun v=>av (v.cells.getD 0 .bA)) l.length (lU (l.map (kI .i64))):=(aiz (fun _=>rfl) rfl l).symm
theorem aL {α β:Type} (f:α->β) (c:Bool) (a b:Option α):Option.map f (cond c a b)=cond c (Option.map f a) (Option.map f b):=by cases c <;> rfl
def ah (P:Program) (ps:List (Nat×(List KV->KR KV))):Prop:=∀ p∈ps,aY P p.1 p.2
theorem ah.nil {P:Program} : ah P []:=fun p hp=>by simp at hp
theorem ah.cons {P:Program} {g:Nat} {F:List KV->KR KV} {ps:List (Nat×(List KV->KR KV))} (h:aY P g F) (t:ah P ps):ah P ((g,F)::ps):=fun p hp=>by
 rcases dv.1 hp with rfl | hp
 ·exact h
 ·exact t p hp
theorem ah.pc {P:Program} {ps:List (Nat×(List KV->KR KV))} (h:ah P ps):ru P (afr ps):=amd h
def aD (P:Program) (ls:List Lp):Prop:=∀ l∈ls,l.Ok P/\Br P l.f l.p=true
theorem aD.nil {P:Program} : aD P []:=fun p hp=>by simp at hp
theorem aD.cons {P:Program} {l:Lp} {ls:List Lp} (h:l.Ok P) (h' : Br P l.f l.p=true) (t:aD P ls):aD P (l::ls):=fun p hp=>by
 rcases dv.1 hp with rfl | hp
 ·exact ⟨h,h'⟩
 ·exact t p hp
def M5 (P:Program) (fs:List Fc):Prop:=∀ c∈fs,c.Ok P
theorem M5.nil {P:Program} : M5 P []:=fun p hp=>by simp at hp
noncomputable def mn (P:Program) (ps:List (Nat×(List KV->KR KV))) (ls:List Lp) (mt:TypeId->Bool:=fun _=>false) (fz:Bool:=false) (eg:Bool:=false) (fs:List Fc:=[]):dE:=⟨afr ps,acG P ls,⟨afp P fs,mt,fz,eg⟩⟩
noncomputable def bd {R:Type} [Inhabited R] (k:R->KV) (r:List KV->Option R):List KV->KR KV:=fun asg=>.jt (r asg).isSome (k ((r asg).getD default))
theorem ZO {P:Program} {R:Type} [Inhabited R] {k:R->KV} {r:List KV->Option R} {g:FuncId} (hP:P.funcs.toList.all mA=true) (hm:P.follows .mixedOrders=true) {ps:List (Nat×(List KV->KR KV))} {ls:List Lp} (gw:ah P ps) (kU:aD P ls) {L n:Nat} {mt:TypeId->Bool} {fz eg:Bool} {fs:List Fc}
  (h:∀ w,xh P (mn P ps ls mt fz eg fs) L n g (rO P (cn P g) w 0)=(r (rO P (cn P g) w 0)).map k) (hy:Nat.blt g yB=true:=by rfl) (hfs:M5 P fs:=by exact M5.nil):aY P g (aZ P g (bd k r)):=
 aou (cfg:=mn P ps ls mt fz eg fs) hP hm gw.pc (aa7 hP hm (aa8 hP hm hfs) kU) (hy:=hy) fun w v hv=>by
  obtain ⟨h1,h2⟩:=aK.jt hv;rw [h w];cases hr:r (rO P (cn P g) w 0) with
  | none=>rw [hr] at h1; simp at h1
  | some x=>rw [hr] at h2; rw [<- h2]; rfl
theorem aiE {P:Program} {l:Lp} {X:Type} [Inhabited X] (hP:P.funcs.toList.all mA=true) (hm:P.follows .mixedOrders=true) {ps:List (Nat×(List KV->KR KV))} {ls:List Lp} (gw:ah P ps) (kU:aD P ls) {L n:Nat} {mt:TypeId->Bool} {fz eg:Bool} {fs:List Fc} {step:X->ax X} {ev:X->List KV} {er:X->List (List KV)} {es:List ae} {pa:List KV->List (List KV)->X}
  (hF:l.F=fun vs rs=>bU ev er (goN step (pa vs rs)) es) (eK:∀ wv wr,ev (pa (nb P l.S.eh wv 0) (nc P l.S.rows wr 0))=nb P l.S.eh wv 0/\er (pa (nb P l.S.eh wv 0) (nc P l.S.rows wr 0))=nc P l.S.rows wr 0)
  (sT:∀ x,py P (mn P ps ls mt fz eg fs) L n l.f l.p (qg P l.f l.p) l.S (ev x) (er x)=ax.enc ev er (step x)) (hfs:M5 P fs:=by exact M5.nil) (hs:l.st=false:=by rfl):l.Ok P:=
 aix (cfg:=mn P ps ls mt fz eg fs) gw.pc (aa7 hP hm (aa8 hP hm hfs) kU) (fun _ _=>by rw [hF]) eK (fun x=>.inr (by rw [hs]; exact sT x))
theorem FK {P:Program} {l:Lp} {X:Type} [Inhabited X] (hP:P.funcs.toList.all mA=true) (hm:P.follows .mixedOrders=true) {ps:List (Nat×(List KV->KR KV))} {ls:List Lp} (gw:ah P ps) (kU:aD P ls) {L n:Nat} {mt:TypeId->Bool} {fz eg:Bool} {fs:List Fc} {step:X->ax X} {ev:X->List KV} {er:X->List (List KV)} {es:List ae} {pa:List KV->List (List KV)->X}
  (hF:l.F=fun vs rs=>bU ev er (goN step (pa vs rs)) es) (eK:∀ wv wr,ev (pa (nb P l.S.eh wv 0) (nc P l.S.rows wr 0))=nb P l.S.eh wv 0/\er (pa (nb P l.S.eh wv 0) (nc P l.S.rows wr 0))=nc P l.S.rows wr 0)
  (sT:∀ x,step x = .fail\/py P (mn P ps ls mt fz eg fs) L n l.f l.p (qg P l.f l.p) l.S (ev x) (er x)=ax.enc ev er (step x)) (hfs:M5 P fs:=by exact M5.nil) (hs:l.st=false:=by rfl):l.Ok P:=
 aix (cfg:=mn P ps ls mt fz eg fs) gw.pc (aa7 hP hm (aa8 hP hm hfs) kU) (fun _ _=>by rw [hF]) eK (fun x=>by rw [hs]; exact sT x)
end Go.K
end
section
namespace Go.Proofs.YtckbdndhmcoihaaGreat.b
open Go.K
theorem funcs:Tryz.prog.funcs.toList.all aq.mA=true:=by kernel_rfl
theorem mixed:Tryz.prog.follows .mixedOrders=true:=by kernel_rfl
noncomputable abbrev PG:Program:=Tryz.prog
noncomputable abbrev g0 (T:TypeId) (v:KV):KV:=eE PG (bI PG dx) T v
theorem b8 {R:Type} [Inhabited R] {k:R->KV} {r:List KV->Option R} {g:FuncId} {ps:List (Nat×(List KV->KR KV))} {ls:List Lp} {mt:TypeId->Bool} {fz eg:Bool} {a:(Nat->KV)->List KV} {q:(Nat->KV)->Option R} (gw:ah PG ps) (kU:aD PG ls)
  (hr:∀ w,xh PG (mn PG ps ls mt fz eg) 9 9 g (a w)=(q w).map k) (h:∀ w,rO PG (cn PG g) w 0=a w/\r (a w)=q w:=by exact fun w=>⟨by kernel_rfl,by kernel_rfl⟩) (hy:Nat.blt g aq.yB=true:=by rfl):aY PG g (aZ PG g (bd k r)):=
 ZO funcs mixed gw kU (L:=9) (n:=9) (fun w=>by rw [(h w).1,(h w).2]; exact hr w) hy
theorem kv {l:Lp} {X:Type} [Inhabited X] {ps:List (Nat×(List KV->KR KV))} {ls:List Lp} {mt:TypeId->Bool} {fz eg:Bool} {step:X->ax X} {ev:X->List KV} {er:X->List (List KV)} {es:List aq.ae} {pa:List KV->List (List KV)->X} (gw:ah PG ps) (kU:aD PG ls)
  (sT:∀ x,py PG (mn PG ps ls mt fz eg) 9 9 l.f l.p (qg PG l.f l.p) l.S (ev x) (er x)=ax.enc ev er (step x)) (hF:l.F=fun vs rs=>bU ev er (goN step (pa vs rs)) es:=by rfl)
  (eK:∀ wv wr,ev (pa (nb PG l.S.eh wv 0) (nc PG l.S.rows wr 0))=nb PG l.S.eh wv 0/\er (pa (nb PG l.S.eh wv 0) (nc PG l.S.rows wr 0))=nc PG l.S.rows wr 0:=by exact fun wv wr=>⟨by kernel_rfl,by kernel_rfl⟩) (hs:l.st=false:=by rfl):l.Ok PG:=
 aiE funcs mixed gw kU (L:=9) (n:=9) hF eK sT M5.nil hs
theorem fv {l:Lp} {ls:List Lp} (h:l.Ok PG) (r:aD PG ls) (t:Br PG l.f l.p=true:=by kernel_rfl):aD PG (l::ls):=aD.cons h t r
noncomputable abbrev lu (ps:List (Nat×(List KV->KR KV))) (ls:List Lp) (g:FuncId) (a:List KV):Option KV:=xh PG (mn PG ps ls) 9 9 g a
noncomputable abbrev sm (ps:List (Nat×(List KV->KR KV))) (ls:List Lp) (f p:Nat) (S:aB):=py PG (mn PG ps ls) 9 9 f p (qg PG f p) S
noncomputable abbrev Bs (ps:List (Nat×(List KV->KR KV))) (ls:List Lp) (g:FuncId) (a:List KV):Option KV:=xh PG (mn PG ps ls (fun q=>Nat.beq q 3)) 9 9 g a
noncomputable abbrev JL (ps:List (Nat×(List KV->KR KV))) (ls:List Lp) (f p:Nat) (S:aB):=py PG (mn PG ps ls (fun q=>Nat.beq q 3)) 9 9 f p (qg PG f p) S
abbrev v9 (vs:List KV) (i:Nat):KV:=vs.getD i .bA
abbrev r9 (rs:List (List KV)) (i k:Nat):KV:=(rs.getD i []).getD k .bA
abbrev i9:CD:=.k (.int .i64)
abbrev u9:CD:=.k (.int .u8)
abbrev b9:CD:=.k .bool
abbrev n9 (T:TypeId):CD:=.k (.slice T)
abbrev w9 (c:CD):VD:=⟨false,[c]⟩
end Go.Proofs.YtckbdndhmcoihaaGreat.b
end
section
namespace Go.Proofs.YtckbdndhmcoihaaGreat.b
open Go.K
noncomputable section
structure Slot where
 gen:Int
 live:Bool
instance:Inhabited Slot:=⟨⟨default,default⟩⟩
def aqJ (x:Slot):List KV:=[.int .i64 x.gen,.bool x.live]
def PK (x:Slot):KV:=.agg (aqJ x)
def aqK (c:Nat->KV):Slot:=⟨av (c 0),cK (c 1)⟩
def PL (v:KV):Slot:=aqK fun k=>v.cells.getD k .bA
theorem aoy (x:Slot):PL (PK x)=x:=rfl
theorem aku (s t:Sl Slot):s.join t=rb PL (s.n+t.n) (dw s.n (fun i=>PK (s.get i)) (fun i=>PK (t.get i))):=(Gb aoy s t).symm
def zi (s:Slot):Option (Bool):=(cond (decide (s.gen < 1)) (some (true)) (some ((decide (s.gen > 1073741824)))))
theorem RF (s:Slot):lu [] [] 172 [PK s] = (zi s).map kB:=by
 unfold zi
 try simp only [aL]
 kernel_rfl
def zj:List KV->KR KV:=aZ PG 172 (bd kB fun vs=>zi (PL (v9 vs 0)))
theorem C9:aY PG 172 zj:=b8 ah.nil aD.nil fun w=>RF (PL (g0 111 (w 0)))
structure fo where
 aP:(Sl Slot)
instance:Inhabited fo:=⟨⟨default⟩⟩
def aba (x:fo):List KV:=[dc 111 PK x.aP]
def mC (x:fo):KV:=.agg (aba x)
def abb (c:Nat->KV):fo:=⟨cT PL (c 0)⟩
def qh (v:KV):fo:=abb fun k=>v.cells.getD k .bA
structure cj where
 s:(Sl Slot)
 t4:Int
 t7:Int
 t8:Int
instance:Inhabited cj:=⟨⟨default,default,default,default⟩⟩
def gN (x:cj):List KV:=[dc 111 PK x.s,.fn (.func 172) [] [],.int .i64 x.t4,.int .i64 x.t7,.int .i64 x.t8]
def gP (x:cj):List (List KV):=[]
def kV (vs:List KV) (rs:List (List KV)):cj:=⟨cT PL (v9 vs 0),av (v9 vs 2),av (v9 vs 3),av (v9 vs 4)⟩
def ly:aB:=⟨[(0,w9 (n9 111)),(1,⟨false,[.lit (.fn (.func 172) [] [])]⟩),(4,w9 i9),(7,w9 i9),(8,w9 i9)],[],[]⟩
def rP:=sm [(172,zj)] [] 210 26 ly
def dq (x:cj):ax cj:=(cond (decide (x.t8 < x.t7)) (cond ((decide (0<=x.t8))&&(decide (x.t8 < (x.s.n:Int)))) (cond (decide ((x.s.get (Int.toNat x.t8)).gen < 1)) (.out aq.ae.ret ⟨x.s,x.t8,x.t7,x.t8⟩) (cond (decide ((x.s.get (Int.toNat x.t8)).gen > 1073741824)) (.out aq.ae.ret ⟨x.s,x.t8,x.t7,x.t8⟩) (.next ⟨x.s,x.t4,x.t7,(aV (x.t8+1))⟩))) .fail) (.out (aq.ae.exit 0) x))
theorem qH (x:cj):rP (gN x) (gP x)=ax.enc gN gP (dq x):=by
 unfold dq
 try simp only [ax.aO]
 kernel_rfl
def lz:Lp:=⟨210,26,ly,fun vs rs=>bU gN gP (goN dq (kV vs rs)) [aq.ae.exit 0,aq.ae.ret],false⟩
theorem rQ:lz.Ok PG:=kv (ah.cons C9 ah.nil) aD.nil (pa:=kV) qH
def qI (a:fo):=goN dq ⟨a.aP,0,(a.aP.n:Int),0⟩
def dC (a:fo):Option (Int):=(cond (decide ((a.aP.n:Int) > 128)) (some (8)) (cond ((qI a).by (aq.ae.exit 0)) (some (0)) (cond ((qI a).by aq.ae.ret) (cond (decide ((qI a).st.t4 >= 0)) (some (8)) (some (0))) none)))
theorem Ya (a:fo):lu [(172,zj)] [lz] 120 [mC a] = (dC a).map (kI .i64):=by
 unfold dC
 try simp only [aL]
 kernel_rfl
def PM:List KV->KR KV:=aZ PG 120 (bd (kI .i64) fun vs=>dC (qh (v9 vs 0)))
theorem Iq:aY PG 120 PM:=b8 (ah.cons C9 ah.nil) (fv rQ aD.nil) fun w=>Ya (qh (g0 24 (w 0)))
structure Handle where
 slot:Int
 gen:Int
instance:Inhabited Handle:=⟨⟨default,default⟩⟩
def acQ (x:Handle):List KV:=[.int .i64 x.slot,.int .i64 x.gen]
def fE (x:Handle):KV:=.agg (acQ x)
def acR (c:Nat->KV):Handle:=⟨av (c 0),av (c 1)⟩
def dW (v:KV):Handle:=acR fun k=>v.cells.getD k .bA
theorem TV (x:Handle):dW (fE x)=x:=rfl
theorem acS:dW .bA=default:=rfl
theorem FL (s:Sl Handle) (v:Handle):s.push v=rb dW (s.n+1) (dw s.n (fun i=>fE (s.get i)) (lU [fE v])):=(yk TV acS s v).symm
theorem ZP (l:List Handle):Sl.lit l=rb dW l.length (lU (l.map fE)):=(aiz TV acS l).symm
theorem ZQ (m n n' : Nat) (acc iC:Nat->KV):rb dW m (dw n (fun i=>fE ((rb dW n' acc).get i)) iC)=rb dW m (dw n acc iC):=aiB TV ..
def kD (a:fo) (h:Handle):Option (Bool):=(cond (decide (h.slot >= 0)) (cond (decide (h.slot < (a.aP.n:Int))) (cond ((decide (0<=h.slot))&&(decide (h.slot < (a.aP.n:Int)))) (some ((((a.aP.get (Int.toNat h.slot)).gen==h.gen)&&(((a.aP.get (Int.toNat h.slot)).live==true)&&true)))) none) (some (false))) (some (false)))
theorem aah (a:fo) (h:Handle):lu [] [] 128 [mC a,fE h] = (kD a h).map kB:=by
 unfold kD
 try simp only [aL]
 kernel_rfl
def Sv:List KV->KR KV:=aZ PG 128 (bd kB fun vs=>kD (qh (v9 vs 0)) (dW (v9 vs 1)))
theorem Yb:aY PG 128 Sv:=b8 ah.nil aD.nil fun w=>aah (qh (g0 24 (w 0))) (dW (g0 32 (w 1)))
def qJ (a:fo) (h:Handle):=dC a
def qK (a:fo) (h:Handle):=kD a h
def dr (a:fo) (h:Handle):Option (Bool):=(cond (qJ a h).isSome (cond (((qJ a h).getD default)==0) (cond (qK a h).isSome (some (((qK a h).getD default))) none) (some (false))) none)
theorem Yc (a:fo) (h:Handle):lu [(128,Sv),(120,PM)] [] 77 [mC a,fE h] = (dr a h).map kB:=by
 unfold dr
 try simp only [aL]
 kernel_rfl
def ue:List KV->KR KV:=aZ PG 77 (bd kB fun vs=>dr (qh (v9 vs 0)) (dW (v9 vs 1)))
theorem pA:aY PG 77 ue:=b8 (ah.cons Yb (ah.cons Iq ah.nil)) aD.nil fun w=>Yc (qh (g0 24 (w 0))) (dW (g0 32 (w 1)))
structure cA where
 bu:fo
 kids:(Sl (Sl Handle))
instance:Inhabited cA:=⟨⟨default,default⟩⟩
def wM (x:cA):List KV:=[dc 111 PK x.bu.aP,dc 35 (dc 32 fE) x.kids]
def CF (x:cA):KV:=.agg (wM x)
def wN (c:Nat->KV):cA:=⟨⟨cT PL (c 0)⟩,cT (cT dW) (c 1)⟩
def qi (v:KV):cA:=wN fun k=>v.cells.getD k .bA
structure mo where
 t2:Bool
 n:Int
 i:Int
 g:cA
instance:Inhabited mo:=⟨⟨default,default,default,default⟩⟩
def zk (x:mo):List KV:=[.bool x.t2,.int .i64 x.n,.int .i64 x.i]
def zl (x:mo):List (List KV):=[wM x.g]
def Ir (vs:List KV) (rs:List (List KV)):mo:=⟨cK (v9 vs 0),av (v9 vs 1),av (v9 vs 2),wN (r9 rs 0)⟩
def K6:aB:=⟨[(2,w9 b9),(3,w9 i9),(4,w9 i9)],[(1,[n9 111,n9 35],1)],[(1,0,0)]⟩
def V1:=py PG (mn PG [] [] (fun q=>Nat.beq q 4)) 9 9 41 122 (qg PG 41 122) K6
def iq (x:mo):ax mo:=(cond (decide (x.i < (x.g.kids.n:Int))) (cond ((decide (0<=x.i))&&(decide (x.i < (x.g.kids.n:Int)))) (cond (decide ((aV (x.n+((x.g.kids.get (Int.toNat x.i)).n:Int))) > 400)) (.out aq.ae.ret ⟨true,(aV (x.n+((x.g.kids.get (Int.toNat x.i)).n:Int))),x.i,x.g⟩) (.next ⟨x.t2,(aV (x.n+((x.g.kids.get (Int.toNat x.i)).n:Int))),(aV (x.i+1)),x.g⟩)) .fail) (.out (aq.ae.exit 0) x))
theorem RG (x:mo):V1 (zk x) (zl x)=ax.enc zk zl (iq x):=by
 unfold iq
 try simp only [ax.aO]
 kernel_rfl
def K7:Lp:=⟨41,122,K6,fun vs rs=>bU zk zl (goN iq (Ir vs rs)) [aq.ae.exit 0,aq.ae.ret],false⟩
theorem V2:K7.Ok PG:=kv ah.nil aD.nil (pa:=Ir) RG
def uf (g:cA):=goN iq ⟨false,0,0,g⟩
def nU (g:cA):Option (Bool):=(cond (decide ((g.bu.aP.n:Int) > 200)) (some (true)) (cond (decide ((g.kids.n:Int) > 200)) (some (true)) (cond ((uf g).by (aq.ae.exit 0)) (some (false)) (cond ((uf g).by aq.ae.ret) (some ((uf g).st.t2)) none))))
theorem acT (g:cA):xh PG (mn PG [] [K7] (fun q=>Nat.beq q 4)) 9 9 41 [CF g] = (nU g).map kB:=by
 unfold nU
 try simp only [aL]
 kernel_rfl
def FM:List KV->KR KV:=aZ PG 41 (bd kB fun vs=>nU (qi (v9 vs 0)))
theorem DT:aY PG 41 FM:=b8 ah.nil (fv V2 aD.nil) fun w=>acT (qi (g0 27 (w 0)))
structure og where
 t2:Bool
 i:Int
 a:fo
instance:Inhabited og:=⟨⟨default,default,default⟩⟩
def GV (x:og):List KV:=[.bool x.t2,.int .i64 x.i]
def GW (x:og):List (List KV):=[aba x.a]
def PN (vs:List KV) (rs:List (List KV)):og:=⟨cK (v9 vs 0),av (v9 vs 1),abb (r9 rs 0)⟩
def Sx:aB:=⟨[(2,w9 b9),(3,w9 i9)],[(1,[n9 111],1)],[(1,0,0)]⟩
def acU:=py PG (mn PG [] [] (fun q=>Nat.beq q 4)) 9 9 176 26 (qg PG 176 26) Sx
def qL (x:og):ax og:=(cond (decide (x.i < (x.a.aP.n:Int))) (cond ((decide (0<=x.i))&&(decide (x.i < (x.a.aP.n:Int)))) (cond (decide ((x.a.aP.get (Int.toNat x.i)).gen < 1)) (.out aq.ae.ret ⟨false,x.i,x.a⟩) (cond ((decide (0<=x.i))&&(decide (x.i < (x.a.aP.n:Int)))) (cond (decide ((x.a.aP.get (Int.toNat x.i)).gen > 1073741824)) (.out aq.ae.ret ⟨false,x.i,x.a⟩) (.next ⟨x.t2,(aV (x.i+1)),x.a⟩)) .fail)) .fail) (.out (aq.ae.exit 0) x))
theorem Yd (x:og):acU (GV x) (GW x)=ax.enc GV GW (qL x):=by
 unfold qL
 try simp only [ax.aO]
 kernel_rfl
def Sy:Lp:=⟨176,26,Sx,fun vs rs=>bU GV GW (goN qL (PN vs rs)) [aq.ae.exit 0,aq.ae.ret],false⟩
theorem acV:Sy.Ok PG:=kv ah.nil aD.nil (pa:=PN) Yd
def uX (a:fo):=goN qL ⟨false,0,a⟩
def Bt (a:fo):Option (Bool):=(cond ((uX a).by (aq.ae.exit 0)) (some ((decide (((uX a).st.a.aP.n:Int)<=128)))) (cond ((uX a).by aq.ae.ret) (some ((uX a).st.t2)) none))
theorem agy (a:fo):xh PG (mn PG [] [Sy] (fun q=>Nat.beq q 4)) 9 9 176 [mC a] = (Bt a).map kB:=by
 unfold Bt
 try simp only [aL]
 kernel_rfl
def M6:List KV->KR KV:=aZ PG 176 (bd kB fun vs=>Bt (qh (v9 vs 0)))
theorem JM:aY PG 176 M6:=b8 ah.nil (fv acV aD.nil) fun w=>agy (qh (g0 24 (w 0)))
def ug (a:fo) (h:Handle):Option (Bool):=(cond (decide (h.slot >= 0)) (cond (decide (h.slot < (a.aP.n:Int))) (cond ((decide (0<=h.slot))&&(decide (h.slot < (a.aP.n:Int)))) (cond (a.aP.get (Int.toNat h.slot)).live (cond ((decide (0<=h.slot))&&(decide (h.slot < (a.aP.n:Int)))) (some (((a.aP.get (Int.toNat h.slot)).gen==h.gen))) none) (some (false))) none) (some (false))) (some (false)))
theorem aed (a:fo) (h:Handle):xh PG (mn PG [] [] (fun q=>Nat.beq q 4)) 9 9 177 [mC a,fE h] = (ug a h).map kB:=by
 unfold ug
 try simp only [aL]
 kernel_rfl
def Da:List KV->KR KV:=aZ PG 177 (bd kB fun vs=>ug (qh (v9 vs 0)) (dW (v9 vs 1)))
theorem zm:aY PG 177 Da:=b8 ah.nil aD.nil fun w=>aed (qh (g0 24 (w 0))) (dW (g0 32 (w 1)))
structure jg where
 t2:Bool
 cu:(Sl Bool)
 n:Int
 again:Int
 g:cA
instance:Inhabited jg:=⟨⟨default,default,default,default,default⟩⟩
def zn (x:jg):List KV:=[.bool x.t2,dc 4 kB x.cu,.int .i64 x.n,.int .i64 x.again]
def zo (x:jg):List (List KV):=[wM x.g]
def Iu (vs:List KV) (rs:List (List KV)):jg:=⟨cK (v9 vs 0),cT cK (v9 vs 1),av (v9 vs 2),av (v9 vs 3),wN (r9 rs 0)⟩
def K8:aB:=⟨[(2,w9 b9),(3,⟨false,[.arr 4]⟩),(4,w9 i9),(5,w9 i9)],[(1,[n9 111,n9 35],1)],[(1,0,0)]⟩
structure fa where
 t2:Bool
 cu:(Sl Bool)
 n:Int
 again:Int
 i:Int
 g:cA
instance:Inhabited fa:=⟨by constructor<;>exact default⟩
def xu (x:fa):List KV:=[.bool x.t2,dc 4 kB x.cu,.int .i64 x.n,.int .i64 x.again,.int .i64 x.i]
def xv (x:fa):List (List KV):=[wM x.g]
def GX (vs:List KV) (rs:List (List KV)):fa:=⟨cK (v9 vs 0),cT cK (v9 vs 1),av (v9 vs 2),av (v9 vs 3),av (v9 vs 4),wN (r9 rs 0)⟩
def Iv:aB:=⟨[(2,w9 b9),(3,⟨false,[.arr 4]⟩),(4,w9 i9),(5,w9 i9),(6,w9 i9)],[(1,[n9 111,n9 35],1)],[(1,0,0)]⟩
structure fF where
 t2:Bool
 cu:(Sl Bool)
 n:Int
 again:Int
 i:Int
 all:Bool
 k:Int
 g:cA
instance:Inhabited fF:=⟨by constructor<;>exact default⟩
def sY (x:fF):List KV:=[.bool x.t2,dc 4 kB x.cu,.int .i64 x.n,.int .i64 x.again,.int .i64 x.i,.bool x.all,.int .i64 x.k]
def sZ (x:fF):List (List KV):=[wM x.g]
def AP (vs:List KV) (rs:List (List KV)):fF:=⟨cK (v9 vs 0),cT cK (v9 vs 1),av (v9 vs 2),av (v9 vs 3),av (v9 vs 4),cK (v9 vs 5),av (v9 vs 6),wN (r9 rs 0)⟩
def Db:aB:=⟨[(2,w9 b9),(3,⟨false,[.arr 4]⟩),(4,w9 i9),(5,w9 i9),(6,w9 i9),(7,w9 b9),(8,w9 i9)],[(1,[n9 111,n9 35],1)],[(1,0,0)]⟩
def OC:=py PG (mn PG [] [] (fun q=>Nat.beq q 4)) 9 9 178 2003530 (qg PG 178 2003530) Db
def gp (x:fF):ax fF:=(cond ((decide (0<=x.i))&&(decide (x.i < (x.g.kids.n:Int)))) (cond (decide (x.k < ((x.g.kids.get (Int.toNat x.i)).n:Int))) (cond ((decide (0<=x.i))&&(decide (x.i < (x.g.kids.n:Int)))) (cond ((decide (0<=x.k))&&(decide (x.k < ((x.g.kids.get (Int.toNat x.i)).n:Int)))) (cond ((decide (0<=((x.g.kids.get (Int.toNat x.i)).get (Int.toNat x.k)).slot))&&(decide (((x.g.kids.get (Int.toNat x.i)).get (Int.toNat x.k)).slot < (x.cu.n:Int)))) (cond (!(x.cu.get (0+(Int.toNat ((x.g.kids.get (Int.toNat x.i)).get (Int.toNat x.k)).slot)))) (cond (aC x.cu.n x.cu.n) (.next ⟨x.t2,x.cu,x.n,x.again,x.i,false,(aV (x.k+1)),x.g⟩) .fail) (cond (aC x.cu.n x.cu.n) (.next ⟨x.t2,x.cu,x.n,x.again,x.i,x.all,(aV (x.k+1)),x.g⟩) .fail)) .fail) .fail) .fail) (cond (aC x.cu.n x.cu.n) (.out (aq.ae.exit 4) x) .fail)) .fail)
theorem K9 (x:fF):OC (sY x) (sZ x)=ax.enc sY sZ (gp x):=by
 unfold gp
 try simp only [ax.aO]
 kernel_rfl
def pB:Lp:=⟨178,2003530,Db,fun vs rs=>bU sY sZ (goN gp (AP vs rs)) [aq.ae.exit 4],false⟩
theorem s5:pB.Ok PG:=kv ah.nil aD.nil (pa:=AP) K9
def TW:=py PG (mn PG [] [pB] (fun q=>Nat.beq q 4)) 9 9 178 7826 (qg PG 178 7826) Iv
def bn (x:fa):=goN gp ⟨x.t2,x.cu,x.n,x.again,x.i,true,0,x.g⟩
def ng (x:fa):ax fa:=(cond (aC (bn x).st.cu.n (bn x).st.cu.n) (.next ⟨(bn x).st.t2,(bn x).st.cu,(bn x).st.n,(bn x).st.again,(aV ((bn x).st.i+1)),(bn x).st.g⟩) .fail)
def ja (x:fa):ax fa:=(cond (decide (x.i < (x.g.kids.n:Int))) (cond (aC x.cu.n x.cu.n) (cond ((bn x).by (aq.ae.exit 4)) (cond (bn x).st.all (cond ((decide (0<=(bn x).st.i))&&(decide ((bn x).st.i < ((bn x).st.cu.n:Int)))) (cond (!((bn x).st.cu.get (0+(Int.toNat (bn x).st.i)))) (cond ((decide (0<=(bn x).st.i))&&(decide ((bn x).st.i < ((bn x).st.cu.n:Int)))) (cond (aC (bn x).st.cu.n (bn x).st.cu.n) (.next ⟨(bn x).st.t2,((bn x).st.cu.set (0+(Int.toNat (bn x).st.i)) true),(aV ((bn x).st.n+1)),(bn x).st.again,(aV ((bn x).st.i+1)),(bn x).st.g⟩) .fail) .fail)
    (ng x)) .fail)
   (ng x)) .fail) .fail) (cond (aC x.cu.n x.cu.n) (.out (aq.ae.exit 2) x) .fail))
theorem PO (x:fa):TW (xu x) (xv x)=ax.enc xu xv (ja x):=by
 unfold ja ng
 try simp only [ax.aO,amY]
 kernel_rfl
def zp:Lp:=⟨178,7826,Iv,fun vs rs=>bU xu xv (goN ja (GX vs rs)) [aq.ae.exit 2],false⟩
theorem GY:zp.Ok PG:=kv ah.nil (fv s5 aD.nil) (pa:=GX) PO
def V3:=py PG (mn PG [] [pB,zp] (fun q=>Nat.beq q 4)) 9 9 178 122 (qg PG 178 122) K8
def gQ (x:jg):=goN ja ⟨x.t2,x.cu,x.n,x.again,0,x.g⟩
def ll (x:jg):ax jg:=(cond (decide (x.again < (x.g.kids.n:Int))) (cond (aC x.cu.n x.cu.n) (cond ((gQ x).by (aq.ae.exit 2)) (cond (aC (gQ x).st.cu.n (gQ x).st.cu.n) (.next ⟨(gQ x).st.t2,(gQ x).st.cu,(gQ x).st.n,(aV ((gQ x).st.again+1)),(gQ x).st.g⟩) .fail) .fail) .fail) (cond (aC x.cu.n x.cu.n) (.out (aq.ae.exit 0) x) .fail))
theorem RH (x:jg):V3 (zn x) (zo x)=ax.enc zn zo (ll x):=by
 unfold ll
 try simp only [ax.aO]
 kernel_rfl
def Lb:Lp:=⟨178,122,K8,fun vs rs=>bU zn zo (goN ll (Iu vs rs)) [aq.ae.exit 0],false⟩
theorem V4:Lb.Ok PG:=kv ah.nil (fv s5 (fv GY aD.nil)) (pa:=Iu) RH
def zq (g:cA):=goN ll ⟨false,⟨(Int.toNat (g.kids.n:Int)),(fun i=>false)⟩,0,0,g⟩
def uY (g:cA):Option (Bool):=(cond ((decide ((g.kids.n:Int)<=(g.kids.n:Int)))&&(Nat.ble (1 * (Int.toNat (g.kids.n:Int))) 281474976710656)) (cond (aC (Int.toNat (g.kids.n:Int)) (Int.toNat (g.kids.n:Int))) (cond ((zq g).by (aq.ae.exit 0)) (some (((zq g).st.n==((zq g).st.g.kids.n:Int)))) none) none) none)
theorem acW (g:cA):xh PG (mn PG [] [pB,zp,Lb] (fun q=>Nat.beq q 4)) 9 9 178 [CF g] = (uY g).map kB:=by
 unfold uY
 try simp only [aL]
 kernel_rfl
def FN:List KV->KR KV:=aZ PG 178 (bd kB fun vs=>uY (qi (v9 vs 0)))
theorem DU:aY PG 178 FN:=b8 ah.nil (fv s5 (fv GY (fv V4 aD.nil))) fun w=>acW (qi (g0 27 (w 0)))
structure eT where
 t2:Bool
 i:Int
 g:cA
instance:Inhabited eT:=⟨⟨default,default,default⟩⟩
def GZ (x:eT):List KV:=[.bool x.t2,.int .i64 x.i]
def G0 (x:eT):List (List KV):=[wM x.g]
def PQ (vs:List KV) (rs:List (List KV)):eT:=⟨cK (v9 vs 0),av (v9 vs 1),wN (r9 rs 0)⟩
def Sz:aB:=⟨[(2,w9 b9),(3,w9 i9)],[(1,[n9 111,n9 35],1)],[(1,0,0)]⟩
structure ck where
 t2:Bool
 i:Int
 k:Int
 g:cA
instance:Inhabited ck:=⟨⟨default,default,default,default⟩⟩
def Bu (x:ck):List KV:=[.bool x.t2,.int .i64 x.i,.int .i64 x.k]
def Bv (x:ck):List (List KV):=[wM x.g]
def Lc (vs:List KV) (rs:List (List KV)):ck:=⟨cK (v9 vs 0),av (v9 vs 1),av (v9 vs 2),wN (r9 rs 0)⟩
def NK:aB:=⟨[(2,w9 b9),(3,w9 i9),(4,w9 i9)],[(1,[n9 111,n9 35],1)],[(1,0,0)]⟩
def Ye:=py PG (mn PG [(178,FN),(177,Da),(176,M6)] [] (fun q=>Nat.beq q 4)) 9 9 129 7462 (qg PG 129 7462) NK
def zr (x:ck):=ug x.g.bu ((x.g.kids.get (Int.toNat x.i)).get (Int.toNat x.k))
def bX (x:ck):ax ck:=(cond ((decide (0<=x.i))&&(decide (x.i < (x.g.kids.n:Int)))) (cond (decide (x.k < ((x.g.kids.get (Int.toNat x.i)).n:Int))) (cond ((decide (0<=x.i))&&(decide (x.i < (x.g.kids.n:Int)))) (cond ((decide (0<=x.k))&&(decide (x.k < ((x.g.kids.get (Int.toNat x.i)).n:Int)))) (cond (zr x).isSome (cond (!((zr x).getD default)) (.out aq.ae.ret ⟨false,x.i,x.k,x.g⟩) (.next ⟨x.t2,x.i,(aV (x.k+1)),x.g⟩)) .fail) .fail) .fail) (.out (aq.ae.exit 2) x)) .fail)
theorem TX (x:ck):Ye (Bu x) (Bv x)=ax.enc Bu Bv (bX x):=by
 unfold bX
 try simp only [ax.aO]
 kernel_rfl
def DV:Lp:=⟨129,7462,NK,fun vs rs=>bU Bu Bv (goN bX (Lc vs rs)) [aq.ae.exit 2,aq.ae.ret],false⟩
theorem Ld:DV.Ok PG:=kv (ah.cons DU (ah.cons zm (ah.cons JM ah.nil))) aD.nil (pa:=Lc) TX
def acX:=py PG (mn PG [(178,FN),(177,Da),(176,M6)] [DV] (fun q=>Nat.beq q 4)) 9 9 129 58 (qg PG 129 58) Sz
def j3 (x:eT):=goN bX ⟨x.t2,x.i,0,x.g⟩
def qj (x:eT):ax eT:=(cond ((j3 x).by (aq.ae.exit 2)) (.next ⟨(j3 x).st.t2,(aV ((j3 x).st.i+1)),(j3 x).st.g⟩) (cond ((j3 x).by aq.ae.ret) (.out aq.ae.ret ⟨(j3 x).st.t2,(j3 x).st.i,(j3 x).st.g⟩) .fail))
def qM (x:eT):ax eT:=(cond (decide (x.i < (x.g.kids.n:Int))) (cond ((decide (0<=x.i))&&(decide (x.i < (x.g.kids.n:Int)))) (cond (decide (((x.g.kids.get (Int.toNat x.i)).n:Int) > 16)) (.out aq.ae.ret ⟨false,x.i,x.g⟩) (cond ((decide (0<=x.i))&&(decide (x.i < (x.g.kids.n:Int)))) (cond (decide (((x.g.kids.get (Int.toNat x.i)).n:Int) > 0)) (cond ((decide (0<=x.i))&&(decide (x.i < (x.g.bu.aP.n:Int)))) (cond (!(x.g.bu.aP.get (Int.toNat x.i)).live) (.out aq.ae.ret ⟨false,x.i,x.g⟩)
     (qj x)) .fail)
    (qj x)) .fail)) .fail) (.out (aq.ae.exit 0) x))
theorem Yf (x:eT):acX (GZ x) (G0 x)=ax.enc GZ G0 (qM x):=by
 unfold qM qj
 try simp only [ax.aO]
 kernel_rfl
def SA:Lp:=⟨129,58,Sz,fun vs rs=>bU GZ G0 (goN qM (PQ vs rs)) [aq.ae.exit 0,aq.ae.ret],false⟩
theorem acY:SA.Ok PG:=kv (ah.cons DU (ah.cons zm (ah.cons JM ah.nil))) (fv Ld aD.nil) (pa:=PQ) Yf
def M7 (g:cA):=Bt g.bu
def uZ (g:cA):=goN qM ⟨false,0,g⟩
def M8 (g:cA):=uY (uZ g).st.g
def Bw (g:cA):Option (Bool):=(cond (M7 g).isSome (cond (!((M7 g).getD default)) (some (false)) (cond ((g.kids.n:Int) != (g.bu.aP.n:Int)) (some (false)) (cond ((uZ g).by (aq.ae.exit 0)) (cond (M8 g).isSome (some (((M8 g).getD default))) none) (cond ((uZ g).by aq.ae.ret) (some ((uZ g).st.t2)) none)))) none)
theorem agz (g:cA):xh PG (mn PG [(178,FN),(177,Da),(176,M6)] [DV,SA] (fun q=>Nat.beq q 4)) 9 9 129 [CF g] = (Bw g).map kB:=by
 unfold Bw
 try simp only [aL]
 kernel_rfl
def TY:List KV->KR KV:=aZ PG 129 (bd kB fun vs=>Bw (qi (v9 vs 0)))
theorem SB:aY PG 129 TY:=b8 (ah.cons DU (ah.cons zm (ah.cons JM ah.nil))) (fv Ld (fv acY aD.nil)) fun w=>agz (qi (g0 27 (w 0)))
structure cL where
 e0:Int
 e1:Int
 e2:Int
instance:Inhabited cL:=⟨⟨default,default,default⟩⟩
def aoz (x:cL):List KV:=[.int .i64 x.e0,.int .i64 x.e1,.int .i64 x.e2]
def fq (x:cL):KV:=.agg (aoz x)
def aoA (c:Nat->KV):cL:=⟨av (c 0),av (c 1),av (c 2)⟩
def jR (v:KV):cL:=aoA fun k=>v.cells.getD k .bA
theorem acZ (x:cL):jR (fq x)=x:=rfl
theorem akv:jR .bA=default:=rfl
theorem FO (s:Sl cL) (v:cL):s.push v=rb jR (s.n+1) (dw s.n (fun i=>fq (s.get i)) (lU [fq v])):=(yk acZ akv s v).symm
theorem V5 (s t:Sl cL):s.join t=rb jR (s.n+t.n) (dw s.n (fun i=>fq (s.get i)) (fun i=>fq (t.get i))):=(Gb acZ s t).symm
structure fw where
 e0:cL
 e1:cL
 e2:cL
instance:Inhabited fw:=⟨⟨default,default,default⟩⟩
def aiF (x:fw):List KV:=[.int .i64 x.e0.e0,.int .i64 x.e0.e1,.int .i64 x.e0.e2,.int .i64 x.e1.e0,.int .i64 x.e1.e1,.int .i64 x.e1.e2,.int .i64 x.e2.e0,.int .i64 x.e2.e1,.int .i64 x.e2.e2]
def ZR (x:fw):KV:=.agg (aiF x)
def aiG (c:Nat->KV):fw:=⟨⟨av (c 0),av (c 1),av (c 2)⟩,⟨av (c 3),av (c 4),av (c 5)⟩,⟨av (c 6),av (c 7),av (c 8)⟩⟩
def Iw (v:KV):fw:=aiG fun k=>v.cells.getD k .bA
structure wg where
 x:Int
 y:Int
 z:Int
instance:Inhabited wg:=⟨⟨default,default,default⟩⟩
def arP (x:wg):List KV:=[.int .i64 x.x,.int .i64 x.y,.int .i64 x.z]
def ZS (x:wg):KV:=.agg (arP x)
def arQ (c:Nat->KV):wg:=⟨av (c 0),av (c 1),av (c 2)⟩
def SC (v:KV):wg:=arQ fun k=>v.cells.getD k .bA
theorem apr (x:wg):SC (ZS x)=x:=rfl
theorem amZ (s t:Sl wg):s.join t=rb SC (s.n+t.n) (dw s.n (fun i=>ZS (s.get i)) (fun i=>ZS (t.get i))):=(Gb apr s t).symm
structure Le where
 m:fw
 t:wg
instance:Inhabited Le:=⟨⟨default,default⟩⟩
def arR (x:Le):List KV:=[.int .i64 x.m.e0.e0,.int .i64 x.m.e0.e1,.int .i64 x.m.e0.e2,.int .i64 x.m.e1.e0,.int .i64 x.m.e1.e1,.int .i64 x.m.e1.e2,.int .i64 x.m.e2.e0,.int .i64 x.m.e2.e1,.int .i64 x.m.e2.e2,.int .i64 x.t.x,.int .i64 x.t.y,.int .i64 x.t.z]
def aqd (x:Le):KV:=.agg (arR x)
def arS (c:Nat->KV):Le:=⟨⟨⟨av (c 0),av (c 1),av (c 2)⟩,⟨av (c 3),av (c 4),av (c 5)⟩,⟨av (c 6),av (c 7),av (c 8)⟩⟩,⟨av (c 9),av (c 10),av (c 11)⟩⟩
def ame (v:KV):Le:=arS fun k=>v.cells.getD k .bA
structure aoB where
 e0:Int
 e1:Int
 e2:Int
 e3:Int
 e4:Int
instance:Inhabited aoB:=⟨⟨default,default,default,default,default⟩⟩
structure Color where
 e0:Int
 e1:Int
 e2:Int
 e3:Int
instance:Inhabited Color:=⟨⟨default,default,default,default⟩⟩
def aps (x:Color):List KV:=[.int .u8 x.e0,.int .u8 x.e1,.int .u8 x.e2,.int .u8 x.e3]
def abc (x:Color):KV:=.agg (aps x)
def apt (c:Nat->KV):Color:=⟨av (c 0),av (c 1),av (c 2),av (c 3)⟩
def agA (v:KV):Color:=apt fun k=>v.cells.getD k .bA
theorem am0 (x:Color):agA (abc x)=x:=rfl
theorem aiH (s t:Sl Color):s.join t=rb agA (s.n+t.n) (dw s.n (fun i=>abc (s.get i)) (fun i=>abc (t.get i))):=(Gb am0 s t).symm
structure gY where
 color:Color
 ca:Int
 gW:Int
 gq:Int
 eH:Bool
 bin:Int
instance:Inhabited gY:=⟨by constructor<;>exact default⟩
def ac0 (x:gY):List KV:=[.int .u8 x.color.e0,.int .u8 x.color.e1,.int .u8 x.color.e2,.int .u8 x.color.e3,.int .i64 x.ca,.int .u8 x.gW,.int .i64 x.gq,.bool x.eH,.int .i64 x.bin]
def JN (x:gY):KV:=.agg (ac0 x)
def ac1 (c:Nat->KV):gY:=⟨⟨av (c 0),av (c 1),av (c 2),av (c 3)⟩,av (c 4),av (c 5),av (c 6),cK (c 7),av (c 8)⟩
def agB (v:KV):gY:=ac1 fun k=>v.cells.getD k .bA
structure bR where
 aU:aoB
 look:gY
instance:Inhabited bR:=⟨⟨default,default⟩⟩
def V6 (x:bR):List KV:=[.int .u8 x.aU.e0,.int .u8 x.aU.e1,.int .u8 x.aU.e2,.int .u8 x.aU.e3,.int .u8 x.aU.e4,.int .u8 x.look.color.e0,.int .u8 x.look.color.e1,.int .u8 x.look.color.e2,.int .u8 x.look.color.e3,.int .i64 x.look.ca,.int .u8 x.look.gW,.int .i64 x.look.gq,.bool x.look.eH,.int .i64 x.look.bin]
def qk (x:bR):KV:=.agg (V6 x)
def V7 (c:Nat->KV):bR:=⟨⟨av (c 0),av (c 1),av (c 2),av (c 3),av (c 4)⟩,⟨⟨av (c 5),av (c 6),av (c 7),av (c 8)⟩,av (c 9),av (c 10),av (c 11),cK (c 12),av (c 13)⟩⟩
def nh (v:KV):bR:=V7 fun k=>v.cells.getD k .bA
theorem am1 (x:bR):nh (qk x)=x:=rfl
theorem am2:nh .bA=default:=rfl
theorem ZT (s:Sl bR) (v:bR):s.push v=rb nh (s.n+1) (dw s.n (fun i=>qk (s.get i)) (lU [qk v])):=(yk am1 am2 s v).symm
structure Node where
 kind:Int
 fG:Le
 s6:Int
 fH:wg
 lO:(Sl Int)
 sq:Int
 bB:bR
instance:Inhabited Node:=⟨by constructor<;>exact default⟩
def aqL (x:Node):List KV:=[.int .u8 x.kind,.int .i64 x.fG.m.e0.e0,.int .i64 x.fG.m.e0.e1,.int .i64 x.fG.m.e0.e2,.int .i64 x.fG.m.e1.e0,.int .i64 x.fG.m.e1.e1,.int .i64 x.fG.m.e1.e2,.int .i64 x.fG.m.e2.e0,.int .i64 x.fG.m.e2.e1,.int .i64 x.fG.m.e2.e2,.int .i64 x.fG.t.x,.int .i64 x.fG.t.y,.int .i64 x.fG.t.z,.int .u16 x.s6,.int .i64 x.fH.x,.int .i64 x.fH.y,.int .i64 x.fH.z,dc 3 (kI .i64) x.lO,.int .i64 x.sq,.int .u8 x.bB.aU.e0,.int .u8 x.bB.aU.e1,.int .u8 x.bB.aU.e2,.int .u8 x.bB.aU.e3,.int .u8 x.bB.aU.e4,.int .u8 x.bB.look.color.e0,.int .u8 x.bB.look.color.e1,.int .u8 x.bB.look.color.e2,.int .u8 x.bB.look.color.e3,.int .i64 x.bB.look.ca,.int .u8 x.bB.look.gW,.int .i64 x.bB.look.gq,.bool x.bB.look.eH,.int .i64 x.bB.look.bin]
def uh (x:Node):KV:=.agg (aqL x)
def aqM (c:Nat->KV):Node:=⟨av (c 0),⟨⟨⟨av (c 1),av (c 2),av (c 3)⟩,⟨av (c 4),av (c 5),av (c 6)⟩,⟨av (c 7),av (c 8),av (c 9)⟩⟩,⟨av (c 10),av (c 11),av (c 12)⟩⟩,av (c 13),⟨av (c 14),av (c 15),av (c 16)⟩,cT av (c 17),av (c 18),⟨⟨av (c 19),av (c 20),av (c 21),av (c 22),av (c 23)⟩,⟨⟨av (c 24),av (c 25),av (c 26),av (c 27)⟩,av (c 28),av (c 29),av (c 30),cK (c 31),av (c 32)⟩⟩⟩
def nV (v:KV):Node:=aqM fun k=>v.cells.getD k .bA
structure tt where
 e0:Int
 e1:Int
instance:Inhabited tt:=⟨⟨default,default⟩⟩
def aoC (x:tt):List KV:=[.int .i64 x.e0,.int .i64 x.e1]
def Lf (x:tt):KV:=.agg (aoC x)
def aoD (c:Nat->KV):tt:=⟨av (c 0),av (c 1)⟩
def Lg (v:KV):tt:=aoD fun k=>v.cells.getD k .bA
theorem akw (x:tt):Lg (Lf x)=x:=rfl
theorem agC (s t:Sl tt):s.join t=rb Lg (s.n+t.n) (dw s.n (fun i=>Lf (s.get i)) (fun i=>Lf (t.get i))):=(Gb akw s t).symm
structure Prim where
 kind:Int
 index:(Sl Int)
instance:Inhabited Prim:=⟨⟨default,default⟩⟩
def ac2 (x:Prim):List KV:=[.int .u8 x.kind,dc 3 (kI .i64) x.index]
def TZ (x:Prim):KV:=.agg (ac2 x)
def ac3 (c:Nat->KV):Prim:=⟨av (c 0),cT av (c 1)⟩
def Bx (v:KV):Prim:=ac3 fun k=>v.cells.getD k .bA
structure dm where
 bN:(Sl wg)
 uV:(Sl tt)
 aG:(Sl Prim)
instance:Inhabited dm:=⟨⟨default,default,default⟩⟩
def vE (x:dm):List KV:=[dc 43 ZS x.bN,dc 185 Lf x.uV,dc 172 TZ x.aG]
def xw (x:dm):KV:=.agg (vE x)
def vF (c:Nat->KV):dm:=⟨cT SC (c 0),cT Lg (c 1),cT Bx (c 2)⟩
def nW (v:KV):dm:=vF fun k=>v.cells.getD k .bA
structure cN where
 w:Int
 h:Int
 dt:(Sl Color)
instance:Inhabited cN:=⟨⟨default,default,default⟩⟩
def Yg (x:cN):List KV:=[.int .i64 x.w,.int .i64 x.h,dc 58 abc x.dt]
def jN (x:cN):KV:=.agg (Yg x)
def Yh (c:Nat->KV):cN:=⟨av (c 0),av (c 1),cT agA (c 2)⟩
def fj (v:KV):cN:=Yh fun k=>v.cells.getD k .bA
theorem aiI (x:cN):fj (jN x)=x:=rfl
theorem aiJ:fj .bA=default:=rfl
theorem aee (s:Sl cN) (v:cN):s.push v=rb fj (s.n+1) (dw s.n (fun i=>jN (s.get i)) (lU [jN v])):=(yk aiI aiJ s v).symm
structure aw where
 graph:cA
 nodes:(Sl Node)
 ay:(Sl dm)
 az:(Sl cN)
 root:Handle
instance:Inhabited aw:=⟨⟨default,default,default,default,default⟩⟩
def iE (x:aw):List KV:=[dc 111 PK x.graph.bu.aP,dc 35 (dc 32 fE) x.graph.kids,dc 77 uh x.nodes,dc 88 xw x.ay,dc 91 jN x.az,.int .i64 x.root.slot,.int .i64 x.root.gen]
def iG (x:aw):KV:=.agg (iE x)
def iH (c:Nat->KV):aw:=⟨⟨⟨cT PL (c 0)⟩,cT (cT dW) (c 1)⟩,cT nV (c 2),cT nW (c 3),cT fj (c 4),⟨av (c 5),av (c 6)⟩⟩
def de (v:KV):aw:=iH fun k=>v.cells.getD k .bA
structure lA where
 t2:Bool
 n:Int
 many:(Sl Int)
 step:Int
 s:aw
instance:Inhabited lA:=⟨⟨default,default,default,default,default⟩⟩
def Bz (x:lA):List KV:=[.bool x.t2,.int .i64 x.n,dc 3 (kI .i64) x.many,.int .i64 x.step]
def BA (x:lA):List (List KV):=[iE x.s]
def Lh (vs:List KV) (rs:List (List KV)):lA:=⟨cK (v9 vs 0),av (v9 vs 1),cT av (v9 vs 2),av (v9 vs 3),iH (r9 rs 0)⟩
def NL:aB:=⟨[(2,w9 b9),(3,w9 i9),(4,⟨false,[.arr 3]⟩),(5,w9 i9)],[(1,[n9 111,n9 35,n9 77,n9 88,n9 91,i9,i9],1)],[(1,0,0)]⟩
structure gA where
 t2:Bool
 n:Int
 many:(Sl Int)
 step:Int
 jB:(Sl Int)
 i:Int
 s:aw
instance:Inhabited gA:=⟨by constructor<;>exact default⟩
def xx (x:gA):List KV:=[.bool x.t2,.int .i64 x.n,dc 3 (kI .i64) x.many,.int .i64 x.step,dc 3 (kI .i64) x.jB,.int .i64 x.i]
def xy (x:gA):List (List KV):=[iE x.s]
def G1 (vs:List KV) (rs:List (List KV)):gA:=⟨cK (v9 vs 0),av (v9 vs 1),cT av (v9 vs 2),av (v9 vs 3),cT av (v9 vs 4),av (v9 vs 5),iH (r9 rs 0)⟩
def Ix:aB:=⟨[(2,w9 b9),(3,w9 i9),(4,⟨false,[.arr 3]⟩),(5,w9 i9),(6,⟨false,[.arr 3]⟩),(7,w9 i9)],[(1,[n9 111,n9 35,n9 77,n9 88,n9 91,i9,i9],1)],[(1,0,0)]⟩
structure eU where
 t2:Bool
 n:Int
 many:(Sl Int)
 step:Int
 jB:(Sl Int)
 i:Int
 k:Int
 s:aw
instance:Inhabited eU:=⟨by constructor<;>exact default⟩
def s7 (x:eU):List KV:=[.bool x.t2,.int .i64 x.n,dc 3 (kI .i64) x.many,.int .i64 x.step,dc 3 (kI .i64) x.jB,.int .i64 x.i,.int .i64 x.k]
def s9 (x:eU):List (List KV):=[iE x.s]
def AQ (vs:List KV) (rs:List (List KV)):eU:=⟨cK (v9 vs 0),av (v9 vs 1),cT av (v9 vs 2),av (v9 vs 3),cT av (v9 vs 4),av (v9 vs 5),av (v9 vs 6),iH (r9 rs 0)⟩
def Dc:aB:=⟨[(2,w9 b9),(3,w9 i9),(4,⟨false,[.arr 3]⟩),(5,w9 i9),(6,⟨false,[.arr 3]⟩),(7,w9 i9),(8,w9 i9)],[(1,[n9 111,n9 35,n9 77,n9 88,n9 91,i9,i9],1)],[(1,0,0)]⟩
def OD:=JL [] [] 40 16403018 Dc
def kW (x:eU):ax eU:=(cond (cond (aC x.jB.n x.jB.n) (aC x.many.n x.many.n) false) (.next ⟨x.t2,x.n,x.many,x.step,x.jB,x.i,(aV (x.k+1)),x.s⟩) .fail)
def gu (x:eU):ax eU:=(cond ((decide (0<=x.i))&&(decide (x.i < (x.s.graph.kids.n:Int)))) (cond (decide (x.k < ((x.s.graph.kids.get (Int.toNat x.i)).n:Int))) (cond (decide (x.k < 1000)) (cond ((decide (0<=x.i))&&(decide (x.i < (x.s.graph.kids.n:Int)))) (cond ((decide (0<=x.k))&&(decide (x.k < ((x.s.graph.kids.get (Int.toNat x.i)).n:Int)))) (cond (decide (((x.s.graph.kids.get (Int.toNat x.i)).get (Int.toNat x.k)).slot >= 0)) (cond (decide (((x.s.graph.kids.get (Int.toNat x.i)).get (Int.toNat x.k)).slot < x.n)) (cond ((decide (0<=x.i))&&(decide (x.i < (x.jB.n:Int)))) (cond ((decide (0<=((x.s.graph.kids.get (Int.toNat x.i)).get (Int.toNat x.k)).slot))&&(decide (((x.s.graph.kids.get (Int.toNat x.i)).get (Int.toNat x.k)).slot < (x.many.n:Int)))) (cond ((decide (0<=x.i))&&(decide (x.i < (x.jB.n:Int)))) (cond (cond (aC x.jB.n x.jB.n) (aC x.many.n x.many.n) false) (.next ⟨x.t2,x.n,x.many,x.step,(x.jB.set (0+(Int.toNat x.i)) (min (aV ((x.jB.get (0+(Int.toNat x.i)))+(x.many.get (0+(Int.toNat ((x.s.graph.kids.get (Int.toNat x.i)).get (Int.toNat x.k)).slot))))) 100000)),x.i,(aV (x.k+1)),x.s⟩) .fail) .fail) .fail) .fail)
     (kW x))
    (kW x)) .fail) .fail) (cond (cond (aC x.jB.n x.jB.n) (aC x.many.n x.many.n) false) (.out (aq.ae.exit 4) x) .fail)) (cond (cond (aC x.jB.n x.jB.n) (aC x.many.n x.many.n) false) (.out (aq.ae.exit 4) x) .fail)) .fail)
theorem Li (x:eU):OD (s7 x) (s9 x)=ax.enc s7 s9 (gu x):=by
 unfold gu kW
 try simp only [ax.aO,aiC]
 kernel_rfl
def pC:Lp:=⟨40,16403018,Dc,fun vs rs=>bU s7 s9 (goN gu (AQ vs rs)) [aq.ae.exit 4],false⟩
theorem ta:pC.Ok PG:=kv ah.nil aD.nil (pa:=AQ) Li
def T1:=JL [] [pC] 40 64074 Ix
def bm (x:gA):=goN gu ⟨x.t2,x.n,x.many,x.step,(x.jB.set (0+(Int.toNat x.i)) 1),x.i,0,x.s⟩
def gI (x:gA):ax gA:=(cond (decide (x.i < x.n)) (cond ((decide (0<=x.i))&&(decide (x.i < (x.jB.n:Int)))) (cond (cond (aC x.jB.n x.jB.n) (aC x.many.n x.many.n) false) (cond ((bm x).by (aq.ae.exit 4)) (cond ((decide (0<=(bm x).st.i))&&(decide ((bm x).st.i < ((bm x).st.jB.n:Int)))) (cond (decide (((bm x).st.jB.get (0+(Int.toNat (bm x).st.i))) > 10000)) (cond (cond (aC (bm x).st.jB.n (bm x).st.jB.n) (aC (bm x).st.many.n (bm x).st.many.n) false) (.out aq.ae.ret ⟨true,(bm x).st.n,(bm x).st.many,(bm x).st.step,(bm x).st.jB,(bm x).st.i,(bm x).st.s⟩) .fail) (cond (cond (aC (bm x).st.jB.n (bm x).st.jB.n) (aC (bm x).st.many.n (bm x).st.many.n) false) (.next ⟨(bm x).st.t2,(bm x).st.n,(bm x).st.many,(bm x).st.step,(bm x).st.jB,(aV ((bm x).st.i+1)),(bm x).st.s⟩) .fail)) .fail) .fail) .fail) .fail) (cond (cond (aC x.jB.n x.jB.n) (aC x.many.n x.many.n) false) (.out (aq.ae.exit 2) x) .fail))
theorem PR (x:gA):T1 (xx x) (xy x)=ax.enc xx xy (gI x):=by
 unfold gI
 try simp only [ax.aO,bm,aiC]
 kernel_rfl
def zt:Lp:=⟨40,64074,Ix,fun vs rs=>bU xx xy (goN gI (G1 vs rs)) [aq.ae.exit 2,aq.ae.ret],false⟩
theorem G2:zt.Ok PG:=kv ah.nil (fv ta aD.nil) (pa:=G1) PR
def Yi:=JL [] [pC,zt] 40 250 NL
def cZ (x:lA):=goN gI ⟨x.t2,x.n,x.many,x.step,⟨(Int.toNat x.n),(fun i=>0)⟩,0,x.s⟩
def mq (x:lA):ax lA:=(cond (decide (x.step < 18)) (cond (((decide (0<=x.n))&&(decide (x.n<=x.n)))&&(Nat.ble (8 * (Int.toNat x.n)) 281474976710656)) (cond (cond (aC (Int.toNat x.n) (Int.toNat x.n)) (aC x.many.n x.many.n) false) (cond ((cZ x).by (aq.ae.exit 2)) (cond (aC (cZ x).st.jB.n (cZ x).st.jB.n) (.next ⟨(cZ x).st.t2,(cZ x).st.n,(cZ x).st.jB,(aV ((cZ x).st.step+1)),(cZ x).st.s⟩) .fail) (cond ((cZ x).by aq.ae.ret) (cond (aC (cZ x).st.many.n (cZ x).st.many.n) (.out aq.ae.ret ⟨(cZ x).st.t2,(cZ x).st.n,(cZ x).st.many,(cZ x).st.step,(cZ x).st.s⟩) .fail) .fail)) .fail) .fail) (cond (aC x.many.n x.many.n) (.out (aq.ae.exit 0) x) .fail))
theorem T3 (x:lA):Yi (Bz x) (BA x)=ax.enc Bz BA (mq x):=by
 unfold mq
 try simp only [ax.aO]
 kernel_rfl
def NM:Lp:=⟨40,250,NL,fun vs rs=>bU Bz BA (goN mq (Lh vs rs)) [aq.ae.exit 0,aq.ae.ret],false⟩
theorem Yj:NM.Ok PG:=kv ah.nil (fv ta (fv G2 aD.nil)) (pa:=Lh) T3
def CG (s:aw):=goN mq ⟨false,(s.graph.kids.n:Int),⟨(Int.toNat (s.graph.kids.n:Int)),(fun i=>0)⟩,0,s⟩
def yl (s:aw):Option (Bool):=(cond (decide ((s.graph.kids.n:Int) > 300)) (some (true)) (cond ((decide ((s.graph.kids.n:Int)<=(s.graph.kids.n:Int)))&&(Nat.ble (8 * (Int.toNat (s.graph.kids.n:Int))) 281474976710656)) (cond (aC (Int.toNat (s.graph.kids.n:Int)) (Int.toNat (s.graph.kids.n:Int))) (cond ((CG s).by (aq.ae.exit 0)) (some (false)) (cond ((CG s).by aq.ae.ret) (some ((CG s).st.t2)) none)) none) none))
theorem aef (s:aw):Bs [] [pC,zt,NM] 40 [iG s] = (yl s).map kB:=by
 unfold yl
 try simp only [aL]
 kernel_rfl
def Iy:List KV->KR KV:=aZ PG 40 (bd kB fun vs=>yl (de (v9 vs 0)))
theorem G3:aY PG 40 Iy:=b8 ah.nil (fv ta (fv G2 (fv Yj aD.nil))) fun w=>aef (de (g0 34 (w 0)))
structure nw where
 l:(Sl cN)
 t2:Bool
 n:Int
 i:Int
instance:Inhabited nw:=⟨⟨default,default,default,default⟩⟩
def BB (x:nw):List KV:=[dc 91 jN x.l,.bool x.t2,.int .i64 x.n,.int .i64 x.i]
def BC (x:nw):List (List KV):=[]
def Lj (vs:List KV) (rs:List (List KV)):nw:=⟨cT fj (v9 vs 0),cK (v9 vs 1),av (v9 vs 2),av (v9 vs 3)⟩
def NN:aB:=⟨[(0,w9 (n9 91)),(2,w9 b9),(3,w9 i9),(4,w9 i9)],[],[]⟩
def Yk:=JL [] [] 42 58 NN
def jb (x:nw):ax nw:=(cond (decide (x.i < (x.l.n:Int))) (cond (decide (x.i < 100)) (cond ((decide (0<=x.i))&&(decide (x.i < (x.l.n:Int)))) (.next ⟨x.l,x.t2,(aV (x.n+(min ((x.l.get (Int.toNat x.i)).dt.n:Int) 100000))),(aV (x.i+1))⟩) .fail) (.out (aq.ae.exit 0) x)) (.out (aq.ae.exit 0) x))
theorem T4 (x:nw):Yk (BB x) (BC x)=ax.enc BB BC (jb x):=by
 unfold jb
 try simp only [ax.aO]
 kernel_rfl
def NP:Lp:=⟨42,58,NN,fun vs rs=>bU BB BC (goN jb (Lj vs rs)) [aq.ae.exit 0],false⟩
theorem Yl:NP.Ok PG:=kv ah.nil aD.nil (pa:=Lj) T4
def ui (l:(Sl cN)):=goN jb ⟨l,false,0,0⟩
def mD (l:(Sl cN)):Option (Bool):=(cond ((ui l).by (aq.ae.exit 0)) (cond (decide (((ui l).st.l.n:Int) > 40)) (some (true)) (some ((decide ((ui l).st.n > 20000))))) none)
theorem ac4 (l:(Sl cN)):Bs [] [NP] 42 [(dc 91 jN) l] = (mD l).map kB:=by
 unfold mD
 try simp only [aL]
 kernel_rfl
def FQ:List KV->KR KV:=aZ PG 42 (bd kB fun vs=>mD ((cT fj) (v9 vs 0)))
theorem DW:aY PG 42 FQ:=b8 ah.nil (fv Yl aD.nil) fun w=>ac4 ((cT fj) (g0 30 (w 0)))
structure lB where
 t2:Bool
 i:Int
 m:dm
instance:Inhabited lB:=⟨⟨default,default,default⟩⟩
def BD (x:lB):List KV:=[.bool x.t2,.int .i64 x.i]
def BF (x:lB):List (List KV):=[vE x.m]
def Ll (vs:List KV) (rs:List (List KV)):lB:=⟨cK (v9 vs 0),av (v9 vs 1),vF (r9 rs 0)⟩
def NQ:aB:=⟨[(2,w9 b9),(3,w9 i9)],[(1,[n9 43,n9 185,n9 172],1)],[(1,0,0)]⟩
def Ym:=JL [] [] 43 58 NQ
def gR (x:lB):ax lB:=(cond (decide (x.i < (x.m.aG.n:Int))) (cond ((decide (0<=x.i))&&(decide (x.i < (x.m.aG.n:Int)))) (cond (decide (((x.m.aG.get (Int.toNat x.i)).index.n:Int) > 1000)) (.out aq.ae.ret ⟨true,x.i,x.m⟩) (.next ⟨x.t2,(aV (x.i+1)),x.m⟩)) .fail) (.out (aq.ae.exit 0) x))
theorem T5 (x:lB):Ym (BD x) (BF x)=ax.enc BD BF (gR x):=by
 unfold gR
 try simp only [ax.aO]
 kernel_rfl
def NR:Lp:=⟨43,58,NQ,fun vs rs=>bU BD BF (goN gR (Ll vs rs)) [aq.ae.exit 0,aq.ae.ret],false⟩
theorem Yn:NR.Ok PG:=kv ah.nil aD.nil (pa:=Ll) T5
def zu (m:dm):=goN gR ⟨false,0,m⟩
def rR (m:dm):Option (Bool):=(cond (decide ((m.bN.n:Int) > 1000)) (some (true)) (cond (decide ((m.uV.n:Int) > 1000)) (some (true)) (cond (decide ((m.aG.n:Int) > 100)) (some (true)) (cond ((zu m).by (aq.ae.exit 0)) (some (false)) (cond ((zu m).by aq.ae.ret) (some ((zu m).st.t2)) none)))))
theorem ac5 (m:dm):Bs [] [NR] 43 [xw m] = (rR m).map kB:=by
 unfold rR
 try simp only [aL]
 kernel_rfl
def FT:List KV->KR KV:=aZ PG 43 (bd kB fun vs=>rR (nW (v9 vs 0)))
theorem DX:aY PG 43 FT:=b8 ah.nil (fv Yn aD.nil) fun w=>ac5 (nW (g0 88 (w 0)))
structure kx where
 t2:Bool
 i:Int
 s:aw
instance:Inhabited kx:=⟨⟨default,default,default⟩⟩
def zv (x:kx):List KV:=[.bool x.t2,.int .i64 x.i]
def zw (x:kx):List (List KV):=[iE x.s]
def Iz (vs:List KV) (rs:List (List KV)):kx:=⟨cK (v9 vs 0),av (v9 vs 1),iH (r9 rs 0)⟩
def Lm:aB:=⟨[(2,w9 b9),(3,w9 i9)],[(1,[n9 111,n9 35,n9 77,n9 88,n9 91,i9,i9],1)],[(1,0,0)]⟩
def V8:=JL [(43,FT),(42,FQ),(41,FM),(40,Iy)] [] 12 122 Lm
def fZ (x:kx):ax kx:=(cond (decide (x.i < (x.s.nodes.n:Int))) (cond ((decide (0<=x.i))&&(decide (x.i < (x.s.nodes.n:Int)))) (cond (decide (((x.s.nodes.get (Int.toNat x.i)).lO.n:Int) > 200)) (.out aq.ae.ret ⟨true,x.i,x.s⟩) (.next ⟨x.t2,(aV (x.i+1)),x.s⟩)) .fail) (.out (aq.ae.exit 0) x))
theorem RI (x:kx):V8 (zv x) (zw x)=ax.enc zv zw (fZ x):=by
 unfold fZ
 try simp only [ax.aO]
 kernel_rfl
def BG:Lp:=⟨12,122,Lm,fun vs rs=>bU zv zw (goN fZ (Iz vs rs)) [aq.ae.exit 0,aq.ae.ret],false⟩
theorem IA:BG.Ok PG:=kv (ah.cons DX (ah.cons DW (ah.cons DT (ah.cons G3 ah.nil)))) aD.nil (pa:=Iz) RI
structure jh where
 t2:Bool
 i:Int
 s:aw
instance:Inhabited jh:=⟨⟨default,default,default⟩⟩
def zx (x:jh):List KV:=[.bool x.t2,.int .i64 x.i]
def zy (x:jh):List (List KV):=[iE x.s]
def IB (vs:List KV) (rs:List (List KV)):jh:=⟨cK (v9 vs 0),av (v9 vs 1),iH (r9 rs 0)⟩
def Ln:aB:=⟨[(2,w9 b9),(4,w9 i9)],[(1,[n9 111,n9 35,n9 77,n9 88,n9 91,i9,i9],1)],[(1,0,0)]⟩
def V9:=JL [(43,FT),(42,FQ),(41,FM),(40,Iy)] [BG] 12 250 Ln
def xz (x:jh):=rR (x.s.ay.get (Int.toNat x.i))
def ga (x:jh):ax jh:=(cond (decide (x.i < (x.s.ay.n:Int))) (cond ((decide (0<=x.i))&&(decide (x.i < (x.s.ay.n:Int)))) (cond (xz x).isSome (cond ((xz x).getD default) (.out aq.ae.ret ⟨true,x.i,x.s⟩) (.next ⟨x.t2,(aV (x.i+1)),x.s⟩)) .fail) .fail) (.out (aq.ae.exit 2) x))
theorem RJ (x:jh):V9 (zx x) (zy x)=ax.enc zx zy (ga x):=by
 unfold ga
 try simp only [ax.aO]
 kernel_rfl
def Lo:Lp:=⟨12,250,Ln,fun vs rs=>bU zx zy (goN ga (IB vs rs)) [aq.ae.exit 2,aq.ae.ret],false⟩
theorem Wa:Lo.Ok PG:=kv (ah.cons DX (ah.cons DW (ah.cons DT (ah.cons G3 ah.nil)))) (fv IA aD.nil) (pa:=IB) RJ
def G4 (s:aw):=yl s
def G5 (s:aw):=nU s.graph
def G6 (s:aw):=mD s.az
def qN (s:aw):=goN fZ ⟨false,0,s⟩
def zz (s:aw):=goN ga ⟨(qN s).st.t2,0,(qN s).st.s⟩
def u5 (s:aw):Option (Bool):=(cond (G4 s).isSome (cond ((G4 s).getD default) (some (true)) (cond (G5 s).isSome (cond ((G5 s).getD default) (some (true)) (cond (decide ((s.nodes.n:Int) > 200)) (some (true)) (cond (decide ((s.ay.n:Int) > 60)) (some (true)) (cond (decide ((s.az.n:Int) > 60)) (some (true)) (cond (G6 s).isSome (cond ((G6 s).getD default) (some (true)) (cond ((qN s).by (aq.ae.exit 0)) (cond ((zz s).by (aq.ae.exit 2)) (some (false)) (cond ((zz s).by aq.ae.ret) (some ((zz s).st.t2)) none)) (cond ((qN s).by aq.ae.ret) (some ((qN s).st.t2)) none))) none))))) none)) none)
theorem ac6 (s:aw):Bs [(43,FT),(42,FQ),(41,FM),(40,Iy)] [BG,Lo] 12 [iG s] = (u5 s).map kB:=by
 unfold u5
 try simp only [aL]
 kernel_rfl
def Wb:List KV->KR KV:=aZ PG 12 (bd kB fun vs=>u5 (de (v9 vs 0)))
theorem aai:aY PG 12 Wb:=b8 (ah.cons DX (ah.cons DW (ah.cons DT (ah.cons G3 ah.nil)))) (fv IA (fv Wa aD.nil)) fun w=>ac6 (de (g0 34 (w 0)))
def ln (l:gY):Option (Int):=(cond (decide (l.ca < (-(1:Int)))) (some (8)) (cond (decide (l.ca >= 16)) (some (8)) (cond (decide (l.gW > 2)) (some (8)) (cond (decide (l.gq < (-(1024:Int)))) (some (8)) (cond (decide (l.gq > 1024)) (some (8)) (cond (decide (l.bin < 0)) (some (8)) (cond (decide (l.bin > 15)) (some (8)) (some (0)))))))))
theorem OE (l:gY):lu [] [] 137 [JN l] = (ln l).map (kI .i64):=by
 unfold ln
 try simp only [aL]
 kernel_rfl
def vG:List KV->KR KV:=aZ PG 137 (bd (kI .i64) fun vs=>ln (agB (v9 vs 0)))
theorem zA:aY PG 137 vG:=b8 ah.nil aD.nil fun w=>OE (agB (g0 60 (w 0)))
structure cq where
 t2:Int
 t7:Int
 s:bR
 said:gY
instance:Inhabited cq:=⟨⟨default,default,default,default⟩⟩
def ql (x:cq):List KV:=[.int .i64 x.t2,.agg [.fn (.func 183) [] [],.fn (.func 184) [] [],.fn (.func 185) [] [],.fn (.func 186) [] [],.fn (.func 187) [] []],.int .i64 x.t7]
def qm (x:cq):List (List KV):=[V6 x.s,ac0 x.said]
def E7 (vs:List KV) (rs:List (List KV)):cq:=⟨av (v9 vs 0),av (v9 vs 2),V7 (r9 rs 0),ac1 (r9 rs 1)⟩
def G7:aB:=⟨[(2,w9 i9),(6,⟨true,[.lit (.fn (.func 183) [] []),.lit (.fn (.func 184) [] []),.lit (.fn (.func 185) [] []),.lit (.fn (.func 186) [] []),.lit (.fn (.func 187) [] [])]⟩),(7,w9 i9)],[(1,[u9,u9,u9,u9,u9,u9,u9,u9,u9,i9,u9,i9,b9,i9],1),(3,[u9,u9,u9,u9,i9,u9,i9,b9,i9],1)],[(1,0,0),(3,1,0)]⟩
def RK:=sm [(137,vG)] [] 80 58 G7
def dM (x:cq):ax cq:=(.next ⟨x.t2,(aV (0+1)),x.s,⟨x.s.look.color,x.said.ca,x.said.gW,x.said.gq,x.said.eH,x.said.bin⟩⟩)
def dN (x:cq):ax cq:=(.next ⟨x.t2,(aV (1+1)),x.s,⟨x.said.color,x.s.look.ca,x.said.gW,x.said.gq,x.said.eH,x.said.bin⟩⟩)
def dP (x:cq):ax cq:=(.next ⟨x.t2,(aV (2+1)),x.s,⟨x.said.color,x.said.ca,x.s.look.gW,x.said.gq,x.said.eH,x.said.bin⟩⟩)
def dQ (x:cq):ax cq:=(.next ⟨x.t2,(aV (3+1)),x.s,⟨x.said.color,x.said.ca,x.said.gW,x.s.look.gq,x.said.eH,x.said.bin⟩⟩)
def dR (x:cq):ax cq:=(.next ⟨x.t2,(aV (4+1)),x.s,⟨x.said.color,x.said.ca,x.said.gW,x.said.gq,x.s.look.eH,x.s.look.bin⟩⟩)
def bx (x:cq):ax cq:=(cond (x.t7==0) (cond (x.s.aU.e0==0) (.next ⟨x.t2,(aV (0+1)),x.s,x.said⟩) (cond (x.s.aU.e0==1)
   (dM x) (cond (x.s.aU.e0==3)
   (dM x) (cond (x.s.aU.e0==5)
    (dM x) (cond (x.s.aU.e0==7)
    (dM x) (.out aq.ae.ret ⟨8,0,x.s,x.said⟩)))))) (cond (x.t7==1) (cond (x.s.aU.e1==0) (.next ⟨x.t2,(aV (1+1)),x.s,x.said⟩) (cond (x.s.aU.e1==1)
   (dN x) (cond (x.s.aU.e1==3)
    (dN x) (cond (x.s.aU.e1==5)
    (dN x) (cond (x.s.aU.e1==7)
     (dN x) (.out aq.ae.ret ⟨8,1,x.s,x.said⟩)))))) (cond (x.t7==2) (cond (x.s.aU.e2==0) (.next ⟨x.t2,(aV (2+1)),x.s,x.said⟩) (cond (x.s.aU.e2==1)
    (dP x) (cond (x.s.aU.e2==3)
    (dP x) (cond (x.s.aU.e2==5)
     (dP x) (cond (x.s.aU.e2==7)
     (dP x) (.out aq.ae.ret ⟨8,2,x.s,x.said⟩)))))) (cond (x.t7==3) (cond (x.s.aU.e3==0) (.next ⟨x.t2,(aV (3+1)),x.s,x.said⟩) (cond (x.s.aU.e3==1)
    (dQ x) (cond (x.s.aU.e3==3)
     (dQ x) (cond (x.s.aU.e3==5)
     (dQ x) (cond (x.s.aU.e3==7)
      (dQ x) (.out aq.ae.ret ⟨8,3,x.s,x.said⟩)))))) (cond (x.t7==4) (cond (x.s.aU.e4==0) (.next ⟨x.t2,(aV (4+1)),x.s,x.said⟩) (cond (x.s.aU.e4==1)
     (dR x) (cond (x.s.aU.e4==3)
     (dR x) (cond (x.s.aU.e4==5)
      (dR x) (cond (x.s.aU.e4==7)
      (dR x) (.out aq.ae.ret ⟨8,4,x.s,x.said⟩)))))) (cond (x.t7==5) (.out (aq.ae.exit 0) ⟨x.t2,5,x.s,x.said⟩) .fail))))))
theorem OG (x:cq):bx x = .fail\/RK (ql x) (qm x)=ax.enc ql qm (bx x):=by
 obtain ⟨t2,t7,s,said⟩:=x
 exact (ax.lit (fun h=>by subst h; (try simp only [ax.aO]); kernel_rfl) (ax.lit (fun h=>by subst h; (try simp only [ax.aO]); kernel_rfl) (ax.lit (fun h=>by subst h; (try simp only [ax.aO]); kernel_rfl) (ax.lit (fun h=>by subst h; (try simp only [ax.aO]); kernel_rfl) (ax.lit (fun h=>by subst h; (try simp only [ax.aO]); kernel_rfl) (ax.lit (fun h=>by subst h; (try simp only [ax.aO]); kernel_rfl) (.inl rfl)))))))
def G8:Lp:=⟨80,58,G7,fun vs rs=>bU ql qm (goN bx (E7 vs rs)) [aq.ae.exit 0,aq.ae.ret],false⟩
theorem RL:G8.Ok PG:=FK funcs mixed (ah.cons zA ah.nil) aD.nil (L:=9) (n:=9) (step:=bx) (ev:=ql) (er:=qm) (pa:=E7) rfl (fun wv wr=>⟨by kernel_rfl,by kernel_rfl⟩) OG
def cd (s:bR):=goN bx ⟨0,0,s,⟨⟨0,0,0,0⟩,0,0,0,false,0⟩⟩
def zB (s:bR):=ln (cd s).st.s.look
def ny (s:bR):Option (Int):=(cond ((cd s).by (aq.ae.exit 0)) (cond (!(((cd s).st.said.color.e0==(cd s).st.s.look.color.e0)&&(((cd s).st.said.color.e1==(cd s).st.s.look.color.e1)&&(((cd s).st.said.color.e2==(cd s).st.s.look.color.e2)&&(((cd s).st.said.color.e3==(cd s).st.s.look.color.e3)&&(((cd s).st.said.ca==(cd s).st.s.look.ca)&&(((cd s).st.said.gW==(cd s).st.s.look.gW)&&(((cd s).st.said.gq==(cd s).st.s.look.gq)&&(((cd s).st.said.eH==(cd s).st.s.look.eH)&&(((cd s).st.said.bin==(cd s).st.s.look.bin)&&true)))))))))) (some (8)) (cond (zB s).isSome (some (((zB s).getD default))) none)) (cond ((cd s).by aq.ae.ret) (some ((cd s).st.t2)) none))
theorem Wc (s:bR):lu [(137,vG)] [G8] 80 [qk s] = (ny s).map (kI .i64):=by
 unfold ny
 try simp only [aL]
 kernel_rfl
def wO:List KV->KR KV:=aZ PG 80 (bd (kI .i64) fun vs=>ny (nh (v9 vs 0)))
theorem xA:aY PG 80 wO:=b8 (ah.cons zA ah.nil) (fv RL aD.nil) fun w=>Wc (nh (g0 75 (w 0)))
structure Wd where
 e0:Bool
 e1:Bool
 e2:Bool
 e3:Bool
 e4:Bool
instance:Inhabited Wd:=⟨⟨default,default,default,default,default⟩⟩
structure cf where
 look:gY
 kept:Wd
instance:Inhabited cf:=⟨⟨default,default⟩⟩
def BH (x:cf):List KV:=[.int .u8 x.look.color.e0,.int .u8 x.look.color.e1,.int .u8 x.look.color.e2,.int .u8 x.look.color.e3,.int .i64 x.look.ca,.int .u8 x.look.gW,.int .i64 x.look.gq,.bool x.look.eH,.int .i64 x.look.bin,.bool x.kept.e0,.bool x.kept.e1,.bool x.kept.e2,.bool x.kept.e3,.bool x.kept.e4]
def sJ (x:cf):KV:=.agg (BH x)
def BI (c:Nat->KV):cf:=⟨⟨⟨av (c 0),av (c 1),av (c 2),av (c 3)⟩,av (c 4),av (c 5),av (c 6),cK (c 7),av (c 8)⟩,⟨cK (c 9),cK (c 10),cK (c 11),cK (c 12),cK (c 13)⟩⟩
def Rq (v:KV):cf:=BI fun k=>v.cells.getD k .bA
structure cU where
 t14:Int
 i:cf
 s:bR
 t4:cf
instance:Inhabited cU:=⟨⟨default,default,default,default⟩⟩
def qn (x:cU):List KV:=[.agg [.fn (.func 183) [] [],.fn (.func 184) [] [],.fn (.func 185) [] [],.fn (.func 186) [] [],.fn (.func 187) [] []],.int .i64 x.t14]
def qo (x:cU):List (List KV):=[BH x.i,V6 x.s,BH x.t4]
def E8 (vs:List KV) (rs:List (List KV)):cU:=⟨av (v9 vs 1),BI (r9 rs 0),V7 (r9 rs 1),BI (r9 rs 2)⟩
def G9:aB:=⟨[(13,⟨true,[.lit (.fn (.func 183) [] []),.lit (.fn (.func 184) [] []),.lit (.fn (.func 185) [] []),.lit (.fn (.func 186) [] []),.lit (.fn (.func 187) [] [])]⟩),(14,w9 i9)],[(2,[u9,u9,u9,u9,i9,u9,i9,b9,i9,b9,b9,b9,b9,b9],1),(3,[u9,u9,u9,u9,u9,u9,u9,u9,u9,i9,u9,i9,b9,i9],1),(4,[u9,u9,u9,u9,i9,u9,i9,b9,i9,b9,b9,b9,b9,b9],1)],[(2,0,0),(3,1,0),(4,2,0)]⟩
def RM:=sm [] [] 101 58 G9
def wh (x:cU):ax cU:=(.next ⟨(aV (0+1)),⟨⟨x.s.look.color,x.i.look.ca,x.i.look.gW,x.i.look.gq,x.i.look.eH,x.i.look.bin⟩,⟨((w8 (((E5 IntKind.u8 x.s.aU.e0 2):Nat):Int)) != 0),x.i.kept.e1,x.i.kept.e2,x.i.kept.e3,x.i.kept.e4⟩⟩,x.s,x.t4⟩)
def wi (x:cU):ax cU:=(.next ⟨(aV (1+1)),⟨⟨x.i.look.color,x.s.look.ca,x.i.look.gW,x.i.look.gq,x.i.look.eH,x.i.look.bin⟩,⟨x.i.kept.e0,((w8 (((E5 IntKind.u8 x.s.aU.e1 2):Nat):Int)) != 0),x.i.kept.e2,x.i.kept.e3,x.i.kept.e4⟩⟩,x.s,x.t4⟩)
def wj (x:cU):ax cU:=(.next ⟨(aV (2+1)),⟨⟨x.i.look.color,x.i.look.ca,x.s.look.gW,x.i.look.gq,x.i.look.eH,x.i.look.bin⟩,⟨x.i.kept.e0,x.i.kept.e1,((w8 (((E5 IntKind.u8 x.s.aU.e2 2):Nat):Int)) != 0),x.i.kept.e3,x.i.kept.e4⟩⟩,x.s,x.t4⟩)
def wk (x:cU):ax cU:=(.next ⟨(aV (3+1)),⟨⟨x.i.look.color,x.i.look.ca,x.i.look.gW,x.s.look.gq,x.i.look.eH,x.i.look.bin⟩,⟨x.i.kept.e0,x.i.kept.e1,x.i.kept.e2,((w8 (((E5 IntKind.u8 x.s.aU.e3 2):Nat):Int)) != 0),x.i.kept.e4⟩⟩,x.s,x.t4⟩)
def wm (x:cU):ax cU:=(.next ⟨(aV (4+1)),⟨⟨x.i.look.color,x.i.look.ca,x.i.look.gW,x.i.look.gq,x.s.look.eH,x.s.look.bin⟩,⟨x.i.kept.e0,x.i.kept.e1,x.i.kept.e2,x.i.kept.e3,((w8 (((E5 IntKind.u8 x.s.aU.e4 2):Nat):Int)) != 0)⟩⟩,x.s,x.t4⟩)
def eB (x:cU):ax cU:=(cond (x.t14==0) (cond (x.s.aU.e0==0) (.next ⟨(aV (0+1)),x.i,x.s,x.t4⟩) (cond x.i.kept.e0 (cond ((w8 (((E5 IntKind.u8 x.s.aU.e0 4):Nat):Int))==0) (.next ⟨(aV (0+1)),x.i,x.s,x.t4⟩)
   (wh x))
   (wh x))) (cond (x.t14==1) (cond (x.s.aU.e1==0) (.next ⟨(aV (1+1)),x.i,x.s,x.t4⟩) (cond x.i.kept.e1 (cond ((w8 (((E5 IntKind.u8 x.s.aU.e1 4):Nat):Int))==0) (.next ⟨(aV (1+1)),x.i,x.s,x.t4⟩)
    (wi x))
   (wi x))) (cond (x.t14==2) (cond (x.s.aU.e2==0) (.next ⟨(aV (2+1)),x.i,x.s,x.t4⟩) (cond x.i.kept.e2 (cond ((w8 (((E5 IntKind.u8 x.s.aU.e2 4):Nat):Int))==0) (.next ⟨(aV (2+1)),x.i,x.s,x.t4⟩)
    (wj x))
    (wj x))) (cond (x.t14==3) (cond (x.s.aU.e3==0) (.next ⟨(aV (3+1)),x.i,x.s,x.t4⟩) (cond x.i.kept.e3 (cond ((w8 (((E5 IntKind.u8 x.s.aU.e3 4):Nat):Int))==0) (.next ⟨(aV (3+1)),x.i,x.s,x.t4⟩)
     (wk x))
    (wk x))) (cond (x.t14==4) (cond (x.s.aU.e4==0) (.next ⟨(aV (4+1)),x.i,x.s,x.t4⟩) (cond x.i.kept.e4 (cond ((w8 (((E5 IntKind.u8 x.s.aU.e4 4):Nat):Int))==0) (.next ⟨(aV (4+1)),x.i,x.s,x.t4⟩)
     (wm x))
     (wm x))) (cond (x.t14==5) (.out (aq.ae.exit 0) ⟨5,x.i,x.s,x.t4⟩) .fail))))))
theorem OH (x:cU):eB x = .fail\/RM (qn x) (qo x)=ax.enc qn qo (eB x):=by
 obtain ⟨t14,i,s,t4⟩:=x
 exact (ax.lit (fun h=>by subst h; (try simp only [ax.aO]); kernel_rfl) (ax.lit (fun h=>by subst h; (try simp only [ax.aO]); kernel_rfl) (ax.lit (fun h=>by subst h; (try simp only [ax.aO]); kernel_rfl) (ax.lit (fun h=>by subst h; (try simp only [ax.aO]); kernel_rfl) (ax.lit (fun h=>by subst h; (try simp only [ax.aO]); kernel_rfl) (ax.lit (fun h=>by subst h; (try simp only [ax.aO]); kernel_rfl) (.inl rfl)))))))
def Ha:Lp:=⟨101,58,G9,fun vs rs=>bU qn qo (goN eB (E8 vs rs)) [aq.ae.exit 0],false⟩
theorem RN:Ha.Ok PG:=FK funcs mixed ah.nil aD.nil (L:=9) (n:=9) (step:=eB) (ev:=qn) (er:=qo) (pa:=E8) rfl (fun wv wr=>⟨by kernel_rfl,by kernel_rfl⟩) OH
def zC (i:cf) (s:bR):=goN eB ⟨0,i,s,⟨⟨⟨0,0,0,0⟩,0,0,0,false,0⟩,⟨false,false,false,false,false⟩⟩⟩
def o7 (i:cf) (s:bR):Option (cf):=(cond ((s.aU.e0==0)&&((s.aU.e1==0)&&((s.aU.e2==0)&&((s.aU.e3==0)&&((s.aU.e4==0)&&true))))) (some (i)) (cond ((zC i s).by (aq.ae.exit 0)) (some ((zC i s).st.i)) none))
theorem Wf (i:cf) (s:bR):lu [] [Ha] 101 [sJ i,qk s] = (o7 i s).map sJ:=by
 unfold o7
 try simp only [aL]
 kernel_rfl
def DY:List KV->KR KV:=aZ PG 101 (bd sJ fun vs=>o7 (Rq (v9 vs 0)) (nh (v9 vs 1)))
theorem Hb:aY PG 101 DY:=b8 ah.nil (fv RN aD.nil) fun w=>Wf (Rq (g0 179 (w 0))) (nh (g0 75 (w 1)))
def qO (l:gY):Option (Bool):=(cond (decide (l.ca >= (-(1:Int)))) (cond (decide (l.ca < 16)) (cond (decide (l.gW<=2)) (cond (decide (l.gq >= (-(1024:Int)))) (cond (decide (l.gq<=1024)) (cond (decide (l.bin >= 0)) (some ((decide (l.bin<=15)))) (some (false))) (some (false))) (some (false))) (some (false))) (some (false))) (some (false)))
theorem Yo (l:gY):lu [] [] 168 [JN l] = (qO l).map kB:=by
 unfold qO
 try simp only [aL]
 kernel_rfl
def Hc:List KV->KR KV:=aZ PG 168 (bd kB fun vs=>qO (agB (v9 vs 0)))
theorem IC:aY PG 168 Hc:=b8 ah.nil aD.nil fun w=>Yo (agB (g0 60 (w 0)))
structure mF where
 t2:Bool
 i:Int
 s:bR
instance:Inhabited mF:=⟨⟨default,default,default⟩⟩
def zD (x:mF):List KV:=[.bool x.t2,.int .i64 x.i]
def zF (x:mF):List (List KV):=[V6 x.s]
def PS (vs:List KV) (rs:List (List KV)):mF:=⟨cK (v9 vs 0),av (v9 vs 1),V7 (r9 rs 0)⟩
def SD:aB:=⟨[(2,w9 b9),(3,w9 i9)],[(1,[u9,u9,u9,u9,u9,u9,u9,u9,u9,i9,u9,i9,b9,i9],1)],[(1,0,0)]⟩
def ac7:=sm [(168,Hc)] [] 103 26 SD
def cr (x:mF):ax mF:=(cond (x.i==0) (cond (decide (x.s.aU.e0 > 7)) (.out aq.ae.ret ⟨false,0,x.s⟩) (cond ((Int.tmod x.s.aU.e0 2)==0) (cond (decide (x.s.aU.e0 > 0)) (.out aq.ae.ret ⟨false,0,x.s⟩) (.next ⟨x.t2,(aV (0+1)),x.s⟩)) (.next ⟨x.t2,(aV (0+1)),x.s⟩))) (cond (x.i==1) (cond (decide (x.s.aU.e1 > 7)) (.out aq.ae.ret ⟨false,1,x.s⟩) (cond ((Int.tmod x.s.aU.e1 2)==0) (cond (decide (x.s.aU.e1 > 0)) (.out aq.ae.ret ⟨false,1,x.s⟩) (.next ⟨x.t2,(aV (1+1)),x.s⟩)) (.next ⟨x.t2,(aV (1+1)),x.s⟩))) (cond (x.i==2) (cond (decide (x.s.aU.e2 > 7)) (.out aq.ae.ret ⟨false,2,x.s⟩) (cond ((Int.tmod x.s.aU.e2 2)==0) (cond (decide (x.s.aU.e2 > 0)) (.out aq.ae.ret ⟨false,2,x.s⟩) (.next ⟨x.t2,(aV (2+1)),x.s⟩)) (.next ⟨x.t2,(aV (2+1)),x.s⟩))) (cond (x.i==3) (cond (decide (x.s.aU.e3 > 7)) (.out aq.ae.ret ⟨false,3,x.s⟩) (cond ((Int.tmod x.s.aU.e3 2)==0) (cond (decide (x.s.aU.e3 > 0)) (.out aq.ae.ret ⟨false,3,x.s⟩) (.next ⟨x.t2,(aV (3+1)),x.s⟩)) (.next ⟨x.t2,(aV (3+1)),x.s⟩))) (cond (x.i==4) (cond (decide (x.s.aU.e4 > 7)) (.out aq.ae.ret ⟨false,4,x.s⟩) (cond ((Int.tmod x.s.aU.e4 2)==0) (cond (decide (x.s.aU.e4 > 0)) (.out aq.ae.ret ⟨false,4,x.s⟩) (.next ⟨x.t2,(aV (4+1)),x.s⟩)) (.next ⟨x.t2,(aV (4+1)),x.s⟩))) (cond (x.i==5) (.out (aq.ae.exit 0) ⟨x.t2,5,x.s⟩) .fail))))))
theorem Yp (x:mF):cr x = .fail\/ac7 (zD x) (zF x)=ax.enc zD zF (cr x):=by
 obtain ⟨t2,i,s⟩:=x
 exact (ax.lit (fun h=>by subst h; (try simp only [ax.aO]); kernel_rfl) (ax.lit (fun h=>by subst h; (try simp only [ax.aO]); kernel_rfl) (ax.lit (fun h=>by subst h; (try simp only [ax.aO]); kernel_rfl) (ax.lit (fun h=>by subst h; (try simp only [ax.aO]); kernel_rfl) (ax.lit (fun h=>by subst h; (try simp only [ax.aO]); kernel_rfl) (ax.lit (fun h=>by subst h; (try simp only [ax.aO]); kernel_rfl) (.inl rfl)))))))
def SE:Lp:=⟨103,26,SD,fun vs rs=>bU zD zF (goN cr (PS vs rs)) [aq.ae.exit 0,aq.ae.ret],false⟩
theorem ac8:SE.Ok PG:=FK funcs mixed (ah.cons IC ah.nil) aD.nil (L:=9) (n:=9) (step:=cr) (ev:=zD) (er:=zF) (pa:=PS) rfl (fun wv wr=>⟨by kernel_rfl,by kernel_rfl⟩) Yp
def eN (s:bR):=goN cr ⟨false,0,s⟩
def zG (s:bR):=qO (eN s).st.s.look
def CH (s:bR):Option (Bool):=(cond ((eN s).st.s.aU.e4==0) (cond (eN s).st.s.look.eH (some (false)) (cond ((eN s).st.s.look.bin != 0) (some (false)) (cond (zG s).isSome (some (((zG s).getD default))) none))) (cond (zG s).isSome (some (((zG s).getD default))) none))
def CI (s:bR):Option (Bool):=(cond ((eN s).st.s.aU.e3==0) (cond ((eN s).st.s.look.gq != 0) (some (false))
  (CH s))
  (CH s))
def CJ (s:bR):Option (Bool):=(cond ((eN s).st.s.aU.e2==0) (cond ((eN s).st.s.look.gW != 0) (some (false))
  (CI s))
  (CI s))
def CM (s:bR):Option (Bool):=(cond ((eN s).st.s.aU.e1==0) (cond ((eN s).st.s.look.ca != 0) (some (false))
  (CJ s))
  (CJ s))
def xB (s:bR):Option (Bool):=(cond ((eN s).by (aq.ae.exit 0)) (cond ((eN s).st.s.aU.e0==0) (cond (!(((eN s).st.s.look.color.e0==0)&&(((eN s).st.s.look.color.e1==0)&&(((eN s).st.s.look.color.e2==0)&&(((eN s).st.s.look.color.e3==0)&&true))))) (some (false))
   (CM s))
  (CM s)) (cond ((eN s).by aq.ae.ret) (some ((eN s).st.t2)) none))
theorem agD (s:bR):lu [(168,Hc)] [SE] 103 [qk s] = (xB s).map kB:=by
 unfold xB CM CJ CI CH
 try simp only [aL]
 kernel_rfl
def M9:List KV->KR KV:=aZ PG 103 (bd kB fun vs=>xB (nh (v9 vs 0)))
theorem JO:aY PG 103 M9:=b8 (ah.cons IC ah.nil) (fv ac8 aD.nil) fun w=>agD (nh (g0 75 (w 0)))
structure ct where
 k:Int
 i:cf
 s:bR
 t4:cf
instance:Inhabited ct:=⟨⟨default,default,default,default⟩⟩
def wP (x:ct):List KV:=[.int .i64 x.k]
def wQ (x:ct):List (List KV):=[BH x.i,V6 x.s,BH x.t4]
def NS (vs:List KV) (rs:List (List KV)):ct:=⟨av (v9 vs 0),BI (r9 rs 0),V7 (r9 rs 1),BI (r9 rs 2)⟩
def PT:aB:=⟨[(5,w9 i9)],[(2,[u9,u9,u9,u9,i9,u9,i9,b9,i9,b9,b9,b9,b9,b9],1),(3,[u9,u9,u9,u9,u9,u9,u9,u9,u9,i9,u9,i9,b9,i9],1),(4,[u9,u9,u9,u9,i9,u9,i9,b9,i9,b9,b9,b9,b9,b9],1)],[(2,0,0),(3,1,0),(4,2,0)]⟩
def aaj:=sm [] [] 104 26 PT
def Dd (x:ct):ax ct:=(.next ⟨(aV (0+1)),⟨⟨x.s.look.color,x.i.look.ca,x.i.look.gW,x.i.look.gq,x.i.look.eH,x.i.look.bin⟩,⟨true,x.i.kept.e1,x.i.kept.e2,x.i.kept.e3,x.i.kept.e4⟩⟩,x.s,x.t4⟩)
def De (x:ct):ax ct:=(.next ⟨(aV (0+1)),⟨⟨x.s.look.color,x.i.look.ca,x.i.look.gW,x.i.look.gq,x.i.look.eH,x.i.look.bin⟩,⟨(x.s.aU.e0==7),x.i.kept.e1,x.i.kept.e2,x.i.kept.e3,x.i.kept.e4⟩⟩,x.s,x.t4⟩)
def Df (x:ct):ax ct:=(.next ⟨(aV (1+1)),⟨⟨x.i.look.color,x.s.look.ca,x.i.look.gW,x.i.look.gq,x.i.look.eH,x.i.look.bin⟩,⟨x.i.kept.e0,true,x.i.kept.e2,x.i.kept.e3,x.i.kept.e4⟩⟩,x.s,x.t4⟩)
def Dg (x:ct):ax ct:=(.next ⟨(aV (1+1)),⟨⟨x.i.look.color,x.s.look.ca,x.i.look.gW,x.i.look.gq,x.i.look.eH,x.i.look.bin⟩,⟨x.i.kept.e0,(x.s.aU.e1==7),x.i.kept.e2,x.i.kept.e3,x.i.kept.e4⟩⟩,x.s,x.t4⟩)
def Dh (x:ct):ax ct:=(.next ⟨(aV (2+1)),⟨⟨x.i.look.color,x.i.look.ca,x.s.look.gW,x.i.look.gq,x.i.look.eH,x.i.look.bin⟩,⟨x.i.kept.e0,x.i.kept.e1,true,x.i.kept.e3,x.i.kept.e4⟩⟩,x.s,x.t4⟩)
def Di (x:ct):ax ct:=(.next ⟨(aV (2+1)),⟨⟨x.i.look.color,x.i.look.ca,x.s.look.gW,x.i.look.gq,x.i.look.eH,x.i.look.bin⟩,⟨x.i.kept.e0,x.i.kept.e1,(x.s.aU.e2==7),x.i.kept.e3,x.i.kept.e4⟩⟩,x.s,x.t4⟩)
def Dj (x:ct):ax ct:=(.next ⟨(aV (3+1)),⟨⟨x.i.look.color,x.i.look.ca,x.i.look.gW,x.s.look.gq,x.i.look.eH,x.i.look.bin⟩,⟨x.i.kept.e0,x.i.kept.e1,x.i.kept.e2,true,x.i.kept.e4⟩⟩,x.s,x.t4⟩)
def Dk (x:ct):ax ct:=(.next ⟨(aV (3+1)),⟨⟨x.i.look.color,x.i.look.ca,x.i.look.gW,x.s.look.gq,x.i.look.eH,x.i.look.bin⟩,⟨x.i.kept.e0,x.i.kept.e1,x.i.kept.e2,(x.s.aU.e3==7),x.i.kept.e4⟩⟩,x.s,x.t4⟩)
def Dl (x:ct):ax ct:=(.next ⟨(aV (4+1)),⟨⟨x.i.look.color,x.i.look.ca,x.i.look.gW,x.i.look.gq,x.s.look.eH,x.s.look.bin⟩,⟨x.i.kept.e0,x.i.kept.e1,x.i.kept.e2,x.i.kept.e3,true⟩⟩,x.s,x.t4⟩)
def Dm (x:ct):ax ct:=(.next ⟨(aV (4+1)),⟨⟨x.i.look.color,x.i.look.ca,x.i.look.gW,x.i.look.gq,x.s.look.eH,x.s.look.bin⟩,⟨x.i.kept.e0,x.i.kept.e1,x.i.kept.e2,x.i.kept.e3,(x.s.aU.e4==7)⟩⟩,x.s,x.t4⟩)
def gC (x:ct):ax ct:=(cond (x.k==0) (cond (x.s.aU.e0==3) (cond (x.s.aU.e0==0) (.next ⟨(aV (0+1)),x.i,x.s,x.t4⟩) (cond x.i.kept.e0 (cond (!(decide (x.s.aU.e0 >= 4))) (.next ⟨(aV (0+1)),x.i,x.s,x.t4⟩)
    (Dd x))
   (Dd x))) (cond (x.s.aU.e0==0) (.next ⟨(aV (0+1)),x.i,x.s,x.t4⟩) (cond x.i.kept.e0 (cond (!(decide (x.s.aU.e0 >= 4))) (.next ⟨(aV (0+1)),x.i,x.s,x.t4⟩)
    (De x))
   (De x)))) (cond (x.k==1) (cond (x.s.aU.e1==3) (cond (x.s.aU.e1==0) (.next ⟨(aV (1+1)),x.i,x.s,x.t4⟩) (cond x.i.kept.e1 (cond (!(decide (x.s.aU.e1 >= 4))) (.next ⟨(aV (1+1)),x.i,x.s,x.t4⟩)
    (Df x))
    (Df x))) (cond (x.s.aU.e1==0) (.next ⟨(aV (1+1)),x.i,x.s,x.t4⟩) (cond x.i.kept.e1 (cond (!(decide (x.s.aU.e1 >= 4))) (.next ⟨(aV (1+1)),x.i,x.s,x.t4⟩)
    (Dg x))
    (Dg x)))) (cond (x.k==2) (cond (x.s.aU.e2==3) (cond (x.s.aU.e2==0) (.next ⟨(aV (2+1)),x.i,x.s,x.t4⟩) (cond x.i.kept.e2 (cond (!(decide (x.s.aU.e2 >= 4))) (.next ⟨(aV (2+1)),x.i,x.s,x.t4⟩)
     (Dh x))
    (Dh x))) (cond (x.s.aU.e2==0) (.next ⟨(aV (2+1)),x.i,x.s,x.t4⟩) (cond x.i.kept.e2 (cond (!(decide (x.s.aU.e2 >= 4))) (.next ⟨(aV (2+1)),x.i,x.s,x.t4⟩)
     (Di x))
    (Di x)))) (cond (x.k==3) (cond (x.s.aU.e3==3) (cond (x.s.aU.e3==0) (.next ⟨(aV (3+1)),x.i,x.s,x.t4⟩) (cond x.i.kept.e3 (cond (!(decide (x.s.aU.e3 >= 4))) (.next ⟨(aV (3+1)),x.i,x.s,x.t4⟩)
     (Dj x))
     (Dj x))) (cond (x.s.aU.e3==0) (.next ⟨(aV (3+1)),x.i,x.s,x.t4⟩) (cond x.i.kept.e3 (cond (!(decide (x.s.aU.e3 >= 4))) (.next ⟨(aV (3+1)),x.i,x.s,x.t4⟩)
     (Dk x))
     (Dk x)))) (cond (x.k==4) (cond (x.s.aU.e4==3) (cond (x.s.aU.e4==0) (.next ⟨(aV (4+1)),x.i,x.s,x.t4⟩) (cond x.i.kept.e4 (cond (!(decide (x.s.aU.e4 >= 4))) (.next ⟨(aV (4+1)),x.i,x.s,x.t4⟩)
      (Dl x))
     (Dl x))) (cond (x.s.aU.e4==0) (.next ⟨(aV (4+1)),x.i,x.s,x.t4⟩) (cond x.i.kept.e4 (cond (!(decide (x.s.aU.e4 >= 4))) (.next ⟨(aV (4+1)),x.i,x.s,x.t4⟩)
      (Dm x))
     (Dm x)))) (cond (x.k==5) (.out (aq.ae.exit 0) ⟨5,x.i,x.s,x.t4⟩) .fail))))))
theorem Wg (x:ct):gC x = .fail\/aaj (wP x) (wQ x)=ax.enc wP wQ (gC x):=by
 obtain ⟨k,i,s,t4⟩:=x
 exact (ax.lit (fun h=>by subst h; (try simp only [ax.aO]); kernel_rfl) (ax.lit (fun h=>by subst h; (try simp only [ax.aO]); kernel_rfl) (ax.lit (fun h=>by subst h; (try simp only [ax.aO]); kernel_rfl) (ax.lit (fun h=>by subst h; (try simp only [ax.aO]); kernel_rfl) (ax.lit (fun h=>by subst h; (try simp only [ax.aO]); kernel_rfl) (ax.lit (fun h=>by subst h; (try simp only [ax.aO]); kernel_rfl) (.inl rfl)))))))
def PU:Lp:=⟨104,26,PT,fun vs rs=>bU wP wQ (goN gC (NS vs rs)) [aq.ae.exit 0],false⟩
theorem aak:PU.Ok PG:=FK funcs mixed ah.nil aD.nil (L:=9) (n:=9) (step:=gC) (ev:=wP) (er:=wQ) (pa:=NS) rfl (fun wv wr=>⟨by kernel_rfl,by kernel_rfl⟩) Wg
def JP (i:cf) (s:bR):=goN gC ⟨0,i,s,⟨⟨⟨0,0,0,0⟩,0,0,0,false,0⟩,⟨false,false,false,false,false⟩⟩⟩
def ym (i:cf) (s:bR):Option (cf):=(cond ((JP i s).by (aq.ae.exit 0)) (some ((JP i s).st.i)) none)
theorem aeg (i:cf) (s:bR):lu [] [PU] 104 [sJ i,qk s] = (ym i s).map sJ:=by
 unfold ym
 try simp only [aL]
 kernel_rfl
def PV:List KV->KR KV:=aZ PG 104 (bd sJ fun vs=>ym (Rq (v9 vs 0)) (nh (v9 vs 1)))
theorem PW:aY PG 104 PV:=b8 ah.nil (fv aak aD.nil) fun w=>aeg (Rq (g0 179 (w 0))) (nh (g0 75 (w 1)))
end
end Go.Proofs.YtckbdndhmcoihaaGreat.b
end
