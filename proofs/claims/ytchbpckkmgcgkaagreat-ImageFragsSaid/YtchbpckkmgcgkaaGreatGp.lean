/- Part of the proof of ImageFrags: the machine, shown to be the model's, and plain models. No conditions. -/
import Derived.Test.YtchbpckkmgcgkaaGreatFp
import Derived.OpenShut
import Derived.ChangeArms
import Derived.WideShapes
import Derived.Below
import Derived.KernelRfl
import Derived.Test.YtchbpckkmgcgkaaGreatProg
set_option linter.unusedSimpArgs false
set_option linter.unusedVariables false
section
namespace Go.K
open Go Go.aE
mutual
def W8:KV->Prop
 | .int k n=>(Lit.int k n).wf=true
 | .str s=>s.size<=maxLen
 | .ts _ _ n es _=>n<=maxLen/\Fj es
 | .agg cs=>Fj cs
 | _=>True
def Fj:List KV->Prop
 | []=>True
 | v::vs=>W8 v/\Fj vs
end
theorem Kz:∀ {a b:List KV},Fj a->Fj b->Fj (a++b)
 | [],_,_,h=>h
 | x::a,b,h,k=>by
  simp only [Fj] at h;exact ⟨h.1,Kz h.2 k⟩
theorem acC:∀ {l:List KV},Fj l->∀ v∈l,W8 v
 | [],_,v,h=>by simp at h
 | x::l,h,v,hv=>by
  simp only [Fj] at h;rcases ff.1 hv with rfl | hv
  ·exact h.1
  ·exact acC h.2 v hv
structure W9 (P:Program) (W:World) (E:Env) (B:St) (ρ:a9):Prop where
 kW:zR ρ B W.heap.size W
 k:gU P E .empty B
 κ:∀ b,E.κ b=none
 yu:∀ b o,B.get b=some o->o.gJ=false/\o.px=none
 α:∀ b,E.α b=none
def Env.none:Env:=⟨fun _=>.none,fun _=>.none,fun _=>.none,fun _=>.none⟩
theorem Rx.empty {P:Program} {E:Env} {B:St} (ve:∀ b,E.α b=none):Rx P E .empty B:=by
 have hn:∀ b o,¬ aC.empty.get b=some o:=fun b o hb=>by simp [aC.empty,aC.get] at hb
 exact ⟨fun b v hb=>(hn b _ hb).elim,fun b v hb=>(hn b _ hb).elim,fun x ⟨b,v,_,_,hb,_⟩=>(hn b _ hb).elim,fun b c v u x L N L' N' hb=>(hn b _ hb).elim,fun b c v u x y L N L' N' cs e own g k ck e' tP k' hb=>(hn b _ hb).elim,fun b x _=>ve b,fun b p e=>by rw [ve b] at e; simp at e,fun b x L N e=>by rw [ve b] at e; simp at e,fun b v x L N cs e own g k hb=>(hn b _ hb).elim,fun b v hb=>(hn b _ hb).elim⟩
theorem W9.start (P:Program) (W:World):W9 P W .none .empty (Li []):=by
 refine ⟨zR.empty W,⟨?_,?_,?_,?_,?_,?_,?_,?_,?_,?_,?_,?_,?_,?_,.empty fun _=>rfl⟩,fun _=>rfl,fun b o h=>by simp [St.get,St.empty] at h,fun _=>rfl⟩
 ·intro b cs ca h; simp [aC.empty,aC.get] at h
 ·intro b cs ca h; simp [aC.empty,aC.get] at h
 ·intro b r h; simp [Env.none] at h
 ·intro b r h; simp [Env.none] at h
 ·intro b c r h; simp [Env.none] at h
 ·intro b c r _ _ _ _ _ _ h; simp [Env.none] at h
 ·intro b r h; simp [Env.none] at h
 ·intro b r h; simp [Env.none] at h
 ·intro b o h; simp [aC.empty,aC.get] at h
 ·intro b r h; simp [Env.none] at h
 ·intro b r h; simp [Env.none] at h
 ·intro b r h; simp [Env.none] at h
 ·intro g _; simp [St.members,St.empty]
 ·intro g x h; simp [St.members,St.empty] at h
theorem W9.add {P:Program} {W:World} {E:Env} {B:St} {ρ:a9} (h:W9 P W E B ρ) {cs:List Value} {l:aE.Loc}
  (hc:∀ (i:Nat) (v:Value),cs[i]? = some v->∃ v',W.cell? ⟨l.cb,l.eX+i,.none⟩=some v'/\VR ρ v v'/\scalar v=true) (hl:l.cb < W.heap.size) (hf:l.eX+cs.length<=l.ES) :
  W9 P W (E.ir B.next ⟨cs,l.ca,false,.none⟩) (B.new (.row cs l.ca false .none)) (ρ.set B.next l)/\E.le (E.ir B.next ⟨cs,l.ca,false,.none⟩)/\ρ.le (ρ.set B.next l):=by
 have hle:E.le (E.ir B.next ⟨cs,l.ca,false,.none⟩):=⟨fun _ _ e=>e,fun _ _ e=>e,fun b r e=>by
  have:=h.k.qX b r e;simp only [Env.ir]; rw [aB (by omega)]; exact e,fun _ _ e=>e⟩
 have n4:=h.kW.Rg l;have qu:∀ b o,(B.new (.row cs l.ca false .none)).get b=some o->(b=B.next/\o = .row cs l.ca false .none)\/(b≠B.next/\B.get b=some o):=by
  intro b o hb;rw [St.dN] at hb;split at hb
  ·rename_i e; simp at hb; exact .inl ⟨e,hb.symm⟩
  ·rename_i e; exact .inr ⟨e,hb⟩
 have akk:∀ b o,(B.new (.row cs l.ca false .none)).get b=some o->o.gJ=false/\o.px = .none:=by
  intro b o hb;rcases qu b o hb with ⟨_,rfl⟩ | ⟨_,hb⟩
  ·exact ⟨rfl,rfl⟩
  ·exact h.yu b o hb
 refine ⟨⟨⟨⟨?_,?_,?_,?_,?_,?_⟩,?_,h.kW.size,h.kW.SX.mono n4⟩,?_,h.κ,akk,h.α⟩,hle,n4⟩
 ·intro b pz ca own bV hb
  rcases qu b _ hb with ⟨rfl,e⟩ | ⟨eU,hb⟩
  ·simp only [dr.row.injEq] at e
   obtain ⟨rfl,rfl,rfl,rfl⟩:=e;refine ⟨l,by simp [a9.set],⟨fun i v hi=>?_,fun _=>hl,fun e=>by simp at e,fun e=>by simp at e,hf,fun e=>by simp at e,rfl,hl,fun e=>by simp at e⟩⟩;obtain ⟨v',h1,h2,h3⟩:=hc i v hi;exact ⟨v',h1,h2.mono n4,h3⟩
  ·obtain ⟨l',h1,h2⟩:=h.kW.rel.row b pz ca own bV hb
   exact ⟨l',n4 _ _ h1,⟨fun i v hi=>by obtain ⟨v',q1,q2,q3⟩:=h2.cells i v hi; exact ⟨v',q1,q2.mono n4,q3⟩,h2.yu,h2.gJ,h2.there,h2.fits,h2.ends,h2.ca,h2.sq,h2.mark⟩⟩
 ·intro b es hb
  have:=(akk b _ hb).1;simp [dr.gJ] at this
 ·intro b s pos hb
  have:=(akk b _ hb).1;simp [dr.gJ] at this
 ·intro b st e t ps a c hb
  have:=(akk b _ hb).1;simp [dr.gJ] at this
 ·intro b1 b2 o1 o2 l1 l2 _ h1 _ h3
  have:=(akk b1 _ h1).1;rw [h3] at this; simp at this
 ·intro b o bm f hb hk
  have:=(akk b _ hb).2;rw [hk] at this; simp at this
 ·intro b l' hb
  rw [St.cB];simp only [a9.set] at hb;split at hb
  ·omega
  ·have:=h.kW.ow b l' hb; omega
 ·refine ⟨?_,?_,?_,?_,?_,?_,?_,?_,?_,?_,?_,?_,?_,?_,.empty h.α⟩
  ·intro b cs ca h; simp [aC.empty,aC.get] at h
  ·intro b cs ca h; simp [aC.empty,aC.get] at h
  ·intro b r hb
   simp only [Env.ir] at hb;split at hb
   ·rename_i e
    simp at hb;subst hb e;simp
   ·have:=h.k.qX b r hb
    rw [St.dN,aB (by omega)];exact h.k.z b r hb
  ·intro b x hb; have hb:E.κ b=some x:=hb; rw [h.κ b] at hb; simp at hb
  ·exact h.k.inj
  ·exact h.k.lT
  ·exact h.k.ow
  ·exact h.k.qD
  ·exact h.k.live
  ·intro b x hb; have:=h.k.jc b x hb; rw [St.cB]; omega
  ·intro b r hb
   simp only [Env.ir] at hb;rw [St.cB];split at hb
   ·omega
   ·have:=h.k.qX b r hb; omega
  ·intro b g hb; have:=h.k.mL b g hb; rw [St.cB]; omega
  ·intro g hg; rw [St.cB] at hg; rw [St.n3]; exact h.k.fresh g (by omega)
  ·intro g x hx; rw [St.n3] at hx; rw [St.cB]; have:=h.k.mem g x hx; omega
def ahy (P:Program):Nat->List Field->Option Nat
 | off,[]=>some off
 | off,f::fs=>cond (Nat.beq f.offset off) (ahy P (off+P.cellsOf f.type) fs) .none
def Fk (P:Program):Nat->TypeId->Bool
 | 0,_=>false
 | n+1,t=>match P.underlying t with
  | some (.int _) | some .bool | some .string=>true
  | some (.slice e)=>Nat.ble 1 (P.cellsOf e)&&Fk P n e&&(match lay P 12 e with
   | some l=>Nat.beq l.ks.length (P.cellsOf e)&&(l.agg||Nat.beq l.ks.length 1)
   | .none=>false)
  | some (.struct fs)=>fs.toList.all (fun f=>Fk P n f.type)&&(match ahy P 0 fs.toList with
   | some k=>Nat.beq k (P.cellsOf t)
   | .none=>false)
  | some (.array len e)=>Fk P n e&&Nat.beq (P.cellsOf t) (len * P.cellsOf e)
  | _=>false
def ahz (W:World) (cs:List Value):Prop:=∀ a n c,Value.slice (some a) n c∈cs->0 < W.heap.size
def Got (P:Program) (W:World) (E:Env) (_:St) (ρ:a9) (cs:List Value) (K:List KV->Prop):Prop:=
 ∃ E' B' ba ks,W9 P W E' B' ba/\E.le E'/\ρ.le ba/\Je P E' ba ks cs/\Fj ks/\K ks
def af1 {H:Type} (enc:TypeId×Value->H) (P:Program) (W:World) (n:Nat):Prop:=
 ∀ t,Fk P n t=true->∀ (fuel:Nat) (cs:List Value) (x:DataW H×List MemPlace) (E:Env) (B:St) (ρ:a9),DataW.trod enc P W 0 (fun _=>true) true fuel t cs=some x->ahz W cs->W9 P W E B ρ->
  Got P W E B ρ cs fun ks=>∀ m l,lay P m t=some l->aO l.ks ks=true
section
variable {H:Type} {enc:TypeId×Value->H} {P:Program} {W:World} {E:Env} {B:St} {ρ:a9}
theorem Je.append {E:Env} {ρ:a9} {a b:List KV} {a' b' : List Value} (h:Je P E ρ a a') (k:Je P E ρ b b'):Je P E ρ (a++b) (a'++b'):=by
 obtain ⟨m,h1,h2⟩:=h;obtain ⟨l,h3,h4⟩:=k;exact ⟨m++l,h1.append h3,h2.append h4⟩
theorem Je.mono {E E' : Env} {ρ ba:a9} {a:List KV} {a' : List Value} (h:Je P E ρ a a') (hE:E.le E') (n4:ρ.le ba):Je P E' ba a a':=by
 obtain ⟨m,h1,h2⟩:=h;exact ⟨m,h1.mono hE,h2.mono n4⟩
theorem Je.len {E:Env} {ρ:a9} {a:List KV} {a' : List Value} (h:Je P E ρ a a'):a'.length=a.length:=by
 obtain ⟨m,h1,h2⟩:=h;rw [h2.length,h1.length]
theorem OC:∀ {ks:List CK} {vs:List KV},aO ks vs=true->vs.length=ks.length
 | [],[],_=>rfl
 | [],_::_,h=>by simp [aO] at h
 | _::_,[],h=>by simp [aO] at h
 | k::ks,v::vs,h=>by
  simp only [aO,aD] at h;simp [OC h.2]
theorem OD:∀ {ks ls:List CK} {vs us:List KV},aO ks vs=true->aO ls us=true->aO (ks++ls) (vs++us)=true
 | [],_,[],_,_,h=>h
 | [],_,_::_,_,h,_=>by simp [aO] at h
 | _::_,_,[],_,h,_=>by simp [aO] at h
 | k::ks,ls,v::vs,us,h,h'=>by
  simp only [aO,aD] at h;simp only [List.cons_append,aO,aD];exact ⟨h.1,OD h.2 h'⟩
theorem ahz.sub {W:World} {cs ds:List Value} (h:ahz W cs) (k:∀ v∈ds,v∈cs):ahz W ds:=fun a n c hm=>h a n c (k _ hm)
theorem ahA {cs:List Value} {i n:Nat} : ∀ v∈(cs.drop i).take n,v∈cs:=fun _ h=>List.mem_of_mem_drop (List.mem_of_mem_take h)
theorem aeq (cs:List Value) (i m n:Nat):(cs.drop i).take m++(cs.drop (i+m)).take n=(cs.drop i).take (m+n):=by
 rw [List.take_add,List.drop_drop]
theorem aaC {n:Nat} (IH:af1 enc P W n) {fuel:Nat} {cs:List Value} (hp:ahz W cs):∀ (fs:List Field) (off k:Nat) (E:Env) (B:St) (ρ:a9),W9 P W E B ρ->ahy P off fs=some k->k<=cs.length->(∀ f∈fs,Fk P n f.type=true)->
  (∀ f∈fs,∃ x,DataW.trod enc P W 0 (fun _=>true) true fuel f.type ((cs.drop f.offset).take (P.cellsOf f.type))=some x)->
  off<=k/\Got P W E B ρ ((cs.drop off).take (k - off)) fun ks=>∀ m l,Um (lay P m) fs off=some l->aO l ks=true
 | [],off,k,E,B,ρ,hi,ht,hk,_,_=>by
  simp [ahy] at ht; subst ht;refine ⟨aX _,E,B,ρ,[],hi,Env.le_refl _,a9.le_refl _,?_,trivial,?_⟩
  ·rw [Nat.sub_self,List.take_zero]; exact ⟨[],.nil,.nil⟩
  ·intro m l h; simp [Um] at h; subst h; rfl
 | f::fs,off,k,E,B,ρ,hi,ht,hk,he,hx=>by
  unfold ahy at ht;cases hb:Nat.beq f.offset off with
  | false=>rw [hb] at ht; simp at ht
  | true=>
   rw [hb,ai] at ht;have SZ:=bo hb;obtain ⟨x,Ks⟩:=hx f (by simp);obtain ⟨E1,B1,qd,ks1,h1,h2,h3,h4,h5,h6⟩:=IH f.type (he f (by simp)) fuel _ x E B ρ Ks (hp.sub ahA) hi;obtain ⟨hle,E2,B2,z0,ks2,q1,q2,q3,q4,q5,q6⟩:=aaC IH hp fs (off+P.cellsOf f.type) k E1 B1 qd h1 ht hk (fun g hg=>he g (by simp [hg])) (fun g hg=>hx g (by simp [hg]));have hlen:ks1.length=P.cellsOf f.type:=by
    rw [<- h4.len,pt,List.length_drop,SZ];omega
   refine ⟨by omega,E2,B2,z0,ks1++ks2,q1,Env.le_trans h2 q2,a9.le_trans h3 q3,?_,Kz h5 q5,?_⟩
   ·have:=(h4.mono q2 q3).append q4
    rw [SZ,aeq] at this;rw [show k - off=P.cellsOf f.type+(k - (off+P.cellsOf f.type)) by omega];exact this
   ·intro m l hl
    unfold Um at hl;rw [hb,ai] at hl;obtain ⟨l1,hl1,hl⟩:=dm.1 hl;obtain ⟨l2,qc,rfl⟩:=cZ.1 hl;have Pt:=h6 m l1 hl1;have awR:=OC Pt;rw [<- awR,hlen] at qc;exact OD Pt (q6 m l2 qc)
theorem aer {n:Nat} (IH:af1 enc P W n) {fuel len c:Nat} {e:TypeId} {cs:List Value} (hp:ahz W cs) (he:Fk P n e=true) (hc:P.cellsOf e=c) (hk:len * c<=cs.length) (hx:∀ i,i < len->∃ x,DataW.trod enc P W 0 (fun _=>true) true fuel e ((cs.drop (i * c)).take c)=some x) (hi:W9 P W E B ρ):∀ j,j<=len->
  Got P W E B ρ (cs.take (j * c)) fun ks=>∀ m l,lay P m e=some l->aO (eN l.ks j) ks=true
 | 0,_=>by
  refine ⟨E,B,ρ,[],hi,Env.le_refl _,a9.le_refl _,?_,trivial,fun m l _=>rfl⟩;rw [Nat.zero_mul,List.take_zero]; exact ⟨[],.nil,.nil⟩
 | j+1,hj=>by
  obtain ⟨E1,B1,qd,ks1,h1,h2,h3,h4,h5,h6⟩:=aer IH hp he hc hk hx hi j (by omega);obtain ⟨x,Ks⟩:=hx j (by omega);obtain ⟨E2,B2,z0,ks2,q1,q2,q3,q4,q5,q6⟩:=IH e he fuel _ x E1 B1 qd Ks (hp.sub ahA) h1;refine ⟨E2,B2,z0,ks1++ks2,q1,Env.le_trans h2 q2,a9.le_trans h3 q3,?_,Kz h5 q5,?_⟩
  ·have:=(h4.mono q2 q3).append q4
   have e:=aeq cs 0 (j * c) c;simp only [List.drop_zero,bk] at e;rw [e] at this;rw [show (j+1) * c=j * c+c by rw [Nat.succ_mul]];exact this
  ·intro m l hl
   have:eN l.ks (j+1)=eN l.ks j++l.ks:=by
    have comm:∀ n,l.ks++eN l.ks n=eN l.ks n++l.ks:=by
     intro n
     induction n with
     | zero=>simp [eN]
     | succ n ih=>simp only [eN,HJ]; rw [ih]
    rw [<- comm]; rfl
   rw [this];exact OD (h6 m l hl) (q6 m l hl)
theorem aaD {a:Addr} {i k:Nat} {v:Value} (h:W.cell? ((a.add i).add k)=some v):W.cell? ⟨a.block,a.off+i+k,.none⟩=some v/\a.block < W.heap.size/\(i+k=0->a.spot = .none):=by
 have hb:((a.add i).add k).block=a.block:=by unfold Addr.add; split <;> split <;> rfl
 have ho:((a.add i).add k).off=a.off+i+k:=by
  unfold Addr.add;split <;> split <;> simp_all
 have hs:((a.add i).add k).spot = .none:=by
  unfold World.cell? at h;split at h
  ·split at h
   ·simp at h
   ·rename_i hs; simpa using hs
  ·simp at h
 have he:(a.add i).add k=⟨a.block,a.off+i+k,.none⟩:=by
  generalize (a.add i).add k=p at hb ho hs;obtain ⟨b,o,s⟩:=p;simp at hb ho hs;simp [hb,ho,hs]
 refine ⟨he ▸ h,?_,fun e=>?_⟩
 ·rw [he] at h
  unfold World.cell? at h;split at h
  ·rename_i heq
   exact (EN.1 heq).1
  ·simp at h
 ·have h1:i=0:=by omega
  have h2:k=0:=by omega
  subst h1 h2;simpa [Addr.add] using hs
theorem ahB {a:Addr} {n:Nat} {cs:List Value} (h:W.cells? 0 a n=some cs):cs.length=n/\∀ (k:Nat) (v:Value),cs[k]? = some v->W.cell? (a.add k)=some v:=by
 unfold World.cells? at h;rw [aW (dq _)] at h;have hl:=mapM_some_length h;simp at hl;refine ⟨hl,fun k v hv=>?_⟩;have hk:k < n:=by rw [<- hl]; exact (dB.1 hv).1
 rw [mapM_some_get h k k (by simp [hk])];exact hv
theorem aqv {ks:List KV} {agg:Bool} (h:Fj ks):W8 (TR agg ks):=by
 cases agg with
 | true=>exact h
 | false=>
  match ks,h with
  | [],_=>exact trivial
  | v::vs,h=>exact h.1
theorem XU {E:Env} {ρ:a9} : ∀ {ks:List CK} {vs:List KV} {m:List Value},aO ks vs=true->bp P E vs m->∀ v∈m,scalar v=true
 | [],[],m,_,h,v,hv=>by rw [h.cu] at hv; simp at hv
 | [],_::_,_,h,_,_,_=>by simp [aO] at h
 | _::_,[],_,h,_,_,_=>by simp [aO] at h
 | k::ks,u::vs,m,h,hm,v,hv=>by
  simp only [aO,aD] at h;obtain ⟨y,ys,rfl,h1,h2⟩:=hm.cons_inv;rcases ff.1 hv with rfl | hv
  ·refine h1.scalar ?_
   have:=h.1;cases u <;> first | rfl | (cases k <;> simp [kindOk] at this)
  ·exact XU (ρ:=ρ) h.2 h2 v hv
theorem aes {n:Nat} (IH:af1 enc P W n) {fuel len c:Nat} {e:TypeId} {l:Bd} {a:Addr} (he:Fk P n e=true) (hl:lay P 12 e=some l) (MU:l.ks.length=c) (ha:l.agg=true\/l.ks.length=1) (hc:P.cellsOf e=c) (hc1:1<=c)
  (hx:∀ i,i < len->∃ x,(W.cells? 0 (a.add (i * c)) c).bind (DataW.trod enc P W 0 (fun _=>true) true fuel e)=some x) (hi:W9 P W E B ρ):∀ j,j<=len->
  ∃ E' B' ba es us fl,W9 P W E' B' ba/\E.le E'/\ρ.le ba/\es.length=j/\bp P E' es us/\gY l es=true/\Fj es/\fl.length=j * c/\ss c 0 fl us/\
   (∀ (i:Nat) (v:Value),fl[i]? = some v->∃ v',W.cell? ⟨a.block,a.off+i,.none⟩=some v'/\VR ba v v'/\scalar v=true)/\(0 < j->a.block < W.heap.size/\a.spot = .none)
 | 0,_=>⟨E,B,ρ,[],[],[],hi,Env.le_refl _,a9.le_refl _,rfl,.nil,rfl,trivial,by simp,fun i x h=>by simp at h,fun i v h=>by simp at h,fun h=>by omega⟩
 | j+1,hj=>by
  obtain ⟨E1,B1,qd,es,us,fl,h1,h2,h3,h4,h5,h6,h7,h8,h9,xY,MZ⟩:=aes IH he hl MU ha hc hc1 hx hi j (by omega);obtain ⟨x,Ks⟩:=hx j (by omega);obtain ⟨cs,Ri,hx2⟩:=dm.1 Ks;obtain ⟨hlen,qu⟩:=ahB Ri;have Ps:a.block < W.heap.size:=by
   have h0:0 < cs.length:=by rw [hlen]; omega
   exact (aaD (qu 0 _ (dD h0))).2.1
  obtain ⟨E2,B2,z0,ks,q1,q2,q3,⟨m,q4,q4'⟩,q5,q6⟩:=IH e he fuel cs x E1 B1 qd hx2 (fun _ _ _ _=>by omega) h1;have hk:=q6 12 l hl;have hml:m.length=c:=by rw [q4.length,OC hk,MU]
  have DB:l.agg=true\/m.length=1:=by rw [hml,<- MU]; exact ha
  have hsc:=XU (ρ:=ρ) hk q4;have sG:=agZ hsc DB;have hul:us.length=j:=by rw [h5.length,h4]
  refine ⟨E2,B2,z0,es++[TR l.agg ks],us++[mkE l.agg m],fl++m,q1,Env.le_trans h2 q2,a9.le_trans h3 q3,by simp [h4],(h5.mono q2).append (.cons (ag0 q4 DB) .nil),?_,Kz h7 ⟨aqv q5,trivial⟩,?_,?_,?_,fun _=>⟨Ps,?_⟩⟩
  ·have:∀ {es:List KV},gY l es=true->gY l (es++[TR l.agg ks])=true:=by
    intro es
    induction es with
    | nil=>intro _; simp [gY,acp hk ha]
    | cons e es ih=>
     intro h;simp only [gY,aD] at h;simp only [List.cons_append,gY,aD];exact ⟨h.1,ih h.2⟩
   exact this h6
  ·rw [nY,h8,hml,Nat.succ_mul]
  ·intro i y hy
   by_cases hi:i < j
   ·rw [uk (by omega)] at hy
    obtain ⟨r1,r2⟩:=h9 i y hy;refine ⟨r1,fun k z hz=>?_⟩;have:=r2 k z hz;rw [uk (dB.1 this).1];exact this
   ·rw [wg (by omega),hul] at hy
    have vK:i=j:=by
     have:=(dB.1 hy).1;simp at this;omega
    subst vK;simp at hy;subst hy;have gI:(mkE l.agg m).cells.size=c:=by rw [<- Array.length_toList,sG,hml]
    refine ⟨gI,fun k z hz=>?_⟩;rw [<- Array.getElem?_toList,sG] at hz;rw [wg (by rw [h8]; omega),h8,show 0+i * c+k - i * c=k by omega];exact hz
  ·intro i v hv
   by_cases hi:i < fl.length
   ·rw [uk hi] at hv
    obtain ⟨v',r1,r2,r3⟩:=xY i v hv;exact ⟨v',r1,r2.mono q3,r3⟩
   ·rw [wg (by omega)] at hv
    obtain ⟨v',r1,r2⟩:=q4'.get hv;refine ⟨v',?_,r2,hsc v (ji hv)⟩;have:=(aaD (qu _ _ r1)).1;rw [h8] at this;rw [h8] at hi;rw [show a.off+i=a.off+j * c+(i - j * c) by omega];exact this
  ·by_cases h0:j=0
   ·subst h0
    have h0:0 < cs.length:=by rw [hlen]; omega
    exact (aaD (qu 0 _ (dD h0))).2.2 (by omega)
   ·exact (MZ (by omega)).2
theorem anw:∀ n,af1 enc P W n
 | 0=>fun t ht=>by simp [Fk] at ht
 | n+1=>by
  have IH:=anw n;intro t ht fuel cs x E B ρ hx hp hi;have hn:∀ {m l},lay P m t=some l->∃ m',m=m' + 1:=by
   intro m l h;cases m with
   | zero=>simp [lay] at h
   | succ m=>exact ⟨m,rfl⟩
  unfold Fk at ht;split at ht
  ·rename_i k hu
   obtain ⟨i,rfl,_,hw⟩:=DataW.trod_int hu hx;refine ⟨E,B,ρ,[.int k i],hi,Env.le_refl _,a9.le_refl _,⟨_,.cons .mkInt .nil,.cons (by simp [VR]) .nil⟩,⟨hw,trivial⟩,fun m l h=>?_⟩;obtain ⟨m',rfl⟩:=hn h;simp only [lay,hu,dE] at h;subst h;simp [aO,kindOk]
  ·rename_i hu
   obtain ⟨b,rfl,_⟩:=DataW.trod_bool hu hx;refine ⟨E,B,ρ,[.bool b],hi,Env.le_refl _,a9.le_refl _,⟨_,.cons .xW .nil,.cons (by simp [VR]) .nil⟩,⟨trivial,trivial⟩,fun m l h=>?_⟩;obtain ⟨m',rfl⟩:=hn h;simp only [lay,hu,dE] at h;subst h;simp [aO,kindOk]
  ·rename_i hu
   obtain ⟨s,rfl,_,hw⟩:=DataW.trod_string hu hx;refine ⟨E,B,ρ,[.str s],hi,Env.le_refl _,a9.le_refl _,⟨_,.cons .mkStr .nil,.cons (by simp [VR]) .nil⟩,⟨hw,trivial⟩,fun m l h=>?_⟩;obtain ⟨m',rfl⟩:=hn h;simp only [lay,hu,dE] at h;subst h;simp [aO,kindOk]
  ·rename_i e hu
   simp only [aD] at ht;obtain ⟨⟨Cf,PO⟩,ht3⟩:=ht;have hc1:=gD Cf;split at ht3
   ·rename_i l hl
    simp only [aD,u4] at ht3;have MU:=bo ht3.1;have DB:l.agg=true\/l.ks.length=1:=ht3.2.imp id bo;have hlF:bw P e=l:=by simp [bw,hl]
    have gI:bq P e=P.cellsOf e:=by rw [bq,hlF,MU]
    have fin:∀ {ks:List KV} {m:Nat} {l' : Bd} {mk:Mk} {nn:Nat} {es:List KV} {acc:Nat->KV},mk = .any->lay P m t=some l'->ks = [.ts e mk nn es acc]->aO l'.ks ks=true:=by
     intro ks m l' mk nn es acc hmk h wG;obtain ⟨m',rfl⟩:=hn h;simp only [lay,hu,dE] at h;subst h wG hmk;simp [aO,kindOk]
    rcases DataW.trod_slice hu hx with ⟨rfl,_⟩ | ⟨a,len,cap,elems,rest,fu,_,rfl,_,_,hle,ar5,Iw,hE,hR,_⟩
    ·refine ⟨E,B,ρ,[.ts e .any 0 [] pE],hi,Env.le_refl _,a9.le_refl _,⟨[.slice .none 0 0],.cons ?_ .nil,.cons (by simp [VR]) .nil⟩,⟨⟨dq _,trivial⟩,trivial⟩,fun m l h=>fin rfl h rfl⟩
     simp only [VK];exact ⟨⟨rfl,fun i h=>by omega,rfl⟩,[],.nil,.none,0,rfl,aX _,.inl ⟨rfl,rfl⟩,trivial⟩
    ·have hxs:∀ i,i < len->∃ x,(W.cells? 0 (a.add (i * P.cellsOf e)) (P.cellsOf e)).bind (DataW.trod enc P W 0 (fun _=>true) true fu e)=some x:=by
      intro i h;rw [hE i h];exact ⟨_,dD (by rw [Iw]; exact h)⟩
     obtain ⟨E1,B1,qd,es,us,fl,h1,h2,h3,h4,h5,h6,h7,h8,h9,xY,MZ⟩:=aes IH PO hl MU DB rfl hc1 hxs hi len (aX _);have Bb:0 < cap->a.block < W.heap.size/\a.spot = .none:=by
      intro h0;by_cases Ui:0 < len
      ·exact MZ Ui
      ·have Ui:len=0:=by omega
       subst Ui;obtain ⟨hr1,zT⟩:=hR rfl;have hr3:=zT 0 (by omega);rw [dD (by rw [hr1]; omega)] at hr3;obtain ⟨ck,asb,_⟩:=dm.1 hr3;obtain ⟨hlen,qu⟩:=ahB asb;have h0:0 < ck.length:=by rw [hlen]; omega
       have:=aaD (qu 0 _ (dD h0));exact ⟨this.2.1,this.2.2 (by omega)⟩
     have hh:0 < W.heap.size:=hp a len cap (by simp);have hlenes:us.length=len:=by rw [h5.length,h4]
     have awS:∃ lc:aE.Loc,lc.ca=P.cellsOf e/\lc.cb < W.heap.size/\lc.eX+fl.length<=lc.ES/\(cap≠0->a=⟨lc.cb,lc.eX,.none⟩)/\lc.eX+cap * lc.ca<=lc.ES/\
       (∀ (i:Nat) (v:Value),fl[i]? = some v->∃ v',W.cell? ⟨lc.cb,lc.eX+i,.none⟩=some v'/\VR qd v v'/\scalar v=true):=by
      by_cases h0:cap=0
      ·subst h0
       have Ui:len=0:=by omega
       subst Ui;refine ⟨⟨0,0,0,P.cellsOf e⟩,rfl,hh,by simp [h8],fun h=>absurd rfl h,by simp,fun i v hv=>?_⟩;have:fl = []:=by apply List.eq_nil_of_length_eq_zero; simp [h8]
       rw [this] at hv; simp at hv
      ·obtain ⟨p1,p2⟩:=Bb (by omega)
       refine ⟨⟨a.block,a.off,a.off+cap * P.cellsOf e,P.cellsOf e⟩,rfl,p1,?_,fun _=>?_,aX _,xY⟩
       ·rw [h8]; exact Nat.add_le_add_left (Nat.mul_le_mul_right _ hle) _
       ·obtain ⟨b,o,s⟩:=a
        simp at p2;simp [p2]
     obtain ⟨lc,l1,l2,l3,l4,l5,l6⟩:=awS;obtain ⟨i1,i2,i3⟩:=h1.add l6 l2 l3;refine ⟨_,_,_,[.ts e .any len es (ri es)],i1,Env.le_trans h2 i2,a9.le_trans h3 i3,⟨[.slice (some ⟨B1.next,0,.none⟩) len len],.cons ?_ .nil,.cons ?_ .nil⟩,⟨⟨by omega,h7⟩,trivial⟩,fun m l h=>fin rfl h rfl⟩
     ·simp only [VK]
      refine ⟨⟨h4.symm,fun i _=>rfl,by rw [hlF]; exact h6⟩,us,h5.mono i2,some ⟨B1.next,0,.none⟩,len,rfl,aX _,.inr ⟨B1.next,0,⟨fl,lc.ca,false,.none⟩,rfl,by simp [Env.ir],by rw [l1,gI],?_⟩,trivial⟩;rw [gI];exact h9
     ·simp only [VR]
      exact ⟨trivial,aX _,lc,a,cap,by simp [a9.set],hle,fun h=>by simpa using l4 h,by simpa using l5,rfl⟩
   ·simp at ht3
  ·rename_i fs hu
   simp only [aD,im] at ht;split at ht
   ·rename_i k hk
    have hkc:=bo ht.2;obtain ⟨xs,fu,_,_,hlen,hxs,hf⟩:=DataW.trod_struct hu hx;have hff:∀ f∈fs.toList,∃ x,DataW.trod enc P W 0 (fun _=>true) true fu f.type ((cs.drop f.offset).take (P.cellsOf f.type))=some x:=by
     intro f hm;obtain ⟨i,Yq⟩:=List.getElem?_of_mem hm;have hi2:fs[i]? = some f:=by simpa using Yq
     have bu:i < xs.length:=by rw [hxs]; exact (EN.1 hi2).1
     exact ⟨xs[i],by rw [hf i f hi2]; exact dD bu⟩
    obtain ⟨_,E1,B1,qd,ks,h1,h2,h3,h4,h5,h6⟩:=aaC IH hp fs.toList 0 k E B ρ hi hk (by rw [hkc,hlen]; exact aX _) ht.1 hff;refine ⟨E1,B1,qd,ks,h1,h2,h3,?_,h5,fun m l h=>?_⟩
    ·have e:(cs.drop 0).take (k - 0)=cs:=by rw [List.drop_zero,Nat.sub_zero,hkc,<- hlen,List.take_length]
     rw [e] at h4;exact h4
    ·obtain ⟨m',rfl⟩:=hn h
     simp only [lay,hu,cZ] at h;obtain ⟨l',tL,rfl⟩:=h;exact h6 m' l' tL
   ·simp at ht
  ·rename_i len e hu
   simp only [aD] at ht;have hkc:=bo ht.2;obtain ⟨xs,fu,_,_,hlen,hxs,hf⟩:=DataW.trod_array hu hx;have hff:∀ i,i < len->∃ x,DataW.trod enc P W 0 (fun _=>true) true fu e ((cs.drop (i * P.cellsOf e)).take (P.cellsOf e))=some x:=by
    intro i h;exact ⟨xs[i],by rw [hf i h]; exact dD (by rw [hxs]; exact h)⟩
   obtain ⟨E1,B1,qd,ks,h1,h2,h3,h4,h5,h6⟩:=aer IH hp ht.1 rfl (by rw [hlen,hkc]; exact aX _) hff hi len (aX _);refine ⟨E1,B1,qd,ks,h1,h2,h3,?_,h5,fun m l h=>?_⟩
   ·rw [<- hkc,<- hlen,List.take_length] at h4
    exact h4
   ·obtain ⟨m',rfl⟩:=hn h
    simp only [lay,hu,cZ] at h;obtain ⟨l',tL,rfl⟩:=h;exact h6 m' l' tL
  ·simp at ht
end
end Go.K
end
section
namespace Go.K
open Go Go.aE Go.WideShapes
mutual
def GY (P:Program):KV->Prop
 | .ts T _ n es acc=>ku P T n es acc/\Bo P es
 | .agg cs=>Bo P cs
 | _=>True
def Bo (P:Program):List KV->Prop
 | []=>True
 | v::vs=>GY P v/\Bo P vs
end
mutual
theorem VK.deep {P:Program} {E:Env} : ∀ {v:KV} {u:Value},VK P E v u->GY P v
 | .ts T m n es acc,u,h=>by
  obtain ⟨h1,us,h2,_⟩:=h.pH;exact ⟨h1,bp.deep h2⟩
 | .agg cs,u,h=>by
  obtain ⟨l,_,h1⟩:=h.pC;exact bp.deep (vs:=cs) h1
 | .int _ _,_,_ | .bool _,_,_ | .str _,_,_ | .jd _,_,_ | .tp ..,_,_ | .ptr ..,_,_ | .al ..,_,_ | .ap ..,_,_ | .sl ..,_,_ | .JW,_,_ | .nN,_,_ | .EY,_,_ | .map _,_,_ | .fn ..,_,_ | .Lj,_,_ | .iface ..,_,_ | .Ll,_,_ | .bJ,_,_=>trivial
theorem bp.deep {P:Program} {E:Env} : ∀ {vs:List KV} {us:List Value},bp P E vs us->Bo P vs
 | [],_,_=>trivial
 | v::vs,us,h=>by
  simp only [bp] at h;obtain ⟨y,ys,_,h1,h2⟩:=h;exact ⟨VK.deep h1,bp.deep h2⟩
end
def pe (P:Program):List TypeId->List KV->Bool
 | [],[]=>true
 | t::ts,v::vs=>cG (bw P t) v&&pe P ts vs
 | _,_=>false
theorem aet {P:Program} : ∀ {ts:List TypeId} {aw5:List KV},pe P ts aw5=true->aw5.length=ts.length
 | [],[],_=>rfl
 | [],_::_,h=>by simp [pe] at h
 | _::_,[],h=>by simp [pe] at h
 | t::ts,v::vs,h=>by
  simp only [pe,aD] at h;simp [aet h.2]
def aaE (P:Program) (t:TypeId):Bool:=Fk P 30 t&&(match lay P 12 t with
 | some l=>Nat.beq l.ks.length (P.cellsOf t)
 | .none=>false)
section
variable {H:Type} {enc:TypeId×Value->H} {P:Program} {W:World}
theorem alu {r:Reach} {base:Nat} {t:TypeId} {v:Value} (h:Value.okWide P W r base t v):ahz W v.cells.toList:=by
 intro a n c hm;have cell:∀ u,Cell.okWide P W r base u (.slice (some a) n c)->0 < W.heap.size:=by
  intro u hu;unfold Cell.okWide at hu;split at hu <;> try (rename_i heq; simp at heq; done)
  unfold Cell.ok at hu;split at hu <;> try (rename_i heq; simp at heq; done)
  ·rename_i e heq
   simp at heq;obtain ⟨rfl,rfl,rfl⟩:=heq;obtain ⟨_,_,_,_,row,cells,hs,_⟩:=hu;unfold World.shape? at hs;split at hs
   ·rename_i hh
    have:=(EN.1 hh).1;omega
   ·simp at hs
  ·exact hu.elim
 unfold Value.okWide at h;split at h
 ·obtain ⟨cs,rfl,_,ts,_,_,hc⟩:=h
  obtain ⟨i,hi⟩:=List.getElem?_of_mem hm;obtain ⟨u,_,hu⟩:=hc i _ (by simpa [Value.cells] using hi);exact cell u hu
 ·obtain ⟨cs,rfl,_,ts,_,_,hc⟩:=h
  obtain ⟨i,hi⟩:=List.getElem?_of_mem hm;obtain ⟨u,_,hu⟩:=hc i _ (by simpa [Value.cells] using hi);exact cell u hu
 ·have hv:v.cells.toList = [v]\/∃ cs,v = .agg cs:=by cases v <;> first | exact .inl rfl | exact .inr ⟨_,rfl⟩
  rcases hv with hv | ⟨cs,rfl⟩
  ·rw [hv] at hm
   simp at hm;subst hm;exact cell t h
  ·exfalso
   unfold Cell.okWide at h;split at h <;> try (rename_i heq; simp at heq; done)
   unfold Cell.ok at h;split at h <;> first | (rename_i heq; simp at heq; done) | exact h.elim
theorem arb {E:Env} {B:St} {ρ:a9} {t:TypeId} {v:Value} {d:DataW H} {ps:List MemPlace} {r:Reach} {base:Nat} (ht:aaE P t=true) (hd:DataW.Trod enc P W 0 (fun _=>true) true t v d ps) (hw:Value.okWide P W r base t v) (hi:W9 P W E B ρ) :
  ∃ E' B' ba a,W9 P W E' B' ba/\E.le E'/\ρ.le ba/\VC P E' ba a v/\cG (bw P t) a=true/\W8 a:=by
 unfold aaE at ht;simp only [aD] at ht;obtain ⟨Cf,PO⟩:=ht;split at PO
 ·rename_i l hl
  obtain ⟨fuel,hf⟩:=hd;obtain ⟨E1,B1,qd,ks,h1,h2,h3,⟨m,h4,h4'⟩,h5,h6⟩:=anw 30 t Cf fuel _ _ E B ρ hf (alu hw) hi;have hk:=h6 12 l hl;have hlF:bw P t=l:=by simp [bw,hl]
  have aqw:(l.agg=true/\∃ cs:Array Value,v = .agg cs)\/(l.agg=false/\l.ks.length=1/\v.cells.toList = [v]):=by
   unfold Fk at Cf;split at Cf
   ·rename_i k hu
    obtain ⟨n,rfl⟩:=okWide_int hu hw;simp only [lay,hu,dE] at hl;subst hl; exact .inr ⟨rfl,rfl,rfl⟩
   ·rename_i hu
    obtain ⟨n,rfl⟩:=okWide_bool hu hw;simp only [lay,hu,dE] at hl;subst hl; exact .inr ⟨rfl,rfl,rfl⟩
   ·rename_i hu
    obtain ⟨n,rfl⟩:=okWide_string hu hw;simp only [lay,hu,dE] at hl;subst hl; exact .inr ⟨rfl,rfl,rfl⟩
   ·rename_i e hu
    obtain ⟨a,n,c,rfl⟩:=okWide_slice hu hw;simp only [lay,hu,dE] at hl;subst hl; exact .inr ⟨rfl,rfl,rfl⟩
   ·rename_i fs hu
    simp only [lay,hu,cZ] at hl;obtain ⟨_,_,rfl⟩:=hl;unfold Value.okWide at hw;rw [hu] at hw;obtain ⟨cs,rfl,_⟩:=hw;exact .inl ⟨rfl,cs,rfl⟩
   ·rename_i len e hu
    simp only [lay,hu,cZ] at hl;obtain ⟨_,_,rfl⟩:=hl;unfold Value.okWide at hw;rw [hu] at hw;obtain ⟨cs,rfl,_⟩:=hw;exact .inl ⟨rfl,cs,rfl⟩
   ·simp at Cf
  refine ⟨E1,B1,qd,TR l.agg ks,h1,h2,h3,?_,?_,aqv h5⟩
  ·rcases aqw with ⟨ha,cs,rfl⟩ | ⟨ha,hlen,hv⟩
   ·rw [ha]
    exact ⟨.agg ⟨m⟩,.tI h4,VR.tI (l':=cs.toList) h4'⟩
   ·rw [ha]
    rw [hv] at h4';have hml:m.length=1:=by have:=h4'.length; simpa using this.symm
    have:=ag0 (agg:=false) h4 (.inr hml)
    match m,hml,h4',this with
    | [y],_,h4',this=>
     obtain ⟨z,zs,e,q1,_⟩:=h4'.cons_inv;simp at e;refine ⟨y,this,?_⟩;rw [e.1]; exact q1
  ·rw [hlF]
   exact acp hk (aqw.imp (·.1) (·.2.1))
 ·simp at PO
theorem ahC {r:Reach} {base:Nat} : ∀ {ts:List TypeId} {vs:List Value} {ds:List (DataW H)} {ps:List MemPlace} {E:Env} {B:St} {ρ:a9},(∀ t∈ts,aaE P t=true)->DataW.TrodAll enc P W 0 (fun _=>true) true ts vs ds ps->
  (∀ (j:Nat) t v,ts[j]? = some t->vs[j]? = some v->Value.okWide P W r base t v)->W9 P W E B ρ->∃ E' B' ba aw5,W9 P W E' B' ba/\E.le E'/\ρ.le ba/\Je P E' ba aw5 vs/\pe P ts aw5=true/\Fj aw5
 | [],vs,ds,ps,E,B,ρ,_,h,_,hi=>by
  obtain ⟨rfl,_,_⟩:=Go.ChangeShapes.trodAll_nil h;exact ⟨E,B,ρ,[],hi,Env.le_refl _,a9.le_refl _,⟨[],.nil,.nil⟩,rfl,trivial⟩
 | t::ts,vs,ds,ps,E,B,ρ,ht,h,hw,hi=>by
  obtain ⟨v,vs1,d,ds1,a,b,rfl,rfl,rfl,h1,h2⟩:=Go.ChangeShapes.trodAll_cons h;obtain ⟨E1,B1,qd,x,q1,q2,q3,⟨u,q4,q4'⟩,q5,q6⟩:=arb (ht t (by simp)) h1 (hw 0 t v rfl rfl) hi;obtain ⟨E2,B2,z0,xs,p1,p2,p3,⟨m,p4,p4'⟩,p5,p6⟩:=ahC (fun t' h'=>ht t' (by simp [h'])) h2 (fun j t' v' h3 h4=>hw (j+1) t' v' (by simpa using h3) (by simpa using h4)) q1;exact ⟨E2,B2,z0,x::xs,p1,Env.le_trans q2 p2,a9.le_trans q3 p3,⟨u::m,.cons (q4.mono p2) p4,.cons (q4'.mono p3) p4'⟩,by simp [pe,q5,p5],⟨q6,p6⟩⟩
theorem auA (hP:P.funcs.toList.all qq=true) (hm:P.follows .mixedOrders=true) {cfg:fW} (je:vZ P cfg.pc) (n7:z9 P cfg) {L n:Nat} {f:FuncId} {ts:List TypeId} (hts:ts.all (aaE P)=true)
  (qw:∀ aw5,pe P ts aw5=true->Fj aw5->Bo P aw5->zY P cfg L n f (normArgs P ts aw5)=some (.bool true)) {args:Array Value} {ds:List (DataW H)} {ps:List MemPlace} {r:Reach} {base:Nat}
  (hd:DataW.TrodAll enc P W 0 (fun _=>true) true ts args.toList ds ps) (hw:∀ (j:Nat) t v,ts[j]? = some t->args.toList[j]? = some v->Value.okWide P W r base t v) :
  Calls P f args W fun e w'=>e = .returned (.bool true)/\RowKit.Below W.heap.size W w':=by
 obtain ⟨E,B,ρ,aw5,h1,_,_,h4,h5,h6⟩:=ahC (im.1 hts) hd hw (W9.start P W);have avR:Bo P aw5:=by obtain ⟨m,q,_⟩:=h4; exact q.deep
 have qe:=qw aw5 h5 h6 avR;have h4:Je P E ρ (normArgs P ts aw5) args.toList:=by
  obtain ⟨m,q,q'⟩:=h4;exact ⟨m,bp.ahk rfl q (aet h5),q'⟩
 have zH:=yR (R:=KV) hP hm je n7 L n;obtain ⟨fn,c,hf,hc,cm,hnm,qe⟩:=UT hP qe;have:=RR je zH hm L hf hc cm (n7.2 f fn c hf hc) qe h4 (base:=W.heap.size) (w:=W) ⟨h1.k,h1.kW⟩;refine this.mono ?_;rintro e w' ⟨vs,cP,E1,A1,B1,qd,rfl,⟨m,q1,q1'⟩,q2,q3⟩;have q3:Bool.rec (motive:=fun _=>Option KV) .none (some (Lo (Bi P (wK P f) (B7 A1 vs).1))) (Nat.beq vs.length (wK P f).length)=some (.bool true):=q3;obtain ⟨E2,_,q1⟩:=Ni q2.kW q1;cases hb:Nat.beq vs.length (wK P f).length with
 | false=>rw [hb] at q3; exact absurd q3 (by simp)
 | true=>
  rw [hb] at q3;have q3:some (Lo (Bi P (wK P f) (B7 A1 vs).1))=some (.bool true):=q3;simp only [dE] at q3;have hv:VC P E2 qd (Lo (Bi P (wK P f) (B7 A1 vs).1)) (alm cP):=UR ⟨m,by rw [LB]; exact bp.ahk rfl q1 ((RH A1 vs).trans (bo hb)),q1'⟩;rw [q3] at hv;have hg:=q2.gX;refine ⟨by rw [hv.hO],hg.kept.os,hg.kept.tape,hg.kept.output,hg.kept.size,fun k hk=>hg.kept.block k hk ?_⟩;rintro ⟨b,o,l,ho,Ol,_⟩;rw [(h1.yu b o ho).1] at Ol;simp at Ol
end
noncomputable def akl:List (Nat×(List KV->KR KV))->FuncId->Option (List KV->KR KV)
 | [],_=>.none
 | p::ps,g=>cond (Nat.beq p.1 g) (some p.2) (akl ps g)
theorem aqx {P:Program} : ∀ {ps:List (Nat×(List KV->KR KV))},(∀ p∈ps,a7 P p.1 p.2)->vZ P (akl ps)
 | [],_=>fun g F h=>by simp [akl] at h
 | p::ps,h=>fun g F hF=>by
  unfold akl at hF;cases hb:Nat.beq p.1 g with
  | true=>
   rw [hb] at hF;simp only [ai,dE] at hF;have:=bo hb;subst this hF;exact h p (by simp)
  | false=>
   rw [hb] at hF;exact aqx (fun q hq=>h q (wh _ hq)) g F hF
theorem anx (l:Bd):cG l .bJ=false:=by
 show (!l.agg&&aO l.ks [.bJ])=false;cases l.ks with
 | nil=>simp [aO]
 | cons c cs=>cases c <;> simp [aO,kindOk]
theorem ao7 {P:Program} {t:TypeId} {v:KV} (h:cG (bw P t) (Z9 P t v)=true):∃ w,Z9 P t v=vH P (eG P iV) t w:=by
 unfold Z9 at h ⊢;cases hb:cG (bw P t) (ib (bw P t) v) with
 | false=>rw [hb,aw,anx] at h; simp at h
 | true=>exact ⟨ib (bw P t) v,rfl⟩
theorem RY:∀ {ks:List CK} {cs:List KV},aO ks cs=true->E6 ks cs=cs
 | [],[],_=>rfl
 | [],_::_,h=>by simp [aO] at h
 | _::_,[],h=>by simp [aO] at h
 | k::ks,v::vs,h=>by
  simp only [aO,aD] at h;have e:qn k v=v:=by
   unfold qn;split
   ·simp [kindOk] at h
   ·rename_i t t' m n es acc
    cases m <;> simp [kindOk] at h;obtain ⟨rfl,_⟩:=h;rw [nA,ai]
   ·rw [h.1]; rfl
  rw [E6,e,RY h.2]
theorem anz {l:Bd} {v:KV} (h:cG l v=true):ib l v=v:=by
 by_cases ha:∃ cs,v = .agg cs
 ·obtain ⟨cs,rfl⟩:=ha
  simp only [cG,aD] at h;show cond (l.agg&&Nat.beq cs.length l.ks.length) (KV.agg (E6 l.ks cs)) .bJ=_;rw [h.1,vf h.2,RY h.2];simp
 ·have h1:(!l.agg&&aO l.ks [v])=true:=by
   cases v <;> first | exact h | exact absurd ⟨_,rfl⟩ ha | simp [cG] at h
  simp only [aD,nz] at h1;have e:ib l v=cond l.agg .bJ (match l.ks with | [c]=>qn c v | _=>.bJ):=by
   cases v <;> first | rfl | exact absurd ⟨_,rfl⟩ ha
  rw [e,h1.1,aw]
  match hk:l.ks,h1.2 with
  | [c],h2=>
   have:=RY h2;simpa [E6] using this
  | [],h2=>simp [aO] at h2
  | _::_::_,h2=>simp [aO] at h2
theorem ao8 {P:Program} {t:TypeId} {v:KV} (h:cG (bw P t) v=true):Z9 P t v=vH P (eG P iV) t v:=by
 unfold Z9;rw [anz h,h,ai]
noncomputable def Ae (P:Program):List TypeId->(Nat->KV)->Nat->List KV
 | [],_,_=>[]
 | t::ts,w,k=>vH P (eG P iV) t (w k)::Ae P ts w (Nat.succ k)
theorem aaF {P:Program} : ∀ {ts:List TypeId} {w w' : Nat->KV} {k:Nat},(∀ i,k<=i->w i=w' i)->Ae P ts w k=Ae P ts w' k
 | [],_,_,_,_=>rfl
 | t::ts,w,w',k,h=>by
  rw [Ae,Ae,h k (aX _),aaF fun i hi=>h i (by omega)]
theorem ahD {P:Program} : ∀ {ts:List TypeId} {aw5:List KV} (k:Nat),pe P ts (normArgs P ts aw5)=true->∃ w,normArgs P ts aw5=Ae P ts w k
 | [],aw5,k,_=>⟨fun _=>.bJ,by cases aw5 <;> rfl⟩
 | t::ts,[],k,h=>by simp [normArgs,pe] at h
 | t::ts,v::vs,k,h=>by
  simp only [normArgs,pe,aD] at h;obtain ⟨w,hw⟩:=ao7 h.1;obtain ⟨w',hw'⟩:=ahD (k+1) h.2;refine ⟨fun i=>if i=k then w else w' i,?_⟩;rw [normArgs,Ae,hw,hw',aW rfl];rw [aaF (w:=w') (w':=fun i=>if i=k then w else w' i) fun i hi=>by rw [aB (by omega)]]
theorem ahE {P:Program} : ∀ {ts:List TypeId} {aw5:List KV} (k:Nat) {w:Nat->KV},pe P ts aw5=true->(∀ i,i < aw5.length->w (k+i)=aw5.getD i .bJ)->normArgs P ts aw5=Ae P ts w k
 | [],[],k,_,_,_=>rfl
 | [],_::_,_,_,h,_=>by simp [pe] at h
 | _::_,[],_,_,h,_=>by simp [pe] at h
 | t::ts,v::vs,k,w,h,hw=>by
  simp only [pe,aD] at h;rw [normArgs,Ae,ao8 h.1,ahE (k+1) (w:=w) h.2 fun i hi=>by have:=hw (i+1) (by simp; omega); rw [show k+1+i=k+(i+1) by omega,this]; rfl];have:=hw 0 (by simp);rw [Db] at this;rw [this]; rfl
noncomputable def a8 (P:Program) (g:FuncId) (F:List KV->KR KV):List KV->KR KV:=fun aw5=>cond (pe P (gp P g) aw5) (F aw5) .no
theorem as1 {P:Program} {g:FuncId} {F:List KV->KR KV} (hP:P.funcs.toList.all qq=true) (hm:P.follows .mixedOrders=true) {cfg:fW} (je:vZ P cfg.pc) (n7:z9 P cfg) {L n:Nat}
  (h:∀ w v,bf (F (Ae P (gp P g) w 0)) v->zY P cfg L n g (Ae P (gp P g) w 0)=some v) (hy:Nat.blt g yB=true:=by rfl):a7 P g (a8 P g F):=
 asI hy hP hm fun aw5 v _ hF=>by
  unfold a8 at hF;obtain ⟨hb,hF⟩:=bf.cond hF;obtain ⟨w,hw⟩:=ahD 0 hb;rw [hw] at hF ⊢;exact ⟨cfg,L,n,je,n7,h w v hF⟩
noncomputable def as2 (P:Program) (d:CD) (w:KV):KV:=
 match d with
 | .k c=>eG P iV (leaf c w)
 | .lit v=>v
 | .bm t=>eG P iV (leaf (.slice t) w)
 | .arr t=>eG P iV (leaf (.slice t) w)
 | .ref v=>v
noncomputable def OE (P:Program):List CD->(Nat->KV)->Nat->List KV
 | [],_,_=>[]
 | d::ds,w,k=>as2 P d (w k)::OE P ds w (Nat.succ k)
noncomputable def alv (P:Program) (d:VD) (w:Nat->KV):KV:=Bool.rec (motive:=fun _=>KV) ((OE P d.ks w 0).headD .bJ) (.agg (OE P d.ks w 0)) d.agg
noncomputable def mO (P:Program):List (Tmp×VD)->(Nat->Nat->KV)->Nat->List KV
 | [],_,_=>[]
 | p::ps,w,k=>alv P p.2 (w k)::mO P ps w (Nat.succ k)
noncomputable def mP (P:Program):List (Tmp×List CD×Nat)->(Nat->Nat->KV)->Nat->List (List KV)
 | [],_,_=>[]
 | p::ps,w,k=>OE P p.2.1 (w k) 0::mP P ps w (Nat.succ k)
theorem akm {P:Program} {A:aC} {d:CD} {v:KV} (h:lE d (gK P A d v)=true):∃ w,gK P A d v=as2 P d w:=by
 cases d with
 | ref u=>exact ⟨.bJ,rfl⟩
 | k c=>
  have e:gK P A (.k c) v=cond (kindOk c (qn c v)) (eG P iV (leaf c (qn c v))) .bJ:=rfl;cases hb:kindOk c (qn c v) with
  | true=>exact ⟨qn c v,by rw [e,hb]; rfl⟩
  | false=>
   rw [e,hb] at h;cases c <;> simp [lE,kindOk] at h
 | lit u=>
  have e:gK P A (.lit u) v=cond (Aa u v) u .bJ:=rfl;cases hb:Aa u v with
  | true=>exact ⟨.bJ,by rw [e,hb]; rfl⟩
  | false=>
   rw [e,hb,aw] at h;have h:Aa u .bJ=true:=h;cases u <;> first | (simp [Aa] at h; done) | (rename_i f a b; cases f <;> cases a <;> cases b <;> simp [Aa] at h)
 | bm t=>
  cases v with
  | nN=>exact ⟨.ts t .any 0 [] pE,rfl⟩
  | ts t' m n es acc=>
   cases m with
   | bm f=>
    have e:gK P A (.bm t) (.ts t' (.bm f) n es acc)=cond (Nat.beq t t') (eG P iV (.ts t .any n es acc)) .bJ:=rfl;cases hb:Nat.beq t t' with
    | true=>exact ⟨.ts t .any n es acc,by rw [e,hb]; rfl⟩
    | false=>rw [e,hb] at h; simp [lE,kindOk] at h
   | _=>simp [gK,lE,kindOk] at h
  | _=>simp [gK,lE,kindOk] at h
 | arr t=>
  rcases acz h with rfl | ⟨b,n,m,N,es,acc,rfl,_,he⟩
  ·exact ⟨.ts t .any 0 [] pE,rfl⟩
  ·exact ⟨.ts t .any N es acc,he⟩
theorem aaG {P:Program} : ∀ {ds:List CD} {w w' : Nat->KV} {k:Nat},(∀ i,k<=i->w i=w' i)->OE P ds w k=OE P ds w' k
 | [],_,_,_,_=>rfl
 | t::ts,w,w',k,h=>by
  rw [OE,OE,h k (aX _),aaG fun i hi=>h i (by omega)]
theorem acD {P:Program} {A:aC} : ∀ {ds:List CD} {vs:List KV} (k:Nat),eC ds (gL P A ds vs)=true->∃ w,gL P A ds vs=OE P ds w k
 | [],vs,k,_=>⟨fun _=>.bJ,by cases vs <;> rfl⟩
 | d::ds,[],k,h=>by simp [gL,eC] at h
 | d::ds,v::vs,k,h=>by
  simp only [gL,eC,aD] at h;obtain ⟨w,hw⟩:=akm h.1;obtain ⟨w',hw'⟩:=acD (k+1) h.2;refine ⟨fun i=>if i=k then w else w' i,?_⟩;rw [gL,OE,hw,hw',aW rfl];rw [aaG (w:=w') (w':=fun i=>if i=k then w else w' i) fun i hi=>by rw [aB (by omega)]]
theorem arc {P:Program} {A:aC} {d:VD} {v:KV} (h:Bk d (zm P A d v)=true):∃ w,zm P A d v=alv P d w:=by
 have DB:=CV h;rcases CW h with ⟨cs,rfl,h1,h2,h3⟩ | ⟨h0,c,h1,h2,h3,h4,h5⟩
 ·obtain ⟨w,hw⟩:=acD 0 h3
  refine ⟨w,?_⟩;have:d.agg=true:=by
   rcases DB with ⟨_,_,q,_⟩ | ⟨q,_⟩
   ·exact q
   ·exact absurd h2 (q _)
  rw [h2,hw,alv,this]
 ·obtain ⟨w,hw⟩:=akm h3
  refine ⟨fun _=>w,?_⟩;have:d.agg=false:=by
   rcases DB with ⟨cs,q,_⟩ | ⟨_,q,_⟩
   ·rw [h2] at q; exact absurd q (h5 _)
   ·exact q
  rw [h2,hw,alv,this,h1]; rfl
theorem XV {P:Program} : ∀ {ps:List (Tmp×VD)} {w w' : Nat->Nat->KV} {k:Nat},(∀ i,k<=i->w i=w' i)->mO P ps w k=mO P ps w' k
 | [],_,_,_,_=>rfl
 | t::ts,w,w',k,h=>by
  rw [mO,mO,h k (aX _),XV fun i hi=>h i (by omega)]
theorem ahF {P:Program} {t:bN} {A:aC} : ∀ {ps:List (Tmp×VD)} (k:Nat),jB ps (tQ P t A ps)=true->∃ w,tQ P t A ps=mO P ps w k
 | [],k,_=>⟨fun _ _=>.bJ,rfl⟩
 | p::ps,k,h=>by
  simp only [tQ,jB,aD] at h;obtain ⟨w,hw⟩:=arc h.1;obtain ⟨w',hw'⟩:=ahF (k+1) h.2;refine ⟨fun i=>if i=k then w else w' i,?_⟩;rw [tQ,mO,hw,hw',aW rfl];rw [XV (w:=w') (w':=fun i=>if i=k then w else w' i) fun i hi=>by rw [aB (by omega)]]
theorem XW {P:Program} : ∀ {ps:List (Tmp×List CD×Nat)} {w w' : Nat->Nat->KV} {k:Nat},(∀ i,k<=i->w i=w' i)->mP P ps w k=mP P ps w' k
 | [],_,_,_,_=>rfl
 | t::ts,w,w',k,h=>by
  rw [mP,mP,h k (aX _),XW fun i hi=>h i (by omega)]
theorem ahG {P:Program} : ∀ {ps:List (Tmp×List CD×Nat)} {rs:List (List KV)} (k:Nat),rs.length=ps.length->(∀ (i:Nat) p r,ps[i]? = some p->rs[i]? = some r->eC p.2.1 r=true)->
  (∀ (i:Nat) p,ps[i]? = some p->∃ A pz,rs[i]? = some (gL P A p.2.1 pz)/\pz.length=p.2.1.length)->∃ w,rs=mP P ps w k
 | [],[],k,_,_,_=>⟨fun _ _=>.bJ,rfl⟩
 | [],_::_,_,h,_,_=>by simp at h
 | _::_,[],_,h,_,_=>by simp at h
 | p::ps,r::rs,k,hl,hg,hn=>by
  obtain ⟨A,pz,h1,_⟩:=hn 0 p rfl;simp only [List.getElem?_cons_zero,dE] at h1;have h2:=hg 0 p r rfl rfl;rw [h1] at h2;obtain ⟨w,hw⟩:=acD 0 h2;obtain ⟨w',hw'⟩:=ahG (ps:=ps) (rs:=rs) (k+1) (by simpa using hl) (fun i p r a b=>hg (i+1) p r (by simpa using a) (by simpa using b)) fun i p a=>by simpa using hn (i+1) p (by simpa using a)
  refine ⟨fun i=>if i=k then w else w' i,?_⟩;rw [mP,h1,hw,aW rfl];congr 1;rw [hw'];exact XW fun i hi=>by rw [aB (by omega)]
theorem Gs.form {P:Program} {S:aU} {vs:List KV} {rs:List (List KV)} (h:Gs P S vs rs):∃ wv wr,vs=mO P S.eE wv 0/\rs=mP P S.rows wr 0:=by
 obtain ⟨t,A,ht⟩:=h.vn;have hv:=h.v;rw [ht] at hv;obtain ⟨wv,hwv⟩:=ahF 0 hv;obtain ⟨wr,hwr⟩:=ahG 0 h.wS h.B6 h.rn;exact ⟨wv,wr,by rw [ht,hwv],hwr⟩
inductive aK (X:Type) where
 | fail
 | next (x:X)
 | out (e:aq) (x:X)
def aK.enc {X:Type} (ev:X->List KV) (er:X->List (List KV)):aK X->Option (aq×List KV×List (List KV))
 | .fail=>.none
 | .next x=>some (.normal,ev x,er x)
 | .out e x=>some (e,ev x,er x)
theorem aK.bI {X:Type} (ev:X->List KV) (er:X->List (List KV)) (c:Bool) (a b:aK X):aK.enc ev er (cond c a b)=cond c (aK.enc ev er a) (aK.enc ev er b):=by cases c <;> rfl
def aK.go {X:Type} (step:X->aK X):Nat->X->aK X
 | 0,_=>.fail
 | n+1,x=>match step x with
  | .fail=>.fail
  | .next x=>aK.go step n x
  | .out e x=>cond (yS e) .fail (.out e x)
def gq:aq->aq->Bool
 | .normal,.normal=>true
 | .exit i,.exit j=>Nat.beq i j
 | .goto i,.goto j=>Nat.beq i j
 | .ret,.ret=>true
 | _,_=>false
theorem alw {a b:aq} (h:gq a b=true):a=b:=by
 cases a <;> cases b <;> simp [gq] at h <;> first | rfl | (subst h; rfl)
def aK.by {X:Type} (s:aK X) (e:aq):Bool:=
 match s with
 | .out e' _=>gq e' e
 | _=>false
def aK.st {X:Type} [Inhabited X] (s:aK X):X:=
 match s with
 | .out _ x=>x
 | _=>default
theorem anA {X:Type} {step:X->aK X} {ev:X->List KV} {er:X->List (List KV)} {rd:List KV->List (List KV)->Option (aq×List KV×List (List KV))} (h:∀ x,rd (ev x) (er x)=aK.enc ev er (step x)) :
  ∀ (n:Nat) (x:X) (e:aq) (y:X),aK.go step n x = .out e y->zd rd n (ev x) (er x)=some (e,ev y,er y)
 | 0,x,e,y,hg=>by simp [aK.go] at hg
 | n+1,x,e,y,hg=>by
  simp only [aK.go] at hg;have hx:=h x;cases hs:step x with
  | fail=>rw [hs] at hg; simp at hg
  | next x'=>
   rw [hs] at hg hx;simp only [zd,hx,aK.enc,yS,ai];exact anA h n x' e y hg
  | out e' x'=>
   rw [hs] at hg hx;simp only at hg;cases hn:yS e' with
   | true=>rw [hn] at hg; simp at hg
   | false=>
    rw [hn,aw] at hg;simp only [aK.out.injEq] at hg;obtain ⟨rfl,rfl⟩:=hg;simp only [zd,hx,aK.enc,hn,aw]
def cc {X:Type} [Inhabited X] (ev:X->List KV) (er:X->List (List KV)) (s:aK X):List aq->wR
 | []=>.no
 | e::es=>.br (s.by e) (.out e (ev s.st) (er s.st)) (cc ev er s es)
theorem Y5 {X:Type} [Inhabited X] {ev:X->List KV} {er:X->List (List KV)} {s:aK X} : ∀ {es:List aq} {e:aq} {vs:List KV} {rs:List (List KV)},(cc ev er s es).ev=some (e,vs,rs)->∃ x,s = .out e x/\vs=ev x/\rs=er x
 | [],e,vs,rs,h=>by simp [cc,wR.ev] at h
 | e'::es,e,vs,rs,h=>by
  simp only [cc,wR.ev] at h;cases hb:s.by e' with
  | false=>rw [hb] at h; exact Y5 h
  | true=>
   rw [hb,ai] at h;simp only [dE,gF] at h;obtain ⟨rfl,rfl,rfl⟩:=h;cases s with
   | out e0 x=>
    have:=alw (show gq e0 e' = true from hb);subst this;exact ⟨x,rfl,rfl,rfl⟩
   | fail=>simp [aK.by] at hb
   | next x=>simp [aK.by] at hb
def gv:Nat:=1000000000000
def goN {X:Type} (step:X->aK X) (x:X):aK X:=aK.go step gv x
theorem anB {P:Program} {l:Lp} {X:Type} [Inhabited X] {cfg:fW} {L n:Nat} (je:vZ P cfg.pc) (n7:z9 P cfg) {step:X->aK X} {ev:X->List KV} {er:X->List (List KV)} {es:List aq} {pa:List KV->List (List KV)->X}
  (hF:∀ vs rs,l.F vs rs=cc ev er (goN step (pa vs rs)) es) (jL:∀ wv wr,ev (pa (mO P l.S.eE wv 0) (mP P l.S.rows wr 0))=mO P l.S.eE wv 0/\er (pa (mO P l.S.eE wv 0) (mP P l.S.rows wr 0))=mP P l.S.rows wr 0)
  (wH:∀ x,aqt l.st P cfg L n l.f l.p (pd P l.f l.p) l.S (ev x) (er x)=aK.enc ev er (step x)):l.Ok P:=
 ⟨cfg,L,n,je,n7,fun vs rs e cP oI cm sM=>by
  obtain ⟨wv,wr,rfl,rfl⟩:=cm.form;obtain ⟨h1,h2⟩:=jL wv wr;rw [hF] at sM;obtain ⟨y,hy,rfl,rfl⟩:=Y5 sM;have:=anA wH gv _ e y hy;rw [h1,h2] at this;exact ⟨gv,this⟩⟩
theorem as3 {P:Program} {c:Fc} {X:Type} [Inhabited X] {cfg:fW} {L n:Nat} (je:vZ P cfg.pc) (n7:z9 P cfg) {step:X->aK X} {ev:X->List KV} {er:X->List (List KV)} {es:List aq} {pa:List KV->List (List KV)->X} (hy:Nat.blt c.g yB=true)
  (hF:∀ vs rs,c.F vs rs=cc ev er (step (pa vs rs)) es) (jL:∀ wv wr,ev (pa (mO P c.S.eE wv 0) (mP P c.S.rows wr 0))=mO P c.S.eE wv 0/\er (pa (mO P c.S.eE wv 0) (mP P c.S.rows wr 0))=mP P c.S.rows wr 0)
  (wH:∀ x y,step x = .out .ret y->OB P cfg L n c.g c.S (ev x) (er x)=some (.ret,ev y,er y)) (UD:es = [.ret]):c.Ok P:=
 ⟨hy,cfg,L,n,je,n7,fun vs rs e cP oI cm sM=>by
  obtain ⟨wv,wr,rfl,rfl⟩:=cm.form;obtain ⟨h1,h2⟩:=jL wv wr;subst UD;rw [hF] at sM;have he:e = .ret:=by
   simp only [cc,wR.ev] at sM;cases hb:(step (pa (mO P c.S.eE wv 0) (mP P c.S.rows wr 0))).by aq.ret with
   | false=>rw [hb] at sM; simp at sM
   | true=>rw [hb] at sM; simp at sM; exact sM.1.symm
  subst he;obtain ⟨y,hy,rfl,rfl⟩:=Y5 sM;have:=wH _ y hy;rw [h1,h2] at this;exact this⟩
theorem ao9 {P:Program} {c:Fc} {cfg:fW} (je:vZ P cfg.pc) (n7:z9 P cfg) (hy:Nat.blt c.g yB=true) (hF:∀ vs rs,(c.F vs rs).ev=none):c.Ok P:=
 ⟨hy,cfg,9,9,je,n7,fun vs rs e cP oI _ sM=>by rw [hF] at sM; simp at sM⟩
def U7:Nat:=64
theorem aln {P:Program} {aw5:List KV} (h:pe P [] aw5=true):aw5 = []:=by
 cases aw5 with
 | nil=>rfl
 | cons a aw5=>simp [pe] at h
theorem ard {ks:List CK} {v:KV} (h:cG ⟨true,ks⟩ v=true):∃ cs,v = .agg cs/\aO ks cs=true:=by
 cases v with
 | agg cs=>exact ⟨cs,rfl,by simpa [cG] using h⟩
 | jd cs=>simp [cG] at h
 | _=>simp [cG] at h
theorem avk {rd:List KV->List (List KV)->Option (aq×List KV×List (List KV))} {n:Nat} {vs cP:List KV} {rs oI:List (List KV)} (h:rd vs rs=some (.normal,cP,oI)):zd rd (n+1) vs rs=zd rd n cP oI:=by
 simp only [zd,h]; rfl
end Go.K
end
section
namespace Go.K
open Go Go.aE
variable {P:Program} {E:Env}
end Go.K
end
section
namespace Go.K
open Go Go.aE
structure Sl (α:Type) where
 n:Nat
 get:Nat->α
instance {α:Type} [Inhabited α] : Inhabited (Sl α):=⟨⟨0,fun _=>default⟩⟩
def eZ {α:Type} (T:TypeId) (k:α->KV) (s:Sl α):KV:=.ts T .any s.n ((List.range s.n).map fun i=>k (s.get i)) (fun i=>k (s.get i))
def lv {α:Type} (p:KV->α) (n:Nat) (acc:Nat->KV):Sl α:=⟨n,fun i=>p (acc i)⟩
def fg {α:Type} (p:KV->α) (v:KV):Sl α:=lv p (lenOf v) (vG v)
def kI (k:IntKind) (n:Int):KV:=.int k n
def kB (b:Bool):KV:=.bool b
abbrev ak (n:Int):Int:=IntKind.wrap .i64 n
abbrev w8 (n:Int):Int:=IntKind.wrap .u8 n
abbrev uw (n:Int):Int:=IntKind.wrap .u64 n
def Sl.push {α:Type} [Inhabited α] (s:Sl α) (v:α):Sl α:=⟨s.n+1,fun i=>cond (Nat.blt i s.n) (s.get i) (cond (Nat.beq i s.n) v default)⟩
def Sl.join {α:Type} (s t:Sl α):Sl α:=⟨s.n+t.n,fun i=>cond (Nat.blt i s.n) (s.get i) (t.get (i - s.n))⟩
def Sl.lit {α:Type} [Inhabited α] (l:List α):Sl α:=⟨l.length,fun i=>l.getD i default⟩
theorem ahH {α:Type} [Inhabited α] {p:KV->α} {k:α->KV} (h:∀ x,p (k x)=x) (hd:p .bJ=default) (l:List α):lv p l.length (ri (l.map k))=Sl.lit l:=by
 unfold lv Sl.lit ri;congr 1;funext i;rw [iQ,iQ,A5];cases l[i]? with
 | none=>exact hd
 | some x=>exact h x
theorem Bp {α:Type} [Inhabited α] {p:KV->α} {k:α->KV} (h:∀ x,p (k x)=x) (hd:p .bJ=default) (s:Sl α) (v:α):lv p (s.n+1) (dZ s.n (fun i=>k (s.get i)) (ri [k v]))=s.push v:=by
 unfold lv Sl.push;congr 1;funext i;unfold dZ;cases hb:Nat.blt i s.n with
 | true=>exact h _
 | false=>
  have hi:s.n<=i:=by
   cases Nat.lt_or_ge i s.n with
   | inl h=>rw [<- bX,hb] at h; simp at h
   | inr h=>exact h
  rw [aw,aw];cases hq:Nat.beq i s.n with
  | true=>
   have:=bo hq;subst this;rw [Nat.sub_self,ai];exact h v
  | false=>
   have eU:i≠s.n:=fun e=>by rw [e,nA] at hq; simp at hq
   rw [aw];obtain ⟨j,hj⟩:∃ j,i - s.n=j+1:=⟨i - s.n - 1,by omega⟩
   rw [hj];exact hd
theorem acE {α:Type} {p:KV->α} {k:α->KV} (h:∀ x,p (k x)=x) (s t:Sl α):lv p (s.n+t.n) (dZ s.n (fun i=>k (s.get i)) (fun i=>k (t.get i)))=s.join t:=by
 unfold lv Sl.join;congr 1;funext i;unfold dZ;cases Nat.blt i s.n <;> exact h _
def Sl.set {α:Type} (s:Sl α) (i:Nat) (v:α):Sl α:=⟨s.n,fun j=>cond (Nat.beq j i) v (s.get j)⟩
def Sl.alx {α:Type} (s:Sl α) (o k:Nat) (t:Sl α):Sl α:=⟨s.n,fun j=>cond (Nat.blt j o) (s.get j) (cond (Nat.blt j (o+k)) (t.get (j - o)) (s.get j))⟩
theorem ahI {α:Type} {p:KV->α} {k:α->KV} (h:∀ x,p (k x)=x) (s:Sl α) (i:Nat) (v:α):lv p s.n (xR (fun j=>k (s.get j)) i (k v))=s.set i v:=by
 unfold lv Sl.set;congr 1;funext j;unfold xR;cases Nat.beq j i <;> exact h _
theorem ahJ {α:Type} {p:KV->α} {k:α->KV} (h:∀ x,p (k x)=x) (s t:Sl α) (o m:Nat):lv p s.n (nJ o m (fun j=>k (s.get j)) (fun j=>k (t.get j)))=s.alx o m t:=by
 unfold lv Sl.alx;congr 1;funext j;unfold nJ;cases Nat.blt j o with
 | true=>exact h _
 | false=>cases Nat.blt j (o+m) <;> exact h _
theorem anC {α:Type} {p:KV->α} {k:α->KV} (h:∀ x,p (k x)=x) (m n n' : Nat) (acc hJ:Nat->KV):lv p m (dZ n (fun i=>k ((lv p n' acc).get i)) hJ)=lv p m (dZ n acc hJ):=by
 unfold lv;congr 1;funext i;unfold dZ;cases Nat.blt i n with
 | true=>exact h _
 | false=>rfl
theorem as4 {α:Type} {p:KV->α} {k:α->KV} (h:∀ x,p (k x)=x) (m n n' : Nat) (acc hJ:Nat->KV):lv p m (dZ n acc (fun i=>k ((lv p n' hJ).get i)))=lv p m (dZ n acc hJ):=by
 unfold lv;congr 1;funext i;unfold dZ;cases Nat.blt i n with
 | true=>rfl
 | false=>exact h _
theorem anE {α:Type} {p:KV->α} {k:α->KV} (h:∀ x,p (k x)=x) (m n' i:Nat) (acc:Nat->KV) (v:KV):lv p m (xR (fun j=>k ((lv p n' acc).get j)) i v)=lv p m (xR acc i v):=by
 unfold lv;congr 1;funext j;unfold xR;cases Nat.beq j i with
 | true=>rfl
 | false=>exact h _
theorem as5 {α:Type} {p:KV->α} {k:α->KV} (h:∀ x,p (k x)=x) (n n' o m:Nat) (acc hJ:Nat->KV):lv p n (nJ o m (fun j=>k ((lv p n' acc).get j)) hJ)=lv p n (nJ o m acc hJ):=by
 unfold lv;congr 1;funext j;unfold nJ;cases Nat.blt j o with
 | true=>exact h _
 | false=>
  cases Nat.blt j (o+m) with
  | true=>rfl
  | false=>exact h _
theorem as6 {α:Type} {p:KV->α} {k:α->KV} (h:∀ x,p (k x)=x) (n n' o m:Nat) (acc hJ:Nat->KV):lv p n (nJ o m acc (fun j=>k ((lv p n' hJ).get j)))=lv p n (nJ o m acc hJ):=by
 unfold lv;congr 1;funext j;unfold nJ;cases Nat.blt j o with
 | true=>rfl
 | false=>
  cases Nat.blt j (o+m) with
  | true=>exact h _
  | false=>rfl
theorem as7 (m n n' : Nat) (acc hJ:Nat->KV):lv (fun v=>intOf (v.cells.getD 0 .bJ)) m (dZ n (fun i=>kI .i64 ((lv (fun v=>intOf (v.cells.getD 0 .bJ)) n' acc).get i)) hJ)=lv (fun v=>intOf (v.cells.getD 0 .bJ)) m (dZ n acc hJ):=anC (k:=kI .i64) (fun _=>rfl) ..
theorem as8 (m n n' : Nat) (acc hJ:Nat->KV):lv (fun v=>intOf (v.cells.getD 0 .bJ)) m (dZ n acc (fun i=>kI .i64 ((lv (fun v=>intOf (v.cells.getD 0 .bJ)) n' hJ).get i)))=lv (fun v=>intOf (v.cells.getD 0 .bJ)) m (dZ n acc hJ):=as4 (k:=kI .i64) (fun _=>rfl) ..
theorem as9 (m n' i:Nat) (acc:Nat->KV) (v:KV):lv (fun v=>intOf (v.cells.getD 0 .bJ)) m (xR (fun j=>kI .i64 ((lv (fun v=>intOf (v.cells.getD 0 .bJ)) n' acc).get j)) i v)=lv (fun v=>intOf (v.cells.getD 0 .bJ)) m (xR acc i v):=anE (k:=kI .i64) (fun _=>rfl) ..
theorem ata (n n' o m:Nat) (acc hJ:Nat->KV):lv (fun v=>intOf (v.cells.getD 0 .bJ)) n (nJ o m (fun j=>kI .i64 ((lv (fun v=>intOf (v.cells.getD 0 .bJ)) n' acc).get j)) hJ)=lv (fun v=>intOf (v.cells.getD 0 .bJ)) n (nJ o m acc hJ):=as5 (k:=kI .i64) (fun _=>rfl) ..
theorem atb (n n' o m:Nat) (acc hJ:Nat->KV):lv (fun v=>intOf (v.cells.getD 0 .bJ)) n (nJ o m acc (fun j=>kI .i64 ((lv (fun v=>intOf (v.cells.getD 0 .bJ)) n' hJ).get j)))=lv (fun v=>intOf (v.cells.getD 0 .bJ)) n (nJ o m acc hJ):=as6 (k:=kI .i64) (fun _=>rfl) ..
theorem atc (s:Sl Int) (i:Nat) (v:Int):s.set i v=lv (fun v=>intOf (v.cells.getD 0 .bJ)) s.n (xR (fun j=>kI .i64 (s.get j)) i (kI .i64 v)):=(ahI (k:=kI .i64) (fun _=>rfl) s i v).symm
theorem are (s:Sl Bool) (i:Nat) (v:Bool):s.set i v=lv (fun v=>kO (v.cells.getD 0 .bJ)) s.n (xR (fun j=>kB (s.get j)) i (kB v)):=(ahI (k:=kB) (fun _=>rfl) s i v).symm
theorem apa (s t:Sl Int) (o m:Nat):s.alx o m t=lv (fun v=>intOf (v.cells.getD 0 .bJ)) s.n (nJ o m (fun j=>kI .i64 (s.get j)) (fun j=>kI .i64 (t.get j))):=(ahJ (k:=kI .i64) (fun _=>rfl) s t o m).symm
theorem anF (s t:Sl Bool) (o m:Nat):s.alx o m t=lv (fun v=>kO (v.cells.getD 0 .bJ)) s.n (nJ o m (fun j=>kB (s.get j)) (fun j=>kB (t.get j))):=(ahJ (k:=kB) (fun _=>rfl) s t o m).symm
theorem arf (s:Sl Int) (v:Int):s.push v=lv (fun v=>intOf (v.cells.getD 0 .bJ)) (s.n+1) (dZ s.n (fun i=>kI .i64 (s.get i)) (ri [kI .i64 v])):=(Bp (fun _=>rfl) rfl s v).symm
theorem arh (s t:Sl Int):s.join t=lv (fun v=>intOf (v.cells.getD 0 .bJ)) (s.n+t.n) (dZ s.n (fun i=>kI .i64 (s.get i)) (fun i=>kI .i64 (t.get i))):=(acE (fun _=>rfl) s t).symm
theorem U9 (l:List Int):Sl.lit l=lv (fun v=>intOf (v.cells.getD 0 .bJ)) l.length (ri (l.map (kI .i64))):=(ahH (fun _=>rfl) rfl l).symm
theorem ari (l:List Bool):Sl.lit l=lv (fun v=>kO (v.cells.getD 0 .bJ)) l.length (ri (l.map kB)):=(ahH (fun _=>rfl) rfl l).symm
theorem apb (s:Sl Bool) (v:Bool):s.push v=lv (fun v=>kO (v.cells.getD 0 .bJ)) (s.n+1) (dZ s.n (fun i=>kB (s.get i)) (ri [kB v])):=(Bp (fun _=>rfl) rfl s v).symm
theorem apc (s t:Sl Bool):s.join t=lv (fun v=>kO (v.cells.getD 0 .bJ)) (s.n+t.n) (dZ s.n (fun i=>kB (s.get i)) (fun i=>kB (t.get i))):=(acE (fun _=>rfl) s t).symm
theorem aV {α β:Type} (f:α->β) (c:Bool) (a b:Option α):Option.map f (cond c a b)=cond c (Option.map f a) (Option.map f b):=by cases c <;> rfl
def ao (P:Program) (ps:List (Nat×(List KV->KR KV))):Prop:=∀ p∈ps,a7 P p.1 p.2
theorem ao.nil {P:Program} : ao P []:=fun p hp=>by simp at hp
theorem ao.cons {P:Program} {g:Nat} {F:List KV->KR KV} {ps:List (Nat×(List KV->KR KV))} (h:a7 P g F) (t:ao P ps):ao P ((g,F)::ps):=fun p hp=>by
 rcases ff.1 hp with rfl | hp
 ·exact h
 ·exact t p hp
theorem ao.pc {P:Program} {ps:List (Nat×(List KV->KR KV))} (h:ao P ps):vZ P (akl ps):=aqx h
def aJ (P:Program) (ls:List Lp):Prop:=∀ l∈ls,l.Ok P/\GX P l.f l.p=true
theorem aJ.nil {P:Program} : aJ P []:=fun p hp=>by simp at hp
theorem aJ.cons {P:Program} {l:Lp} {ls:List Lp} (h:l.Ok P) (h' : GX P l.f l.p=true) (t:aJ P ls):aJ P (l::ls):=fun p hp=>by
 rcases ff.1 hp with rfl | hp
 ·exact ⟨h,h'⟩
 ·exact t p hp
def gT (P:Program) (fs:List Fc):Prop:=∀ c∈fs,c.Ok P
theorem gT.nil {P:Program} : gT P []:=fun p hp=>by simp at hp
theorem gT.cons {P:Program} {c:Fc} {fs:List Fc} (h:c.Ok P) (t:gT P fs):gT P (c::fs):=fun p hp=>by
 rcases ff.1 hp with rfl | hp
 ·exact h
 ·exact t p hp
noncomputable def iI (P:Program) (ps:List (Nat×(List KV->KR KV))) (ls:List Lp) (mt:TypeId->Bool:=fun _=>false) (fz:Bool:=false) (eg:Bool:=false) (fs:List Fc:=[]):fW:=⟨akl ps,ahx P ls,⟨akj P fs,mt,fz,eg⟩⟩
noncomputable def bb {R:Type} [Inhabited R] (k:R->KV) (r:List KV->Option R):List KV->KR KV:=fun aw5=>.nF (r aw5).isSome (k ((r aw5).getD default))
theorem aeu {P:Program} {R:Type} [Inhabited R] {k:R->KV} {r:List KV->Option R} {g:FuncId} (hP:P.funcs.toList.all qq=true) (hm:P.follows .mixedOrders=true) {ps:List (Nat×(List KV->KR KV))} {ls:List Lp} (je:ao P ps) (n7:aJ P ls) {L n:Nat} {mt:TypeId->Bool} {fz eg:Bool} {fs:List Fc}
  (h:∀ w,zY P (iI P ps ls mt fz eg fs) L n g (Ae P (gp P g) w 0)=(r (Ae P (gp P g) w 0)).map k) (hy:Nat.blt g yB=true:=by rfl) (Jj:gT P fs:=by exact gT.nil):a7 P g (a8 P g (bb k r)):=
 as1 (cfg:=iI P ps ls mt fz eg fs) hP hm je.pc (WK hP hm (WL hP hm Jj) n7) (hy:=hy) fun w v hv=>by
  obtain ⟨h1,h2⟩:=bf.nF hv;rw [h w];cases hr:r (Ae P (gp P g) w 0) with
  | none=>rw [hr] at h1; simp at h1
  | some x=>rw [hr] at h2; rw [<- h2]; rfl
theorem Va {P:Program} {l:Lp} {X:Type} [Inhabited X] (hP:P.funcs.toList.all qq=true) (hm:P.follows .mixedOrders=true) {ps:List (Nat×(List KV->KR KV))} {ls:List Lp} (je:ao P ps) (n7:aJ P ls) {L n:Nat} {mt:TypeId->Bool} {fz eg:Bool} {fs:List Fc} {step:X->aK X} {ev:X->List KV} {er:X->List (List KV)} {es:List aq} {pa:List KV->List (List KV)->X}
  (hF:l.F=fun vs rs=>cc ev er (goN step (pa vs rs)) es) (jL:∀ wv wr,ev (pa (mO P l.S.eE wv 0) (mP P l.S.rows wr 0))=mO P l.S.eE wv 0/\er (pa (mO P l.S.eE wv 0) (mP P l.S.rows wr 0))=mP P l.S.rows wr 0)
  (wH:∀ x,Dj P (iI P ps ls mt fz eg fs) L n l.f l.p (pd P l.f l.p) l.S (ev x) (er x)=aK.enc ev er (step x)) (Jj:gT P fs:=by exact gT.nil) (hs:l.st=false:=by rfl):l.Ok P:=
 anB (cfg:=iI P ps ls mt fz eg fs) je.pc (WK hP hm (WL hP hm Jj) n7) (fun _ _=>by rw [hF]) jL (fun x=>by rw [hs]; exact wH x)
theorem n8 {P:Program} {l:Lp} {X:Type} [Inhabited X] (hP:P.funcs.toList.all qq=true) (hm:P.follows .mixedOrders=true) {ps:List (Nat×(List KV->KR KV))} {ls:List Lp} (je:ao P ps) (n7:aJ P ls) {L n:Nat} {mt:TypeId->Bool} {fz eg:Bool} {fs:List Fc} {step:X->aK X} {ev:X->List KV} {er:X->List (List KV)} {es:List aq} {pa:List KV->List (List KV)->X}
  (hF:l.F=fun vs rs=>cc ev er (goN step (pa vs rs)) es) (jL:∀ wv wr,ev (pa (mO P l.S.eE wv 0) (mP P l.S.rows wr 0))=mO P l.S.eE wv 0/\er (pa (mO P l.S.eE wv 0) (mP P l.S.rows wr 0))=mP P l.S.rows wr 0)
  (wH:∀ x,ur P (iI P ps ls mt fz eg fs) L n l.f l.p (pd P l.f l.p) l.S (ev x) (er x)=aK.enc ev er (step x)) (Jj:gT P fs:=by exact gT.nil) (hs:l.st=true:=by rfl):l.Ok P:=
 anB (cfg:=iI P ps ls mt fz eg fs) je.pc (WK hP hm (WL hP hm Jj) n7) (fun _ _=>by rw [hF]) jL (fun x=>by rw [hs]; exact wH x)
theorem IC {P:Program} {c:Fc} {X:Type} [Inhabited X] (hP:P.funcs.toList.all qq=true) (hm:P.follows .mixedOrders=true) {ps:List (Nat×(List KV->KR KV))} {ls:List Lp} (je:ao P ps) (n7:aJ P ls) {L n:Nat} {mt:TypeId->Bool} {fz eg:Bool} {fs:List Fc} {step:X->aK X} {ev:X->List KV} {er:X->List (List KV)} {es:List aq} {pa:List KV->List (List KV)->X}
  (hF:c.F=fun vs rs=>cc ev er (step (pa vs rs)) es) (jL:∀ wv wr,ev (pa (mO P c.S.eE wv 0) (mP P c.S.rows wr 0))=mO P c.S.eE wv 0/\er (pa (mO P c.S.eE wv 0) (mP P c.S.rows wr 0))=mP P c.S.rows wr 0)
  (wH:∀ x,OB P (iI P ps ls mt fz eg fs) L n c.g c.S (ev x) (er x)=aK.enc ev er (step x)) (hy:Nat.blt c.g yB=true:=by rfl) (UD:es = [.ret]:=by rfl) (Jj:gT P fs:=by exact gT.nil):c.Ok P:=
 as3 (cfg:=iI P ps ls mt fz eg fs) je.pc (WK hP hm (WL hP hm Jj) n7) hy (fun _ _=>by rw [hF]) jL (fun x y h=>by rw [wH x,h]; rfl) UD
end Go.K
end
section
namespace Go.Proofs.YtchbpckkmgcgkaaGreat.b
open Go.K
theorem funcs:Tryz.prog.funcs.toList.all aE.qq=true:=by kernel_rfl
theorem mixed:Tryz.prog.follows .mixedOrders=true:=by kernel_rfl
noncomputable abbrev PG:Program:=Tryz.prog
noncomputable abbrev g0 (T:TypeId) (v:KV):KV:=vH PG (eG PG iV) T v
abbrev bh (i:Int) (n:Nat):Bool:=(decide (0<=i))&&(decide (i < (n:Int)))
abbrev aR (n:Nat):Bool:=ic n n
abbrev qH (b n m:Nat):Bool:=(ic n n)&&(j6 b n m)
theorem bH {R:Type} [Inhabited R] {k:R->KV} {r:List KV->Option R} {g:FuncId} {ps:List (Nat×(List KV->KR KV))} {ls:List Lp} {mt:TypeId->Bool} {fz eg:Bool} {a:(Nat->KV)->List KV} {q:(Nat->KV)->Option R} (je:ao PG ps) (n7:aJ PG ls)
  (hr:∀ w,zY PG (iI PG ps ls mt fz eg) 9 9 g (a w)=(q w).map k) (h:∀ w,Ae PG (gp PG g) w 0=a w/\r (a w)=q w:=by exact fun w=>⟨by kernel_rfl,by kernel_rfl⟩) (hy:Nat.blt g aE.yB=true:=by rfl):a7 PG g (a8 PG g (bb k r)):=
 aeu funcs mixed je n7 (L:=9) (n:=9) (fun w=>by rw [(h w).1,(h w).2]; exact hr w) hy
theorem uJ {l:Lp} {X:Type} [Inhabited X] {ps:List (Nat×(List KV->KR KV))} {ls:List Lp} {mt:TypeId->Bool} {fz eg:Bool} {step:X->aK X} {ev:X->List KV} {er:X->List (List KV)} {es:List aE.aq} {pa:List KV->List (List KV)->X} (je:ao PG ps) (n7:aJ PG ls)
  (wH:∀ x,Dj PG (iI PG ps ls mt fz eg) 9 9 l.f l.p (pd PG l.f l.p) l.S (ev x) (er x)=aK.enc ev er (step x)) (hF:l.F=fun vs rs=>cc ev er (goN step (pa vs rs)) es:=by rfl)
  (jL:∀ wv wr,ev (pa (mO PG l.S.eE wv 0) (mP PG l.S.rows wr 0))=mO PG l.S.eE wv 0/\er (pa (mO PG l.S.eE wv 0) (mP PG l.S.rows wr 0))=mP PG l.S.rows wr 0:=by exact fun wv wr=>⟨by kernel_rfl,by kernel_rfl⟩) (hs:l.st=false:=by rfl):l.Ok PG:=
 Va funcs mixed je n7 (L:=9) (n:=9) hF jL wH gT.nil hs
theorem ie {l:Lp} {ls:List Lp} (h:l.Ok PG) (r:aJ PG ls) (t:GX PG l.f l.p=true:=by kernel_rfl):aJ PG (l::ls):=aJ.cons h t r
noncomputable abbrev gw (ps:List (Nat×(List KV->KR KV))) (ls:List Lp) (g:FuncId) (a:List KV):Option KV:=zY PG (iI PG ps ls) 9 9 g a
noncomputable abbrev vL (ps:List (Nat×(List KV->KR KV))) (ls:List Lp) (f p:Nat) (S:aU):=Dj PG (iI PG ps ls) 9 9 f p (pd PG f p) S
abbrev v9 (vs:List KV) (i:Nat):KV:=vs.getD i .bJ
abbrev r9 (rs:List (List KV)) (i k:Nat):KV:=(rs.getD i []).getD k .bJ
abbrev i9:CD:=.k (.int .i64)
abbrev u9:CD:=.k (.int .u8)
abbrev b9:CD:=.k .bool
abbrev n9 (T:TypeId):CD:=.k (.slice T)
abbrev w9 (c:CD):VD:=⟨false,[c]⟩
end Go.Proofs.YtchbpckkmgcgkaaGreat.b
end
section
namespace Go.Proofs.YtchbpckkmgcgkaaGreat.b
open Go.K
noncomputable section
def cM (a:Int) (b:Int):Option (Int×Int):=(cond (decide (b < 1)) (some (0,2)) (cond (!(decide (b=0))) (cond (!(decide (b=0))) (cond (decide ((Int.tmod a b) < 0)) (some ((ak ((ak (Int.tdiv a b)) - 1)),0)) (some ((ak (Int.tdiv a b)),0))) none) none))
theorem acF (a:Int) (b:Int):gw [] [] 148 [(kI .i64) a,(kI .i64) b] = (cM a b).map (fun (r:Int×Int)=>KV.jd [(kI .i64) r.1,(kI .i64) r.2]):=by
 unfold cM
 try simp only [aV,arf,arh,U9,as7,as8,as9,ata,atb,apb,apc,ari,atc,are,apa,anF]
 kernel_rfl
def Af:List KV->KR KV:=a8 PG 148 (bb (fun (r:Int×Int)=>KV.jd [(kI .i64) r.1,(kI .i64) r.2]) fun vs=>cM (intOf (v9 vs 0)) (intOf (v9 vs 1)))
theorem zo:a7 PG 148 Af:=bH ao.nil aJ.nil fun w=>acF (intOf (g0 3 (w 0))) (intOf (g0 3 (w 1)))
structure iP where
 x:Int
 y:Int
 z:Int
instance:Inhabited iP:=⟨⟨default,default,default⟩⟩
def awT (x:iP):List KV:=[.int .i64 x.x,.int .i64 x.y,.int .i64 x.z]
def qY (x:iP):KV:=.agg (awT x)
def awU (c:Nat->KV):iP:=⟨intOf (c 0),intOf (c 1),intOf (c 2)⟩
def rN (v:KV):iP:=awU fun k=>v.cells.getD k .bJ
structure bM where
 p:iP
 u:Int
 v:Int
instance:Inhabited bM:=⟨⟨default,default,default⟩⟩
def auC (x:bM):List KV:=[.int .i64 x.p.x,.int .i64 x.p.y,.int .i64 x.p.z,.int .i64 x.u,.int .i64 x.v]
def pJ (x:bM):KV:=.agg (auC x)
def auD (c:Nat->KV):bM:=⟨⟨intOf (c 0),intOf (c 1),intOf (c 2)⟩,intOf (c 3),intOf (c 4)⟩
def kP (v:KV):bM:=auD fun k=>v.cells.getD k .bJ
theorem acG (x:bM):kP (pJ x)=x:=rfl
theorem akn:kP .bJ=default:=rfl
theorem aev (s:Sl bM) (v:bM):s.push v=lv kP (s.n+1) (dZ s.n (fun i=>pJ (s.get i)) (ri [pJ v])):=(Bp acG akn s v).symm
theorem apd (l:List bM):Sl.lit l=lv kP l.length (ri (l.map pJ)):=(ahH acG akn l).symm
theorem ahK (m n n' : Nat) (acc hJ:Nat->KV):lv kP m (dZ n (fun i=>pJ ((lv kP n' acc).get i)) hJ)=lv kP m (dZ n acc hJ):=anC acG ..
def kY (p:bM):Option (Int):=(cond (decide (p.p.x < (-(32768:Int)))) (some (8)) (cond (decide (p.p.x > 32768)) (some (8)) (cond (decide (p.p.y < (-(32768:Int)))) (some (8)) (cond (decide (p.p.y > 32768)) (some (8)) (cond (decide (p.p.z < (-(32768:Int)))) (some (8)) (cond (decide (p.p.z > 32768)) (some (8)) (cond (decide (p.u < 0)) (some (8)) (cond (decide (p.u > 255)) (some (8)) (cond (decide (p.v < 0)) (some (8)) (cond (decide (p.v > 255)) (some (8)) (some (0))))))))))))
theorem ae0 (p:bM):gw [] [] 162 [pJ p] = (kY p).map (kI .i64):=by
 unfold kY
 try simp only [aV]
 kernel_rfl
def vM:List KV->KR KV:=a8 PG 162 (bb (kI .i64) fun vs=>kY (kP (v9 vs 0)))
theorem tw:a7 PG 162 vM:=bH ao.nil aJ.nil fun w=>ae0 (kP (g0 177 (w 0)))
structure pK where
 low:Int
 high:Int
 t6:Bool
 t9:(Sl Int)
 t10:Int
 t11:Int
instance:Inhabited pK:=⟨by constructor<;>exact default⟩
def DM (x:pK):List KV:=[.int .i64 x.low,.int .i64 x.high,.bool x.t6,eZ 3 (kI .i64) x.t9,.int .i64 x.t10,.int .i64 x.t11]
def DN (x:pK):List (List KV):=[]
def LK (vs:List KV) (rs:List (List KV)):pK:=⟨intOf (v9 vs 0),intOf (v9 vs 1),kO (v9 vs 2),fg intOf (v9 vs 3),intOf (v9 vs 4),intOf (v9 vs 5)⟩
def Nq:aU:=⟨[(0,w9 i9),(1,w9 i9),(6,w9 b9),(9,w9 (n9 3)),(10,w9 i9),(11,w9 i9)],[],[]⟩
def Y6:=vL [] [] 214 26 Nq
def oJ (x:pK):aK pK:=(cond (decide (x.t11 < x.t10)) (cond (bh x.t11 x.t9.n) (cond (decide ((x.t9.get (Int.toNat x.t11)) < x.low)) (.out aE.aq.ret ⟨x.low,x.high,false,x.t9,x.t10,x.t11⟩) (cond (decide ((x.t9.get (Int.toNat x.t11)) > x.high)) (.out aE.aq.ret ⟨x.low,x.high,false,x.t9,x.t10,x.t11⟩) (.next ⟨x.low,x.high,x.t6,x.t9,x.t10,(ak (x.t11+1))⟩))) .fail) (.out (aE.aq.exit 0) x))
theorem Vb (x:pK):Y6 (DM x) (DN x)=aK.enc DM DN (oJ x):=by
 unfold oJ bh
 try simp only [aK.bI]
 kernel_rfl
def Nr:Lp:=⟨214,26,Nq,fun vs rs=>cc DM DN (goN oJ (LK vs rs)) [aE.aq.exit 0,aE.aq.ret],false⟩
theorem Y7:Nr.Ok PG:=uJ ao.nil aJ.nil (pa:=LK) Vb
def Bq (low:Int) (high:Int) (l:(Sl Int)):=goN oJ ⟨low,high,false,l,(l.n:Int),0⟩
def rB (low:Int) (high:Int) (l:(Sl Int)):Option (Bool):=(cond ((Bq low high l).by (aE.aq.exit 0)) (some (true)) (cond ((Bq low high l).by aE.aq.ret) (some ((Bq low high l).st.t6)) none))
theorem acH (low:Int) (high:Int) (l:(Sl Int)):gw [] [Nr] 214 [(kI .i64) low,(kI .i64) high,(eZ 3 (kI .i64)) l] = (rB low high l).map kB:=by
 unfold rB
 try simp only [aV]
 kernel_rfl
def Vc:List KV->KR KV:=a8 PG 214 (bb kB fun vs=>rB (intOf (v9 vs 0)) (intOf (v9 vs 1)) ((fg intOf) (v9 vs 2)))
theorem aaH:a7 PG 214 Vc:=bH ao.nil (ie Y7 aJ.nil) fun w=>acH (intOf (g0 3 (w 0))) (intOf (g0 3 (w 1))) ((fg intOf) (g0 66 (w 2)))
structure oK where
 x:Int
 y:Int
 d:Int
 u:Int
 v:Int
instance:Inhabited oK:=⟨⟨default,default,default,default,default⟩⟩
def avS (x:oK):List KV:=[.int .i64 x.x,.int .i64 x.y,.int .i64 x.d,.int .i64 x.u,.int .i64 x.v]
def Fl (x:oK):KV:=.agg (avS x)
def avT (c:Nat->KV):oK:=⟨intOf (c 0),intOf (c 1),intOf (c 2),intOf (c 3),intOf (c 4)⟩
def Jk (v:KV):oK:=avT fun k=>v.cells.getD k .bJ
def Dk (s:oK):=rB (-(131072:Int)) 131072 (Sl.lit [s.x,s.y])
def Dl (s:oK):=rB 1 65536 (Sl.lit [s.d])
def Dm (s:oK):=rB 0 255 (Sl.lit [s.u,s.v])
def s7 (s:oK):Option (Int):=(cond (Dk s).isSome (cond (!((Dk s).getD default)) (some (8)) (cond (Dl s).isSome (cond (!((Dl s).getD default)) (some (8)) (cond (Dm s).isSome (cond (!((Dm s).getD default)) (some (8)) (some (0))) none)) none)) none)
theorem ae1 (s:oK):gw [(214,Vc)] [] 203 [Fl s] = (s7 s).map (kI .i64):=by
 unfold s7
 try simp only [aV,Dk,Dl,Dm,U9]
 kernel_rfl
def XX:List KV->KR KV:=a8 PG 203 (bb (kI .i64) fun vs=>s7 (Jk (v9 vs 0)))
theorem acI:a7 PG 203 XX:=bH (ao.cons aaH ao.nil) aJ.nil fun w=>ae1 (Jk (g0 61 (w 0)))
structure aF where
 e0:oK
 e1:oK
 e2:oK
instance:Inhabited aF:=⟨⟨default,default,default⟩⟩
def arj (x:aF):List KV:=[.int .i64 x.e0.x,.int .i64 x.e0.y,.int .i64 x.e0.d,.int .i64 x.e0.u,.int .i64 x.e0.v,.int .i64 x.e1.x,.int .i64 x.e1.y,.int .i64 x.e1.d,.int .i64 x.e1.u,.int .i64 x.e1.v,.int .i64 x.e2.x,.int .i64 x.e2.y,.int .i64 x.e2.d,.int .i64 x.e2.u,.int .i64 x.e2.v]
def eJ (x:aF):KV:=.agg (arj x)
def ark (c:Nat->KV):aF:=⟨⟨intOf (c 0),intOf (c 1),intOf (c 2),intOf (c 3),intOf (c 4)⟩,⟨intOf (c 5),intOf (c 6),intOf (c 7),intOf (c 8),intOf (c 9)⟩,⟨intOf (c 10),intOf (c 11),intOf (c 12),intOf (c 13),intOf (c 14)⟩⟩
def ei (v:KV):aF:=ark fun k=>v.cells.getD k .bJ
theorem anG (x:aF):ei (eJ x)=x:=rfl
theorem anH:ei .bJ=default:=rfl
theorem XY (s:Sl aF) (v:aF):s.push v=lv ei (s.n+1) (dZ s.n (fun i=>eJ (s.get i)) (ri [eJ v])):=(Bp anG anH s v).symm
def Fm (t:aF):=s7 t.e0
def Fo (t:aF):=s7 t.e1
def Fp (t:aF):=s7 t.e2
def rl (t:aF):Option (Int×Int):=(cond (Fm t).isSome (cond (((Fm t).getD default) != 0) (some (0,((Fm t).getD default))) (cond (Fo t).isSome (cond (((Fo t).getD default) != 0) (some (0,((Fo t).getD default))) (cond (Fp t).isSome (cond (((Fp t).getD default) != 0) (some (0,((Fp t).getD default))) (some ((ak ((ak ((ak (t.e1.x - t.e0.x)) * (ak (t.e2.y - t.e0.y)))) - (ak ((ak (t.e2.x - t.e0.x)) * (ak (t.e1.y - t.e0.y)))))),0))) none)) none)) none)
theorem ahL (t:aF):gw [(203,XX)] [] 163 [eJ t] = (rl t).map (fun (r:Int×Int)=>KV.jd [(kI .i64) r.1,(kI .i64) r.2]):=by
 unfold rl
 try simp only [aV]
 kernel_rfl
def KA:List KV->KR KV:=a8 PG 163 (bb (fun (r:Int×Int)=>KV.jd [(kI .i64) r.1,(kI .i64) r.2]) fun vs=>rl (ei (v9 vs 0)))
theorem Jl:a7 PG 163 KA:=bH (ao.cons acI ao.nil) aJ.nil fun w=>ahL (ei (g0 62 (w 0)))
def oa (t:aF) (cw:Int):=rl t
def rm (t:aF) (cw:Int):Option (Bool×Int):=(cond (oa t cw).isSome (cond (((oa t cw).getD default).snd != 0) (some (false,((oa t cw).getD default).snd)) (cond (cw==0) (some ((((oa t cw).getD default).fst != 0),0)) (cond (cw==1) (some ((decide (((oa t cw).getD default).fst > 0)),0)) (cond (cw==2) (some ((decide (((oa t cw).getD default).fst < 0)),0)) (some (false,2)))))) none)
theorem ae2 (t:aF) (cw:Int):gw [(163,KA)] [] 104 [eJ t,(kI .u8) cw] = (rm t cw).map (fun (r:Bool×Int)=>KV.jd [kB r.1,(kI .i64) r.2]):=by
 unfold rm
 try simp only [aV]
 kernel_rfl
def OG:List KV->KR KV:=a8 PG 104 (bb (fun (r:Bool×Int)=>KV.jd [kB r.1,(kI .i64) r.2]) fun vs=>rm (ei (v9 vs 0)) (intOf (v9 vs 1)))
theorem Qa:a7 PG 104 OG:=bH (ao.cons Jl ao.nil) aJ.nil fun w=>ae2 (ei (g0 62 (w 0))) (intOf (g0 5 (w 1)))
def sa (t:aF):=rl t
def s9 (t:aF):Option (aF×Int):=(cond (sa t).isSome (cond (((sa t).getD default).snd != 0) (some (⟨⟨0,0,0,0,0⟩,⟨0,0,0,0,0⟩,⟨0,0,0,0,0⟩⟩,((sa t).getD default).snd)) (cond (((sa t).getD default).fst==0) (some (⟨⟨0,0,0,0,0⟩,⟨0,0,0,0,0⟩,⟨0,0,0,0,0⟩⟩,6)) (cond (decide (((sa t).getD default).fst < 0)) (some (⟨t.e0,t.e2,t.e1⟩,0)) (some (t,0))))) none)
theorem ae3 (t:aF):gw [(163,KA)] [] 105 [eJ t] = (s9 t).map (fun (r:aF×Int)=>KV.jd [eJ r.1,(kI .i64) r.2]):=by
 unfold s9
 try simp only [aV]
 kernel_rfl
def OH:List KV->KR KV:=a8 PG 105 (bb (fun (r:aF×Int)=>KV.jd [eJ r.1,(kI .i64) r.2]) fun vs=>s9 (ei (v9 vs 0)))
theorem Qb:a7 PG 105 OH:=bH (ao.cons Jl ao.nil) aJ.nil fun w=>ae3 (ei (g0 62 (w 0)))
structure x5 where
 df:Int
 t4:Bool
 t7:(Sl Int)
 t8:Int
 t9:Int
instance:Inhabited x5:=⟨⟨default,default,default,default,default⟩⟩
def OI (x:x5):List KV:=[.int .i64 x.df,.bool x.t4,eZ 3 (kI .i64) x.t7,.int .i64 x.t8,.int .i64 x.t9]
def OJ (x:x5):List (List KV):=[]
def XZ (vs:List KV) (rs:List (List KV)):x5:=⟨intOf (v9 vs 0),kO (v9 vs 1),fg intOf (v9 vs 2),intOf (v9 vs 3),intOf (v9 vs 4)⟩
def aaI:aU:=⟨[(0,w9 i9),(4,w9 b9),(7,w9 (n9 3)),(8,w9 i9),(9,w9 i9)],[],[]⟩
def aja:=vL [] [] 177 26 aaI
def uQ (x:x5):aK x5:=(cond (decide (x.t9 < x.t8)) (cond (bh x.t9 x.t7.n) (cond (decide ((x.t7.get (Int.toNat x.t9)) < (ak (0 - x.df)))) (.out aE.aq.ret ⟨x.df,false,x.t7,x.t8,x.t9⟩) (cond (decide ((x.t7.get (Int.toNat x.t9)) > x.df)) (.out aE.aq.ret ⟨x.df,false,x.t7,x.t8,x.t9⟩) (.next ⟨x.df,x.t4,x.t7,x.t8,(ak (x.t9+1))⟩))) .fail) (.out (aE.aq.exit 0) x))
theorem ae4 (x:x5):aja (OI x) (OJ x)=aK.enc OI OJ (uQ x):=by
 unfold uQ bh
 try simp only [aK.bI]
 kernel_rfl
def aaJ:Lp:=⟨177,26,aaI,fun vs rs=>cc OI OJ (goN uQ (XZ vs rs)) [aE.aq.exit 0,aE.aq.ret],false⟩
theorem ajb:aaJ.Ok PG:=uJ ao.nil aJ.nil (pa:=XZ) ae4
def Ns (df:Int) (l:(Sl Int)):=goN uQ ⟨df,false,l,(l.n:Int),0⟩
def Em (df:Int) (l:(Sl Int)):Option (Bool):=(cond ((Ns df l).by (aE.aq.exit 0)) (some (true)) (cond ((Ns df l).by aE.aq.ret) (some ((Ns df l).st.t4)) none))
theorem anI (df:Int) (l:(Sl Int)):gw [] [aaJ] 177 [(kI .i64) df,(eZ 3 (kI .i64)) l] = (Em df l).map kB:=by
 unfold Em
 try simp only [aV]
 kernel_rfl
def acJ:List KV->KR KV:=a8 PG 177 (bb kB fun vs=>Em (intOf (v9 vs 0)) ((fg intOf) (v9 vs 1)))
theorem aaK:a7 PG 177 acJ:=bH ao.nil (ie ajb aJ.nil) fun w=>anI (intOf (g0 3 (w 0))) ((fg intOf) (g0 66 (w 1)))
def Fq (v:iP):=Em 4096 (Sl.lit [v.x,v.y,v.z])
def sQ (v:iP):Option (Int):=(cond (Fq v).isSome (cond (!((Fq v).getD default)) (some (20)) (some (0))) none)
theorem ahM (v:iP):gw [(177,acJ)] [] 126 [qY v] = (sQ v).map (kI .i64):=by
 unfold sQ
 try simp only [aV,Fq,U9]
 kernel_rfl
def Br:List KV->KR KV:=a8 PG 126 (bb (kI .i64) fun vs=>sQ (rN (v9 vs 0)))
theorem yz:a7 PG 126 Br:=bH (ao.cons aaK ao.nil) aJ.nil fun w=>ahM (rN (g0 27 (w 0)))
def eA (n:Int) (low:Int) (high:Int):Option (Bool):=(cond (decide (n >= low)) (some ((decide (n<=high)))) (some (false)))
theorem Y8 (n:Int) (low:Int) (high:Int):gw [] [] 135 [(kI .i64) n,(kI .i64) low,(kI .i64) high] = (eA n low high).map kB:=by
 unfold eA
 try simp only [aV]
 kernel_rfl
def Qc:List KV->KR KV:=a8 PG 135 (bb kB fun vs=>eA (intOf (v9 vs 0)) (intOf (v9 vs 1)) (intOf (v9 vs 2)))
theorem Xa:a7 PG 135 Qc:=bH ao.nil aJ.nil fun w=>Y8 (intOf (g0 3 (w 0))) (intOf (g0 3 (w 1))) (intOf (g0 3 (w 2)))
structure jw where
 e0:Int
 e1:Int
 e2:Int
instance:Inhabited jw:=⟨⟨default,default,default⟩⟩
def atd (x:jw):List KV:=[.int .i64 x.e0,.int .i64 x.e1,.int .i64 x.e2]
def tR (x:jw):KV:=.agg (atd x)
def ate (c:Nat->KV):jw:=⟨intOf (c 0),intOf (c 1),intOf (c 2)⟩
def ID (v:KV):jw:=ate fun k=>v.cells.getD k .bJ
structure cJ where
 e0:jw
 e1:jw
 e2:jw
instance:Inhabited cJ:=⟨⟨default,default,default⟩⟩
def anJ (x:cJ):List KV:=[.int .i64 x.e0.e0,.int .i64 x.e0.e1,.int .i64 x.e0.e2,.int .i64 x.e1.e0,.int .i64 x.e1.e1,.int .i64 x.e1.e2,.int .i64 x.e2.e0,.int .i64 x.e2.e1,.int .i64 x.e2.e2]
def IE (x:cJ):KV:=.agg (anJ x)
def anK (c:Nat->KV):cJ:=⟨⟨intOf (c 0),intOf (c 1),intOf (c 2)⟩,⟨intOf (c 3),intOf (c 4),intOf (c 5)⟩,⟨intOf (c 6),intOf (c 7),intOf (c 8)⟩⟩
def ta (v:KV):cJ:=anK fun k=>v.cells.getD k .bJ
structure az where
 pos:iP
 m:cJ
 sR:Int
 ax:Int
 w:Int
 h:Int
instance:Inhabited az:=⟨by constructor<;>exact default⟩
def Fs (x:az):List KV:=[.int .i64 x.pos.x,.int .i64 x.pos.y,.int .i64 x.pos.z,.int .i64 x.m.e0.e0,.int .i64 x.m.e0.e1,.int .i64 x.m.e0.e2,.int .i64 x.m.e1.e0,.int .i64 x.m.e1.e1,.int .i64 x.m.e1.e2,.int .i64 x.m.e2.e0,.int .i64 x.m.e2.e1,.int .i64 x.m.e2.e2,.int .i64 x.sR,.int .i64 x.ax,.int .i64 x.w,.int .i64 x.h]
def kc (x:az):KV:=.agg (Fs x)
def Ft (c:Nat->KV):az:=⟨⟨intOf (c 0),intOf (c 1),intOf (c 2)⟩,⟨⟨intOf (c 3),intOf (c 4),intOf (c 5)⟩,⟨intOf (c 6),intOf (c 7),intOf (c 8)⟩,⟨intOf (c 9),intOf (c 10),intOf (c 11)⟩⟩,intOf (c 12),intOf (c 13),intOf (c 14),intOf (c 15)⟩
def dt (v:KV):az:=Ft fun k=>v.cells.getD k .bJ
def zp (c:az):=sQ c.pos
def zq (c:az):=eA c.sR 1 64
def zr (c:az):=eA c.ax 256 4096
def zt (c:az):=eA c.w 1 64
def zu (c:az):=eA c.h 1 64
def zv (c:az):=eA c.m.e0.e0 (-(256:Int)) 256
def zw (c:az):=eA c.m.e0.e1 (-(256:Int)) 256
def zx (c:az):=eA c.m.e0.e2 (-(256:Int)) 256
def zy (c:az):=eA c.m.e1.e0 (-(256:Int)) 256
def zz (c:az):=eA c.m.e1.e1 (-(256:Int)) 256
def x6 (c:az):=eA c.m.e1.e2 (-(256:Int)) 256
def x7 (c:az):=eA c.m.e2.e0 (-(256:Int)) 256
def x8 (c:az):=eA c.m.e2.e1 (-(256:Int)) 256
def x9 (c:az):=eA c.m.e2.e2 (-(256:Int)) 256
def jz (c:az):Option (Int):=(cond (zp c).isSome (cond (((zp c).getD default)==0) (cond (zq c).isSome (cond ((zq c).getD default) (cond (zr c).isSome (cond ((zr c).getD default) (cond (zt c).isSome (cond ((zt c).getD default) (cond (zu c).isSome (cond ((zu c).getD default) (cond (zv c).isSome (cond ((zv c).getD default) (cond (zw c).isSome (cond ((zw c).getD default) (cond (zx c).isSome (cond ((zx c).getD default) (cond (zy c).isSome (cond ((zy c).getD default) (cond (zz c).isSome (cond ((zz c).getD default) (cond (x6 c).isSome (cond ((x6 c).getD default) (cond (x7 c).isSome (cond ((x7 c).getD default) (cond (x8 c).isSome (cond ((x8 c).getD default) (cond (x9 c).isSome (cond (!((x9 c).getD default)) (some (150)) (some (0))) none) (some (150))) none) (some (150))) none) (some (150))) none) (some (150))) none) (some (150))) none) (some (150))) none) (some (150))) none) (some (150))) none) (some (150))) none) (some (150))) none) (some (150))) none) (some (150))) none) (some (150))) none)
theorem aaL (c:az):gw [(135,Qc),(126,Br)] [] 100 [kc c] = (jz c).map (kI .i64):=by
 unfold jz
 try simp only [aV]
 kernel_rfl
def Dn:List KV->KR KV:=a8 PG 100 (bb (kI .i64) fun vs=>jz (dt (v9 vs 0)))
theorem DP:a7 PG 100 Dn:=bH (ao.cons Xa (ao.cons yz ao.nil)) aJ.nil fun w=>aaL (dt (g0 31 (w 0)))
def xH (m:cJ):Option (Bool):=(cond (decide (m.e0.e0 < (-(1024:Int)))) (some (false)) (cond (decide (m.e0.e0 > 1024)) (some (false)) (cond (decide (m.e0.e1 < (-(1024:Int)))) (some (false)) (cond (decide (m.e0.e1 > 1024)) (some (false)) (cond (decide (m.e0.e2 < (-(1024:Int)))) (some (false)) (cond (decide (m.e0.e2 > 1024)) (some (false)) (cond (decide (m.e1.e0 < (-(1024:Int)))) (some (false)) (cond (decide (m.e1.e0 > 1024)) (some (false)) (cond (decide (m.e1.e1 < (-(1024:Int)))) (some (false)) (cond (decide (m.e1.e1 > 1024)) (some (false)) (cond (decide (m.e1.e2 < (-(1024:Int)))) (some (false)) (cond (decide (m.e1.e2 > 1024)) (some (false)) (cond (decide (m.e2.e0 < (-(1024:Int)))) (some (false)) (cond (decide (m.e2.e0 > 1024)) (some (false)) (cond (decide (m.e2.e1 < (-(1024:Int)))) (some (false)) (cond (decide (m.e2.e1 > 1024)) (some (false)) (cond (decide (m.e2.e2 < (-(1024:Int)))) (some (false)) (cond (decide (m.e2.e2 > 1024)) (some (false)) (some (true))))))))))))))))))))
theorem ajc (m:cJ):gw [] [] 198 [IE m] = (xH m).map kB:=by
 unfold xH
 try simp only [aV]
 kernel_rfl
def aew:List KV->KR KV:=a8 PG 198 (bb kB fun vs=>xH (ta (v9 vs 0)))
theorem ahN:a7 PG 198 aew:=bH ao.nil aJ.nil fun w=>ajc (ta (g0 29 (w 0)))
def Vd (v:iP):Option (jw):=(some (⟨v.x,v.y,v.z⟩))
theorem ajd (v:iP):gw [] [] 201 [qY v] = (Vd v).map tR:=by
 unfold Vd
 kernel_rfl
def aex:List KV->KR KV:=a8 PG 201 (bb tR fun vs=>Vd (rN (v9 vs 0)))
theorem ahO:a7 PG 201 aex:=bH ao.nil aJ.nil fun w=>ajd (rN (g0 27 (w 0)))
def H2 (m:cJ) (v:jw):=cM (ak ((ak ((ak (0+(ak (m.e0.e0 * v.e0))))+(ak (m.e0.e1 * v.e1))))+(ak (m.e0.e2 * v.e2)))) 256
def H3 (m:cJ) (v:jw):=cM (ak ((ak ((ak (0+(ak (m.e1.e0 * v.e0))))+(ak (m.e1.e1 * v.e1))))+(ak (m.e1.e2 * v.e2)))) 256
def H4 (m:cJ) (v:jw):=cM (ak ((ak ((ak (0+(ak (m.e2.e0 * v.e0))))+(ak (m.e2.e1 * v.e1))))+(ak (m.e2.e2 * v.e2)))) 256
def Ag (m:cJ) (v:jw):Option (jw):=(cond (H2 m v).isSome (cond (H3 m v).isSome (cond (H4 m v).isSome (some (⟨((H2 m v).getD default).fst,((H3 m v).getD default).fst,((H4 m v).getD default).fst⟩)) none) none) none)
theorem aje (m:cJ) (v:jw):gw [(148,Af)] [] 200 [IE m,tR v] = (Ag m v).map tR:=by
 unfold Ag
 try simp only [aV]
 kernel_rfl
def aey:List KV->KR KV:=a8 PG 200 (bb tR fun vs=>Ag (ta (v9 vs 0)) (ID (v9 vs 1)))
theorem ahP:a7 PG 200 aey:=bH (ao.cons zo ao.nil) aJ.nil fun w=>aje (ta (g0 29 (w 0))) (ID (g0 28 (w 1)))
def RZ (l:jw):Option (iP):=(some (⟨l.e0,l.e1,l.e2⟩))
theorem ahQ (l:jw):gw [] [] 199 [tR l] = (RZ l).map qY:=by
 unfold RZ
 kernel_rfl
def aaM:List KV->KR KV:=a8 PG 199 (bb qY fun vs=>RZ (ID (v9 vs 0)))
theorem ae5:a7 PG 199 aaM:=bH ao.nil aJ.nil fun w=>ahQ (ID (g0 28 (w 0)))
def H5 (m:cJ) (v:iP):=xH m
def CX (m:cJ) (v:iP):=Em 32768 (Sl.lit [v.x,v.y,v.z])
def vN (m:cJ) (v:iP):=Ag m ⟨v.x,v.y,v.z⟩
def Ah (m:cJ) (v:iP):Option (iP×Int):=(cond (H5 m v).isSome (cond (!((H5 m v).getD default)) (some (⟨0,0,0⟩,2)) (cond (CX m v).isSome (cond (!((CX m v).getD default)) (some (⟨0,0,0⟩,2)) (cond (vN m v).isSome (some (⟨((vN m v).getD default).e0,((vN m v).getD default).e1,((vN m v).getD default).e2⟩,0)) none)) none)) none)
theorem ajf (m:cJ) (v:iP):gw [(199,aaM),(200,aey),(201,aex),(177,acJ),(198,aew)] [] 159 [IE m,qY v] = (Ah m v).map (fun (r:iP×Int)=>KV.jd [qY r.1,(kI .i64) r.2]):=by
 unfold Ah
 try simp only [aV,CX,U9]
 kernel_rfl
def aez:List KV->KR KV:=a8 PG 159 (bb (fun (r:iP×Int)=>KV.jd [qY r.1,(kI .i64) r.2]) fun vs=>Ah (ta (v9 vs 0)) (rN (v9 vs 1)))
theorem ahR:a7 PG 159 aez:=bH (ao.cons ae5 (ao.cons ahP (ao.cons ahO (ao.cons aaK (ao.cons ahN ao.nil))))) aJ.nil fun w=>ajf (ta (g0 29 (w 0))) (rN (g0 27 (w 1)))
def wT (c:az) (v:iP):=jz c
def wU (c:az) (v:iP):=sQ v
def tz (c:az) (v:iP):=Ah c.m ⟨(ak (v.x - c.pos.x)),(ak (v.y - c.pos.y)),(ak (v.z - c.pos.z))⟩
def mj (c:az) (v:iP):Option (iP×Int):=(cond (wT c v).isSome (cond (((wT c v).getD default) != 0) (some (⟨0,0,0⟩,((wT c v).getD default))) (cond (wU c v).isSome (cond (((wU c v).getD default) != 0) (some (⟨0,0,0⟩,((wU c v).getD default))) (cond (tz c v).isSome (some (((tz c v).getD default).fst,((tz c v).getD default).snd)) none)) none)) none)
theorem acK (c:az) (v:iP):gw [(159,aez),(126,Br),(100,Dn)] [] 101 [kc c,qY v] = (mj c v).map (fun (r:iP×Int)=>KV.jd [qY r.1,(kI .i64) r.2]):=by
 unfold mj
 try simp only [aV]
 kernel_rfl
def LL:List KV->KR KV:=a8 PG 101 (bb (fun (r:iP×Int)=>KV.jd [qY r.1,(kI .i64) r.2]) fun vs=>mj (dt (v9 vs 0)) (rN (v9 vs 1)))
theorem Nt:a7 PG 101 LL:=bH (ao.cons ahR (ao.cons yz (ao.cons DP ao.nil))) aJ.nil fun w=>acK (dt (g0 31 (w 0))) (rN (g0 27 (w 1)))
structure oL where
 t4:Int
 t14:(Sl bM)
 t15:Int
 t16:Int
instance:Inhabited oL:=⟨⟨default,default,default,default⟩⟩
def Fu (x:oL):List KV:=[.int .i64 x.t4,eZ 177 pJ x.t14,.int .i64 x.t15,.int .i64 x.t16]
def Fv (x:oL):List (List KV):=[]
def Nu (vs:List KV) (rs:List (List KV)):oL:=⟨intOf (v9 vs 0),fg kP (v9 vs 1),intOf (v9 vs 2),intOf (v9 vs 3)⟩
def Qd:aU:=⟨[(4,w9 i9),(14,w9 (n9 177)),(15,w9 i9),(16,w9 i9)],[],[]⟩
def aaN:=vL [(162,vM)] [] 160 58 Qd
def qI (x:oL):=kY (x.t14.get (Int.toNat x.t16))
def lg (x:oL):aK oL:=(cond (decide (x.t16 < x.t15)) (cond (bh x.t16 x.t14.n) (cond (qI x).isSome (cond (((qI x).getD default) != 0) (.out aE.aq.ret ⟨((qI x).getD default),x.t14,x.t15,x.t16⟩) (.next ⟨x.t4,x.t14,x.t15,(ak (x.t16+1))⟩)) .fail) .fail) (.out (aE.aq.exit 0) x))
theorem Xb (x:oL):aaN (Fu x) (Fv x)=aK.enc Fu Fv (lg x):=by
 unfold lg bh
 try simp only [aK.bI]
 kernel_rfl
def Qe:Lp:=⟨160,58,Qd,fun vs rs=>cc Fu Fv (goN lg (Nu vs rs)) [aE.aq.exit 0,aE.aq.ret],false⟩
theorem aaO:Qe.Ok PG:=uJ (ao.cons tw ao.nil) aJ.nil (pa:=Nu) Xb
def se (ax:Int) (l:(Sl bM)):=goN lg ⟨0,l,(l.n:Int),0⟩
def te (ax:Int) (l:(Sl bM)):Option (Int):=(cond (decide (ax < 256)) (some (2)) (cond (decide (ax > 4096)) (some (2)) (cond ((se ax l).by (aE.aq.exit 0)) (some (0)) (cond ((se ax l).by aE.aq.ret) (some ((se ax l).st.t4)) none))))
theorem ae6 (ax:Int) (l:(Sl bM)):gw [(162,vM)] [Qe] 160 [(kI .i64) ax,(eZ 177 pJ) l] = (te ax l).map (kI .i64):=by
 unfold te
 try simp only [aV]
 kernel_rfl
def X0:List KV->KR KV:=a8 PG 160 (bb (kI .i64) fun vs=>te (intOf (v9 vs 0)) ((fg kP) (v9 vs 1)))
theorem acL:a7 PG 160 X0:=bH (ao.cons tw ao.nil) (ie aaO aJ.nil) fun w=>ae6 (intOf (g0 3 (w 0))) ((fg kP) (g0 249 (w 1)))
structure af2 where
 e0:Int
 e1:Int
 e2:Int
 e3:Int
instance:Inhabited af2:=⟨⟨default,default,default,default⟩⟩
def atf (x:af2):List KV:=[.int .i64 x.e0,.int .i64 x.e1,.int .i64 x.e2,.int .i64 x.e3]
def anL (x:af2):KV:=.agg (atf x)
def LM (p:bM):Option (af2):=(some (⟨p.p.x,p.p.y,p.u,p.v⟩))
theorem acM (p:bM):gw [] [] 202 [pJ p] = (LM p).map anL:=by
 unfold LM
 kernel_rfl
def Ve:List KV->KR KV:=a8 PG 202 (bb anL fun vs=>LM (kP (v9 vs 0)))
theorem aaP:a7 PG 202 Ve:=bH ao.nil aJ.nil fun w=>acM (kP (g0 177 (w 0)))
def yT (ax:Int) (a:bM) (b:bM):=te ax (Sl.lit [a,b])
def H6 (ax:Int) (a:bM) (b:bM):=cM (ak ((ak (b.p.x - a.p.x)) * (ak (ax - a.p.z)))) (ak (b.p.z - a.p.z))
def H7 (ax:Int) (a:bM) (b:bM):=cM (ak ((ak (b.p.y - a.p.y)) * (ak (ax - a.p.z)))) (ak (b.p.z - a.p.z))
def H8 (ax:Int) (a:bM) (b:bM):=cM (ak ((ak (b.u - a.u)) * (ak (ax - a.p.z)))) (ak (b.p.z - a.p.z))
def H9 (ax:Int) (a:bM) (b:bM):=cM (ak ((ak (b.v - a.v)) * (ak (ax - a.p.z)))) (ak (b.p.z - a.p.z))
def fc (ax:Int) (a:bM) (b:bM):Option (bM×Int):=(cond (yT ax a b).isSome (cond (((yT ax a b).getD default) != 0) (some (⟨⟨0,0,0⟩,0,0⟩,((yT ax a b).getD default))) (cond (decide (a.p.z >= ax)) (some (⟨⟨0,0,0⟩,0,0⟩,6)) (cond (decide (b.p.z < ax)) (some (⟨⟨0,0,0⟩,0,0⟩,6)) (cond (H6 ax a b).isSome (cond (H7 ax a b).isSome (cond (H8 ax a b).isSome (cond (H9 ax a b).isSome (some (⟨⟨(ak (a.p.x+((H6 ax a b).getD default).fst)),(ak (a.p.y+((H7 ax a b).getD default).fst)),ax⟩,(ak (a.u+((H8 ax a b).getD default).fst)),(ak (a.v+((H9 ax a b).getD default).fst))⟩,0)) none) none) none) none)))) none)
theorem ajg (ax:Int) (a:bM) (b:bM):gw [(148,Af),(202,Ve),(160,X0)] [] 161 [(kI .i64) ax,pJ a,pJ b] = (fc ax a b).map (fun (r:bM×Int)=>KV.jd [pJ r.1,(kI .i64) r.2]):=by
 unfold fc
 try simp only [aV,yT,apd]
 kernel_rfl
def Nv:List KV->KR KV:=a8 PG 161 (bb (fun (r:bM×Int)=>KV.jd [pJ r.1,(kI .i64) r.2]) fun vs=>fc (intOf (v9 vs 0)) (kP (v9 vs 1)) (kP (v9 vs 2)))
theorem LN:a7 PG 161 Nv:=bH (ao.cons zo (ao.cons aaP (ao.cons acL ao.nil))) aJ.nil fun w=>ajg (intOf (g0 3 (w 0))) (kP (g0 177 (w 1))) (kP (g0 177 (w 2)))
def tA (t:aF):=rl t
def wV (t:aF):Option (Int):=(cond (tA t).isSome (cond (((tA t).getD default).snd==0) (cond (decide (((tA t).getD default).fst<=0)) (some (6)) (some (((tA t).getD default).snd))) (some (((tA t).getD default).snd))) none)
theorem acN (t:aF):gw [(163,KA)] [] 137 [eJ t] = (wV t).map (kI .i64):=by
 unfold wV
 try simp only [aV]
 kernel_rfl
def Vf:List KV->KR KV:=a8 PG 137 (bb (kI .i64) fun vs=>wV (ei (v9 vs 0)))
theorem aaQ:a7 PG 137 Vf:=bH (ao.cons Jl ao.nil) aJ.nil fun w=>acN (ei (g0 62 (w 0)))
def wW (x:Int) (y:Int):Option (Bool):=(cond (decide ((min x y) >= 0)) (some ((decide ((max x y) < 64)))) (some (false)))
theorem acO (x:Int) (y:Int):gw [] [] 138 [(kI .i64) x,(kI .i64) y] = (wW x y).map kB:=by
 unfold wW
 try simp only [aV]
 kernel_rfl
def Vg:List KV->KR KV:=a8 PG 138 (bb kB fun vs=>wW (intOf (v9 vs 0)) (intOf (v9 vs 1)))
theorem aaR:a7 PG 138 Vg:=bH ao.nil aJ.nil fun w=>acO (intOf (g0 3 (w 0))) (intOf (g0 3 (w 1)))
def yA (n:Int):Option (Int):=(some ((ak ((ak (8 * n))+4))))
theorem aaS (n:Int):gw [] [] 191 [(kI .i64) n] = (yA n).map (kI .i64):=by
 unfold yA
 kernel_rfl
def S9:List KV->KR KV:=a8 PG 191 (bb (kI .i64) fun vs=>yA (intOf (v9 vs 0)))
theorem Y9:a7 PG 191 S9:=bH ao.nil aJ.nil fun w=>aaS (intOf (g0 3 (w 0)))
def wX (t:aF) (x:Int) (y:Int):=wV t
def Bs (t:aF) (x:Int) (y:Int):=wW x y
def Bt (t:aF) (x:Int) (y:Int):=yA y
def Bu (t:aF) (x:Int) (y:Int):=yA x
def ml (t:aF) (x:Int) (y:Int):Option (jw×Int):=(cond (wX t x y).isSome (cond (((wX t x y).getD default) != 0) (some (⟨0,0,0⟩,((wX t x y).getD default))) (cond (Bs t x y).isSome (cond (!((Bs t x y).getD default)) (some (⟨0,0,0⟩,2)) (some (⟨(ak ((ak ((ak (t.e2.x - t.e1.x)) * (ak (((Bt t x y).getD default) - t.e1.y)))) - (ak ((ak (((Bu t x y).getD default) - t.e1.x)) * (ak (t.e2.y - t.e1.y)))))),(ak ((ak ((ak (t.e0.x - t.e2.x)) * (ak (((Bt t x y).getD default) - t.e2.y)))) - (ak ((ak (((Bu t x y).getD default) - t.e2.x)) * (ak (t.e0.y - t.e2.y)))))),(ak ((ak ((ak (t.e1.x - t.e0.x)) * (ak (((Bt t x y).getD default) - t.e0.y)))) - (ak ((ak (((Bu t x y).getD default) - t.e0.x)) * (ak (t.e1.y - t.e0.y))))))⟩,0))) none)) none)
theorem acP (t:aF) (x:Int) (y:Int):gw [(191,S9),(138,Vg),(137,Vf)] [] 147 [eJ t,(kI .i64) x,(kI .i64) y] = (ml t x y).map (fun (r:jw×Int)=>KV.jd [tR r.1,(kI .i64) r.2]):=by
 unfold ml
 try simp only [aV]
 kernel_rfl
def LO:List KV->KR KV:=a8 PG 147 (bb (fun (r:jw×Int)=>KV.jd [tR r.1,(kI .i64) r.2]) fun vs=>ml (ei (v9 vs 0)) (intOf (v9 vs 1)) (intOf (v9 vs 2)))
theorem Nw:a7 PG 147 LO:=bH (ao.cons Y9 (ao.cons aaR (ao.cons aaQ ao.nil))) aJ.nil fun w=>acP (ei (g0 62 (w 0))) (intOf (g0 3 (w 1))) (intOf (g0 3 (w 2)))
def cp (t:aF) (x:Int) (y:Int):=ml t x y
def mm (t:aF) (x:Int) (y:Int):Option (Bool×Int):=(cond (decide (t.e1.y < t.e0.y)) (cond (decide (((cp t x y).getD default).fst.e2 < 0)) (some (false,0)) (cond (((cp t x y).getD default).fst.e2==0) (some (true,0)) (some (true,0)))) (cond (t.e1.y==t.e0.y) (cond (decide (((cp t x y).getD default).fst.e2 < 0)) (some (false,0)) (cond (((cp t x y).getD default).fst.e2==0) (cond (!(decide (t.e1.x > t.e0.x))) (some (false,0)) (some (true,0))) (some (true,0)))) (cond (decide (((cp t x y).getD default).fst.e2 < 0)) (some (false,0)) (cond (((cp t x y).getD default).fst.e2==0) (some (false,0)) (some (true,0))))))
def mn (t:aF) (x:Int) (y:Int):Option (Bool×Int):=(cond (decide (t.e0.y < t.e2.y)) (cond (decide (((cp t x y).getD default).fst.e1 < 0)) (some (false,0)) (cond (((cp t x y).getD default).fst.e1==0)
   (mm t x y)
   (mm t x y))) (cond (t.e0.y==t.e2.y) (cond (decide (((cp t x y).getD default).fst.e1 < 0)) (some (false,0)) (cond (((cp t x y).getD default).fst.e1==0) (cond (!(decide (t.e0.x > t.e2.x))) (some (false,0))
    (mm t x y))
   (mm t x y))) (cond (decide (((cp t x y).getD default).fst.e1 < 0)) (some (false,0)) (cond (((cp t x y).getD default).fst.e1==0) (some (false,0))
   (mm t x y)))))
def qg (t:aF) (x:Int) (y:Int):Option (Bool×Int):=(cond (cp t x y).isSome (cond (((cp t x y).getD default).snd != 0) (some (false,((cp t x y).getD default).snd)) (cond (decide (t.e2.y < t.e1.y)) (cond (decide (((cp t x y).getD default).fst.e0 < 0)) (some (false,0)) (cond (((cp t x y).getD default).fst.e0==0)
    (mn t x y)
    (mn t x y))) (cond (t.e2.y==t.e1.y) (cond (decide (((cp t x y).getD default).fst.e0 < 0)) (some (false,0)) (cond (((cp t x y).getD default).fst.e0==0) (cond (!(decide (t.e2.x > t.e1.x))) (some (false,0))
     (mn t x y))
    (mn t x y))) (cond (decide (((cp t x y).getD default).fst.e0 < 0)) (some (false,0)) (cond (((cp t x y).getD default).fst.e0==0) (some (false,0))
    (mn t x y)))))) none)
theorem aaT (t:aF) (x:Int) (y:Int):gw [(147,LO)] [] 146 [eJ t,(kI .i64) x,(kI .i64) y] = (qg t x y).map (fun (r:Bool×Int)=>KV.jd [kB r.1,(kI .i64) r.2]):=by
 unfold qg mn mm
 try simp only [aV]
 kernel_rfl
def Ta:List KV->KR KV:=a8 PG 146 (bb (fun (r:Bool×Int)=>KV.jd [kB r.1,(kI .i64) r.2]) fun vs=>qg (ei (v9 vs 0)) (intOf (v9 vs 1)) (intOf (v9 vs 2)))
theorem Za:a7 PG 146 Ta:=bH (ao.cons Nw ao.nil) aJ.nil fun w=>aaT (ei (g0 62 (w 0))) (intOf (g0 3 (w 1))) (intOf (g0 3 (w 2)))
def vO (t:aF) (x:Int) (y:Int):=qg t x y
def dL (t:aF) (x:Int) (y:Int):=ml t x y
def yU (t:aF) (x:Int) (y:Int):=cM (ak ((ak ((ak (0+(ak ((ak (((dL t x y).getD default).fst.e0 * t.e0.d)) * 1))))+(ak ((ak (((dL t x y).getD default).fst.e1 * t.e1.d)) * 1))))+(ak ((ak (((dL t x y).getD default).fst.e2 * t.e2.d)) * 1)))) (ak ((ak ((ak (0+((dL t x y).getD default).fst.e0))+((dL t x y).getD default).fst.e1))+((dL t x y).getD default).fst.e2))
def vP (t:aF) (x:Int) (y:Int):=cM (ak ((ak ((ak (0+(ak ((ak (((dL t x y).getD default).fst.e0 * t.e0.d)) * t.e0.u))))+(ak ((ak (((dL t x y).getD default).fst.e1 * t.e1.d)) * t.e1.u))))+(ak ((ak (((dL t x y).getD default).fst.e2 * t.e2.d)) * t.e2.u)))) (ak ((ak ((ak (0+(ak ((ak (((dL t x y).getD default).fst.e0 * t.e0.d)) * 1))))+(ak ((ak (((dL t x y).getD default).fst.e1 * t.e1.d)) * 1))))+(ak ((ak (((dL t x y).getD default).fst.e2 * t.e2.d)) * 1))))
def vQ (t:aF) (x:Int) (y:Int):=cM (ak ((ak ((ak (0+(ak ((ak (((dL t x y).getD default).fst.e0 * t.e0.d)) * t.e0.v))))+(ak ((ak (((dL t x y).getD default).fst.e1 * t.e1.d)) * t.e1.v))))+(ak ((ak (((dL t x y).getD default).fst.e2 * t.e2.d)) * t.e2.v)))) (ak ((ak ((ak (0+(ak ((ak (((dL t x y).getD default).fst.e0 * t.e0.d)) * 1))))+(ak ((ak (((dL t x y).getD default).fst.e1 * t.e1.d)) * 1))))+(ak ((ak (((dL t x y).getD default).fst.e2 * t.e2.d)) * 1))))
def kd (t:aF) (x:Int) (y:Int):Option (oK×Int):=(cond (vO t x y).isSome (cond (((vO t x y).getD default).snd != 0) (some (⟨0,0,0,0,0⟩,((vO t x y).getD default).snd)) (cond (!((vO t x y).getD default).fst) (some (⟨0,0,0,0,0⟩,6)) (cond (dL t x y).isSome (cond (((dL t x y).getD default).snd != 0) (some (⟨0,0,0,0,0⟩,((dL t x y).getD default).snd)) (cond (yU t x y).isSome (cond (vP t x y).isSome (cond (vQ t x y).isSome (some (⟨(ak ((ak (8 * x))+4)),(ak ((ak (8 * y))+4)),((yU t x y).getD default).fst,((vP t x y).getD default).fst,((vQ t x y).getD default).fst⟩,0)) none) none) none)) none))) none)
theorem ajh (t:aF) (x:Int) (y:Int):gw [(148,Af),(147,LO),(146,Ta)] [] 85 [eJ t,(kI .i64) x,(kI .i64) y] = (kd t x y).map (fun (r:oK×Int)=>KV.jd [Fl r.1,(kI .i64) r.2]):=by
 unfold kd
 try simp only [aV]
 kernel_rfl
def xI:List KV->KR KV:=a8 PG 85 (bb (fun (r:oK×Int)=>KV.jd [Fl r.1,(kI .i64) r.2]) fun vs=>kd (ei (v9 vs 0)) (intOf (v9 vs 1)) (intOf (v9 vs 2)))
theorem tS:a7 PG 85 xI:=bH (ao.cons zo (ao.cons Nw (ao.cons Za ao.nil))) aJ.nil fun w=>ajh (ei (g0 62 (w 0))) (intOf (g0 3 (w 1))) (intOf (g0 3 (w 2)))
structure bn where
 e0:bM
 e1:bM
 e2:bM
instance:Inhabited bn:=⟨⟨default,default,default⟩⟩
def Zb (x:bn):List KV:=[.int .i64 x.e0.p.x,.int .i64 x.e0.p.y,.int .i64 x.e0.p.z,.int .i64 x.e0.u,.int .i64 x.e0.v,.int .i64 x.e1.p.x,.int .i64 x.e1.p.y,.int .i64 x.e1.p.z,.int .i64 x.e1.u,.int .i64 x.e1.v,.int .i64 x.e2.p.x,.int .i64 x.e2.p.y,.int .i64 x.e2.p.z,.int .i64 x.e2.u,.int .i64 x.e2.v]
def mo (x:bn):KV:=.agg (Zb x)
def Zc (c:Nat->KV):bn:=⟨⟨⟨intOf (c 0),intOf (c 1),intOf (c 2)⟩,intOf (c 3),intOf (c 4)⟩,⟨⟨intOf (c 5),intOf (c 6),intOf (c 7)⟩,intOf (c 8),intOf (c 9)⟩,⟨⟨intOf (c 10),intOf (c 11),intOf (c 12)⟩,intOf (c 13),intOf (c 14)⟩⟩
def oz (v:KV):bn:=Zc fun k=>v.cells.getD k .bJ
theorem aly (x:bn):oz (mo x)=x:=rfl
theorem alz:oz .bJ=default:=rfl
theorem Vh (s:Sl bn) (v:bn):s.push v=lv oz (s.n+1) (dZ s.n (fun i=>mo (s.get i)) (ri [mo v])):=(Bp aly alz s v).symm
structure bD where
 ax:Int
 out:(Sl bn)
 e:Int
 l:(Sl bM)
 t22:bn
 t23:Int
 t:bn
instance:Inhabited bD:=⟨by constructor<;>exact default⟩
def Fw (x:bD):List KV:=[.int .i64 x.ax,eZ 178 mo x.out,.int .i64 x.e,eZ 177 pJ x.l,mo x.t22,.int .i64 x.t23]
def Fx (x:bD):List (List KV):=[Zb x.t]
def Nx (vs:List KV) (rs:List (List KV)):bD:=⟨intOf (v9 vs 0),fg oz (v9 vs 1),intOf (v9 vs 2),fg kP (v9 vs 3),oz (v9 vs 4),intOf (v9 vs 5),Zc (r9 rs 0)⟩
def Qf:aU:=⟨[(0,w9 i9),(4,⟨false,[.bm 178]⟩),(5,w9 i9),(7,⟨false,[.bm 177]⟩),(22,⟨true,[i9,i9,i9,i9,i9,i9,i9,i9,i9,i9,i9,i9,i9,i9,i9]⟩),(23,w9 i9)],[(3,[i9,i9,i9,i9,i9,i9,i9,i9,i9,i9,i9,i9,i9,i9,i9],5)],[(3,0,0)]⟩
def aaU:=Dj PG (iI PG [(161,Nv),(162,vM)] [] (fun _=>false) false true) 9 9 102 122 (pd PG 102 122) Qf
def LP (x:bD):=fc x.ax x.t.e0 x.t22.e0
def LQ (x:bD):=fc x.ax x.t22.e0 x.t.e0
def DQ (x:bD):=fc x.ax x.t.e1 x.t22.e0
def DR (x:bD):=fc x.ax x.t22.e0 x.t.e1
def LR (x:bD):=fc x.ax x.t.e2 x.t22.e0
def LS (x:bD):=fc x.ax x.t22.e0 x.t.e2
def LU (x:bD):=fc x.ax x.t.e0 x.t22.e1
def LV (x:bD):=fc x.ax x.t22.e1 x.t.e0
def LW (x:bD):=fc x.ax x.t.e1 x.t22.e1
def LX (x:bD):=fc x.ax x.t22.e1 x.t.e1
def Ci (x:bD):=fc x.ax x.t.e2 x.t22.e1
def Cj (x:bD):=fc x.ax x.t22.e1 x.t.e2
def Ck (x:bD):=fc x.ax x.t.e0 x.t22.e2
def Cl (x:bD):=fc x.ax x.t22.e2 x.t.e0
def JZ (x:bD):=fc x.ax x.t.e1 x.t22.e2
def J0 (x:bD):=fc x.ax x.t22.e2 x.t.e1
def J1 (x:bD):=fc x.ax x.t.e2 x.t22.e2
def J2 (x:bD):=fc x.ax x.t22.e2 x.t.e2
def ek (x:bD) (aA bA:bM) (pA qA:(Option (Prod bM Int))):aK bD:=(cond (decide (aA.p.z >= x.ax)) (cond (decide (bA.p.z >= x.ax)) (cond (qH 40 x.l.n 1) (cond (cond (aR (x.l.n+1)) (aR x.out.n) false) (.next ⟨x.ax,x.out,x.e,(x.l.push aA),x.t22,(ak (x.t23+1)),x.t⟩) .fail) .fail) (cond (qH 40 x.l.n 1) (cond qA.isSome (cond (qH 40 (x.l.n+1) 1) (cond (cond (aR ((x.l.n+1)+1)) (aR x.out.n) false) (.next ⟨x.ax,x.out,x.e,((x.l.push aA).push (qA.getD default).fst),x.t22,(ak (x.t23+1)),x.t⟩) .fail) .fail) .fail) .fail)) (cond (decide (bA.p.z >= x.ax)) (cond pA.isSome (cond (qH 40 x.l.n 1) (cond (cond (aR (x.l.n+1)) (aR x.out.n) false) (.next ⟨x.ax,x.out,x.e,(x.l.push (pA.getD default).fst),x.t22,(ak (x.t23+1)),x.t⟩) .fail) .fail) .fail) (cond (cond (aR x.l.n) (aR x.out.n) false) (.next ⟨x.ax,x.out,x.e,x.l,x.t22,(ak (x.t23+1)),x.t⟩) .fail)))
def dI (x:bD):aK bD:=(cond (decide (x.t23 < 3)) (cond (decide (x.t23=0)) (cond (decide ((Int.tmod (ak (x.t23+1)) 3)=0)) (ek x x.t22.e0 x.t.e0 (LQ x) (LP x)) (cond (decide ((Int.tmod (ak (x.t23+1)) 3)=1)) (ek x x.t22.e0 x.t.e1 (DR x) (DQ x)) (cond (decide ((Int.tmod (ak (x.t23+1)) 3)=2)) (ek x x.t22.e0 x.t.e2 (LS x) (LR x)) .fail))) (cond (decide (x.t23=1)) (cond (decide ((Int.tmod (ak (x.t23+1)) 3)=0)) (ek x x.t22.e1 x.t.e0 (LV x) (LU x)) (cond (decide ((Int.tmod (ak (x.t23+1)) 3)=1)) (ek x x.t22.e1 x.t.e1 (LX x) (LW x)) (cond (decide ((Int.tmod (ak (x.t23+1)) 3)=2)) (ek x x.t22.e1 x.t.e2 (Cj x) (Ci x)) .fail))) (cond (decide (x.t23=2)) (cond (decide ((Int.tmod (ak (x.t23+1)) 3)=0)) (ek x x.t22.e2 x.t.e0 (Cl x) (Ck x)) (cond (decide ((Int.tmod (ak (x.t23+1)) 3)=1)) (ek x x.t22.e2 x.t.e1 (J0 x) (JZ x)) (cond (decide ((Int.tmod (ak (x.t23+1)) 3)=2)) (ek x x.t22.e2 x.t.e2 (J2 x) (J1 x)) .fail))) .fail))) (cond (cond (aR x.l.n) (aR x.out.n) false) (.out (aE.aq.exit 0) x) .fail))
theorem Xc (x:bD):aaU (Fw x) (Fx x)=aK.enc Fw Fx (dI x):=by
 unfold dI ek qH aR
 try simp only [aK.bI,aev,ahK]
 kernel_rfl
def GZ:Lp:=⟨102,122,Qf,fun vs rs=>cc Fw Fx (goN dI (Nx vs rs)) [aE.aq.exit 0],false⟩
theorem Ny:GZ.Ok PG:=uJ (ao.cons LN (ao.cons tw ao.nil)) aJ.nil (pa:=Nx) Xc
structure oM where
 out:(Sl bn)
 e:Int
 l:(Sl bM)
 i:Int
instance:Inhabited oM:=⟨⟨default,default,default,default⟩⟩
def Fy (x:oM):List KV:=[eZ 178 mo x.out,.int .i64 x.e,eZ 177 pJ x.l,.int .i64 x.i]
def Fz (x:oM):List (List KV):=[]
def Nz (vs:List KV) (rs:List (List KV)):oM:=⟨fg oz (v9 vs 0),intOf (v9 vs 1),fg kP (v9 vs 2),intOf (v9 vs 3)⟩
def Qg:aU:=⟨[(4,⟨false,[.bm 178]⟩),(5,w9 i9),(7,⟨false,[.bm 177]⟩),(15,w9 i9)],[],[]⟩
def aaV:=Dj PG (iI PG [(161,Nv),(162,vM)] [GZ] (fun _=>false) false true) 9 9 102 250 (pd PG 102 250) Qg
def lh (x:oM):aK oM:=(cond (decide (x.i < (x.l.n:Int))) (cond (decide (0 < (x.l.n:Int))) (cond (bh (ak (x.i - 1)) x.l.n) (cond (bh x.i x.l.n) (cond (qH 120 x.out.n 1) (cond (cond (aR x.l.n) (aR (x.out.n+1)) false) (.next ⟨(x.out.push ⟨(x.l.get 0),(x.l.get (Int.toNat (ak (x.i - 1)))),(x.l.get (Int.toNat x.i))⟩),x.e,x.l,(ak (x.i+1))⟩) .fail) .fail) .fail) .fail) .fail) (cond (cond (aR x.l.n) (aR x.out.n) false) (.out (aE.aq.exit 2) x) .fail))
theorem Xd (x:oM):aaV (Fy x) (Fz x)=aK.enc Fy Fz (lh x):=by
 unfold lh bh qH aR
 try simp only [aK.bI,Vh]
 kernel_rfl
def Qh:Lp:=⟨102,250,Qg,fun vs rs=>cc Fy Fz (goN lh (Nz vs rs)) [aE.aq.exit 2],false⟩
theorem aaW:Qh.Ok PG:=uJ (ao.cons LN (ao.cons tw ao.nil)) (ie Ny aJ.nil) (pa:=Nz) Xd
def wY (ax:Int) (t:bn):=kY t.e0
def ig (ax:Int) (t:bn):=goN dI ⟨ax,⟨0,(fun i=>⟨⟨⟨0,0,0⟩,0,0⟩,⟨⟨0,0,0⟩,0,0⟩,⟨⟨0,0,0⟩,0,0⟩⟩)⟩,0,⟨0,(fun i=>⟨⟨0,0,0⟩,0,0⟩)⟩,t,0,t⟩
def kM (ax:Int) (t:bn):=goN lh ⟨(ig ax t).st.out,(ig ax t).st.e,(ig ax t).st.l,2⟩
def wZ (ax:Int) (t:bn):=kY t.e1
def w4 (ax:Int) (t:bn):=kY t.e2
def yC (ax:Int) (t:bn):Option ((Sl bn)×Int):=(some (⟨0,(fun i=>⟨⟨⟨0,0,0⟩,0,0⟩,⟨⟨0,0,0⟩,0,0⟩,⟨⟨0,0,0⟩,0,0⟩⟩)⟩,2))
def sf (ax:Int) (t:bn):Option ((Sl bn)×Int):=(cond ((ig ax t).by (aE.aq.exit 0)) (cond (cond (aR (ig ax t).st.l.n) (aR (ig ax t).st.out.n) false) (cond ((kM ax t).by (aE.aq.exit 2)) (some ((kM ax t).st.out,0)) none) none) none)
def vk (ax:Int) (t:bn):Option ((Sl bn)×Int):=(cond (decide (ax < 256))
  (yC ax t) (cond (decide (ax > 4096))
  (yC ax t) (cond (wY ax t).isSome (cond (((wY ax t).getD default) != 0) (cond (((wY ax t).getD default) != 0) (some (⟨0,(fun i=>⟨⟨⟨0,0,0⟩,0,0⟩,⟨⟨0,0,0⟩,0,0⟩,⟨⟨0,0,0⟩,0,0⟩⟩)⟩,((wY ax t).getD default)))
    (sf ax t)) (cond (wZ ax t).isSome (cond (((wZ ax t).getD default) != 0) (cond (((wZ ax t).getD default) != 0) (some (⟨0,(fun i=>⟨⟨⟨0,0,0⟩,0,0⟩,⟨⟨0,0,0⟩,0,0⟩,⟨⟨0,0,0⟩,0,0⟩⟩)⟩,((wZ ax t).getD default)))
     (sf ax t)) (cond (w4 ax t).isSome (cond (((w4 ax t).getD default) != 0) (cond (((w4 ax t).getD default) != 0) (some (⟨0,(fun i=>⟨⟨⟨0,0,0⟩,0,0⟩,⟨⟨0,0,0⟩,0,0⟩,⟨⟨0,0,0⟩,0,0⟩⟩)⟩,((w4 ax t).getD default)))
      (sf ax t))
     (sf ax t)) none)) none)) none)))
theorem ahS (ax:Int) (t:bn):zY PG (iI PG [(161,Nv),(162,vM)] [GZ,Qh] (fun _=>false) false true) 9 9 102 [(kI .i64) ax,mo t] = (vk ax t).map (fun (r:(Sl bn)×Int)=>KV.jd [(eZ 178 mo) r.1,(kI .i64) r.2]):=by
 unfold vk sf yC aR
 try simp only [aV]
 kernel_rfl
def R7:List KV->KR KV:=a8 PG 102 (bb (fun (r:(Sl bn)×Int)=>KV.jd [(eZ 178 mo) r.1,(kI .i64) r.2]) fun vs=>vk (intOf (v9 vs 0)) (oz (v9 vs 1)))
theorem Tb:a7 PG 102 R7:=bH (ao.cons LN (ao.cons tw ao.nil)) (ie Ny (ie aaW aJ.nil)) fun w=>ahS (intOf (g0 3 (w 0))) (oz (g0 178 (w 1)))
def yV (n:Int):Option (Bool):=(cond (decide (n >= (-(32768:Int)))) (some ((decide (n<=32768)))) (some (false)))
theorem anM (n:Int):gw [] [] 178 [(kI .i64) n] = (yV n).map kB:=by
 unfold yV
 try simp only [aV]
 kernel_rfl
def WM:List KV->KR KV:=a8 PG 178 (bb kB fun vs=>yV (intOf (v9 vs 0)))
theorem R8:a7 PG 178 WM:=bH ao.nil aJ.nil fun w=>anM (intOf (g0 3 (w 0)))
structure FB where
 low:iP
 high:iP
instance:Inhabited FB:=⟨⟨default,default⟩⟩
def anN (x:FB):List KV:=[.int .i64 x.low.x,.int .i64 x.low.y,.int .i64 x.low.z,.int .i64 x.high.x,.int .i64 x.high.y,.int .i64 x.high.z]
def Iu (x:FB):KV:=.agg (anN x)
def anO (c:Nat->KV):FB:=⟨⟨intOf (c 0),intOf (c 1),intOf (c 2)⟩,⟨intOf (c 3),intOf (c 4),intOf (c 5)⟩⟩
def ako (v:KV):FB:=anO fun k=>v.cells.getD k .bJ
structure Span where
 low:Int
 high:Int
instance:Inhabited Span:=⟨⟨default,default⟩⟩
structure IG where
 e0:Span
 e1:Span
 e2:Span
instance:Inhabited IG:=⟨⟨default,default,default⟩⟩
def arl (x:IG):List KV:=[.int .i64 x.e0.low,.int .i64 x.e0.high,.int .i64 x.e1.low,.int .i64 x.e1.high,.int .i64 x.e2.low,.int .i64 x.e2.high]
def acQ (x:IG):KV:=.agg (arl x)
def arn (c:Nat->KV):IG:=⟨⟨intOf (c 0),intOf (c 1)⟩,⟨intOf (c 2),intOf (c 3)⟩,⟨intOf (c 4),intOf (c 5)⟩⟩
def akp (v:KV):IG:=arn fun k=>v.cells.getD k .bJ
def R9 (b:FB):Option (IG):=(some (⟨⟨b.low.x,b.high.x⟩,⟨b.low.y,b.high.y⟩,⟨b.low.z,b.high.z⟩⟩))
theorem ahT (b:FB):gw [] [] 210 [Iu b] = (R9 b).map acQ:=by
 unfold R9
 kernel_rfl
def aaX:List KV->KR KV:=a8 PG 210 (bb acQ fun vs=>R9 (ako (v9 vs 0)))
theorem ae7:a7 PG 210 aaX:=bH ao.nil aJ.nil fun w=>ahT (ako (g0 109 (w 0)))
def Sa (s:IG):Option (FB):=(some (⟨⟨s.e0.low,s.e1.low,s.e2.low⟩,⟨s.e0.high,s.e1.high,s.e2.high⟩⟩))
theorem ahU (s:IG):gw [] [] 211 [acQ s] = (Sa s).map Iu:=by
 unfold Sa
 kernel_rfl
def aaY:List KV->KR KV:=a8 PG 211 (bb Iu fun vs=>Sa (akp (v9 vs 0)))
theorem ae8:a7 PG 211 aaY:=bH ao.nil aJ.nil fun w=>ahU (akp (g0 296 (w 0)))
def Vi (a:FB) (b:FB):Option (FB):=(some (⟨⟨(min a.low.x b.low.x),(min a.low.y b.low.y),(min a.low.z b.low.z)⟩,⟨(max a.high.x b.high.x),(max a.high.y b.high.y),(max a.high.z b.high.z)⟩⟩))
theorem aji (a:FB) (b:FB):gw [(211,aaY),(210,aaX)] [] 179 [Iu a,Iu b] = (Vi a b).map Iu:=by
 unfold Vi
 kernel_rfl
def NA:List KV->KR KV:=a8 PG 179 (bb Iu fun vs=>Vi (ako (v9 vs 0)) (ako (v9 vs 1)))
theorem LY:a7 PG 179 NA:=bH (ao.cons ae8 (ao.cons ae7 ao.nil)) aJ.nil fun w=>aji (ako (g0 109 (w 0))) (ako (g0 109 (w 1)))
structure ob where
 l:(Sl iP)
 e:Int
 t17:(Sl iP)
 t18:Int
 t19:Int
 b:FB
instance:Inhabited ob:=⟨by constructor<;>exact default⟩
def OK (x:ob):List KV:=[eZ 27 qY x.l,.int .i64 x.e,eZ 27 qY x.t17,.int .i64 x.t18,.int .i64 x.t19]
def OL (x:ob):List (List KV):=[anN x.b]
def Ya (vs:List KV) (rs:List (List KV)):ob:=⟨fg rN (v9 vs 0),intOf (v9 vs 1),fg rN (v9 vs 2),intOf (v9 vs 3),intOf (v9 vs 4),anO (r9 rs 0)⟩
def aaZ:aU:=⟨[(0,w9 (n9 27)),(3,w9 i9),(17,w9 (n9 27)),(18,w9 i9),(19,w9 i9)],[(2,[i9,i9,i9,i9,i9,i9],1)],[(2,0,0)]⟩
def ajj:=vL [(179,NA),(178,WM)] [] 127 58 aaZ
def w5 (x:ob):=yV (x.t17.get (Int.toNat x.t19)).x
def w6 (x:ob):=yV (x.t17.get (Int.toNat x.t19)).y
def w7 (x:ob):=yV (x.t17.get (Int.toNat x.t19)).z
def qJ (x:ob):aK ob:=(.out aE.aq.ret ⟨x.l,20,x.t17,x.t18,x.t19,⟨⟨0,0,0⟩,⟨0,0,0⟩⟩⟩)
def qh (x:ob):aK ob:=(cond (decide (x.t19 < x.t18)) (cond (bh x.t19 x.t17.n) (cond (w5 x).isSome (cond (!((w5 x).getD default))
   (qJ x) (cond (w6 x).isSome (cond (!((w6 x).getD default))
    (qJ x) (cond (w7 x).isSome (cond (!((w7 x).getD default))
     (qJ x) (.next ⟨x.l,x.e,x.t17,x.t18,(ak (x.t19+1)),x.b⟩)) .fail)) .fail)) .fail) .fail) (.out (aE.aq.exit 0) x))
theorem ae9 (x:ob):ajj (OK x) (OL x)=aK.enc OK OL (qh x):=by
 unfold qh qJ bh
 try simp only [aK.bI]
 kernel_rfl
def Sb:Lp:=⟨127,58,aaZ,fun vs rs=>cc OK OL (goN qh (Ya vs rs)) [aE.aq.exit 0,aE.aq.ret],false⟩
theorem Yb:Sb.Ok PG:=uJ (ao.cons LY (ao.cons R8 ao.nil)) aJ.nil (pa:=Ya) ae9
structure tf where
 e:Int
 t49:(Sl iP)
 t50:Int
 t51:Int
 b:FB
instance:Inhabited tf:=⟨⟨default,default,default,default,default⟩⟩
def LZ (x:tf):List KV:=[.int .i64 x.e,eZ 27 qY x.t49,.int .i64 x.t50,.int .i64 x.t51]
def L1 (x:tf):List (List KV):=[anN x.b]
def Vj (vs:List KV) (rs:List (List KV)):tf:=⟨intOf (v9 vs 0),fg rN (v9 vs 1),intOf (v9 vs 2),intOf (v9 vs 3),anO (r9 rs 0)⟩
def Yc:aU:=⟨[(3,w9 i9),(49,w9 (n9 27)),(50,w9 i9),(51,w9 i9)],[(2,[i9,i9,i9,i9,i9,i9],1)],[(2,0,0)]⟩
def ahV:=vL [(179,NA),(178,WM)] [Sb] 127 250 Yc
def mQ (x:tf):aK tf:=(cond (decide (x.t51 < x.t50)) (cond (bh x.t51 x.t49.n) (.next ⟨x.e,x.t49,x.t50,(ak (x.t51+1)),⟨⟨(min x.b.low.x (x.t49.get (Int.toNat x.t51)).x),(min x.b.low.y (x.t49.get (Int.toNat x.t51)).y),(min x.b.low.z (x.t49.get (Int.toNat x.t51)).z)⟩,⟨(max x.b.high.x (x.t49.get (Int.toNat x.t51)).x),(max x.b.high.y (x.t49.get (Int.toNat x.t51)).y),(max x.b.high.z (x.t49.get (Int.toNat x.t51)).z)⟩⟩⟩) .fail) (.out (aE.aq.exit 2) x))
theorem acR (x:tf):ahV (LZ x) (L1 x)=aK.enc LZ L1 (mQ x):=by
 unfold mQ bh
 try simp only [aK.bI]
 kernel_rfl
def Yd:Lp:=⟨127,250,Yc,fun vs rs=>cc LZ L1 (goN mQ (Vj vs rs)) [aE.aq.exit 2],false⟩
theorem ahW:Yd.Ok PG:=uJ (ao.cons LY (ao.cons R8 ao.nil)) (ie Yb aJ.nil) (pa:=Vj) acR
def fF (l:(Sl iP)):=goN qh ⟨l,0,l,(l.n:Int),0,⟨⟨0,0,0⟩,⟨0,0,0⟩⟩⟩
def vl (l:(Sl iP)):=goN mQ ⟨(fF l).st.e,⟨((Int.toNat ((fF l).st.l.n:Int)) - 1),(fun i=>((fF l).st.l.get (1+i)))⟩,((((Int.toNat ((fF l).st.l.n:Int)) - 1):Nat):Int),0,⟨((fF l).st.l.get 0),((fF l).st.l.get 0)⟩⟩
def Bv (l:(Sl iP)):Option (FB×Int):=(some (⟨⟨0,0,0⟩,⟨0,0,0⟩⟩,4))
def Bw (l:(Sl iP)):Option (FB×Int):=(cond ((l.n:Int)==0)
  (Bv l) (cond (decide ((l.n:Int) > 4096))
  (Bv l) (cond ((fF l).by (aE.aq.exit 0)) (cond (decide (0 < ((fF l).st.l.n:Int))) (cond (decide (0 < ((fF l).st.l.n:Int))) (cond ((decide (1<=((fF l).st.l.n:Int)))&&(decide (((fF l).st.l.n:Int)<=((fF l).st.l.n:Int)))) (cond ((vl l).by (aE.aq.exit 2)) (some ((vl l).st.b,0)) none) none) none) none) (cond ((fF l).by aE.aq.ret) (some ((fF l).st.b,(fF l).st.e)) none))))
theorem anP (l:(Sl iP)):gw [(179,NA),(178,WM)] [Sb,Yd] 127 [(eZ 27 qY) l] = (Bw l).map (fun (r:FB×Int)=>KV.jd [Iu r.1,(kI .i64) r.2]):=by
 unfold Bw Bv
 try simp only [aV]
 kernel_rfl
def WN:List KV->KR KV:=a8 PG 127 (bb (fun (r:FB×Int)=>KV.jd [Iu r.1,(kI .i64) r.2]) fun vs=>Bw ((fg rN) (v9 vs 0)))
theorem Sc:a7 PG 127 WN:=bH (ao.cons LY (ao.cons R8 ao.nil)) (ie Yb (ie ahW aJ.nil)) fun w=>anP ((fg rN) (g0 103 (w 0)))
def kN (n:Int):Option (Bool):=(cond (decide (n > 0)) (some ((decide (n<=16)))) (some (false)))
theorem aa0 (n:Int):gw [] [] 176 [(kI .i64) n] = (kN n).map kB:=by
 unfold kN
 try simp only [aV]
 kernel_rfl
def Td:List KV->KR KV:=a8 PG 176 (bb kB fun vs=>kN (intOf (v9 vs 0)))
theorem Zd:a7 PG 176 Td:=bH ao.nil aJ.nil fun w=>aa0 (intOf (g0 3 (w 0)))
structure Color where
 e0:Int
 e1:Int
 e2:Int
 e3:Int
instance:Inhabited Color:=⟨⟨default,default,default,default⟩⟩
def Sd (x:Color):List KV:=[.int .u8 x.e0,.int .u8 x.e1,.int .u8 x.e2,.int .u8 x.e3]
def fh (x:Color):KV:=.agg (Sd x)
def Se (c:Nat->KV):Color:=⟨intOf (c 0),intOf (c 1),intOf (c 2),intOf (c 3)⟩
def kQ (v:KV):Color:=Se fun k=>v.cells.getD k .bJ
theorem aro (x:Color):kQ (fh x)=x:=rfl
theorem anQ (s t:Sl Color):s.join t=lv kQ (s.n+t.n) (dZ s.n (fun i=>fh (s.get i)) (fun i=>fh (t.get i))):=(acE aro s t).symm
structure bG where
 w:Int
 h:Int
 dF:(Sl Color)
instance:Inhabited bG:=⟨⟨default,default,default⟩⟩
def acS (x:bG):List KV:=[.int .i64 x.w,.int .i64 x.h,eZ 33 fh x.dF]
def iu (x:bG):KV:=.agg (acS x)
def acT (c:Nat->KV):bG:=⟨intOf (c 0),intOf (c 1),fg kQ (c 2)⟩
def ej (v:KV):bG:=acT fun k=>v.cells.getD k .bJ
theorem anR (x:bG):ej (iu x)=x:=rfl
theorem anS:ej .bJ=default:=rfl
theorem ajk (s:Sl bG) (v:bG):s.push v=lv ej (s.n+1) (dZ s.n (fun i=>iu (s.get i)) (ri [iu v])):=(Bp anR anS s v).symm
def tT (t:bG):=kN t.w
def tU (t:bG):=kN t.h
def eO (t:bG):Option (Int):=(cond (tT t).isSome (cond (!((tT t).getD default)) (some (8)) (cond (tU t).isSome (cond (!((tU t).getD default)) (some (8)) (cond ((t.dF.n:Int) != (ak (t.w * t.h))) (some (8)) (some (0)))) none)) none)
theorem Ze (t:bG):gw [(176,Td)] [] 123 [iu t] = (eO t).map (kI .i64):=by
 unfold eO
 try simp only [aV]
 kernel_rfl
def Bx:List KV->KR KV:=a8 PG 123 (bb (kI .i64) fun vs=>eO (ej (v9 vs 0)))
theorem Cm:a7 PG 123 Bx:=bH (ao.cons Zd ao.nil) aJ.nil fun w=>Ze (ej (g0 114 (w 0)))
structure kf where
 t2:Int
 t9:(Sl bG)
 t10:Int
 t11:Int
instance:Inhabited kf:=⟨⟨default,default,default,default⟩⟩
def ze (x:kf):List KV:=[.int .i64 x.t2,eZ 114 iu x.t9,.int .i64 x.t10,.int .i64 x.t11]
def zf (x:kf):List (List KV):=[]
def Gt (vs:List KV) (rs:List (List KV)):kf:=⟨intOf (v9 vs 0),fg ej (v9 vs 1),intOf (v9 vs 2),intOf (v9 vs 3)⟩
def II:aU:=⟨[(2,w9 i9),(9,w9 (n9 114)),(10,w9 i9),(11,w9 i9)],[],[]⟩
def TS:=vL [(123,Bx)] [] 61 58 II
def iX (x:kf):=eO (x.t9.get (Int.toNat x.t11))
def fK (x:kf):aK kf:=(cond (decide (x.t11 < x.t10)) (cond (bh x.t11 x.t9.n) (cond (iX x).isSome (cond (((iX x).getD default) != 0) (.out aE.aq.ret ⟨((iX x).getD default),x.t9,x.t10,x.t11⟩) (.next ⟨x.t2,x.t9,x.t10,(ak (x.t11+1))⟩)) .fail) .fail) (.out (aE.aq.exit 0) x))
theorem Qi (x:kf):TS (ze x) (zf x)=aK.enc ze zf (fK x):=by
 unfold fK bh
 try simp only [aK.bI]
 kernel_rfl
def IJ:Lp:=⟨61,58,II,fun vs rs=>cc ze zf (goN fK (Gt vs rs)) [aE.aq.exit 0,aE.aq.ret],false⟩
theorem TT:IJ.Ok PG:=uJ (ao.cons Cm ao.nil) aJ.nil (pa:=Gt) Qi
def dJ (l:(Sl bG)):=goN fK ⟨0,l,(l.n:Int),0⟩
def fY (l:(Sl bG)):Option (Int):=(cond (decide ((l.n:Int) > 16)) (some (4)) (cond ((dJ l).by (aE.aq.exit 0)) (some (0)) (cond ((dJ l).by aE.aq.ret) (some ((dJ l).st.t2)) none)))
theorem Xe (l:(Sl bG)):gw [(123,Bx)] [IJ] 61 [(eZ 114 iu) l] = (fY l).map (kI .i64):=by
 unfold fY
 try simp only [aV]
 kernel_rfl
def zA:List KV->KR KV:=a8 PG 61 (bb (kI .i64) fun vs=>fY ((fg ej) (v9 vs 0)))
theorem Ai:a7 PG 61 zA:=bH (ao.cons Cm ao.nil) (ie TT aJ.nil) fun w=>Xe ((fg ej) (g0 23 (w 0)))
structure yD where
 color:Color
 iD:Int
 cw:Int
 FC:Int
 Aj:Bool
 bin:Int
instance:Inhabited yD:=⟨by constructor<;>exact default⟩
def avU (x:yD):List KV:=[.int .u8 x.color.e0,.int .u8 x.color.e1,.int .u8 x.color.e2,.int .u8 x.color.e3,.int .i64 x.iD,.int .u8 x.cw,.int .i64 x.FC,.bool x.Aj,.int .i64 x.bin]
def alA (x:yD):KV:=.agg (avU x)
def avV (c:Nat->KV):yD:=⟨⟨intOf (c 0),intOf (c 1),intOf (c 2),intOf (c 3)⟩,intOf (c 4),intOf (c 5),intOf (c 6),kO (c 7),intOf (c 8)⟩
def Vk (v:KV):yD:=avV fun k=>v.cells.getD k .bJ
def eL (l:yD) (av:Int):Option (Int):=(cond (decide (av < 0)) (some (2)) (cond (decide (av > 16)) (some (2)) (cond (decide (l.iD < (-(1:Int)))) (some (8)) (cond (decide (l.iD >= av)) (some (8)) (cond (decide (l.cw > 2)) (some (8)) (cond (decide (l.FC < (-(1024:Int)))) (some (8)) (cond (decide (l.FC > 1024)) (some (8)) (cond (decide (l.bin < 0)) (some (8)) (cond (decide (l.bin > 15)) (some (8)) (some (0)))))))))))
theorem Vl (l:yD) (av:Int):gw [] [] 125 [alA l,(kI .i64) av] = (eL l av).map (kI .i64):=by
 unfold eL
 try simp only [aV]
 kernel_rfl
def tV:List KV->KR KV:=a8 PG 125 (bb (kI .i64) fun vs=>eL (Vk (v9 vs 0)) (intOf (v9 vs 1)))
theorem uu:a7 PG 125 tV:=bH ao.nil aJ.nil fun w=>Vl (Vk (g0 107 (w 0))) (intOf (g0 3 (w 1)))
structure WO where
 e0:Int
 e1:Int
instance:Inhabited WO:=⟨⟨default,default⟩⟩
def atg (x:WO):List KV:=[.int .i64 x.e0,.int .i64 x.e1]
def ahX (x:WO):KV:=.agg (atg x)
def ath (c:Nat->KV):WO:=⟨intOf (c 0),intOf (c 1)⟩
def ati (v:KV):WO:=ath fun k=>v.cells.getD k .bJ
structure Item where
 aG:(Sl iP)
 uV:(Sl WO)
 bd:(Sl jw)
 look:yD
 box:FB
instance:Inhabited Item:=⟨⟨default,default,default,default,default⟩⟩
def Cn (x:Item):List KV:=[eZ 27 qY x.aG,eZ 181 ahX x.uV,eZ 28 tR x.bd,.int .u8 x.look.color.e0,.int .u8 x.look.color.e1,.int .u8 x.look.color.e2,.int .u8 x.look.color.e3,.int .i64 x.look.iD,.int .u8 x.look.cw,.int .i64 x.look.FC,.bool x.look.Aj,.int .i64 x.look.bin,.int .i64 x.box.low.x,.int .i64 x.box.low.y,.int .i64 x.box.low.z,.int .i64 x.box.high.x,.int .i64 x.box.high.y,.int .i64 x.box.high.z]
def FD (x:Item):KV:=.agg (Cn x)
def DS (c:Nat->KV):Item:=⟨fg rN (c 0),fg ati (c 1),fg ID (c 2),⟨⟨intOf (c 3),intOf (c 4),intOf (c 5),intOf (c 6)⟩,intOf (c 7),intOf (c 8),intOf (c 9),kO (c 10),intOf (c 11)⟩,⟨⟨intOf (c 12),intOf (c 13),intOf (c 14)⟩,⟨intOf (c 15),intOf (c 16),intOf (c 17)⟩⟩⟩
def yc (v:KV):Item:=DS fun k=>v.cells.getD k .bJ
structure oO where
 t4:Bool
 n:Int
 t38:(Sl iP)
 t39:Int
 t40:Int
 x:Item
instance:Inhabited oO:=⟨by constructor<;>exact default⟩
def FE (x:oO):List KV:=[.bool x.t4,.int .i64 x.n,eZ 27 qY x.t38,.int .i64 x.t39,.int .i64 x.t40]
def FF (x:oO):List (List KV):=[Cn x.x]
def NB (vs:List KV) (rs:List (List KV)):oO:=⟨kO (v9 vs 0),intOf (v9 vs 1),fg rN (v9 vs 2),intOf (v9 vs 3),intOf (v9 vs 4),DS (r9 rs 0)⟩
def Qj:aU:=⟨[(4,w9 b9),(5,w9 i9),(38,w9 (n9 27)),(39,w9 i9),(40,w9 i9)],[(2,[n9 27,n9 181,n9 28,u9,u9,u9,u9,i9,u9,i9,b9,i9,i9,i9,i9,i9,i9,i9],1)],[(2,0,0)]⟩
def aa1:=vL [(127,WN),(126,Br),(125,tV)] [] 64 122 Qj
def qK (x:oO):=sQ (x.t38.get (Int.toNat x.t40))
def lj (x:oO):aK oO:=(cond (decide (x.t40 < x.t39)) (cond (bh x.t40 x.t38.n) (cond (qK x).isSome (cond (((qK x).getD default) != 0) (.out aE.aq.ret ⟨false,x.n,x.t38,x.t39,x.t40,x.x⟩) (cond (bh x.t40 x.x.uV.n) (cond (bh x.t40 x.x.uV.n) (cond (decide ((min (x.x.uV.get (Int.toNat x.t40)).e0 (x.x.uV.get (Int.toNat x.t40)).e1) < 0)) (.out aE.aq.ret ⟨false,x.n,x.t38,x.t39,x.t40,x.x⟩) (cond (bh x.t40 x.x.uV.n) (cond (bh x.t40 x.x.uV.n) (cond (decide ((max (x.x.uV.get (Int.toNat x.t40)).e0 (x.x.uV.get (Int.toNat x.t40)).e1) > 255)) (.out aE.aq.ret ⟨false,x.n,x.t38,x.t39,x.t40,x.x⟩) (.next ⟨x.t4,x.n,x.t38,x.t39,(ak (x.t40+1)),x.x⟩)) .fail) .fail)) .fail) .fail)) .fail) .fail) (.out (aE.aq.exit 0) x))
theorem Xf (x:oO):aa1 (FE x) (FF x)=aK.enc FE FF (lj x):=by
 unfold lj bh
 try simp only [aK.bI]
 kernel_rfl
def G0:Lp:=⟨64,122,Qj,fun vs rs=>cc FE FF (goN lj (NB vs rs)) [aE.aq.exit 0,aE.aq.ret],false⟩
theorem NC:G0.Ok PG:=uJ (ao.cons Sc (ao.cons yz (ao.cons uu ao.nil))) aJ.nil (pa:=NB) Xf
structure mR where
 t4:Bool
 n:Int
 t82:(Sl jw)
 t83:Int
 t84:Int
 x:Item
instance:Inhabited mR:=⟨by constructor<;>exact default⟩
def FG (x:mR):List KV:=[.bool x.t4,.int .i64 x.n,eZ 28 tR x.t82,.int .i64 x.t83,.int .i64 x.t84]
def FH (x:mR):List (List KV):=[Cn x.x]
def ND (vs:List KV) (rs:List (List KV)):mR:=⟨kO (v9 vs 0),intOf (v9 vs 1),fg ID (v9 vs 2),intOf (v9 vs 3),intOf (v9 vs 4),DS (r9 rs 0)⟩
def Qk:aU:=⟨[(4,w9 b9),(5,w9 i9),(82,w9 (n9 28)),(83,w9 i9),(84,w9 i9)],[(2,[n9 27,n9 181,n9 28,u9,u9,u9,u9,i9,u9,i9,b9,i9,i9,i9,i9,i9,i9,i9],1)],[(2,0,0)]⟩
def aa2:=vL [(127,WN),(126,Br),(125,tV)] [G0] 64 250 Qk
def iA (x:mR):aK mR:=(cond (decide (x.t84 < x.t83)) (cond (bh x.t84 x.t82.n) (cond (decide ((min (min (x.t82.get (Int.toNat x.t84)).e0 (x.t82.get (Int.toNat x.t84)).e1) (x.t82.get (Int.toNat x.t84)).e2) < 0)) (.out aE.aq.ret ⟨false,x.n,x.t82,x.t83,x.t84,x.x⟩) (cond (decide ((max (max (x.t82.get (Int.toNat x.t84)).e0 (x.t82.get (Int.toNat x.t84)).e1) (x.t82.get (Int.toNat x.t84)).e2) >= x.n)) (.out aE.aq.ret ⟨false,x.n,x.t82,x.t83,x.t84,x.x⟩) (.next ⟨x.t4,x.n,x.t82,x.t83,(ak (x.t84+1)),x.x⟩))) .fail) (.out (aE.aq.exit 2) x))
theorem Xg (x:mR):aa2 (FG x) (FH x)=aK.enc FG FH (iA x):=by
 unfold iA bh
 try simp only [aK.bI]
 kernel_rfl
def Ql:Lp:=⟨64,250,Qk,fun vs rs=>cc FG FH (goN iA (ND vs rs)) [aE.aq.exit 2,aE.aq.ret],false⟩
theorem aa3:Ql.Ok PG:=uJ (ao.cons Sc (ao.cons yz (ao.cons uu ao.nil))) (ie NC aJ.nil) (pa:=ND) Xg
def xc (x:Item) (av:Int):=eL x.look av
def eh (x:Item) (av:Int):=goN lj ⟨false,(x.aG.n:Int),x.aG,(x.aG.n:Int),0,x⟩
def du (x:Item) (av:Int):=goN iA ⟨(eh x av).st.t4,(eh x av).st.n,(eh x av).st.x.bd,((eh x av).st.x.bd.n:Int),0,(eh x av).st.x⟩
def jC (x:Item) (av:Int):=Bw (du x av).st.x.aG
def od (x:Item) (av:Int):Option (Bool):=(cond (decide ((x.aG.n:Int) > 64)) (some (false)) (cond ((x.uV.n:Int) != (x.aG.n:Int)) (some (false)) (cond (decide ((x.bd.n:Int) > 64)) (some (false)) (cond (xc x av).isSome (cond (((xc x av).getD default) != 0) (some (false)) (cond ((eh x av).by (aE.aq.exit 0)) (cond ((du x av).by (aE.aq.exit 2)) (cond (jC x av).isSome (cond ((((jC x av).getD default).fst.low.x==(du x av).st.x.box.low.x)&&((((jC x av).getD default).fst.low.y==(du x av).st.x.box.low.y)&&((((jC x av).getD default).fst.low.z==(du x av).st.x.box.low.z)&&((((jC x av).getD default).fst.high.x==(du x av).st.x.box.high.x)&&((((jC x av).getD default).fst.high.y==(du x av).st.x.box.high.y)&&((((jC x av).getD default).fst.high.z==(du x av).st.x.box.high.z)&&true)))))) (cond (((jC x av).getD default).snd==0) (some (true)) (some (((du x av).st.n==0)))) (some (false))) none) (cond ((du x av).by aE.aq.ret) (some ((du x av).st.t4)) none)) (cond ((eh x av).by aE.aq.ret) (some ((eh x av).st.t4)) none))) none))))
theorem ahY (x:Item) (av:Int):gw [(127,WN),(126,Br),(125,tV)] [G0,Ql] 64 [FD x,(kI .i64) av] = (od x av).map kB:=by
 unfold od
 try simp only [aV]
 kernel_rfl
def Sf:List KV->KR KV:=a8 PG 64 (bb kB fun vs=>od (yc (v9 vs 0)) (intOf (v9 vs 1)))
theorem Te:a7 PG 64 Sf:=bH (ao.cons Sc (ao.cons yz (ao.cons uu ao.nil))) (ie NC (ie aa3 aJ.nil)) fun w=>ahY (yc (g0 111 (w 0))) (intOf (g0 3 (w 1)))
structure Show where
 items:(Sl Item)
 av:(Sl bG)
instance:Inhabited Show:=⟨⟨default,default⟩⟩
def sS (x:Show):List KV:=[eZ 111 FD x.items,eZ 114 iu x.av]
def ph (x:Show):KV:=.agg (sS x)
def sT (c:Nat->KV):Show:=⟨fg yc (c 0),fg ej (c 1)⟩
def gm (v:KV):Show:=sT fun k=>v.cells.getD k .bJ
structure cz where
 s:(Sl Item)
 t4:Int
 t7:Int
 t8:Int
 ahZ:Show
instance:Inhabited cz:=⟨⟨default,default,default,default,default⟩⟩
def kx (x:cz):List KV:=[eZ 111 FD x.s,.fn (.func 63) [] [.ptr 0 0],.int .i64 x.t4,.int .i64 x.t7,.int .i64 x.t8]
def ky (x:cz):List (List KV):=[sS x.ahZ]
def pL (vs:List KV) (rs:List (List KV)):cz:=⟨fg yc (v9 vs 0),intOf (v9 vs 2),intOf (v9 vs 3),intOf (v9 vs 4),sT (r9 rs 0)⟩
def qi:aU:=⟨[(0,w9 (n9 111)),(1,⟨false,[.ref (.fn (.func 63) [] [.ptr 0 0])]⟩),(4,w9 i9),(7,w9 i9),(8,w9 i9)],[(100001,[n9 111,n9 114],1)],[]⟩
def yd:=vL [(64,Sf),(61,zA)] [] 124 26 qi
def gW (x:cz):=od (x.s.get (Int.toNat x.t8)) (x.ahZ.av.n:Int)
def ch (x:cz):aK cz:=(cond (decide (x.t8 < x.t7)) (cond (bh x.t8 x.s.n) (cond (gW x).isSome (cond (!((gW x).getD default)) (.out aE.aq.ret ⟨x.s,x.t8,x.t7,x.t8,x.ahZ⟩) (.next ⟨x.s,x.t4,x.t7,(ak (x.t8+1)),x.ahZ⟩)) .fail) .fail) (.out (aE.aq.exit 0) x))
theorem xd (x:cz):yd (kx x) (ky x)=aK.enc kx ky (ch x):=by
 unfold ch bh
 try simp only [aK.bI]
 kernel_rfl
def qj:Lp:=⟨124,26,qi,fun vs rs=>cc kx ky (goN ch (pL vs rs)) [aE.aq.exit 0,aE.aq.ret],false⟩
theorem ye:qj.Ok PG:=uJ (ao.cons Te (ao.cons Ai ao.nil)) aJ.nil (pa:=pL) xd
def tB (s:Show):=fY s.av
def dR (s:Show):=goN ch ⟨s.items,0,(s.items.n:Int),0,s⟩
def ij (s:Show):Option (Int):=(cond (decide ((s.items.n:Int) > 256)) (some (4)) (cond (decide ((s.av.n:Int) > 16)) (some (4)) (cond (tB s).isSome (cond (((tB s).getD default) != 0) (some (8)) (cond ((dR s).by (aE.aq.exit 0)) (some (0)) (cond ((dR s).by aE.aq.ret) (cond (decide ((dR s).st.t4 >= 0)) (some (8)) (some (0))) none))) none)))
theorem acU (s:Show):gw [(64,Sf),(61,zA)] [qj] 19 [ph s] = (ij s).map (kI .i64):=by
 unfold ij
 try simp only [aV]
 kernel_rfl
def FJ:List KV->KR KV:=a8 PG 19 (bb (kI .i64) fun vs=>ij (gm (v9 vs 0)))
theorem FK:a7 PG 19 FJ:=bH (ao.cons Te (ao.cons Ai ao.nil)) (ie ye aJ.nil) fun w=>acU (gm (g0 25 (w 0)))
def yE (c:az) (p:bM):=jz c
def yF (c:az) (p:bM):=kY p
def Dp (c:az) (p:bM):=cM (ak ((ak (8 * c.sR)) * p.p.x)) p.p.z
def Dq (c:az) (p:bM):=cM (ak ((ak (8 * c.sR)) * p.p.y)) p.p.z
def pn (c:az) (p:bM):Option (oK×Int):=(cond (yE c p).isSome (cond (((yE c p).getD default) != 0) (some (⟨0,0,0,0,0⟩,((yE c p).getD default))) (cond (yF c p).isSome (cond (((yF c p).getD default) != 0) (some (⟨0,0,0,0,0⟩,((yF c p).getD default))) (cond (decide (p.p.z < c.ax)) (some (⟨0,0,0,0,0⟩,6)) (cond (Dp c p).isSome (cond (Dq c p).isSome (cond (!(decide (p.p.z=0))) (some (⟨(ak (((Dp c p).getD default).fst+(ak (4 * c.w)))),(ak ((ak (4 * c.h)) - ((Dq c p).getD default).fst)),(ak (Int.tdiv 16777216 p.p.z)),p.u,p.v⟩,0)) none) none) none))) none)) none)
theorem afa (c:az) (p:bM):gw [(148,Af),(162,vM),(100,Dn)] [] 103 [kc c,pJ p] = (pn c p).map (fun (r:oK×Int)=>KV.jd [Fl r.1,(kI .i64) r.2]):=by
 unfold pn
 try simp only [aV]
 kernel_rfl
def OM:List KV->KR KV:=a8 PG 103 (bb (fun (r:oK×Int)=>KV.jd [Fl r.1,(kI .i64) r.2]) fun vs=>pn (dt (v9 vs 0)) (kP (v9 vs 1)))
theorem Qm:a7 PG 103 OM:=bH (ao.cons zo (ao.cons tw (ao.cons DP ao.nil))) aJ.nil fun w=>afa (dt (g0 31 (w 0))) (kP (g0 177 (w 1)))
structure fj where
 out:(Sl aF)
 t72:(Sl bn)
 t73:Int
 t74:Int
 c:az
 x:Item
instance:Inhabited fj:=⟨by constructor<;>exact default⟩
def Cp (x:fj):List KV:=[eZ 62 eJ x.out,eZ 178 mo x.t72,.int .i64 x.t73,.int .i64 x.t74]
def Cq (x:fj):List (List KV):=[Fs x.c,Cn x.x]
def J3 (vs:List KV) (rs:List (List KV)):fj:=⟨fg ei (v9 vs 0),fg oz (v9 vs 1),intOf (v9 vs 2),intOf (v9 vs 3),Ft (r9 rs 0),DS (r9 rs 1)⟩
def L4:aU:=⟨[(8,⟨false,[.bm 62]⟩),(72,w9 (n9 178)),(73,w9 i9),(74,w9 i9)],[(5,[i9,i9,i9,i9,i9,i9,i9,i9,i9,i9,i9,i9,i9,i9,i9,i9],1),(9,[n9 27,n9 181,n9 28,u9,u9,u9,u9,i9,u9,i9,b9,i9,i9,i9,i9,i9,i9,i9],1)],[(5,0,0),(9,1,0)]⟩
def Xh:=vL [(105,OH),(104,OG),(103,OM),(102,R7),(101,LL)] [] 48 506 L4
def oP (x:fj):=pn x.c (x.t72.get (Int.toNat x.t74)).e0
def oQ (x:fj):=pn x.c (x.t72.get (Int.toNat x.t74)).e1
def oS (x:fj):=pn x.c (x.t72.get (Int.toNat x.t74)).e2
def oT (x:fj):=rm ⟨((oP x).getD default).fst,((oQ x).getD default).fst,((oS x).getD default).fst⟩ x.x.look.cw
def rC (x:fj):=s9 ⟨((oP x).getD default).fst,((oQ x).getD default).fst,((oS x).getD default).fst⟩
def gS (x:fj):aK fj:=(cond (decide (x.t74 < x.t73)) (cond (bh x.t74 x.t72.n) (cond (oP x).isSome (cond (oQ x).isSome (cond (oS x).isSome (cond (oT x).isSome (cond ((oT x).getD default).fst (cond (rC x).isSome (cond (qH 120 x.out.n 1) (cond (aR (x.out.n+1)) (.next ⟨(x.out.push ((rC x).getD default).fst),x.t72,x.t73,(ak (x.t74+1)),x.c,x.x⟩) .fail) .fail) .fail) (cond (aR x.out.n) (.next ⟨x.out,x.t72,x.t73,(ak (x.t74+1)),x.c,x.x⟩) .fail)) .fail) .fail) .fail) .fail) .fail) (cond (aR x.out.n) (.out (aE.aq.exit 2) x) .fail))
theorem TU (x:fj):Xh (Cp x) (Cq x)=aK.enc Cp Cq (gS x):=by
 unfold gS bh qH aR
 try simp only [aK.bI,XY]
 kernel_rfl
def L5:Lp:=⟨48,506,L4,fun vs rs=>cc Cp Cq (goN gS (J3 vs rs)) [aE.aq.exit 2],false⟩
theorem Xi:L5.Ok PG:=uJ (ao.cons Qb (ao.cons Qa (ao.cons Qm (ao.cons Tb (ao.cons Nt ao.nil))))) aJ.nil (pa:=J3) TU
def oU (s:Show) (c:az) (item:Int) (aZ:Int):=mj c ((s.items.get (Int.toNat item)).aG.get (Int.toNat ((s.items.get (Int.toNat item)).bd.get (Int.toNat aZ)).e0))
def oV (s:Show) (c:az) (item:Int) (aZ:Int):=mj c ((s.items.get (Int.toNat item)).aG.get (Int.toNat ((s.items.get (Int.toNat item)).bd.get (Int.toNat aZ)).e1))
def oW (s:Show) (c:az) (item:Int) (aZ:Int):=mj c ((s.items.get (Int.toNat item)).aG.get (Int.toNat ((s.items.get (Int.toNat item)).bd.get (Int.toNat aZ)).e2))
def mS (s:Show) (c:az) (item:Int) (aZ:Int):=vk c.ax ⟨⟨((oU s c item aZ).getD default).fst,((s.items.get (Int.toNat item)).uV.get (Int.toNat ((s.items.get (Int.toNat item)).bd.get (Int.toNat aZ)).e0)).e0,((s.items.get (Int.toNat item)).uV.get (Int.toNat ((s.items.get (Int.toNat item)).bd.get (Int.toNat aZ)).e0)).e1⟩,⟨((oV s c item aZ).getD default).fst,((s.items.get (Int.toNat item)).uV.get (Int.toNat ((s.items.get (Int.toNat item)).bd.get (Int.toNat aZ)).e1)).e0,((s.items.get (Int.toNat item)).uV.get (Int.toNat ((s.items.get (Int.toNat item)).bd.get (Int.toNat aZ)).e1)).e1⟩,⟨((oW s c item aZ).getD default).fst,((s.items.get (Int.toNat item)).uV.get (Int.toNat ((s.items.get (Int.toNat item)).bd.get (Int.toNat aZ)).e2)).e0,((s.items.get (Int.toNat item)).uV.get (Int.toNat ((s.items.get (Int.toNat item)).bd.get (Int.toNat aZ)).e2)).e1⟩⟩
def hQ (s:Show) (c:az) (item:Int) (aZ:Int):=goN gS ⟨⟨0,(fun i=>⟨⟨0,0,0,0,0⟩,⟨0,0,0,0,0⟩,⟨0,0,0,0,0⟩⟩)⟩,((mS s c item aZ).getD default).fst,(((mS s c item aZ).getD default).fst.n:Int),0,c,(s.items.get (Int.toNat item))⟩
def jD (s:Show) (c:az) (item:Int) (aZ:Int):Option ((Sl aF)):=(cond (bh item s.items.n) (cond (bh aZ (s.items.get (Int.toNat item)).bd.n) (cond (bh ((s.items.get (Int.toNat item)).bd.get (Int.toNat aZ)).e0 (s.items.get (Int.toNat item)).aG.n) (cond (oU s c item aZ).isSome (cond (bh ((s.items.get (Int.toNat item)).bd.get (Int.toNat aZ)).e0 (s.items.get (Int.toNat item)).uV.n) (cond (bh ((s.items.get (Int.toNat item)).bd.get (Int.toNat aZ)).e0 (s.items.get (Int.toNat item)).uV.n) (cond (bh ((s.items.get (Int.toNat item)).bd.get (Int.toNat aZ)).e1 (s.items.get (Int.toNat item)).aG.n) (cond (oV s c item aZ).isSome (cond (bh ((s.items.get (Int.toNat item)).bd.get (Int.toNat aZ)).e1 (s.items.get (Int.toNat item)).uV.n) (cond (bh ((s.items.get (Int.toNat item)).bd.get (Int.toNat aZ)).e1 (s.items.get (Int.toNat item)).uV.n) (cond (bh ((s.items.get (Int.toNat item)).bd.get (Int.toNat aZ)).e2 (s.items.get (Int.toNat item)).aG.n) (cond (oW s c item aZ).isSome (cond (bh ((s.items.get (Int.toNat item)).bd.get (Int.toNat aZ)).e2 (s.items.get (Int.toNat item)).uV.n) (cond (bh ((s.items.get (Int.toNat item)).bd.get (Int.toNat aZ)).e2 (s.items.get (Int.toNat item)).uV.n) (cond (mS s c item aZ).isSome (cond ((hQ s c item aZ).by (aE.aq.exit 2)) (some ((hQ s c item aZ).st.out)) none) none) none) none) none) none) none) none) none) none) none) none) none) none) none) none)
theorem acV (s:Show) (c:az) (item:Int) (aZ:Int):gw [(105,OH),(104,OG),(103,OM),(102,R7),(101,LL)] [L5] 48 [ph s,kc c,(kI .i64) item,(kI .i64) aZ] = (jD s c item aZ).map (eZ 62 eJ):=by
 unfold jD bh
 try simp only [aV]
 kernel_rfl
def xe:List KV->KR KV:=a8 PG 48 (bb (eZ 62 eJ) fun vs=>jD (gm (v9 vs 0)) (dt (v9 vs 1)) (intOf (v9 vs 2)) (intOf (v9 vs 3)))
theorem vm:a7 PG 48 xe:=bH (ao.cons Qb (ao.cons Qa (ao.cons Qm (ao.cons Tb (ao.cons Nt ao.nil))))) (ie Xi aJ.nil) fun w=>acV (gm (g0 25 (w 0))) (dt (g0 31 (w 1))) (intOf (g0 3 (w 2))) (intOf (g0 3 (w 3)))
def qL (s:Show) (c:az):=ij s
def tC (s:Show) (c:az):=jz c
def cX (s:Show) (c:az):Option (Int):=(cond (qL s c).isSome (cond (((qL s c).getD default) != 0) (some (((qL s c).getD default))) (cond (tC s c).isSome (some (((tC s c).getD default))) none)) none)
theorem acW (s:Show) (c:az):gw [(100,Dn),(19,FJ)] [] 47 [ph s,kc c] = (cX s c).map (kI .i64):=by
 unfold cX
 try simp only [aV]
 kernel_rfl
def L6:List KV->KR KV:=a8 PG 47 (bb (kI .i64) fun vs=>cX (gm (v9 vs 0)) (dt (v9 vs 1)))
theorem NF:a7 PG 47 L6:=bH (ao.cons DP (ao.cons FK ao.nil)) aJ.nil fun w=>acW (gm (g0 25 (w 0))) (dt (g0 31 (w 1)))
def Bz (s:Show) (c:az) (item:Int) (aZ:Int):=cX s c
def G7 (s:Show) (c:az) (item:Int) (aZ:Int):=jD s c item aZ
def rO (s:Show) (c:az) (item:Int) (aZ:Int):Option ((Sl aF)×Int):=(some (⟨0,(fun i=>⟨⟨0,0,0,0,0⟩,⟨0,0,0,0,0⟩,⟨0,0,0,0,0⟩⟩)⟩,2))
def xf (s:Show) (c:az) (item:Int) (aZ:Int):Option ((Sl aF)×Int):=(cond (Bz s c item aZ).isSome (cond (((Bz s c item aZ).getD default) != 0) (some (⟨0,(fun i=>⟨⟨0,0,0,0,0⟩,⟨0,0,0,0,0⟩,⟨0,0,0,0,0⟩⟩)⟩,((Bz s c item aZ).getD default))) (cond (decide (item < 0))
   (rO s c item aZ) (cond (decide (item >= (s.items.n:Int)))
   (rO s c item aZ) (cond (decide (aZ < 0))
    (rO s c item aZ) (cond (bh item s.items.n) (cond (decide (aZ >= ((s.items.get (Int.toNat item)).bd.n:Int)))
     (rO s c item aZ) (cond (G7 s c item aZ).isSome (some (((G7 s c item aZ).getD default),0)) none)) none))))) none)
theorem acX (s:Show) (c:az) (item:Int) (aZ:Int):gw [(48,xe),(47,L6)] [] 10 [ph s,kc c,(kI .i64) item,(kI .i64) aZ] = (xf s c item aZ).map (fun (r:(Sl aF)×Int)=>KV.jd [(eZ 62 eJ) r.1,(kI .i64) r.2]):=by
 unfold xf rO bh
 try simp only [aV]
 kernel_rfl
def L7:List KV->KR KV:=a8 PG 10 (bb (fun (r:(Sl aF)×Int)=>KV.jd [(eZ 62 eJ) r.1,(kI .i64) r.2]) fun vs=>xf (gm (v9 vs 0)) (dt (v9 vs 1)) (intOf (v9 vs 2)) (intOf (v9 vs 3)))
theorem NG:a7 PG 10 L7:=bH (ao.cons vm (ao.cons NF ao.nil)) aJ.nil fun w=>acX (gm (g0 25 (w 0))) (dt (g0 31 (w 1))) (intOf (g0 3 (w 2))) (intOf (g0 3 (w 3)))
end
end Go.Proofs.YtchbpckkmgcgkaaGreat.b
end
section
namespace Go.K
open Go Go.aE
theorem aK.anT {X:Type} {step:X->aK X} {I:Nat->X->Prop} {Q:aq->X->Prop} {n:Nat}
  (h:∀ j x,j<=n->I j x->(∃ x',step x = .next x'/\j < n/\I (j+1) x')\/∃ e x',step x = .out e x'/\yS e=false/\Q e x') :
  ∀ (r j:Nat) (x:X),j+r=n->I j x->∀ N,r < N->∃ e x',aK.go step N x = .out e x'/\Q e x'
 | r,j,x,hj,hI,0,hN=>by omega
 | r,j,x,hj,hI,N+1,hN=>by
  rcases h j x (by omega) hI with ⟨x',h1,h2,h3⟩ | ⟨e,x',h1,h2,h3⟩
  ·obtain ⟨r',rfl⟩:∃ r',r=r' + 1:=⟨r - 1,by omega⟩
   obtain ⟨e,y,h4,h5⟩:=aK.anT h r' (j+1) x' (by omega) h3 N (by omega);exact ⟨e,y,by simp only [aK.go,h1,h4],h5⟩
  ·exact ⟨e,x',by simp only [aK.go,h1,h2,aw],h3⟩
theorem bt {X:Type} {step:X->aK X} (I:Nat->X->Prop) (Q:aq->X->Prop) (n:Nat) (hn:n < gv)
  (h:∀ j x,j<=n->I j x->(∃ x',step x = .next x'/\j < n/\I (j+1) x')\/∃ e x',step x = .out e x'/\yS e=false/\Q e x') {x:X} (h0:I 0 x) :
  ∃ e x',goN step x = .out e x'/\Q e x':=aK.anT h n 0 x (by omega) h0 gv hn
theorem aK.lF {X:Type} (e:aq) (x:X) (e' : aq):(aK.out e x).by e' = gq e e':=rfl
theorem aK.lU {X:Type} [Inhabited X] (e:aq) (x:X):(aK.out e x).st=x:=rfl
theorem Dr {n:Int} (h : -9223372036854775808<=n) (h' : n < 9223372036854775808):ak n=n:=by
 show IntKind.wrap .i64 n=n;unfold IntKind.wrap;by_cases hn:0<=n
 ·have h1:n % (2 ^ IntKind.i64.bits:Int)=n:=Int.emod_eq_of_lt hn (by show n < 18446744073709551616; omega)
  simp only [h1];rw [aB];intro hc;simp only [aD,lz] at hc;have:n >= 9223372036854775808:=hc.2;omega
 ·have h1:n % (2 ^ IntKind.i64.bits:Int)=n+18446744073709551616:=by
   show n % 18446744073709551616=n+18446744073709551616;omega
  simp only [h1];rw [aW]
  ·show n+18446744073709551616 - 18446744073709551616=n
   omega
  ·simp only [aD,lz]
   refine ⟨rfl,?_⟩;show n+18446744073709551616 >= 9223372036854775808;omega
theorem sU {b n m:Nat} (hb:b<=1000000) (hn:n<=1000000) (hm:m<=1000000) (h:0 < m\/n=0):j6 b n m=true:=by
 unfold j6;simp only [aD,u4];refine ⟨⟨Nat.ble_eq_true_of_le ?_,Nat.ble_eq_true_of_le (by omega)⟩,?_⟩
 ·calc (n+m+512) * b<=2000512 * 1000000:=Nat.mul_le_mul (by omega) hb
   _<=17592186044416:=by decide
 ·rcases h with h | h
  ·exact .inl (by rw [bX]; exact h)
  ·exact .inr (by subst h; rfl)
@[simp] theorem aI (n:Nat):ic n n=true:=nA n
theorem Sl.NH {α:Type} [Inhabited α] (s:Sl α) (v:α):(s.push v).n=s.n+1:=rfl
theorem Sl.akq {α:Type} [Inhabited α] {s:Sl α} {v:α} {i:Nat} (h:i < s.n):(s.push v).get i=s.get i:=by
 have:Nat.blt i s.n=true:=by rw [bX]; exact h
 simp only [Sl.push,this,ai]
theorem Sl.akr {α:Type} [Inhabited α] {s:Sl α} {v:α} : (s.push v).get s.n=v:=by
 have:Nat.blt s.n s.n=false:=by
  cases h:Nat.blt s.n s.n with
  | false=>rfl
  | true=>rw [bX] at h; omega
 simp only [Sl.push,this,aw,nA,ai]
end Go.K
end
section
namespace Go.Proofs.YtchbpckkmgcgkaaGreat.b
open Go.K
open Go.aE (aq)
theorem aj {n:Int} (h : -4611686018427387904<=n:=by omega) (h' : n<=4611686018427387904:=by omega):ak n=n:=Dr (by omega) (by omega)
theorem Sg (lo hi:Int) (l:Sl Int) (hn:l.n<=1000):∃ b,rB lo hi l=some b/\(b=true↔∀ i,i < l.n->lo<=l.get i/\l.get i<=hi):=by
 obtain ⟨e,x',h1,h2⟩:=bt (step:=oJ) (x:=⟨lo,hi,false,l,((l.n:Nat):Int),(0:Int)⟩)
  (fun j x=>x=⟨lo,hi,false,l,((l.n:Nat):Int),(j:Int)⟩/\j<=l.n/\∀ i,i < j->lo<=l.get i/\l.get i<=hi)
  (fun e x=>(e = .exit 0/\∀ i,i < l.n->lo<=l.get i/\l.get i<=hi)\/(e = .ret/\x.t6=false/\¬ ∀ i,i < l.n->lo<=l.get i/\l.get i<=hi)) l.n (by have:gv=1000000000000:=rfl; omega)
  (fun j x hj ⟨hx,hle,hI⟩=>by
   subst hx;unfold oJ bh;by_cases bu:j < l.n
   ·have e1:decide ((j:Int) < ((l.n:Nat):Int))=true:=au (by omega)
    have e2:decide ((0:Int)<=(j:Int))=true:=au (by omega);simp only [e1,e2,ai,bC,bU];cases ha:decide (l.get j < lo) with
    | true=>
     right;refine ⟨_,_,rfl,rfl,.inr ⟨rfl,rfl,fun h=>?_⟩⟩;have:=h j bu; have:=rh ha; omega
    | false=>
     cases hb:decide (l.get j > hi) with
     | true=>
      right;refine ⟨_,_,rfl,rfl,.inr ⟨rfl,rfl,fun h=>?_⟩⟩;have:=h j bu; have:=rh hb; omega
     | false=>
      left;refine ⟨_,rfl,by omega,?_,by omega,fun i Yq=>?_⟩
      ·rw [aj (by omega) (by omega)]; rfl
      ·by_cases vK:i=j
       ·subst vK
        have:=of_decide_eq_false ha; have:=of_decide_eq_false hb; omega
       ·exact hI i (by omega)
   ·have e1:decide ((j:Int) < ((l.n:Nat):Int))=false:=ay (by omega)
    simp only [e1,aw];right;exact ⟨_,_,rfl,rfl,.inl ⟨rfl,fun i Yq=>hI i (by omega)⟩⟩)
  ⟨rfl,by omega,fun i Yq=>by omega⟩
 have h0:Bq lo hi l = .out e x':=h1;unfold rB;rw [h0,aK.lF,aK.lF,aK.lU];rcases h2 with ⟨rfl,h2⟩ | ⟨rfl,h3,h2⟩
 ·exact ⟨true,rfl,by simpa using h2⟩
 ·exact ⟨false,by simp [gq,h3],by simpa using h2⟩
theorem ah0 (df:Int) (l:Sl Int) (hn:l.n<=1000) (hm:0<=df/\df<=1000000):∃ b,Em df l=some b/\(b=true↔∀ i,i < l.n->-df<=l.get i/\l.get i<=df):=by
 have hw:ak (0 - df) = -df:=by rw [aj (by omega) (by omega)]; omega
 obtain ⟨e,x',h1,h2⟩:=bt (step:=uQ) (x:=⟨df,false,l,((l.n:Nat):Int),(0:Int)⟩)
  (fun j x=>x=⟨df,false,l,((l.n:Nat):Int),(j:Int)⟩/\j<=l.n/\∀ i,i < j->-df<=l.get i/\l.get i<=df)
  (fun e x=>(e = .exit 0/\∀ i,i < l.n->-df<=l.get i/\l.get i<=df)\/(e = .ret/\x.t4=false/\¬ ∀ i,i < l.n->-df<=l.get i/\l.get i<=df)) l.n (by have:gv=1000000000000:=rfl; omega)
  (fun j x hj ⟨hx,hle,hI⟩=>by
   subst hx;unfold uQ bh;by_cases bu:j < l.n
   ·have e1:decide ((j:Int) < ((l.n:Nat):Int))=true:=au (by omega)
    have e2:decide ((0:Int)<=(j:Int))=true:=au (by omega);simp only [e1,e2,ai,bC,bU,hw];cases ha:decide (l.get j < -df) with
    | true=>
     right;refine ⟨_,_,rfl,rfl,.inr ⟨rfl,rfl,fun h=>?_⟩⟩;have:=h j bu; have:=rh ha; omega
    | false=>
     cases hb:decide (l.get j > df) with
     | true=>
      right;refine ⟨_,_,rfl,rfl,.inr ⟨rfl,rfl,fun h=>?_⟩⟩;have:=h j bu; have:=rh hb; omega
     | false=>
      left;refine ⟨_,rfl,by omega,?_,by omega,fun i Yq=>?_⟩
      ·rw [aj (by omega) (by omega)]; rfl
      ·by_cases vK:i=j
       ·subst vK
        have:=of_decide_eq_false ha; have:=of_decide_eq_false hb; omega
       ·exact hI i (by omega)
   ·have e1:decide ((j:Int) < ((l.n:Nat):Int))=false:=ay (by omega)
    simp only [e1,aw];right;exact ⟨_,_,rfl,rfl,.inl ⟨rfl,fun i Yq=>hI i (by omega)⟩⟩)
  ⟨rfl,by omega,fun i Yq=>by omega⟩
 have h0:Ns df l = .out e x':=h1;unfold Em;rw [h0,aK.lF,aK.lF,aK.lU];rcases h2 with ⟨rfl,h2⟩ | ⟨rfl,h3,h2⟩
 ·exact ⟨true,rfl,by simpa using h2⟩
 ·exact ⟨false,by simp [gq,h3],by simpa using h2⟩
def zg (v:iP):Prop:=-4096<=v.x/\v.x<=4096/\-4096<=v.y/\v.y<=4096/\-4096<=v.z/\v.z<=4096
theorem avm {p:Int->Prop} (a b c:Int):(∀ i,i < (Sl.lit [a,b,c]).n->p ((Sl.lit [a,b,c]).get i))↔p a/\p b/\p c:=by
 constructor
 ·intro h
  exact ⟨h 0 (show 0 < 3 by omega),h 1 (show 1 < 3 by omega),h 2 (show 2 < 3 by omega)⟩
 ·rintro ⟨h1,h2,h3⟩ i hi
  have hi:i < 3:=hi
  match i,hi with
  | 0,_=>exact h1
  | 1,_=>exact h2
  | 2,_=>exact h3
theorem avn {p:Int->Prop} (a b:Int):(∀ i,i < (Sl.lit [a,b]).n->p ((Sl.lit [a,b]).get i))↔p a/\p b:=by
 constructor
 ·intro h
  exact ⟨h 0 (show 0 < 2 by omega),h 1 (show 1 < 2 by omega)⟩
 ·rintro ⟨h1,h2⟩ i hi
  have hi:i < 2:=hi
  match i,hi with
  | 0,_=>exact h1
  | 1,_=>exact h2
theorem awV {p:Int->Prop} (a:Int):(∀ i,i < (Sl.lit [a]).n->p ((Sl.lit [a]).get i))↔p a:=by
 constructor
 ·intro h
  exact h 0 (show 0 < 1 by omega)
 ·intro h1 i hi
  have hi:i < 1:=hi
  match i,hi with
  | 0,_=>exact h1
theorem Ak (v:iP):∃ e,sQ v=some e/\(e=0↔zg v):=by
 obtain ⟨b,h1,h2⟩:=ah0 4096 (Sl.lit [v.x,v.y,v.z]) (show 3<=1000 by omega) (by omega);rw [avm (p:=fun n=>-4096<=n/\n<=4096)] at h2;unfold sQ Fq;rw [h1];cases b with
 | true=>exact ⟨0,rfl,by simpa [zg,and_assoc] using h2⟩
 | false=>exact ⟨20,rfl,by simp only [xM,false_iff] at h2; simp only [zg]; omega⟩
def KB (s:oK):Prop:=(-131072<=s.x/\s.x<=131072)/\(-131072<=s.y/\s.y<=131072)/\(1<=s.d/\s.d<=65536)/\(0<=s.u/\s.u<=255)/\0<=s.v/\s.v<=255
theorem Jm (s:oK):∃ e,s7 s=some e/\(e=0↔KB s):=by
 obtain ⟨b,h1,h2⟩:=Sg (-131072) 131072 (Sl.lit [s.x,s.y]) (show 2<=1000 by omega);rw [avn (p:=fun n=>-131072<=n/\n<=131072)] at h2;obtain ⟨c,h3,h4⟩:=Sg 1 65536 (Sl.lit [s.d]) (show 1<=1000 by omega);rw [awV (p:=fun n=>1<=n/\n<=65536)] at h4;obtain ⟨d,h5,h6⟩:=Sg 0 255 (Sl.lit [s.u,s.v]) (show 2<=1000 by omega);rw [avn (p:=fun n=>0<=n/\n<=255)] at h6;unfold s7 Dk Dl Dm;rw [h1,h3,h5];unfold KB;cases b with
 | false=>exact ⟨8,rfl,by simp only [xM,false_iff] at h2; omega⟩
 | true=>
  simp only [true_iff] at h2;cases c with
  | false=>exact ⟨8,rfl,by simp only [xM,false_iff] at h4; omega⟩
  | true=>
   simp only [true_iff] at h4;cases d with
   | false=>exact ⟨8,rfl,by simp only [xM,false_iff] at h6; omega⟩
   | true=>
    simp only [true_iff] at h6;exact ⟨0,rfl,by simp only [true_iff]; exact ⟨h2.1,h2.2,h4,h6.1,h6.2⟩⟩
def Sh (t:aF):Prop:=KB t.e0/\KB t.e1/\KB t.e2
def su (t:aF):Int:=(t.e1.x - t.e0.x) * (t.e2.y - t.e0.y) - (t.e2.x - t.e0.x) * (t.e1.y - t.e0.y)
theorem mq {a b c d:Int} (hc:0<=c) (h1 : -c<=a/\a<=c) (h2 : -d<=b/\b<=d) : -(c * d)<=a * b/\a * b<=c * d:=by
 have hd:0<=d:=by omega
 have h3:a.natAbs * b.natAbs<=c.natAbs * d.natAbs:=Nat.mul_le_mul (by omega) (by omega);have h4:(a * b).natAbs=a.natAbs * b.natAbs:=Int.natAbs_mul a b;have h5:(c * d).natAbs=c.natAbs * d.natAbs:=Int.natAbs_mul c d;have h6:0<=c * d:=wy hc hd;omega
theorem FL (t:aF):(Sh t/\rl t=some (su t,0))\/(¬ Sh t/\∃ e,rl t=some (0,e)/\e≠0):=by
 obtain ⟨e0,h1,h2⟩:=Jm t.e0;obtain ⟨e1,h3,h4⟩:=Jm t.e1;obtain ⟨e2,h5,h6⟩:=Jm t.e2;unfold rl Fm Fo Fp;rw [h1,h3,h5];unfold Sh;by_cases GK:e0=0
 ·by_cases Pr:e1=0
  ·by_cases I9:e2=0
   ·left
    have g0:=h2.1 GK; have g1:=h4.1 Pr; have g2:=h6.1 I9;refine ⟨⟨g0,g1,g2⟩,?_⟩;subst GK Pr I9;obtain ⟨a1,a2,_⟩:=g0;obtain ⟨b1,b2,_⟩:=g1;obtain ⟨c1,c2,_⟩:=g2;have m1:=mq (a:=t.e1.x - t.e0.x) (b:=t.e2.y - t.e0.y) (c:=262144) (d:=262144) (by omega) (by omega) (by omega);have m2:=mq (a:=t.e2.x - t.e0.x) (b:=t.e1.y - t.e0.y) (c:=262144) (d:=262144) (by omega) (by omega) (by omega);show some (ak (ak (ak (t.e1.x - t.e0.x) * ak (t.e2.y - t.e0.y)) - ak (ak (t.e2.x - t.e0.x) * ak (t.e1.y - t.e0.y))),(0:Int))=some (su t,0);rw [aj (n:=t.e1.x - t.e0.x),aj (n:=t.e2.y - t.e0.y),aj (n:=t.e2.x - t.e0.x),aj (n:=t.e1.y - t.e0.y),
     aj (n:=(t.e1.x - t.e0.x) * (t.e2.y - t.e0.y)),aj (n:=(t.e2.x - t.e0.x) * (t.e1.y - t.e0.y))]
    rw [aj (by omega) (by omega)];rfl
   ·right
    refine ⟨fun h=>I9 (h6.2 h.2.2),e2,?_,I9⟩;subst GK Pr;have:(e2 != (0:Int))=true:=by simpa using I9
    simp [this]
  ·right
   refine ⟨fun h=>Pr (h4.2 h.2.1),e1,?_,Pr⟩;subst GK;have:(e1 != (0:Int))=true:=by simpa using Pr
   simp [this]
 ·right
  refine ⟨fun h=>GK (h2.2 h.1),e0,?_,GK⟩;have:(e0 != (0:Int))=true:=by simpa using GK
  simp [this]
theorem En (a b:Int) (hb:1<=b) (ha : -4611686018427387904<=a/\a<=4611686018427387904):cM a b=some (a / b,0):=by
 have h1:decide (b < 1)=false:=ay (by omega);have h2:decide (b=0)=false:=ay (by omega);have h3:=Int.mul_tdiv_add_tmod a b;have h4:=Int.natAbs_tdiv_le_natAbs a b;have h5:(Int.tmod a b).natAbs < b.natAbs:=by rw [Int.natAbs_tmod]; exact Nat.mod_lt _ (by omega)
 unfold cM;simp only [h1,h2,aw,sE,ai];cases hr:decide (Int.tmod a b < 0) with
 | true=>
  have hr:=rh hr;have e:a / b=Int.tdiv a b - 1:=((Int.ediv_emod_unique (by omega:0 < b)).2 ⟨(show (Int.tmod a b+b)+b * (Int.tdiv a b - 1)=a by rw [Int.mul_sub]; omega),by omega,by omega⟩).1;rw [ai,aj (n:=Int.tdiv a b),Dr (by omega) (by omega),e]
 | false=>
  have hr:=of_decide_eq_false hr;have e:a / b=Int.tdiv a b:=((Int.ediv_emod_unique (by omega:0 < b)).2 ⟨(show Int.tmod a b+b * Int.tdiv a b=a by omega),by omega,by omega⟩).1;rw [aw,aj (by omega) (by omega),e]
theorem IK (a b:Int):∃ r,cM a b=some r:=by
 unfold cM;cases h1:decide (b < 1) with
 | true=>exact ⟨_,rfl⟩
 | false=>
  have h1:=of_decide_eq_false h1;have h2:decide (b=0)=false:=ay (by omega);simp only [h2,aw,sE,ai];cases decide (Int.tmod a b < 0) <;> exact ⟨_,rfl⟩
end Go.Proofs.YtchbpckkmgcgkaaGreat.b
end
section
namespace Go.Proofs.YtchbpckkmgcgkaaGreat.b
open Go.K
def DT (t:aF):Prop:=Sh t/\0 < su t
theorem aeA (t:aF):∃ e,wV t=some e/\(e=0↔DT t):=by
 unfold wV tA DT;rcases FL t with ⟨h1,h2⟩ | ⟨h1,e,h2,h3⟩
 ·rw [h2]
  cases hb:decide (su t<=0) with
  | true=>
   have:=rh hb;refine ⟨6,by simp [hb],by simp; omega⟩
  | false=>
   have:=of_decide_eq_false hb;exact ⟨0,by simp [hb],by simp [h1]; omega⟩
 ·rw [h2]
  have:(e==(0:Int))=false:=by simpa using h3
  exact ⟨e,by simp [this],by simp [h1,h3]⟩
def Pix (x y:Int):Prop:=(0<=x/\x < 64)/\0<=y/\y < 64
theorem aeB (x y:Int):∃ b,wW x y=some b/\(b=true↔Pix x y):=by
 unfold wW Pix;cases hb:decide (min x y >= 0) with
 | true=>
  have:=rh hb;refine ⟨decide (max x y < 64),rfl,?_⟩;rw [lz];omega
 | false=>
  have:=of_decide_eq_false hb;refine ⟨false,rfl,?_⟩;simp only [xM,false_iff];omega
def W0 (t:aF) (p q:Int):Int:=(t.e2.x - t.e1.x) * (q - t.e1.y) - (p - t.e1.x) * (t.e2.y - t.e1.y)
def W1 (t:aF) (p q:Int):Int:=(t.e0.x - t.e2.x) * (q - t.e2.y) - (p - t.e2.x) * (t.e0.y - t.e2.y)
def W2 (t:aF) (p q:Int):Int:=(t.e1.x - t.e0.x) * (q - t.e0.y) - (p - t.e0.x) * (t.e1.y - t.e0.y)
theorem alB {a b c d p q:Int} (ha : -131072<=a/\a<=131072) (hb : -131072<=b/\b<=131072) (hc : -131072<=c/\c<=131072) (hd : -131072<=d/\d<=131072) (hp:0<=p/\p<=1000) (hq:0<=q/\q<=1000) :
  ak (ak (ak (c - a) * ak (q - b)) - ak (ak (p - a) * ak (d - b)))=(c - a) * (q - b) - (p - a) * (d - b):=by
 have m1:=mq (a:=c - a) (b:=q - b) (c:=262144) (d:=262144) (by omega) (by omega) (by omega);have m2:=mq (a:=p - a) (b:=d - b) (c:=262144) (d:=262144) (by omega) (by omega) (by omega);rw [aj (n:=c - a),aj (n:=q - b),aj (n:=p - a),aj (n:=d - b),aj (n:=(c - a) * (q - b)),aj (n:=(p - a) * (d - b)),aj (by omega) (by omega)]
theorem NI (t:aF) (x y:Int):(DT t/\Pix x y/\ml t x y=some (⟨W0 t (8 * x+4) (8 * y+4),W1 t (8 * x+4) (8 * y+4),W2 t (8 * x+4) (8 * y+4)⟩,0))\/∃ w e,ml t x y=some (w,e)/\e≠0:=by
 obtain ⟨e,h1,h2⟩:=aeA t;obtain ⟨b,h3,h4⟩:=aeB x y;unfold ml wX Bs;rw [h1,h3];by_cases he:e=0
 ·have hf:=h2.1 he
  subst he;cases b with
  | true=>
   have hp:=h4.1 rfl;left;refine ⟨hf,hp,?_⟩;obtain ⟨hp1,hp2⟩:=hp;have e2:Bt t x y=some (8 * y+4):=by
    show some (ak (ak (8 * y)+4))=_;rw [aj (n:=8 * y),aj (by omega) (by omega)]
   have e3:Bu t x y=some (8 * x+4):=by
    show some (ak (ak (8 * x)+4))=_;rw [aj (n:=8 * x),aj (by omega) (by omega)]
   obtain ⟨⟨⟨a1,a2,_⟩,⟨b1,b2,_⟩,c1,c2,_⟩,_⟩:=hf;rw [e2,e3];simp only [bj,ai,bc,iR,aw,hU];rw [alB b1 b2 c1 c2 (by omega) (by omega),alB c1 c2 a1 a2 (by omega) (by omega),alB a1 a2 b1 b2 (by omega) (by omega)];rfl
  | false=>right; exact ⟨_,2,rfl,by omega⟩
 ·right
  have:(e != (0:Int))=true:=by simpa using he
  simp only [bj,ai,bc];rw [this];exact ⟨_,e,rfl,he⟩
def aks (u v w:Int) (r:Option (Bool×Int)):Prop:=r=some (false,0)\/(r=some (true,0)/\0<=u/\0<=v/\0<=w)
theorem aks.ite {u v w:Int} {c:Prop} [Decidable c] {a b:Option (Bool×Int)} (h1:c->aks u v w a) (h2 : ¬ c->aks u v w b):aks u v w (if c then a else b):=by
 by_cases h:c
 ·rw [aW h]; exact h1 h
 ·rw [aB h]; exact h2 h
theorem aa4 (t:aF) (x y:Int):∃ c e,qg t x y=some (c,e)/\(c=true->e=0->DT t/\Pix x y/\0<=W0 t (8 * x+4) (8 * y+4)/\0<=W1 t (8 * x+4) (8 * y+4)/\0<=W2 t (8 * x+4) (8 * y+4)):=by
 unfold qg mn mm cp;rcases NI t x y with ⟨h1,h2,h3⟩ | ⟨w,e,h3,h4⟩
 ·rw [h3]
  simp only [bj,ai,bc,hU,aw];generalize W0 t (8 * x+4) (8 * y+4)=u;generalize W1 t (8 * x+4) (8 * y+4)=v;generalize W2 t (8 * x+4) (8 * y+4)=w;simp only [h1,h2,true_and];simp only [Bool.cond_eq_ite,nz,lz,decide_eq_false_iff_not,beq_iff_eq];have key:∀ r:Option (Bool×Int),aks u v w r->∃ c e,r=some (c,e)/\(c=true->e=0->0<=u/\0<=v/\0<=w):=by
   rintro r (rfl | ⟨rfl,h⟩)
   ·exact ⟨false,0,rfl,fun h=>by simp at h⟩
   ·exact ⟨true,0,rfl,fun _ _=>h⟩
  apply key
  repeat' (refine aks.ite (fun _=>?_) (fun _=>?_))
  all_goals first | exact .inl rfl | exact .inr ⟨rfl,by omega⟩
 ·rw [h3]
  have:(e != (0:Int))=true:=by simpa using h4
  exact ⟨false,e,by simp [this],fun h=>by simp at h⟩
theorem ah1 (a b c d e f x y:Int):((e-c)*(y-d)-(x-c)*(f-d))+((a-e)*(y-f)-(x-e)*(b-f))+((c-a)*(y-b)-(x-a)*(d-b))=(c-a)*(f-b)-(e-a)*(d-b):=by grind
theorem avW (a b c d e f x y:Int):((e-c)*(y-d)-(x-c)*(f-d))*(a-x)+((a-e)*(y-f)-(x-e)*(b-f))*(c-x)+((c-a)*(y-b)-(x-a)*(d-b))*(e-x)=0:=by grind
theorem avX (a b c d e f x y:Int):((e-c)*(y-d)-(x-c)*(f-d))*(b-y)+((a-e)*(y-f)-(x-e)*(b-f))*(d-y)+((c-a)*(y-b)-(x-a)*(d-b))*(f-y)=0:=by grind
theorem ah2 (p q r u v w:Int) (hp:0<=p) (hq:0<=q) (hr:0<=r) (hs:0 < p+q+r) (h:p * u+q * v+r * w=0):u<=0\/v<=0\/w<=0:=by
 by_cases h1:u<=0
 ·exact .inl h1
 by_cases h2:v<=0
 ·exact .inr (.inl h2)
 by_cases h3:w<=0
 ·exact .inr (.inr h3)
 exfalso;have a1:p * 1<=p * u:=Int.mul_le_mul_of_nonneg_left (by omega) hp;have a2:q * 1<=q * v:=Int.mul_le_mul_of_nonneg_left (by omega) hq;have a3:r * 1<=r * w:=Int.mul_le_mul_of_nonneg_left (by omega) hr;omega
theorem anU (p q r u v w:Int) (hp:0<=p) (hq:0<=q) (hr:0<=r) (hs:0 < p+q+r) (h:p * u+q * v+r * w=0):0<=u\/0<=v\/0<=w:=by
 have:=ah2 p q r (-u) (-v) (-w) hp hq hr hs (by rw [Int.mul_neg,Int.mul_neg,Int.mul_neg]; omega);omega
theorem between (t:aF) (p q:Int) (hf:DT t) (h0:0<=W0 t p q) (h1:0<=W1 t p q) (h2:0<=W2 t p q) :
  (min (min t.e0.x t.e1.x) t.e2.x<=p/\p<=max (max t.e0.x t.e1.x) t.e2.x)/\min (min t.e0.y t.e1.y) t.e2.y<=q/\q<=max (max t.e0.y t.e1.y) t.e2.y:=by
 have hs:0 < W0 t p q+W1 t p q+W2 t p q:=by
  have:=ah1 t.e0.x t.e0.y t.e1.x t.e1.y t.e2.x t.e2.y p q;have h:=hf.2;unfold su at h;unfold W0 W1 W2;omega
 have hx:=avW t.e0.x t.e0.y t.e1.x t.e1.y t.e2.x t.e2.y p q;have hy:=avX t.e0.x t.e0.y t.e1.x t.e1.y t.e2.x t.e2.y p q;have a1:=ah2 _ _ _ _ _ _ h0 h1 h2 hs hx;have a2:=anU _ _ _ _ _ _ h0 h1 h2 hs hx;have a3:=ah2 _ _ _ _ _ _ h0 h1 h2 hs hy;have a4:=anU _ _ _ _ _ _ h0 h1 h2 hs hy;omega
theorem aeC (t:aF) (x y:Int):∃ s e,kd t x y=some (s,e)/\(e=0->DT t/\Pix x y/\0<=W0 t (8 * x+4) (8 * y+4)/\0<=W1 t (8 * x+4) (8 * y+4)/\0<=W2 t (8 * x+4) (8 * y+4)):=by
 obtain ⟨c,e,h1,h2⟩:=aa4 t x y;have hE:∃ w e,ml t x y=some (w,e):=by
  rcases NI t x y with ⟨_,_,h⟩ | ⟨w,e,h,_⟩
  ·exact ⟨_,_,h⟩
  ·exact ⟨_,_,h⟩
 obtain ⟨w,e',h3⟩:=hE;unfold kd;have e0:vO t x y=some (c,e):=h1;have e1:dL t x y=some (w,e'):=h3;rw [e0,e1];simp only [bj,ai,bc];by_cases he:e=0
 ·subst he
  cases c with
  | true=>
   simp only [hU,aw,iR];obtain ⟨r2,g2⟩:∃ r,yU t x y=some r:=IK _ _;obtain ⟨r3,g3⟩:∃ r,vP t x y=some r:=IK _ _;obtain ⟨r4,g4⟩:∃ r,vQ t x y=some r:=IK _ _;rw [g2,g3,g4];cases hb:(e' != (0:Int)) with
   | true=>exact ⟨_,_,rfl,fun _=>h2 rfl rfl⟩
   | false=>exact ⟨_,_,rfl,fun _=>h2 rfl rfl⟩
  | false=>exact ⟨_,6,rfl,fun h=>by omega⟩
 ·have:(e != (0:Int))=true:=by simpa using he
  rw [this];exact ⟨_,e,rfl,fun h=>absurd h he⟩
end Go.Proofs.YtchbpckkmgcgkaaGreat.b
end
