/- Part of the proof of ImageWhole: the machine, shown to be the model's, and plain models. No conditions. -/
import Derived.Test.YtchbpckkmgcgkaaGreatFp
import Derived.OpenShut
import Derived.ChangeArms
import Derived.WideShapes
import Derived.Below
import Derived.KernelRfl
import Derived.Test.YtchbpckkmgcgkaaGreatProg
set_option linter.unusedSimpArgs false
set_option linter.unusedVariables false
section
namespace Go.K
open Go Go.aF
mutual
def WX:KV->Prop
 | .int k n=>(Lit.int k n).wf=true
 | .str s=>s.size<=maxLen
 | .ts _ _ n es _=>n<=maxLen/\Fj es
 | .agg cs=>Fj cs
 | _=>True
def Fj:List KV->Prop
 | []=>True
 | v::vs=>WX v/\Fj vs
end
theorem Kx:∀ {a b:List KV},Fj a->Fj b->Fj (a++b)
 | [],_,_,h=>h
 | x::a,b,h,k=>by
  simp only [Fj] at h;exact ⟨h.1,Kx h.2 k⟩
theorem acE:∀ {l:List KV},Fj l->∀ v∈l,WX v
 | [],_,v,h=>by simp at h
 | x::l,h,v,hv=>by
  simp only [Fj] at h;rcases fp.1 hv with rfl | hv
  ·exact h.1
  ·exact acE h.2 v hv
structure WY (P:Program) (W:World) (E:Env) (B:St) (ρ:a7):Prop where
 kV:zP ρ B W.heap.size W
 k:gU P E .empty B
 κ:∀ b,E.κ b=none
 yn:∀ b o,B.get b=some o->o.gJ=false/\o.pC=none
 α:∀ b,E.α b=none
def Env.none:Env:=⟨fun _=>.none,fun _=>.none,fun _=>.none,fun _=>.none⟩
theorem Ro.empty {P:Program} {E:Env} {B:St} (uZ:∀ b,E.α b=none):Ro P E .empty B:=by
 have hn:∀ b o,¬ aB.empty.get b=some o:=fun b o hb=>by simp [aB.empty,aB.get] at hb
 exact ⟨fun b v hb=>(hn b _ hb).elim,fun b v hb=>(hn b _ hb).elim,fun x ⟨b,v,_,_,hb,_⟩=>(hn b _ hb).elim,fun b c v u x L N L' N' hb=>(hn b _ hb).elim,fun b c v u x y L N L' N' cs e own g k cm e' tJ k' hb=>(hn b _ hb).elim,fun b x _=>uZ b,fun b p e=>by rw [uZ b] at e; simp at e,fun b x L N e=>by rw [uZ b] at e; simp at e,fun b v x L N cs e own g k hb=>(hn b _ hb).elim,fun b v hb=>(hn b _ hb).elim⟩
theorem WY.start (P:Program) (W:World):WY P W .none .empty (Lf []):=by
 refine ⟨zP.empty W,⟨?_,?_,?_,?_,?_,?_,?_,?_,?_,?_,?_,?_,?_,?_,.empty fun _=>rfl⟩,fun _=>rfl,fun b o h=>by simp [St.get,St.empty] at h,fun _=>rfl⟩
 ·intro b cs cc h; simp [aB.empty,aB.get] at h
 ·intro b cs cc h; simp [aB.empty,aB.get] at h
 ·intro b r h; simp [Env.none] at h
 ·intro b r h; simp [Env.none] at h
 ·intro b c r h; simp [Env.none] at h
 ·intro b c r _ _ _ _ _ _ h; simp [Env.none] at h
 ·intro b r h; simp [Env.none] at h
 ·intro b r h; simp [Env.none] at h
 ·intro b o h; simp [aB.empty,aB.get] at h
 ·intro b r h; simp [Env.none] at h
 ·intro b r h; simp [Env.none] at h
 ·intro b r h; simp [Env.none] at h
 ·intro g _; simp [St.members,St.empty]
 ·intro g x h; simp [St.members,St.empty] at h
theorem WY.add {P:Program} {W:World} {E:Env} {B:St} {ρ:a7} (h:WY P W E B ρ) {cs:List Value} {l:aF.Loc}
  (hc:∀ (i:Nat) (v:Value),cs[i]? = some v->∃ v',W.cell? ⟨l.cb,l.fe+i,.none⟩=some v'/\VR ρ v v'/\scalar v=true) (hl:l.cb < W.heap.size) (hf:l.fe+cs.length<=l.ET) :
  WY P W (E.iw B.next ⟨cs,l.cc,false,.none⟩) (B.new (.row cs l.cc false .none)) (ρ.set B.next l)/\E.le (E.iw B.next ⟨cs,l.cc,false,.none⟩)/\ρ.le (ρ.set B.next l):=by
 have hle:E.le (E.iw B.next ⟨cs,l.cc,false,.none⟩):=⟨fun _ _ e=>e,fun _ _ e=>e,fun b r e=>by
  have:=h.k.rb b r e;simp only [Env.iw]; rw [ay (by omega)]; exact e,fun _ _ e=>e⟩
 have ob:=h.kV.Q7 l;have qB:∀ b o,(B.new (.row cs l.cc false .none)).get b=some o->(b=B.next/\o = .row cs l.cc false .none)\/(b≠B.next/\B.get b=some o):=by
  intro b o hb;rw [St.dQ] at hb;split at hb
  ·rename_i e; simp at hb; exact .inl ⟨e,hb.symm⟩
  ·rename_i e; exact .inr ⟨e,hb⟩
 have akq:∀ b o,(B.new (.row cs l.cc false .none)).get b=some o->o.gJ=false/\o.pC = .none:=by
  intro b o hb;rcases qB b o hb with ⟨_,rfl⟩ | ⟨_,hb⟩
  ·exact ⟨rfl,rfl⟩
  ·exact h.yn b o hb
 refine ⟨⟨⟨⟨?_,?_,?_,?_,?_,?_⟩,?_,h.kV.size,h.kV.SL.mono ob⟩,?_,h.κ,akq,h.α⟩,hle,ob⟩
 ·intro b pE cc own bV hb
  rcases qB b _ hb with ⟨rfl,e⟩ | ⟨eY,hb⟩
  ·simp only [du.row.injEq] at e
   obtain ⟨rfl,rfl,rfl,rfl⟩:=e;refine ⟨l,by simp [a7.set],⟨fun i v hi=>?_,fun _=>hl,fun e=>by simp at e,fun e=>by simp at e,hf,fun e=>by simp at e,rfl,hl,fun e=>by simp at e⟩⟩;obtain ⟨v',h1,h2,h3⟩:=hc i v hi;exact ⟨v',h1,h2.mono ob,h3⟩
  ·obtain ⟨l',h1,h2⟩:=h.kV.rel.row b pE cc own bV hb
   exact ⟨l',ob _ _ h1,⟨fun i v hi=>by obtain ⟨v',q1,q2,q3⟩:=h2.cells i v hi; exact ⟨v',q1,q2.mono ob,q3⟩,h2.yn,h2.gJ,h2.there,h2.fits,h2.ends,h2.cc,h2.sq,h2.mark⟩⟩
 ·intro b es hb
  have:=(akq b _ hb).1;simp [du.gJ] at this
 ·intro b s pos hb
  have:=(akq b _ hb).1;simp [du.gJ] at this
 ·intro b st e t ps a c hb
  have:=(akq b _ hb).1;simp [du.gJ] at this
 ·intro b1 b2 o1 o2 l1 l2 _ h1 _ h3
  have:=(akq b1 _ h1).1;rw [h3] at this; simp at this
 ·intro b o aZ f hb hk
  have:=(akq b _ hb).2;rw [hk] at this; simp at this
 ·intro b l' hb
  rw [St.cD];simp only [a7.set] at hb;split at hb
  ·omega
  ·have:=h.kV.oC b l' hb; omega
 ·refine ⟨?_,?_,?_,?_,?_,?_,?_,?_,?_,?_,?_,?_,?_,?_,.empty h.α⟩
  ·intro b cs cc h; simp [aB.empty,aB.get] at h
  ·intro b cs cc h; simp [aB.empty,aB.get] at h
  ·intro b r hb
   simp only [Env.iw] at hb;split at hb
   ·rename_i e
    simp at hb;subst hb e;simp
   ·have:=h.k.rb b r hb
    rw [St.dQ,ay (by omega)];exact h.k.z b r hb
  ·intro b x hb; have hb:E.κ b=some x:=hb; rw [h.κ b] at hb; simp at hb
  ·exact h.k.inj
  ·exact h.k.lT
  ·exact h.k.oC
  ·exact h.k.qJ
  ·exact h.k.live
  ·intro b x hb; have:=h.k.jd b x hb; rw [St.cD]; omega
  ·intro b r hb
   simp only [Env.iw] at hb;rw [St.cD];split at hb
   ·omega
   ·have:=h.k.rb b r hb; omega
  ·intro b g hb; have:=h.k.mM b g hb; rw [St.cD]; omega
  ·intro g hg; rw [St.cD] at hg; rw [St.oa]; exact h.k.fresh g (by omega)
  ·intro g x hx; rw [St.oa] at hx; rw [St.cD]; have:=h.k.mem g x hx; omega
def ahG (P:Program):Nat->List Field->Option Nat
 | off,[]=>some off
 | off,f::fs=>cond (Nat.beq f.offset off) (ahG P (off+P.cellsOf f.type) fs) .none
def Fk (P:Program):Nat->TypeId->Bool
 | 0,_=>false
 | n+1,t=>match P.underlying t with
  | some (.int _) | some .bool | some .string=>true
  | some (.slice e)=>Nat.ble 1 (P.cellsOf e)&&Fk P n e&&(match lay P 12 e with
   | some l=>Nat.beq l.ks.length (P.cellsOf e)&&(l.agg||Nat.beq l.ks.length 1)
   | .none=>false)
  | some (.struct fs)=>fs.toList.all (fun f=>Fk P n f.type)&&(match ahG P 0 fs.toList with
   | some k=>Nat.beq k (P.cellsOf t)
   | .none=>false)
  | some (.array len e)=>Fk P n e&&Nat.beq (P.cellsOf t) (len * P.cellsOf e)
  | _=>false
def ahH (W:World) (cs:List Value):Prop:=∀ a n c,Value.slice (some a) n c∈cs->0 < W.heap.size
def Got (P:Program) (W:World) (E:Env) (_:St) (ρ:a7) (cs:List Value) (K:List KV->Prop):Prop:=
 ∃ E' B' a8 ks,WY P W E' B' a8/\E.le E'/\ρ.le a8/\Jb P E' a8 ks cs/\Fj ks/\K ks
def af7 {H:Type} (enc:TypeId×Value->H) (P:Program) (W:World) (n:Nat):Prop:=
 ∀ t,Fk P n t=true->∀ (fuel:Nat) (cs:List Value) (x:DataW H×List MemPlace) (E:Env) (B:St) (ρ:a7),DataW.trod enc P W 0 (fun _=>true) true fuel t cs=some x->ahH W cs->WY P W E B ρ->
  Got P W E B ρ cs fun ks=>∀ m l,lay P m t=some l->aO l.ks ks=true
section
variable {H:Type} {enc:TypeId×Value->H} {P:Program} {W:World} {E:Env} {B:St} {ρ:a7}
theorem Jb.append {E:Env} {ρ:a7} {a b:List KV} {a' b' : List Value} (h:Jb P E ρ a a') (k:Jb P E ρ b b'):Jb P E ρ (a++b) (a'++b'):=by
 obtain ⟨m,h1,h2⟩:=h;obtain ⟨l,h3,h4⟩:=k;exact ⟨m++l,h1.append h3,h2.append h4⟩
theorem Jb.mono {E E' : Env} {ρ a8:a7} {a:List KV} {a' : List Value} (h:Jb P E ρ a a') (hE:E.le E') (ob:ρ.le a8):Jb P E' a8 a a':=by
 obtain ⟨m,h1,h2⟩:=h;exact ⟨m,h1.mono hE,h2.mono ob⟩
theorem Jb.len {E:Env} {ρ:a7} {a:List KV} {a' : List Value} (h:Jb P E ρ a a'):a'.length=a.length:=by
 obtain ⟨m,h1,h2⟩:=h;rw [h2.length,h1.length]
theorem Ot:∀ {ks:List CK} {vs:List KV},aO ks vs=true->vs.length=ks.length
 | [],[],_=>rfl
 | [],_::_,h=>by simp [aO] at h
 | _::_,[],h=>by simp [aO] at h
 | k::ks,v::vs,h=>by
  simp only [aO,aD] at h;simp [Ot h.2]
theorem Ou:∀ {ks ls:List CK} {vs us:List KV},aO ks vs=true->aO ls us=true->aO (ks++ls) (vs++us)=true
 | [],_,[],_,_,h=>h
 | [],_,_::_,_,h,_=>by simp [aO] at h
 | _::_,_,[],_,h,_=>by simp [aO] at h
 | k::ks,ls,v::vs,us,h,h'=>by
  simp only [aO,aD] at h;simp only [List.cons_append,aO,aD];exact ⟨h.1,Ou h.2 h'⟩
theorem ahH.sub {W:World} {cs ds:List Value} (h:ahH W cs) (k:∀ v∈ds,v∈cs):ahH W ds:=fun a n c hm=>h a n c (k _ hm)
theorem ahI {cs:List Value} {i n:Nat} : ∀ v∈(cs.drop i).take n,v∈cs:=fun _ h=>List.mem_of_mem_drop (List.mem_of_mem_take h)
theorem aet (cs:List Value) (i m n:Nat):(cs.drop i).take m++(cs.drop (i+m)).take n=(cs.drop i).take (m+n):=by
 rw [List.take_add,List.drop_drop]
theorem aaz {n:Nat} (IH:af7 enc P W n) {fuel:Nat} {cs:List Value} (hp:ahH W cs):∀ (fs:List Field) (off k:Nat) (E:Env) (B:St) (ρ:a7),WY P W E B ρ->ahG P off fs=some k->k<=cs.length->(∀ f∈fs,Fk P n f.type=true)->
  (∀ f∈fs,∃ x,DataW.trod enc P W 0 (fun _=>true) true fuel f.type ((cs.drop f.offset).take (P.cellsOf f.type))=some x)->
  off<=k/\Got P W E B ρ ((cs.drop off).take (k - off)) fun ks=>∀ m l,Uf (lay P m) fs off=some l->aO l ks=true
 | [],off,k,E,B,ρ,hi,ht,hk,_,_=>by
  simp [ahG] at ht; subst ht;refine ⟨aW _,E,B,ρ,[],hi,Env.le_refl _,a7.le_refl _,?_,trivial,?_⟩
  ·rw [Nat.sub_self,List.take_zero]; exact ⟨[],.nil,.nil⟩
  ·intro m l h; simp [Uf] at h; subst h; rfl
 | f::fs,off,k,E,B,ρ,hi,ht,hk,he,hx=>by
  unfold ahG at ht;cases hb:Nat.beq f.offset off with
  | false=>rw [hb] at ht; simp at ht
  | true=>
   rw [hb,ai] at ht;have SN:=bm hb;obtain ⟨x,Kq⟩:=hx f (by simp);obtain ⟨E1,B1,qg,ks1,h1,h2,h3,h4,h5,h6⟩:=IH f.type (he f (by simp)) fuel _ x E B ρ Kq (hp.sub ahI) hi;obtain ⟨hle,E2,B2,zY,ks2,q1,q2,q3,q4,q5,q6⟩:=aaz IH hp fs (off+P.cellsOf f.type) k E1 B1 qg h1 ht hk (fun g hg=>he g (by simp [hg])) (fun g hg=>hx g (by simp [hg]));have hlen:ks1.length=P.cellsOf f.type:=by
    rw [<- h4.len,pz,List.length_drop,SN];omega
   refine ⟨by omega,E2,B2,zY,ks1++ks2,q1,Env.le_trans h2 q2,a7.le_trans h3 q3,?_,Kx h5 q5,?_⟩
   ·have:=(h4.mono q2 q3).append q4
    rw [SN,aet] at this;rw [show k - off=P.cellsOf f.type+(k - (off+P.cellsOf f.type)) by omega];exact this
   ·intro m l hl
    unfold Uf at hl;rw [hb,ai] at hl;obtain ⟨l1,hl1,hl⟩:=dr.1 hl;obtain ⟨l2,qf,rfl⟩:=de.1 hl;have Pf:=h6 m l1 hl1;have awP:=Ot Pf;rw [<- awP,hlen] at qf;exact Ou Pf (q6 m l2 qf)
theorem aeu {n:Nat} (IH:af7 enc P W n) {fuel len c:Nat} {e:TypeId} {cs:List Value} (hp:ahH W cs) (he:Fk P n e=true) (hc:P.cellsOf e=c) (hk:len * c<=cs.length) (hx:∀ i,i < len->∃ x,DataW.trod enc P W 0 (fun _=>true) true fuel e ((cs.drop (i * c)).take c)=some x) (hi:WY P W E B ρ):∀ j,j<=len->
  Got P W E B ρ (cs.take (j * c)) fun ks=>∀ m l,lay P m e=some l->aO (eR l.ks j) ks=true
 | 0,_=>by
  refine ⟨E,B,ρ,[],hi,Env.le_refl _,a7.le_refl _,?_,trivial,fun m l _=>rfl⟩;rw [Nat.zero_mul,List.take_zero]; exact ⟨[],.nil,.nil⟩
 | j+1,hj=>by
  obtain ⟨E1,B1,qg,ks1,h1,h2,h3,h4,h5,h6⟩:=aeu IH hp he hc hk hx hi j (by omega);obtain ⟨x,Kq⟩:=hx j (by omega);obtain ⟨E2,B2,zY,ks2,q1,q2,q3,q4,q5,q6⟩:=IH e he fuel _ x E1 B1 qg Kq (hp.sub ahI) h1;refine ⟨E2,B2,zY,ks1++ks2,q1,Env.le_trans h2 q2,a7.le_trans h3 q3,?_,Kx h5 q5,?_⟩
  ·have:=(h4.mono q2 q3).append q4
   have e:=aet cs 0 (j * c) c;simp only [List.drop_zero,bh] at e;rw [e] at this;rw [show (j+1) * c=j * c+c by rw [Nat.succ_mul]];exact this
  ·intro m l hl
   have:eR l.ks (j+1)=eR l.ks j++l.ks:=by
    have comm:∀ n,l.ks++eR l.ks n=eR l.ks n++l.ks:=by
     intro n
     induction n with
     | zero=>simp [eR]
     | succ n ih=>simp only [eR,HJ]; rw [ih]
    rw [<- comm]; rfl
   rw [this];exact Ou (h6 m l hl) (q6 m l hl)
theorem aaA {a:Addr} {i k:Nat} {v:Value} (h:W.cell? ((a.add i).add k)=some v):W.cell? ⟨a.block,a.off+i+k,.none⟩=some v/\a.block < W.heap.size/\(i+k=0->a.spot = .none):=by
 have hb:((a.add i).add k).block=a.block:=by unfold Addr.add; split <;> split <;> rfl
 have ho:((a.add i).add k).off=a.off+i+k:=by
  unfold Addr.add;split <;> split <;> simp_all
 have hs:((a.add i).add k).spot = .none:=by
  unfold World.cell? at h;split at h
  ·split at h
   ·simp at h
   ·rename_i hs; simpa using hs
  ·simp at h
 have he:(a.add i).add k=⟨a.block,a.off+i+k,.none⟩:=by
  generalize (a.add i).add k=p at hb ho hs;obtain ⟨b,o,s⟩:=p;simp at hb ho hs;simp [hb,ho,hs]
 refine ⟨he ▸ h,?_,fun e=>?_⟩
 ·rw [he] at h
  unfold World.cell? at h;split at h
  ·rename_i heq
   exact (EN.1 heq).1
  ·simp at h
 ·have h1:i=0:=by omega
  have h2:k=0:=by omega
  subst h1 h2;simpa [Addr.add] using hs
theorem ahJ {a:Addr} {n:Nat} {cs:List Value} (h:W.cells? 0 a n=some cs):cs.length=n/\∀ (k:Nat) (v:Value),cs[k]? = some v->W.cell? (a.add k)=some v:=by
 unfold World.cells? at h;rw [aV (cP _)] at h;have hl:=mapM_some_length h;simp at hl;refine ⟨hl,fun k v hv=>?_⟩;have hk:k < n:=by rw [<- hl]; exact (dD.1 hv).1
 rw [mapM_some_get h k k (by simp [hk])];exact hv
theorem aqz {ks:List KV} {agg:Bool} (h:Fj ks):WX (TE agg ks):=by
 cases agg with
 | true=>exact h
 | false=>
  match ks,h with
  | [],_=>exact trivial
  | v::vs,h=>exact h.1
theorem XU {E:Env} {ρ:a7} : ∀ {ks:List CK} {vs:List KV} {m:List Value},aO ks vs=true->bo P E vs m->∀ v∈m,scalar v=true
 | [],[],m,_,h,v,hv=>by rw [h.cw] at hv; simp at hv
 | [],_::_,_,h,_,_,_=>by simp [aO] at h
 | _::_,[],_,h,_,_,_=>by simp [aO] at h
 | k::ks,u::vs,m,h,hm,v,hv=>by
  simp only [aO,aD] at h;obtain ⟨y,ys,rfl,h1,h2⟩:=hm.cons_inv;rcases fp.1 hv with rfl | hv
  ·refine h1.scalar ?_
   have:=h.1;cases u <;> first | rfl | (cases k <;> simp [kindOk] at this)
  ·exact XU (ρ:=ρ) h.2 h2 v hv
theorem aev {n:Nat} (IH:af7 enc P W n) {fuel len c:Nat} {e:TypeId} {l:Bb} {a:Addr} (he:Fk P n e=true) (hl:lay P 12 e=some l) (MP:l.ks.length=c) (ha:l.agg=true\/l.ks.length=1) (hc:P.cellsOf e=c) (hc1:1<=c)
  (hx:∀ i,i < len->∃ x,(W.cells? 0 (a.add (i * c)) c).bind (DataW.trod enc P W 0 (fun _=>true) true fuel e)=some x) (hi:WY P W E B ρ):∀ j,j<=len->
  ∃ E' B' a8 es us fl,WY P W E' B' a8/\E.le E'/\ρ.le a8/\es.length=j/\bo P E' es us/\gY l es=true/\Fj es/\fl.length=j * c/\ss c 0 fl us/\
   (∀ (i:Nat) (v:Value),fl[i]? = some v->∃ v',W.cell? ⟨a.block,a.off+i,.none⟩=some v'/\VR a8 v v'/\scalar v=true)/\(0 < j->a.block < W.heap.size/\a.spot = .none)
 | 0,_=>⟨E,B,ρ,[],[],[],hi,Env.le_refl _,a7.le_refl _,rfl,.nil,rfl,trivial,by simp,fun i x h=>by simp at h,fun i v h=>by simp at h,fun h=>by omega⟩
 | j+1,hj=>by
  obtain ⟨E1,B1,qg,es,us,fl,h1,h2,h3,h4,h5,h6,h7,h8,h9,xU,MT⟩:=aev IH he hl MP ha hc hc1 hx hi j (by omega);obtain ⟨x,Kq⟩:=hx j (by omega);obtain ⟨cs,Q9,hx2⟩:=dr.1 Kq;obtain ⟨hlen,qB⟩:=ahJ Q9;have Pe:a.block < W.heap.size:=by
   have h0:0 < cs.length:=by rw [hlen]; omega
   exact (aaA (qB 0 _ (dF h0))).2.1
  obtain ⟨E2,B2,zY,ks,q1,q2,q3,⟨m,q4,q4'⟩,q5,q6⟩:=IH e he fuel cs x E1 B1 qg hx2 (fun _ _ _ _=>by omega) h1;have hk:=q6 12 l hl;have hml:m.length=c:=by rw [q4.length,Ot hk,MP]
  have DA:l.agg=true\/m.length=1:=by rw [hml,<- MP]; exact ha
  have hsc:=XU (ρ:=ρ) hk q4;have sE:=ag7 hsc DA;have hul:us.length=j:=by rw [h5.length,h4]
  refine ⟨E2,B2,zY,es++[TE l.agg ks],us++[mkE l.agg m],fl++m,q1,Env.le_trans h2 q2,a7.le_trans h3 q3,by simp [h4],(h5.mono q2).append (.cons (ag8 q4 DA) .nil),?_,Kx h7 ⟨aqz q5,trivial⟩,?_,?_,?_,fun _=>⟨Pe,?_⟩⟩
  ·have:∀ {es:List KV},gY l es=true->gY l (es++[TE l.agg ks])=true:=by
    intro es
    induction es with
    | nil=>intro _; simp [gY,acr hk ha]
    | cons e es ih=>
     intro h;simp only [gY,aD] at h;simp only [List.cons_append,gY,aD];exact ⟨h.1,ih h.2⟩
   exact this h6
  ·rw [n7,h8,hml,Nat.succ_mul]
  ·intro i y hy
   by_cases hi:i < j
   ·rw [ue (by omega)] at hy
    obtain ⟨r1,r2⟩:=h9 i y hy;refine ⟨r1,fun k z hz=>?_⟩;have:=r2 k z hz;rw [ue (dD.1 this).1];exact this
   ·rw [vU (by omega),hul] at hy
    have vD:i=j:=by
     have:=(dD.1 hy).1;simp at this;omega
    subst vD;simp at hy;subst hy;have gI:(mkE l.agg m).cells.size=c:=by rw [<- Array.length_toList,sE,hml]
    refine ⟨gI,fun k z hz=>?_⟩;rw [<- Array.getElem?_toList,sE] at hz;rw [vU (by rw [h8]; omega),h8,show 0+i * c+k - i * c=k by omega];exact hz
  ·intro i v hv
   by_cases hi:i < fl.length
   ·rw [ue hi] at hv
    obtain ⟨v',r1,r2,r3⟩:=xU i v hv;exact ⟨v',r1,r2.mono q3,r3⟩
   ·rw [vU (by omega)] at hv
    obtain ⟨v',r1,r2⟩:=q4'.get hv;refine ⟨v',?_,r2,hsc v (jj hv)⟩;have:=(aaA (qB _ _ r1)).1;rw [h8] at this;rw [h8] at hi;rw [show a.off+i=a.off+j * c+(i - j * c) by omega];exact this
  ·by_cases h0:j=0
   ·subst h0
    have h0:0 < cs.length:=by rw [hlen]; omega
    exact (aaA (qB 0 _ (dF h0))).2.2 (by omega)
   ·exact (MT (by omega)).2
theorem anz:∀ n,af7 enc P W n
 | 0=>fun t ht=>by simp [Fk] at ht
 | n+1=>by
  have IH:=anz n;intro t ht fuel cs x E B ρ hx hp hi;have hn:∀ {m l},lay P m t=some l->∃ m',m=m' + 1:=by
   intro m l h;cases m with
   | zero=>simp [lay] at h
   | succ m=>exact ⟨m,rfl⟩
  unfold Fk at ht;split at ht
  ·rename_i k hu
   obtain ⟨i,rfl,_,hw⟩:=DataW.trod_int hu hx;refine ⟨E,B,ρ,[.int k i],hi,Env.le_refl _,a7.le_refl _,⟨_,.cons .mkInt .nil,.cons (by simp [VR]) .nil⟩,⟨hw,trivial⟩,fun m l h=>?_⟩;obtain ⟨m',rfl⟩:=hn h;simp only [lay,hu,dG] at h;subst h;simp [aO,kindOk]
  ·rename_i hu
   obtain ⟨b,rfl,_⟩:=DataW.trod_bool hu hx;refine ⟨E,B,ρ,[.bool b],hi,Env.le_refl _,a7.le_refl _,⟨_,.cons .xS .nil,.cons (by simp [VR]) .nil⟩,⟨trivial,trivial⟩,fun m l h=>?_⟩;obtain ⟨m',rfl⟩:=hn h;simp only [lay,hu,dG] at h;subst h;simp [aO,kindOk]
  ·rename_i hu
   obtain ⟨s,rfl,_,hw⟩:=DataW.trod_string hu hx;refine ⟨E,B,ρ,[.str s],hi,Env.le_refl _,a7.le_refl _,⟨_,.cons .mkStr .nil,.cons (by simp [VR]) .nil⟩,⟨hw,trivial⟩,fun m l h=>?_⟩;obtain ⟨m',rfl⟩:=hn h;simp only [lay,hu,dG] at h;subst h;simp [aO,kindOk]
  ·rename_i e hu
   simp only [aD] at ht;obtain ⟨⟨Cd,PA⟩,ht3⟩:=ht;have hc1:=gD Cd;split at ht3
   ·rename_i l hl
    simp only [aD,uR] at ht3;have MP:=bm ht3.1;have DA:l.agg=true\/l.ks.length=1:=ht3.2.imp id bm;have hlF:bu P e=l:=by simp [bu,hl]
    have gI:bp P e=P.cellsOf e:=by rw [bp,hlF,MP]
    have fin:∀ {ks:List KV} {m:Nat} {l' : Bb} {mk:Mk} {nn:Nat} {es:List KV} {acc:Nat->KV},mk = .any->lay P m t=some l'->ks = [.ts e mk nn es acc]->aO l'.ks ks=true:=by
     intro ks m l' mk nn es acc hmk h wx;obtain ⟨m',rfl⟩:=hn h;simp only [lay,hu,dG] at h;subst h wx hmk;simp [aO,kindOk]
    rcases DataW.trod_slice hu hx with ⟨rfl,_⟩ | ⟨a,len,cap,elems,rest,fu,_,rfl,_,_,hle,asc,Iv,hE,hR,_⟩
    ·refine ⟨E,B,ρ,[.ts e .any 0 [] pI],hi,Env.le_refl _,a7.le_refl _,⟨[.slice .none 0 0],.cons ?_ .nil,.cons (by simp [VR]) .nil⟩,⟨⟨cP _,trivial⟩,trivial⟩,fun m l h=>fin rfl h rfl⟩
     simp only [VK];exact ⟨⟨rfl,fun i h=>by omega,rfl⟩,[],.nil,.none,0,rfl,aW _,.inl ⟨rfl,rfl⟩,trivial⟩
    ·have hxs:∀ i,i < len->∃ x,(W.cells? 0 (a.add (i * P.cellsOf e)) (P.cellsOf e)).bind (DataW.trod enc P W 0 (fun _=>true) true fu e)=some x:=by
      intro i h;rw [hE i h];exact ⟨_,dF (by rw [Iv]; exact h)⟩
     obtain ⟨E1,B1,qg,es,us,fl,h1,h2,h3,h4,h5,h6,h7,h8,h9,xU,MT⟩:=aev IH PA hl MP DA rfl hc1 hxs hi len (aW _);have A9:0 < cap->a.block < W.heap.size/\a.spot = .none:=by
      intro h0;by_cases Ub:0 < len
      ·exact MT Ub
      ·have Ub:len=0:=by omega
       subst Ub;obtain ⟨hr1,zR⟩:=hR rfl;have hr3:=zR 0 (by omega);rw [dF (by rw [hr1]; omega)] at hr3;obtain ⟨cm,asi,_⟩:=dr.1 hr3;obtain ⟨hlen,qB⟩:=ahJ asi;have h0:0 < cm.length:=by rw [hlen]; omega
       have:=aaA (qB 0 _ (dF h0));exact ⟨this.2.1,this.2.2 (by omega)⟩
     have hh:0 < W.heap.size:=hp a len cap (by simp);have hlenes:us.length=len:=by rw [h5.length,h4]
     have awQ:∃ lc:aF.Loc,lc.cc=P.cellsOf e/\lc.cb < W.heap.size/\lc.fe+fl.length<=lc.ET/\(cap≠0->a=⟨lc.cb,lc.fe,.none⟩)/\lc.fe+cap * lc.cc<=lc.ET/\
       (∀ (i:Nat) (v:Value),fl[i]? = some v->∃ v',W.cell? ⟨lc.cb,lc.fe+i,.none⟩=some v'/\VR qg v v'/\scalar v=true):=by
      by_cases h0:cap=0
      ·subst h0
       have Ub:len=0:=by omega
       subst Ub;refine ⟨⟨0,0,0,P.cellsOf e⟩,rfl,hh,by simp [h8],fun h=>absurd rfl h,by simp,fun i v hv=>?_⟩;have:fl = []:=by apply List.eq_nil_of_length_eq_zero; simp [h8]
       rw [this] at hv; simp at hv
      ·obtain ⟨p1,p2⟩:=A9 (by omega)
       refine ⟨⟨a.block,a.off,a.off+cap * P.cellsOf e,P.cellsOf e⟩,rfl,p1,?_,fun _=>?_,aW _,xU⟩
       ·rw [h8]; exact Nat.add_le_add_left (Nat.mul_le_mul_right _ hle) _
       ·obtain ⟨b,o,s⟩:=a
        simp at p2;simp [p2]
     obtain ⟨lc,l1,l2,l3,l4,l5,l6⟩:=awQ;obtain ⟨i1,i2,i3⟩:=h1.add l6 l2 l3;refine ⟨_,_,_,[.ts e .any len es (qy es)],i1,Env.le_trans h2 i2,a7.le_trans h3 i3,⟨[.slice (some ⟨B1.next,0,.none⟩) len len],.cons ?_ .nil,.cons ?_ .nil⟩,⟨⟨by omega,h7⟩,trivial⟩,fun m l h=>fin rfl h rfl⟩
     ·simp only [VK]
      refine ⟨⟨h4.symm,fun i _=>rfl,by rw [hlF]; exact h6⟩,us,h5.mono i2,some ⟨B1.next,0,.none⟩,len,rfl,aW _,.inr ⟨B1.next,0,⟨fl,lc.cc,false,.none⟩,rfl,by simp [Env.iw],by rw [l1,gI],?_⟩,trivial⟩;rw [gI];exact h9
     ·simp only [VR]
      exact ⟨trivial,aW _,lc,a,cap,by simp [a7.set],hle,fun h=>by simpa using l4 h,by simpa using l5,rfl⟩
   ·simp at ht3
  ·rename_i fs hu
   simp only [aD,iu] at ht;split at ht
   ·rename_i k hk
    have hkc:=bm ht.2;obtain ⟨xs,fu,_,_,hlen,hxs,hf⟩:=DataW.trod_struct hu hx;have hff:∀ f∈fs.toList,∃ x,DataW.trod enc P W 0 (fun _=>true) true fu f.type ((cs.drop f.offset).take (P.cellsOf f.type))=some x:=by
     intro f hm;obtain ⟨i,Yq⟩:=List.getElem?_of_mem hm;have hi2:fs[i]? = some f:=by simpa using Yq
     have bt:i < xs.length:=by rw [hxs]; exact (EN.1 hi2).1
     exact ⟨xs[i],by rw [hf i f hi2]; exact dF bt⟩
    obtain ⟨_,E1,B1,qg,ks,h1,h2,h3,h4,h5,h6⟩:=aaz IH hp fs.toList 0 k E B ρ hi hk (by rw [hkc,hlen]; exact aW _) ht.1 hff;refine ⟨E1,B1,qg,ks,h1,h2,h3,?_,h5,fun m l h=>?_⟩
    ·have e:(cs.drop 0).take (k - 0)=cs:=by rw [List.drop_zero,Nat.sub_zero,hkc,<- hlen,List.take_length]
     rw [e] at h4;exact h4
    ·obtain ⟨m',rfl⟩:=hn h
     simp only [lay,hu,de] at h;obtain ⟨l',tG,rfl⟩:=h;exact h6 m' l' tG
   ·simp at ht
  ·rename_i len e hu
   simp only [aD] at ht;have hkc:=bm ht.2;obtain ⟨xs,fu,_,_,hlen,hxs,hf⟩:=DataW.trod_array hu hx;have hff:∀ i,i < len->∃ x,DataW.trod enc P W 0 (fun _=>true) true fu e ((cs.drop (i * P.cellsOf e)).take (P.cellsOf e))=some x:=by
    intro i h;exact ⟨xs[i],by rw [hf i h]; exact dF (by rw [hxs]; exact h)⟩
   obtain ⟨E1,B1,qg,ks,h1,h2,h3,h4,h5,h6⟩:=aeu IH hp ht.1 rfl (by rw [hlen,hkc]; exact aW _) hff hi len (aW _);refine ⟨E1,B1,qg,ks,h1,h2,h3,?_,h5,fun m l h=>?_⟩
   ·rw [<- hkc,<- hlen,List.take_length] at h4
    exact h4
   ·obtain ⟨m',rfl⟩:=hn h
    simp only [lay,hu,de] at h;obtain ⟨l',tG,rfl⟩:=h;exact h6 m' l' tG
  ·simp at ht
end
end Go.K
end
section
namespace Go.K
open Go Go.aF Go.WideShapes
mutual
def G0 (P:Program):KV->Prop
 | .ts T _ n es acc=>ko P T n es acc/\Bm P es
 | .agg cs=>Bm P cs
 | _=>True
def Bm (P:Program):List KV->Prop
 | []=>True
 | v::vs=>G0 P v/\Bm P vs
end
mutual
theorem VK.deep {P:Program} {E:Env} : ∀ {v:KV} {u:Value},VK P E v u->G0 P v
 | .ts T m n es acc,u,h=>by
  obtain ⟨h1,us,h2,_⟩:=h.pL;exact ⟨h1,bo.deep h2⟩
 | .agg cs,u,h=>by
  obtain ⟨l,_,h1⟩:=h.pG;exact bo.deep (vs:=cs) h1
 | .int _ _,_,_ | .bool _,_,_ | .str _,_,_ | .lP _,_,_ | .tp ..,_,_ | .ptr ..,_,_ | .al ..,_,_ | .ap ..,_,_ | .sl ..,_,_ | .JS,_,_ | .nS,_,_ | .EY,_,_ | .map _,_,_ | .fn ..,_,_ | .Lg,_,_ | .iface ..,_,_ | .Lh,_,_ | .bG,_,_=>trivial
theorem bo.deep {P:Program} {E:Env} : ∀ {vs:List KV} {us:List Value},bo P E vs us->Bm P vs
 | [],_,_=>trivial
 | v::vs,us,h=>by
  simp only [bo] at h;obtain ⟨y,ys,_,h1,h2⟩:=h;exact ⟨VK.deep h1,bo.deep h2⟩
end
def pq (P:Program):List TypeId->List KV->Bool
 | [],[]=>true
 | t::ts,v::vs=>cI (bu P t) v&&pq P ts vs
 | _,_=>false
theorem aew {P:Program} : ∀ {ts:List TypeId} {aw2:List KV},pq P ts aw2=true->aw2.length=ts.length
 | [],[],_=>rfl
 | [],_::_,h=>by simp [pq] at h
 | _::_,[],h=>by simp [pq] at h
 | t::ts,v::vs,h=>by
  simp only [pq,aD] at h;simp [aew h.2]
def aaB (P:Program) (t:TypeId):Bool:=Fk P 30 t&&(match lay P 12 t with
 | some l=>Nat.beq l.ks.length (P.cellsOf t)
 | .none=>false)
section
variable {H:Type} {enc:TypeId×Value->H} {P:Program} {W:World}
theorem alz {r:Reach} {base:Nat} {t:TypeId} {v:Value} (h:Value.okWide P W r base t v):ahH W v.cells.toList:=by
 intro a n c hm;have cell:∀ u,Cell.okWide P W r base u (.slice (some a) n c)->0 < W.heap.size:=by
  intro u hu;unfold Cell.okWide at hu;split at hu <;> try (rename_i heq; simp at heq; done)
  unfold Cell.ok at hu;split at hu <;> try (rename_i heq; simp at heq; done)
  ·rename_i e heq
   simp at heq;obtain ⟨rfl,rfl,rfl⟩:=heq;obtain ⟨_,_,_,_,row,cells,hs,_⟩:=hu;unfold World.shape? at hs;split at hs
   ·rename_i hh
    have:=(EN.1 hh).1;omega
   ·simp at hs
  ·exact hu.elim
 unfold Value.okWide at h;split at h
 ·obtain ⟨cs,rfl,_,ts,_,_,hc⟩:=h
  obtain ⟨i,hi⟩:=List.getElem?_of_mem hm;obtain ⟨u,_,hu⟩:=hc i _ (by simpa [Value.cells] using hi);exact cell u hu
 ·obtain ⟨cs,rfl,_,ts,_,_,hc⟩:=h
  obtain ⟨i,hi⟩:=List.getElem?_of_mem hm;obtain ⟨u,_,hu⟩:=hc i _ (by simpa [Value.cells] using hi);exact cell u hu
 ·have hv:v.cells.toList = [v]\/∃ cs,v = .agg cs:=by cases v <;> first | exact .inl rfl | exact .inr ⟨_,rfl⟩
  rcases hv with hv | ⟨cs,rfl⟩
  ·rw [hv] at hm
   simp at hm;subst hm;exact cell t h
  ·exfalso
   unfold Cell.okWide at h;split at h <;> try (rename_i heq; simp at heq; done)
   unfold Cell.ok at h;split at h <;> first | (rename_i heq; simp at heq; done) | exact h.elim
theorem arh {E:Env} {B:St} {ρ:a7} {t:TypeId} {v:Value} {d:DataW H} {ps:List MemPlace} {r:Reach} {base:Nat} (ht:aaB P t=true) (hd:DataW.Trod enc P W 0 (fun _=>true) true t v d ps) (hw:Value.okWide P W r base t v) (hi:WY P W E B ρ) :
  ∃ E' B' a8 a,WY P W E' B' a8/\E.le E'/\ρ.le a8/\VC P E' a8 a v/\cI (bu P t) a=true/\WX a:=by
 unfold aaB at ht;simp only [aD] at ht;obtain ⟨Cd,PA⟩:=ht;split at PA
 ·rename_i l hl
  obtain ⟨fuel,hf⟩:=hd;obtain ⟨E1,B1,qg,ks,h1,h2,h3,⟨m,h4,h4'⟩,h5,h6⟩:=anz 30 t Cd fuel _ _ E B ρ hf (alz hw) hi;have hk:=h6 12 l hl;have hlF:bu P t=l:=by simp [bu,hl]
  have aqA:(l.agg=true/\∃ cs:Array Value,v = .agg cs)\/(l.agg=false/\l.ks.length=1/\v.cells.toList = [v]):=by
   unfold Fk at Cd;split at Cd
   ·rename_i k hu
    obtain ⟨n,rfl⟩:=okWide_int hu hw;simp only [lay,hu,dG] at hl;subst hl; exact .inr ⟨rfl,rfl,rfl⟩
   ·rename_i hu
    obtain ⟨n,rfl⟩:=okWide_bool hu hw;simp only [lay,hu,dG] at hl;subst hl; exact .inr ⟨rfl,rfl,rfl⟩
   ·rename_i hu
    obtain ⟨n,rfl⟩:=okWide_string hu hw;simp only [lay,hu,dG] at hl;subst hl; exact .inr ⟨rfl,rfl,rfl⟩
   ·rename_i e hu
    obtain ⟨a,n,c,rfl⟩:=okWide_slice hu hw;simp only [lay,hu,dG] at hl;subst hl; exact .inr ⟨rfl,rfl,rfl⟩
   ·rename_i fs hu
    simp only [lay,hu,de] at hl;obtain ⟨_,_,rfl⟩:=hl;unfold Value.okWide at hw;rw [hu] at hw;obtain ⟨cs,rfl,_⟩:=hw;exact .inl ⟨rfl,cs,rfl⟩
   ·rename_i len e hu
    simp only [lay,hu,de] at hl;obtain ⟨_,_,rfl⟩:=hl;unfold Value.okWide at hw;rw [hu] at hw;obtain ⟨cs,rfl,_⟩:=hw;exact .inl ⟨rfl,cs,rfl⟩
   ·simp at Cd
  refine ⟨E1,B1,qg,TE l.agg ks,h1,h2,h3,?_,?_,aqz h5⟩
  ·rcases aqA with ⟨ha,cs,rfl⟩ | ⟨ha,hlen,hv⟩
   ·rw [ha]
    exact ⟨.agg ⟨m⟩,.tD h4,VR.tD (l':=cs.toList) h4'⟩
   ·rw [ha]
    rw [hv] at h4';have hml:m.length=1:=by have:=h4'.length; simpa using this.symm
    have:=ag8 (agg:=false) h4 (.inr hml)
    match m,hml,h4',this with
    | [y],_,h4',this=>
     obtain ⟨z,zs,e,q1,_⟩:=h4'.cons_inv;simp at e;refine ⟨y,this,?_⟩;rw [e.1]; exact q1
  ·rw [hlF]
   exact acr hk (aqA.imp (·.1) (·.2.1))
 ·simp at PA
theorem ahK {r:Reach} {base:Nat} : ∀ {ts:List TypeId} {vs:List Value} {ds:List (DataW H)} {ps:List MemPlace} {E:Env} {B:St} {ρ:a7},(∀ t∈ts,aaB P t=true)->DataW.TrodAll enc P W 0 (fun _=>true) true ts vs ds ps->
  (∀ (j:Nat) t v,ts[j]? = some t->vs[j]? = some v->Value.okWide P W r base t v)->WY P W E B ρ->∃ E' B' a8 aw2,WY P W E' B' a8/\E.le E'/\ρ.le a8/\Jb P E' a8 aw2 vs/\pq P ts aw2=true/\Fj aw2
 | [],vs,ds,ps,E,B,ρ,_,h,_,hi=>by
  obtain ⟨rfl,_,_⟩:=Go.ChangeShapes.trodAll_nil h;exact ⟨E,B,ρ,[],hi,Env.le_refl _,a7.le_refl _,⟨[],.nil,.nil⟩,rfl,trivial⟩
 | t::ts,vs,ds,ps,E,B,ρ,ht,h,hw,hi=>by
  obtain ⟨v,vs1,d,ds1,a,b,rfl,rfl,rfl,h1,h2⟩:=Go.ChangeShapes.trodAll_cons h;obtain ⟨E1,B1,qg,x,q1,q2,q3,⟨u,q4,q4'⟩,q5,q6⟩:=arh (ht t (by simp)) h1 (hw 0 t v rfl rfl) hi;obtain ⟨E2,B2,zY,xs,p1,p2,p3,⟨m,p4,p4'⟩,p5,p6⟩:=ahK (fun t' h'=>ht t' (by simp [h'])) h2 (fun j t' v' h3 h4=>hw (j+1) t' v' (by simpa using h3) (by simpa using h4)) q1;exact ⟨E2,B2,zY,x::xs,p1,Env.le_trans q2 p2,a7.le_trans q3 p3,⟨u::m,.cons (q4.mono p2) p4,.cons (q4'.mono p3) p4'⟩,by simp [pq,q5,p5],⟨q6,p6⟩⟩
theorem auB (hP:P.funcs.toList.all qx=true) (hm:P.follows .mixedOrders=true) {cfg:ga} (je:vO P cfg.pc) (og:z7 P cfg) {L n:Nat} {f:FuncId} {ts:List TypeId} (hts:ts.all (aaB P)=true)
  (qD:∀ aw2,pq P ts aw2=true->Fj aw2->Bm P aw2->zW P cfg L n f (normArgs P ts aw2)=some (.bool true)) {args:Array Value} {ds:List (DataW H)} {ps:List MemPlace} {r:Reach} {base:Nat}
  (hd:DataW.TrodAll enc P W 0 (fun _=>true) true ts args.toList ds ps) (hw:∀ (j:Nat) t v,ts[j]? = some t->args.toList[j]? = some v->Value.okWide P W r base t v) :
  Calls P f args W fun e w'=>e = .returned (.bool true)/\RowKit.Below W.heap.size W w':=by
 obtain ⟨E,B,ρ,aw2,h1,_,_,h4,h5,h6⟩:=ahK (iu.1 hts) hd hw (WY.start P W);have avN:Bm P aw2:=by obtain ⟨m,q,_⟩:=h4; exact q.deep
 have qh:=qD aw2 h5 h6 avN;have h4:Jb P E ρ (normArgs P ts aw2) args.toList:=by
  obtain ⟨m,q,q'⟩:=h4;exact ⟨m,bo.ahs rfl q (aew h5),q'⟩
 have zH:=yL (R:=KV) hP hm je og L n;obtain ⟨fn,c,hf,hc,cq,hnm,qh⟩:=UK hP qh;have:=RJ je zH hm L hf hc cq (og.2 f fn c hf hc) qh h4 (base:=W.heap.size) (w:=W) ⟨h1.k,h1.kV⟩;refine this.mono ?_;rintro e w' ⟨vs,cU,E1,A1,B1,qg,rfl,⟨m,q1,q1'⟩,q2,q3⟩;have q3:Bool.rec (motive:=fun _=>Option KV) .none (some (Ll (Bg P (wB P f) (B5 A1 vs).1))) (Nat.beq vs.length (wB P f).length)=some (.bool true):=q3;obtain ⟨E2,_,q1⟩:=Nc q2.kV q1;cases hb:Nat.beq vs.length (wB P f).length with
 | false=>rw [hb] at q3; exact absurd q3 (by simp)
 | true=>
  rw [hb] at q3;have q3:some (Ll (Bg P (wB P f) (B5 A1 vs).1))=some (.bool true):=q3;simp only [dG] at q3;have hv:VC P E2 qg (Ll (Bg P (wB P f) (B5 A1 vs).1)) (alr cU):=UJ ⟨m,by rw [Ly]; exact bo.ahs rfl q1 ((Ry A1 vs).trans (bm hb)),q1'⟩;rw [q3] at hv;have hg:=q2.gX;refine ⟨by rw [hv.hX],hg.kept.os,hg.kept.tape,hg.kept.output,hg.kept.size,fun k hk=>hg.kept.block k hk ?_⟩;rintro ⟨b,o,l,ho,Oa,_⟩;rw [(h1.yn b o ho).1] at Oa;simp at Oa
end
noncomputable def akr:List (Nat×(List KV->KR KV))->FuncId->Option (List KV->KR KV)
 | [],_=>.none
 | p::ps,g=>cond (Nat.beq p.1 g) (some p.2) (akr ps g)
theorem aqB {P:Program} : ∀ {ps:List (Nat×(List KV->KR KV))},(∀ p∈ps,a9 P p.1 p.2)->vO P (akr ps)
 | [],_=>fun g F h=>by simp [akr] at h
 | p::ps,h=>fun g F hF=>by
  unfold akr at hF;cases hb:Nat.beq p.1 g with
  | true=>
   rw [hb] at hF;simp only [ai,dG] at hF;have:=bm hb;subst this hF;exact h p (by simp)
  | false=>
   rw [hb] at hF;exact aqB (fun q hq=>h q (vV _ hq)) g F hF
theorem anA (l:Bb):cI l .bG=false:=by
 show (!l.agg&&aO l.ks [.bG])=false;cases l.ks with
 | nil=>simp [aO]
 | cons c cs=>cases c <;> simp [aO,kindOk]
theorem apa {P:Program} {t:TypeId} {v:KV} (h:cI (bu P t) (Z6 P t v)=true):∃ w,Z6 P t v=vA P (eJ P iU) t w:=by
 unfold Z6 at h ⊢;cases hb:cI (bu P t) (ig (bu P t) v) with
 | false=>rw [hb,aw,anA] at h; simp at h
 | true=>exact ⟨ig (bu P t) v,rfl⟩
theorem RP:∀ {ks:List CK} {cs:List KV},aO ks cs=true->E6 ks cs=cs
 | [],[],_=>rfl
 | [],_::_,h=>by simp [aO] at h
 | _::_,[],h=>by simp [aO] at h
 | k::ks,v::vs,h=>by
  simp only [aO,aD] at h;have e:qq k v=v:=by
   unfold qq;split
   ·simp [kindOk] at h
   ·rename_i t t' m n es acc
    cases m <;> simp [kindOk] at h;obtain ⟨rfl,_⟩:=h;rw [mK,ai]
   ·rw [h.1]; rfl
  rw [E6,e,RP h.2]
theorem anB {l:Bb} {v:KV} (h:cI l v=true):ig l v=v:=by
 by_cases ha:∃ cs,v = .agg cs
 ·obtain ⟨cs,rfl⟩:=ha
  simp only [cI,aD] at h;show cond (l.agg&&Nat.beq cs.length l.ks.length) (KV.agg (E6 l.ks cs)) .bG=_;rw [h.1,u3 h.2,RP h.2];simp
 ·have h1:(!l.agg&&aO l.ks [v])=true:=by
   cases v <;> first | exact h | exact absurd ⟨_,rfl⟩ ha | simp [cI] at h
  simp only [aD,nD] at h1;have e:ig l v=cond l.agg .bG (match l.ks with | [c]=>qq c v | _=>.bG):=by
   cases v <;> first | rfl | exact absurd ⟨_,rfl⟩ ha
  rw [e,h1.1,aw]
  match hk:l.ks,h1.2 with
  | [c],h2=>
   have:=RP h2;simpa [E6] using this
  | [],h2=>simp [aO] at h2
  | _::_::_,h2=>simp [aO] at h2
theorem apb {P:Program} {t:TypeId} {v:KV} (h:cI (bu P t) v=true):Z6 P t v=vA P (eJ P iU) t v:=by
 unfold Z6;rw [anB h,h,ai]
noncomputable def Ac (P:Program):List TypeId->(Nat->KV)->Nat->List KV
 | [],_,_=>[]
 | t::ts,w,k=>vA P (eJ P iU) t (w k)::Ac P ts w (Nat.succ k)
theorem aaC {P:Program} : ∀ {ts:List TypeId} {w w' : Nat->KV} {k:Nat},(∀ i,k<=i->w i=w' i)->Ac P ts w k=Ac P ts w' k
 | [],_,_,_,_=>rfl
 | t::ts,w,w',k,h=>by
  rw [Ac,Ac,h k (aW _),aaC fun i hi=>h i (by omega)]
theorem ahL {P:Program} : ∀ {ts:List TypeId} {aw2:List KV} (k:Nat),pq P ts (normArgs P ts aw2)=true->∃ w,normArgs P ts aw2=Ac P ts w k
 | [],aw2,k,_=>⟨fun _=>.bG,by cases aw2 <;> rfl⟩
 | t::ts,[],k,h=>by simp [normArgs,pq] at h
 | t::ts,v::vs,k,h=>by
  simp only [normArgs,pq,aD] at h;obtain ⟨w,hw⟩:=apa h.1;obtain ⟨w',hw'⟩:=ahL (k+1) h.2;refine ⟨fun i=>if i=k then w else w' i,?_⟩;rw [normArgs,Ac,hw,hw',aV rfl];rw [aaC (w:=w') (w':=fun i=>if i=k then w else w' i) fun i hi=>by rw [ay (by omega)]]
theorem ahM {P:Program} : ∀ {ts:List TypeId} {aw2:List KV} (k:Nat) {w:Nat->KV},pq P ts aw2=true->(∀ i,i < aw2.length->w (k+i)=aw2.getD i .bG)->normArgs P ts aw2=Ac P ts w k
 | [],[],k,_,_,_=>rfl
 | [],_::_,_,_,h,_=>by simp [pq] at h
 | _::_,[],_,_,h,_=>by simp [pq] at h
 | t::ts,v::vs,k,w,h,hw=>by
  simp only [pq,aD] at h;rw [normArgs,Ac,apb h.1,ahM (k+1) (w:=w) h.2 fun i hi=>by have:=hw (i+1) (by simp; omega); rw [show k+1+i=k+(i+1) by omega,this]; rfl];have:=hw 0 (by simp);rw [zh] at this;rw [this]; rfl
noncomputable def bd (P:Program) (g:FuncId) (F:List KV->KR KV):List KV->KR KV:=fun aw2=>cond (pq P (gw P g) aw2) (F aw2) .no
theorem as8 {P:Program} {g:FuncId} {F:List KV->KR KV} (hP:P.funcs.toList.all qx=true) (hm:P.follows .mixedOrders=true) {cfg:ga} (je:vO P cfg.pc) (og:z7 P cfg) {L n:Nat}
  (h:∀ w v,ba (F (Ac P (gw P g) w 0)) v->zW P cfg L n g (Ac P (gw P g) w 0)=some v) (hy:Nat.blt g yB=true:=by rfl):a9 P g (bd P g F):=
 asP hy hP hm fun aw2 v _ hF=>by
  unfold bd at hF;obtain ⟨hb,hF⟩:=ba.cond hF;obtain ⟨w,hw⟩:=ahL 0 hb;rw [hw] at hF ⊢;exact ⟨cfg,L,n,je,og,h w v hF⟩
noncomputable def as9 (P:Program) (d:CD) (w:KV):KV:=
 match d with
 | .k c=>eJ P iU (leaf c w)
 | .lit v=>v
 | .aZ t=>eJ P iU (leaf (.slice t) w)
 | .arr t=>eJ P iU (leaf (.slice t) w)
 | .ref v=>v
noncomputable def Ov (P:Program):List CD->(Nat->KV)->Nat->List KV
 | [],_,_=>[]
 | d::ds,w,k=>as9 P d (w k)::Ov P ds w (Nat.succ k)
noncomputable def alA (P:Program) (d:VD) (w:Nat->KV):KV:=Bool.rec (motive:=fun _=>KV) ((Ov P d.ks w 0).headD .bG) (.agg (Ov P d.ks w 0)) d.agg
noncomputable def mP (P:Program):List (Tmp×VD)->(Nat->Nat->KV)->Nat->List KV
 | [],_,_=>[]
 | p::ps,w,k=>alA P p.2 (w k)::mP P ps w (Nat.succ k)
noncomputable def mQ (P:Program):List (Tmp×List CD×Nat)->(Nat->Nat->KV)->Nat->List (List KV)
 | [],_,_=>[]
 | p::ps,w,k=>Ov P p.2.1 (w k) 0::mQ P ps w (Nat.succ k)
theorem aks {P:Program} {A:aB} {d:CD} {v:KV} (h:lF d (gK P A d v)=true):∃ w,gK P A d v=as9 P d w:=by
 cases d with
 | ref u=>exact ⟨.bG,rfl⟩
 | k c=>
  have e:gK P A (.k c) v=cond (kindOk c (qq c v)) (eJ P iU (leaf c (qq c v))) .bG:=rfl;cases hb:kindOk c (qq c v) with
  | true=>exact ⟨qq c v,by rw [e,hb]; rfl⟩
  | false=>
   rw [e,hb] at h;cases c <;> simp [lF,kindOk] at h
 | lit u=>
  have e:gK P A (.lit u) v=cond (z8 u v) u .bG:=rfl;cases hb:z8 u v with
  | true=>exact ⟨.bG,by rw [e,hb]; rfl⟩
  | false=>
   rw [e,hb,aw] at h;have h:z8 u .bG=true:=h;cases u <;> first | (simp [z8] at h; done) | (rename_i f a b; cases f <;> cases a <;> cases b <;> simp [z8] at h)
 | aZ t=>
  cases v with
  | nS=>exact ⟨.ts t .any 0 [] pI,rfl⟩
  | ts t' m n es acc=>
   cases m with
   | aZ f=>
    have e:gK P A (.aZ t) (.ts t' (.aZ f) n es acc)=cond (Nat.beq t t') (eJ P iU (.ts t .any n es acc)) .bG:=rfl;cases hb:Nat.beq t t' with
    | true=>exact ⟨.ts t .any n es acc,by rw [e,hb]; rfl⟩
    | false=>rw [e,hb] at h; simp [lF,kindOk] at h
   | _=>simp [gK,lF,kindOk] at h
  | _=>simp [gK,lF,kindOk] at h
 | arr t=>
  rcases acB h with rfl | ⟨b,n,m,N,es,acc,rfl,_,he⟩
  ·exact ⟨.ts t .any 0 [] pI,rfl⟩
  ·exact ⟨.ts t .any N es acc,he⟩
theorem aaD {P:Program} : ∀ {ds:List CD} {w w' : Nat->KV} {k:Nat},(∀ i,k<=i->w i=w' i)->Ov P ds w k=Ov P ds w' k
 | [],_,_,_,_=>rfl
 | t::ts,w,w',k,h=>by
  rw [Ov,Ov,h k (aW _),aaD fun i hi=>h i (by omega)]
theorem acF {P:Program} {A:aB} : ∀ {ds:List CD} {vs:List KV} (k:Nat),eF ds (gL P A ds vs)=true->∃ w,gL P A ds vs=Ov P ds w k
 | [],vs,k,_=>⟨fun _=>.bG,by cases vs <;> rfl⟩
 | d::ds,[],k,h=>by simp [gL,eF] at h
 | d::ds,v::vs,k,h=>by
  simp only [gL,eF,aD] at h;obtain ⟨w,hw⟩:=aks h.1;obtain ⟨w',hw'⟩:=acF (k+1) h.2;refine ⟨fun i=>if i=k then w else w' i,?_⟩;rw [gL,Ov,hw,hw',aV rfl];rw [aaD (w:=w') (w':=fun i=>if i=k then w else w' i) fun i hi=>by rw [ay (by omega)]]
theorem ari {P:Program} {A:aB} {d:VD} {v:KV} (h:Bi d (zl P A d v)=true):∃ w,zl P A d v=alA P d w:=by
 have DA:=CZ h;rcases C0 h with ⟨cs,rfl,h1,h2,h3⟩ | ⟨h0,c,h1,h2,h3,h4,h5⟩
 ·obtain ⟨w,hw⟩:=acF 0 h3
  refine ⟨w,?_⟩;have:d.agg=true:=by
   rcases DA with ⟨_,_,q,_⟩ | ⟨q,_⟩
   ·exact q
   ·exact absurd h2 (q _)
  rw [h2,hw,alA,this]
 ·obtain ⟨w,hw⟩:=aks h3
  refine ⟨fun _=>w,?_⟩;have:d.agg=false:=by
   rcases DA with ⟨cs,q,_⟩ | ⟨_,q,_⟩
   ·rw [h2] at q; exact absurd q (h5 _)
   ·exact q
  rw [h2,hw,alA,this,h1]; rfl
theorem XV {P:Program} : ∀ {ps:List (Tmp×VD)} {w w' : Nat->Nat->KV} {k:Nat},(∀ i,k<=i->w i=w' i)->mP P ps w k=mP P ps w' k
 | [],_,_,_,_=>rfl
 | t::ts,w,w',k,h=>by
  rw [mP,mP,h k (aW _),XV fun i hi=>h i (by omega)]
theorem ahN {P:Program} {t:bL} {A:aB} : ∀ {ps:List (Tmp×VD)} (k:Nat),jE ps (tL P t A ps)=true->∃ w,tL P t A ps=mP P ps w k
 | [],k,_=>⟨fun _ _=>.bG,rfl⟩
 | p::ps,k,h=>by
  simp only [tL,jE,aD] at h;obtain ⟨w,hw⟩:=ari h.1;obtain ⟨w',hw'⟩:=ahN (k+1) h.2;refine ⟨fun i=>if i=k then w else w' i,?_⟩;rw [tL,mP,hw,hw',aV rfl];rw [XV (w:=w') (w':=fun i=>if i=k then w else w' i) fun i hi=>by rw [ay (by omega)]]
theorem XW {P:Program} : ∀ {ps:List (Tmp×List CD×Nat)} {w w' : Nat->Nat->KV} {k:Nat},(∀ i,k<=i->w i=w' i)->mQ P ps w k=mQ P ps w' k
 | [],_,_,_,_=>rfl
 | t::ts,w,w',k,h=>by
  rw [mQ,mQ,h k (aW _),XW fun i hi=>h i (by omega)]
theorem ahO {P:Program} : ∀ {ps:List (Tmp×List CD×Nat)} {rs:List (List KV)} (k:Nat),rs.length=ps.length->(∀ (i:Nat) p r,ps[i]? = some p->rs[i]? = some r->eF p.2.1 r=true)->
  (∀ (i:Nat) p,ps[i]? = some p->∃ A pE,rs[i]? = some (gL P A p.2.1 pE)/\pE.length=p.2.1.length)->∃ w,rs=mQ P ps w k
 | [],[],k,_,_,_=>⟨fun _ _=>.bG,rfl⟩
 | [],_::_,_,h,_,_=>by simp at h
 | _::_,[],_,h,_,_=>by simp at h
 | p::ps,r::rs,k,hl,hg,hn=>by
  obtain ⟨A,pE,h1,_⟩:=hn 0 p rfl;simp only [List.getElem?_cons_zero,dG] at h1;have h2:=hg 0 p r rfl rfl;rw [h1] at h2;obtain ⟨w,hw⟩:=acF 0 h2;obtain ⟨w',hw'⟩:=ahO (ps:=ps) (rs:=rs) (k+1) (by simpa using hl) (fun i p r a b=>hg (i+1) p r (by simpa using a) (by simpa using b)) fun i p a=>by simpa using hn (i+1) p (by simpa using a)
  refine ⟨fun i=>if i=k then w else w' i,?_⟩;rw [mQ,h1,hw,aV rfl];congr 1;rw [hw'];exact XW fun i hi=>by rw [ay (by omega)]
theorem Gs.form {P:Program} {S:aQ} {vs:List KV} {rs:List (List KV)} (h:Gs P S vs rs):∃ wv wr,vs=mP P S.eI wv 0/\rs=mQ P S.rows wr 0:=by
 obtain ⟨t,A,ht⟩:=h.vn;have hv:=h.v;rw [ht] at hv;obtain ⟨wv,hwv⟩:=ahN 0 hv;obtain ⟨wr,hwr⟩:=ahO 0 h.wK h.B4 h.rn;exact ⟨wv,wr,by rw [ht,hwv],hwr⟩
inductive aJ (X:Type) where
 | fail
 | next (x:X)
 | out (e:aq) (x:X)
def aJ.enc {X:Type} (ev:X->List KV) (er:X->List (List KV)):aJ X->Option (aq×List KV×List (List KV))
 | .fail=>.none
 | .next x=>some (.normal,ev x,er x)
 | .out e x=>some (e,ev x,er x)
theorem aJ.bz {X:Type} (ev:X->List KV) (er:X->List (List KV)) (c:Bool) (a b:aJ X):aJ.enc ev er (cond c a b)=cond c (aJ.enc ev er a) (aJ.enc ev er b):=by cases c <;> rfl
def aJ.go {X:Type} (step:X->aJ X):Nat->X->aJ X
 | 0,_=>.fail
 | n+1,x=>match step x with
  | .fail=>.fail
  | .next x=>aJ.go step n x
  | .out e x=>cond (yM e) .fail (.out e x)
def gj:aq->aq->Bool
 | .normal,.normal=>true
 | .exit i,.exit j=>Nat.beq i j
 | .goto i,.goto j=>Nat.beq i j
 | .ret,.ret=>true
 | _,_=>false
theorem alB {a b:aq} (h:gj a b=true):a=b:=by
 cases a <;> cases b <;> simp [gj] at h <;> first | rfl | (subst h; rfl)
def aJ.by {X:Type} (s:aJ X) (e:aq):Bool:=
 match s with
 | .out e' _=>gj e' e
 | _=>false
def aJ.st {X:Type} [Inhabited X] (s:aJ X):X:=
 match s with
 | .out _ x=>x
 | _=>default
theorem anC {X:Type} {step:X->aJ X} {ev:X->List KV} {er:X->List (List KV)} {rd:List KV->List (List KV)->Option (aq×List KV×List (List KV))} (h:∀ x,rd (ev x) (er x)=aJ.enc ev er (step x)) :
  ∀ (n:Nat) (x:X) (e:aq) (y:X),aJ.go step n x = .out e y->y7 rd n (ev x) (er x)=some (e,ev y,er y)
 | 0,x,e,y,hg=>by simp [aJ.go] at hg
 | n+1,x,e,y,hg=>by
  simp only [aJ.go] at hg;have hx:=h x;cases hs:step x with
  | fail=>rw [hs] at hg; simp at hg
  | next x'=>
   rw [hs] at hg hx;simp only [y7,hx,aJ.enc,yM,ai];exact anC h n x' e y hg
  | out e' x'=>
   rw [hs] at hg hx;simp only at hg;cases hn:yM e' with
   | true=>rw [hn] at hg; simp at hg
   | false=>
    rw [hn,aw] at hg;simp only [aJ.out.injEq] at hg;obtain ⟨rfl,rfl⟩:=hg;simp only [y7,hx,aJ.enc,hn,aw]
def bT {X:Type} [Inhabited X] (ev:X->List KV) (er:X->List (List KV)) (s:aJ X):List aq->wJ
 | []=>.no
 | e::es=>.br (s.by e) (.out e (ev s.st) (er s.st)) (bT ev er s es)
theorem Y4 {X:Type} [Inhabited X] {ev:X->List KV} {er:X->List (List KV)} {s:aJ X} : ∀ {es:List aq} {e:aq} {vs:List KV} {rs:List (List KV)},(bT ev er s es).ev=some (e,vs,rs)->∃ x,s = .out e x/\vs=ev x/\rs=er x
 | [],e,vs,rs,h=>by simp [bT,wJ.ev] at h
 | e'::es,e,vs,rs,h=>by
  simp only [bT,wJ.ev] at h;cases hb:s.by e' with
  | false=>rw [hb] at h; exact Y4 h
  | true=>
   rw [hb,ai] at h;simp only [dG,gF] at h;obtain ⟨rfl,rfl,rfl⟩:=h;cases s with
   | out e0 x=>
    have:=alB (show gj e0 e' = true from hb);subst this;exact ⟨x,rfl,rfl,rfl⟩
   | fail=>simp [aJ.by] at hb
   | next x=>simp [aJ.by] at hb
def gd:Nat:=1000000000000
def goN {X:Type} (step:X->aJ X) (x:X):aJ X:=aJ.go step gd x
theorem anE {P:Program} {l:Lp} {X:Type} [Inhabited X] {cfg:ga} {L n:Nat} (je:vO P cfg.pc) (og:z7 P cfg) {step:X->aJ X} {ev:X->List KV} {er:X->List (List KV)} {es:List aq} {pa:List KV->List (List KV)->X}
  (hF:∀ vs rs,l.F vs rs=bT ev er (goN step (pa vs rs)) es) (jN:∀ wv wr,ev (pa (mP P l.S.eI wv 0) (mQ P l.S.rows wr 0))=mP P l.S.eI wv 0/\er (pa (mP P l.S.eI wv 0) (mQ P l.S.rows wr 0))=mQ P l.S.rows wr 0)
  (wy:∀ x,aqx l.st P cfg L n l.f l.p (pn P l.f l.p) l.S (ev x) (er x)=aJ.enc ev er (step x)):l.Ok P:=
 ⟨cfg,L,n,je,og,fun vs rs e cU oQ cq tK=>by
  obtain ⟨wv,wr,rfl,rfl⟩:=cq.form;obtain ⟨h1,h2⟩:=jN wv wr;rw [hF] at tK;obtain ⟨y,hy,rfl,rfl⟩:=Y4 tK;have:=anC wy gd _ e y hy;rw [h1,h2] at this;exact ⟨gd,this⟩⟩
theorem ata {P:Program} {c:Fc} {X:Type} [Inhabited X] {cfg:ga} {L n:Nat} (je:vO P cfg.pc) (og:z7 P cfg) {step:X->aJ X} {ev:X->List KV} {er:X->List (List KV)} {es:List aq} {pa:List KV->List (List KV)->X} (hy:Nat.blt c.g yB=true)
  (hF:∀ vs rs,c.F vs rs=bT ev er (step (pa vs rs)) es) (jN:∀ wv wr,ev (pa (mP P c.S.eI wv 0) (mQ P c.S.rows wr 0))=mP P c.S.eI wv 0/\er (pa (mP P c.S.eI wv 0) (mQ P c.S.rows wr 0))=mQ P c.S.rows wr 0)
  (wy:∀ x y,step x = .out .ret y->Oq P cfg L n c.g c.S (ev x) (er x)=some (.ret,ev y,er y)) (Uw:es = [.ret]):c.Ok P:=
 ⟨hy,cfg,L,n,je,og,fun vs rs e cU oQ cq tK=>by
  obtain ⟨wv,wr,rfl,rfl⟩:=cq.form;obtain ⟨h1,h2⟩:=jN wv wr;subst Uw;rw [hF] at tK;have he:e = .ret:=by
   simp only [bT,wJ.ev] at tK;cases hb:(step (pa (mP P c.S.eI wv 0) (mQ P c.S.rows wr 0))).by aq.ret with
   | false=>rw [hb] at tK; simp at tK
   | true=>rw [hb] at tK; simp at tK; exact tK.1.symm
  subst he;obtain ⟨y,hy,rfl,rfl⟩:=Y4 tK;have:=wy _ y hy;rw [h1,h2] at this;exact this⟩
theorem apc {P:Program} {c:Fc} {cfg:ga} (je:vO P cfg.pc) (og:z7 P cfg) (hy:Nat.blt c.g yB=true) (hF:∀ vs rs,(c.F vs rs).ev=none):c.Ok P:=
 ⟨hy,cfg,9,9,je,og,fun vs rs e cU oQ _ tK=>by rw [hF] at tK; simp at tK⟩
def UY:Nat:=64
theorem als {P:Program} {aw2:List KV} (h:pq P [] aw2=true):aw2 = []:=by
 cases aw2 with
 | nil=>rfl
 | cons a aw2=>simp [pq] at h
theorem arj {ks:List CK} {v:KV} (h:cI ⟨true,ks⟩ v=true):∃ cs,v = .agg cs/\aO ks cs=true:=by
 cases v with
 | agg cs=>exact ⟨cs,rfl,by simpa [cI] using h⟩
 | lP cs=>simp [cI] at h
 | _=>simp [cI] at h
theorem avh {rd:List KV->List (List KV)->Option (aq×List KV×List (List KV))} {n:Nat} {vs cU:List KV} {rs oQ:List (List KV)} (h:rd vs rs=some (.normal,cU,oQ)):y7 rd (n+1) vs rs=y7 rd n cU oQ:=by
 simp only [y7,h]; rfl
end Go.K
end
section
namespace Go.K
open Go Go.aF
variable {P:Program} {E:Env}
end Go.K
end
section
namespace Go.K
open Go Go.aF
structure Sl (α:Type) where
 n:Nat
 get:Nat->α
instance {α:Type} [Inhabited α] : Inhabited (Sl α):=⟨⟨0,fun _=>default⟩⟩
def fL {α:Type} (T:TypeId) (k:α->KV) (s:Sl α):KV:=.ts T .any s.n ((List.range s.n).map fun i=>k (s.get i)) (fun i=>k (s.get i))
def kX {α:Type} (p:KV->α) (n:Nat) (acc:Nat->KV):Sl α:=⟨n,fun i=>p (acc i)⟩
def fg {α:Type} (p:KV->α) (v:KV):Sl α:=kX p (lenOf v) (vz v)
def kI (k:IntKind) (n:Int):KV:=.int k n
def kB (b:Bool):KV:=.bool b
abbrev ak (n:Int):Int:=IntKind.wrap .i64 n
abbrev w8 (n:Int):Int:=IntKind.wrap .u8 n
abbrev uk (n:Int):Int:=IntKind.wrap .u64 n
def Sl.push {α:Type} [Inhabited α] (s:Sl α) (v:α):Sl α:=⟨s.n+1,fun i=>cond (Nat.blt i s.n) (s.get i) (cond (Nat.beq i s.n) v default)⟩
def Sl.join {α:Type} (s t:Sl α):Sl α:=⟨s.n+t.n,fun i=>cond (Nat.blt i s.n) (s.get i) (t.get (i - s.n))⟩
def Sl.lit {α:Type} [Inhabited α] (l:List α):Sl α:=⟨l.length,fun i=>l.getD i default⟩
theorem ahP {α:Type} [Inhabited α] {p:KV->α} {k:α->KV} (h:∀ x,p (k x)=x) (hd:p .bG=default) (l:List α):kX p l.length (qy (l.map k))=Sl.lit l:=by
 unfold kX Sl.lit qy;congr 1;funext i;rw [iQ,iQ,AZ];cases l[i]? with
 | none=>exact hd
 | some x=>exact h x
theorem yN {α:Type} [Inhabited α] {p:KV->α} {k:α->KV} (h:∀ x,p (k x)=x) (hd:p .bG=default) (s:Sl α) (v:α):kX p (s.n+1) (dS s.n (fun i=>k (s.get i)) (qy [k v]))=s.push v:=by
 unfold kX Sl.push;congr 1;funext i;unfold dS;cases hb:Nat.blt i s.n with
 | true=>exact h _
 | false=>
  have hi:s.n<=i:=by
   cases Nat.lt_or_ge i s.n with
   | inl h=>rw [<- bZ,hb] at h; simp at h
   | inr h=>exact h
  rw [aw,aw];cases hq:Nat.beq i s.n with
  | true=>
   have:=bm hq;subst this;rw [Nat.sub_self,ai];exact h v
  | false=>
   have eY:i≠s.n:=fun e=>by rw [e,mK] at hq; simp at hq
   rw [aw];obtain ⟨j,hj⟩:∃ j,i - s.n=j+1:=⟨i - s.n - 1,by omega⟩
   rw [hj];exact hd
theorem acG {α:Type} {p:KV->α} {k:α->KV} (h:∀ x,p (k x)=x) (s t:Sl α):kX p (s.n+t.n) (dS s.n (fun i=>k (s.get i)) (fun i=>k (t.get i)))=s.join t:=by
 unfold kX Sl.join;congr 1;funext i;unfold dS;cases Nat.blt i s.n <;> exact h _
def Sl.set {α:Type} (s:Sl α) (i:Nat) (v:α):Sl α:=⟨s.n,fun j=>cond (Nat.beq j i) v (s.get j)⟩
def Sl.alC {α:Type} (s:Sl α) (o k:Nat) (t:Sl α):Sl α:=⟨s.n,fun j=>cond (Nat.blt j o) (s.get j) (cond (Nat.blt j (o+k)) (t.get (j - o)) (s.get j))⟩
theorem ahQ {α:Type} {p:KV->α} {k:α->KV} (h:∀ x,p (k x)=x) (s:Sl α) (i:Nat) (v:α):kX p s.n (xN (fun j=>k (s.get j)) i (k v))=s.set i v:=by
 unfold kX Sl.set;congr 1;funext j;unfold xN;cases Nat.beq j i <;> exact h _
theorem ahR {α:Type} {p:KV->α} {k:α->KV} (h:∀ x,p (k x)=x) (s t:Sl α) (o m:Nat):kX p s.n (nM o m (fun j=>k (s.get j)) (fun j=>k (t.get j)))=s.alC o m t:=by
 unfold kX Sl.alC;congr 1;funext j;unfold nM;cases Nat.blt j o with
 | true=>exact h _
 | false=>cases Nat.blt j (o+m) <;> exact h _
theorem anF {α:Type} {p:KV->α} {k:α->KV} (h:∀ x,p (k x)=x) (m n n' : Nat) (acc hO:Nat->KV):kX p m (dS n (fun i=>k ((kX p n' acc).get i)) hO)=kX p m (dS n acc hO):=by
 unfold kX;congr 1;funext i;unfold dS;cases Nat.blt i n with
 | true=>exact h _
 | false=>rfl
theorem atb {α:Type} {p:KV->α} {k:α->KV} (h:∀ x,p (k x)=x) (m n n' : Nat) (acc hO:Nat->KV):kX p m (dS n acc (fun i=>k ((kX p n' hO).get i)))=kX p m (dS n acc hO):=by
 unfold kX;congr 1;funext i;unfold dS;cases Nat.blt i n with
 | true=>rfl
 | false=>exact h _
theorem anG {α:Type} {p:KV->α} {k:α->KV} (h:∀ x,p (k x)=x) (m n' i:Nat) (acc:Nat->KV) (v:KV):kX p m (xN (fun j=>k ((kX p n' acc).get j)) i v)=kX p m (xN acc i v):=by
 unfold kX;congr 1;funext j;unfold xN;cases Nat.beq j i with
 | true=>rfl
 | false=>exact h _
theorem atc {α:Type} {p:KV->α} {k:α->KV} (h:∀ x,p (k x)=x) (n n' o m:Nat) (acc hO:Nat->KV):kX p n (nM o m (fun j=>k ((kX p n' acc).get j)) hO)=kX p n (nM o m acc hO):=by
 unfold kX;congr 1;funext j;unfold nM;cases Nat.blt j o with
 | true=>exact h _
 | false=>
  cases Nat.blt j (o+m) with
  | true=>rfl
  | false=>exact h _
theorem atd {α:Type} {p:KV->α} {k:α->KV} (h:∀ x,p (k x)=x) (n n' o m:Nat) (acc hO:Nat->KV):kX p n (nM o m acc (fun j=>k ((kX p n' hO).get j)))=kX p n (nM o m acc hO):=by
 unfold kX;congr 1;funext j;unfold nM;cases Nat.blt j o with
 | true=>rfl
 | false=>
  cases Nat.blt j (o+m) with
  | true=>exact h _
  | false=>rfl
theorem ate (m n n' : Nat) (acc hO:Nat->KV):kX (fun v=>intOf (v.cells.getD 0 .bG)) m (dS n (fun i=>kI .i64 ((kX (fun v=>intOf (v.cells.getD 0 .bG)) n' acc).get i)) hO)=kX (fun v=>intOf (v.cells.getD 0 .bG)) m (dS n acc hO):=anF (k:=kI .i64) (fun _=>rfl) ..
theorem atf (m n n' : Nat) (acc hO:Nat->KV):kX (fun v=>intOf (v.cells.getD 0 .bG)) m (dS n acc (fun i=>kI .i64 ((kX (fun v=>intOf (v.cells.getD 0 .bG)) n' hO).get i)))=kX (fun v=>intOf (v.cells.getD 0 .bG)) m (dS n acc hO):=atb (k:=kI .i64) (fun _=>rfl) ..
theorem atg (m n' i:Nat) (acc:Nat->KV) (v:KV):kX (fun v=>intOf (v.cells.getD 0 .bG)) m (xN (fun j=>kI .i64 ((kX (fun v=>intOf (v.cells.getD 0 .bG)) n' acc).get j)) i v)=kX (fun v=>intOf (v.cells.getD 0 .bG)) m (xN acc i v):=anG (k:=kI .i64) (fun _=>rfl) ..
theorem ath (n n' o m:Nat) (acc hO:Nat->KV):kX (fun v=>intOf (v.cells.getD 0 .bG)) n (nM o m (fun j=>kI .i64 ((kX (fun v=>intOf (v.cells.getD 0 .bG)) n' acc).get j)) hO)=kX (fun v=>intOf (v.cells.getD 0 .bG)) n (nM o m acc hO):=atc (k:=kI .i64) (fun _=>rfl) ..
theorem ati (n n' o m:Nat) (acc hO:Nat->KV):kX (fun v=>intOf (v.cells.getD 0 .bG)) n (nM o m acc (fun j=>kI .i64 ((kX (fun v=>intOf (v.cells.getD 0 .bG)) n' hO).get j)))=kX (fun v=>intOf (v.cells.getD 0 .bG)) n (nM o m acc hO):=atd (k:=kI .i64) (fun _=>rfl) ..
theorem atj (s:Sl Int) (i:Nat) (v:Int):s.set i v=kX (fun v=>intOf (v.cells.getD 0 .bG)) s.n (xN (fun j=>kI .i64 (s.get j)) i (kI .i64 v)):=(ahQ (k:=kI .i64) (fun _=>rfl) s i v).symm
theorem ark (s:Sl Bool) (i:Nat) (v:Bool):s.set i v=kX (fun v=>kN (v.cells.getD 0 .bG)) s.n (xN (fun j=>kB (s.get j)) i (kB v)):=(ahQ (k:=kB) (fun _=>rfl) s i v).symm
theorem apd (s t:Sl Int) (o m:Nat):s.alC o m t=kX (fun v=>intOf (v.cells.getD 0 .bG)) s.n (nM o m (fun j=>kI .i64 (s.get j)) (fun j=>kI .i64 (t.get j))):=(ahR (k:=kI .i64) (fun _=>rfl) s t o m).symm
theorem anH (s t:Sl Bool) (o m:Nat):s.alC o m t=kX (fun v=>kN (v.cells.getD 0 .bG)) s.n (nM o m (fun j=>kB (s.get j)) (fun j=>kB (t.get j))):=(ahR (k:=kB) (fun _=>rfl) s t o m).symm
theorem acH (s:Sl Int) (v:Int):s.push v=kX (fun v=>intOf (v.cells.getD 0 .bG)) (s.n+1) (dS s.n (fun i=>kI .i64 (s.get i)) (qy [kI .i64 v])):=(yN (fun _=>rfl) rfl s v).symm
theorem arl (s t:Sl Int):s.join t=kX (fun v=>intOf (v.cells.getD 0 .bG)) (s.n+t.n) (dS s.n (fun i=>kI .i64 (s.get i)) (fun i=>kI .i64 (t.get i))):=(acG (fun _=>rfl) s t).symm
theorem UZ (l:List Int):Sl.lit l=kX (fun v=>intOf (v.cells.getD 0 .bG)) l.length (qy (l.map (kI .i64))):=(ahP (fun _=>rfl) rfl l).symm
theorem arn (l:List Bool):Sl.lit l=kX (fun v=>kN (v.cells.getD 0 .bG)) l.length (qy (l.map kB)):=(ahP (fun _=>rfl) rfl l).symm
theorem ape (s:Sl Bool) (v:Bool):s.push v=kX (fun v=>kN (v.cells.getD 0 .bG)) (s.n+1) (dS s.n (fun i=>kB (s.get i)) (qy [kB v])):=(yN (fun _=>rfl) rfl s v).symm
theorem apf (s t:Sl Bool):s.join t=kX (fun v=>kN (v.cells.getD 0 .bG)) (s.n+t.n) (dS s.n (fun i=>kB (s.get i)) (fun i=>kB (t.get i))):=(acG (fun _=>rfl) s t).symm
theorem aY {α β:Type} (f:α->β) (c:Bool) (a b:Option α):Option.map f (cond c a b)=cond c (Option.map f a) (Option.map f b):=by cases c <;> rfl
def ao (P:Program) (ps:List (Nat×(List KV->KR KV))):Prop:=∀ p∈ps,a9 P p.1 p.2
theorem ao.nil {P:Program} : ao P []:=fun p hp=>by simp at hp
theorem ao.cons {P:Program} {g:Nat} {F:List KV->KR KV} {ps:List (Nat×(List KV->KR KV))} (h:a9 P g F) (t:ao P ps):ao P ((g,F)::ps):=fun p hp=>by
 rcases fp.1 hp with rfl | hp
 ·exact h
 ·exact t p hp
theorem ao.pc {P:Program} {ps:List (Nat×(List KV->KR KV))} (h:ao P ps):vO P (akr ps):=aqB h
def aL (P:Program) (ls:List Lp):Prop:=∀ l∈ls,l.Ok P/\GZ P l.f l.p=true
theorem aL.nil {P:Program} : aL P []:=fun p hp=>by simp at hp
theorem aL.cons {P:Program} {l:Lp} {ls:List Lp} (h:l.Ok P) (h' : GZ P l.f l.p=true) (t:aL P ls):aL P (l::ls):=fun p hp=>by
 rcases fp.1 hp with rfl | hp
 ·exact ⟨h,h'⟩
 ·exact t p hp
def gT (P:Program) (fs:List Fc):Prop:=∀ c∈fs,c.Ok P
theorem gT.nil {P:Program} : gT P []:=fun p hp=>by simp at hp
theorem gT.cons {P:Program} {c:Fc} {fs:List Fc} (h:c.Ok P) (t:gT P fs):gT P (c::fs):=fun p hp=>by
 rcases fp.1 hp with rfl | hp
 ·exact h
 ·exact t p hp
noncomputable def iK (P:Program) (ps:List (Nat×(List KV->KR KV))) (ls:List Lp) (mt:TypeId->Bool:=fun _=>false) (fz:Bool:=false) (eg:Bool:=false) (fs:List Fc:=[]):ga:=⟨akr ps,ahF P ls,⟨akp P fs,mt,fz,eg⟩⟩
noncomputable def bg {R:Type} [Inhabited R] (k:R->KV) (r:List KV->Option R):List KV->KR KV:=fun aw2=>.nI (r aw2).isSome (k ((r aw2).getD default))
theorem aex {P:Program} {R:Type} [Inhabited R] {k:R->KV} {r:List KV->Option R} {g:FuncId} (hP:P.funcs.toList.all qx=true) (hm:P.follows .mixedOrders=true) {ps:List (Nat×(List KV->KR KV))} {ls:List Lp} (je:ao P ps) (og:aL P ls) {L n:Nat} {mt:TypeId->Bool} {fz eg:Bool} {fs:List Fc}
  (h:∀ w,zW P (iK P ps ls mt fz eg fs) L n g (Ac P (gw P g) w 0)=(r (Ac P (gw P g) w 0)).map k) (hy:Nat.blt g yB=true:=by rfl) (Jg:gT P fs:=by exact gT.nil):a9 P g (bd P g (bg k r)):=
 as8 (cfg:=iK P ps ls mt fz eg fs) hP hm je.pc (Wz hP hm (WA hP hm Jg) og) (hy:=hy) fun w v hv=>by
  obtain ⟨h1,h2⟩:=ba.nI hv;rw [h w];cases hr:r (Ac P (gw P g) w 0) with
  | none=>rw [hr] at h1; simp at h1
  | some x=>rw [hr] at h2; rw [<- h2]; rfl
theorem U0 {P:Program} {l:Lp} {X:Type} [Inhabited X] (hP:P.funcs.toList.all qx=true) (hm:P.follows .mixedOrders=true) {ps:List (Nat×(List KV->KR KV))} {ls:List Lp} (je:ao P ps) (og:aL P ls) {L n:Nat} {mt:TypeId->Bool} {fz eg:Bool} {fs:List Fc} {step:X->aJ X} {ev:X->List KV} {er:X->List (List KV)} {es:List aq} {pa:List KV->List (List KV)->X}
  (hF:l.F=fun vs rs=>bT ev er (goN step (pa vs rs)) es) (jN:∀ wv wr,ev (pa (mP P l.S.eI wv 0) (mQ P l.S.rows wr 0))=mP P l.S.eI wv 0/\er (pa (mP P l.S.eI wv 0) (mQ P l.S.rows wr 0))=mQ P l.S.rows wr 0)
  (wy:∀ x,Dk P (iK P ps ls mt fz eg fs) L n l.f l.p (pn P l.f l.p) l.S (ev x) (er x)=aJ.enc ev er (step x)) (Jg:gT P fs:=by exact gT.nil) (hs:l.st=false:=by rfl):l.Ok P:=
 anE (cfg:=iK P ps ls mt fz eg fs) je.pc (Wz hP hm (WA hP hm Jg) og) (fun _ _=>by rw [hF]) jN (fun x=>by rw [hs]; exact wy x)
theorem oh {P:Program} {l:Lp} {X:Type} [Inhabited X] (hP:P.funcs.toList.all qx=true) (hm:P.follows .mixedOrders=true) {ps:List (Nat×(List KV->KR KV))} {ls:List Lp} (je:ao P ps) (og:aL P ls) {L n:Nat} {mt:TypeId->Bool} {fz eg:Bool} {fs:List Fc} {step:X->aJ X} {ev:X->List KV} {er:X->List (List KV)} {es:List aq} {pa:List KV->List (List KV)->X}
  (hF:l.F=fun vs rs=>bT ev er (goN step (pa vs rs)) es) (jN:∀ wv wr,ev (pa (mP P l.S.eI wv 0) (mQ P l.S.rows wr 0))=mP P l.S.eI wv 0/\er (pa (mP P l.S.eI wv 0) (mQ P l.S.rows wr 0))=mQ P l.S.rows wr 0)
  (wy:∀ x,uh P (iK P ps ls mt fz eg fs) L n l.f l.p (pn P l.f l.p) l.S (ev x) (er x)=aJ.enc ev er (step x)) (Jg:gT P fs:=by exact gT.nil) (hs:l.st=true:=by rfl):l.Ok P:=
 anE (cfg:=iK P ps ls mt fz eg fs) je.pc (Wz hP hm (WA hP hm Jg) og) (fun _ _=>by rw [hF]) jN (fun x=>by rw [hs]; exact wy x)
theorem IB {P:Program} {c:Fc} {X:Type} [Inhabited X] (hP:P.funcs.toList.all qx=true) (hm:P.follows .mixedOrders=true) {ps:List (Nat×(List KV->KR KV))} {ls:List Lp} (je:ao P ps) (og:aL P ls) {L n:Nat} {mt:TypeId->Bool} {fz eg:Bool} {fs:List Fc} {step:X->aJ X} {ev:X->List KV} {er:X->List (List KV)} {es:List aq} {pa:List KV->List (List KV)->X}
  (hF:c.F=fun vs rs=>bT ev er (step (pa vs rs)) es) (jN:∀ wv wr,ev (pa (mP P c.S.eI wv 0) (mQ P c.S.rows wr 0))=mP P c.S.eI wv 0/\er (pa (mP P c.S.eI wv 0) (mQ P c.S.rows wr 0))=mQ P c.S.rows wr 0)
  (wy:∀ x,Oq P (iK P ps ls mt fz eg fs) L n c.g c.S (ev x) (er x)=aJ.enc ev er (step x)) (hy:Nat.blt c.g yB=true:=by rfl) (Uw:es = [.ret]:=by rfl) (Jg:gT P fs:=by exact gT.nil):c.Ok P:=
 ata (cfg:=iK P ps ls mt fz eg fs) je.pc (Wz hP hm (WA hP hm Jg) og) hy (fun _ _=>by rw [hF]) jN (fun x y h=>by rw [wy x,h]; rfl) Uw
theorem aJ.anI {X:Type} {step:X->aJ X} {I:Nat->X->Prop} {Q:aq->X->Prop} {n:Nat}
  (h:∀ j x,j<=n->I j x->(∃ x',step x = .next x'/\j < n/\I (j+1) x')\/∃ e x',step x = .out e x'/\yM e=false/\Q e x') :
  ∀ (r j:Nat) (x:X),j+r=n->I j x->∀ N,r < N->∃ e x',aJ.go step N x = .out e x'/\Q e x'
 | r,j,x,hj,hI,0,hN=>by omega
 | r,j,x,hj,hI,N+1,hN=>by
  rcases h j x (by omega) hI with ⟨x',h1,h2,h3⟩ | ⟨e,x',h1,h2,h3⟩
  ·obtain ⟨r',rfl⟩:∃ r',r=r' + 1:=⟨r - 1,by omega⟩
   obtain ⟨e,y,h4,h5⟩:=aJ.anI h r' (j+1) x' (by omega) h3 N (by omega);exact ⟨e,y,by simp only [aJ.go,h1,h4],h5⟩
  ·exact ⟨e,x',by simp only [aJ.go,h1,h2,aw],h3⟩
theorem bn {X:Type} {step:X->aJ X} (I:Nat->X->Prop) (Q:aq->X->Prop) (n:Nat) (hn:n < gd)
  (h:∀ j x,j<=n->I j x->(∃ x',step x = .next x'/\j < n/\I (j+1) x')\/∃ e x',step x = .out e x'/\yM e=false/\Q e x') {x:X} (h0:I 0 x) :
  ∃ e x',goN step x = .out e x'/\Q e x':=aJ.anI h n 0 x (by omega) h0 gd hn
theorem aJ.kO {X:Type} (e:aq) (x:X) (e' : aq):(aJ.out e x).by e' = gj e e':=rfl
theorem aJ.lG {X:Type} [Inhabited X] (e:aq) (x:X):(aJ.out e x).st=x:=rfl
theorem Dl {n:Int} (h : -9223372036854775808<=n) (h' : n < 9223372036854775808):ak n=n:=by
 show IntKind.wrap .i64 n=n;unfold IntKind.wrap;by_cases hn:0<=n
 ·have h1:n % (2 ^ IntKind.i64.bits:Int)=n:=Int.emod_eq_of_lt hn (by show n < 18446744073709551616; omega)
  simp only [h1];rw [ay];intro hc;simp only [aD,lA] at hc;have:n >= 9223372036854775808:=hc.2;omega
 ·have h1:n % (2 ^ IntKind.i64.bits:Int)=n+18446744073709551616:=by
   show n % 18446744073709551616=n+18446744073709551616;omega
  simp only [h1];rw [aV]
  ·show n+18446744073709551616 - 18446744073709551616=n
   omega
  ·simp only [aD,lA]
   refine ⟨rfl,?_⟩;show n+18446744073709551616 >= 9223372036854775808;omega
theorem vc {b n m:Nat} (hb:b<=1000000) (hn:n<=1000000) (hm:m<=1000000) (h:0 < m\/n=0):ij b n m=true:=by
 unfold ij;simp only [aD,uR];refine ⟨⟨Nat.ble_eq_true_of_le ?_,Nat.ble_eq_true_of_le (by omega)⟩,?_⟩
 ·calc (n+m+512) * b<=2000512 * 1000000:=Nat.mul_le_mul (by omega) hb
   _<=17592186044416:=by decide
 ·rcases h with h | h
  ·exact .inl (by rw [bZ]; exact h)
  ·exact .inr (by subst h; rfl)
@[simp] theorem aG (n:Nat):ik n n=true:=mK n
theorem Sl.RQ {α:Type} [Inhabited α] (s:Sl α) (v:α):(s.push v).n=s.n+1:=rfl
theorem Sl.acI {α:Type} [Inhabited α] {s:Sl α} {v:α} {i:Nat} (h:i < s.n):(s.push v).get i=s.get i:=by
 have:Nat.blt i s.n=true:=by rw [bZ]; exact h
 simp only [Sl.push,this,ai]
theorem Sl.acJ {α:Type} [Inhabited α] {s:Sl α} {v:α} : (s.push v).get s.n=v:=by
 have:Nat.blt s.n s.n=false:=by
  cases h:Nat.blt s.n s.n with
  | false=>rfl
  | true=>rw [bZ] at h; omega
 simp only [Sl.push,this,aw,mK,ai]
end Go.K
end
section
namespace Go.K.hY
variable {α:Type}
def b2 (b:Bool):Nat:=cond b 1 0
def xT (p:α->Bool) (d:Nat->α) (a:Nat):Nat->Nat
 | 0=>0
 | k+1=>xT p d a k+b2 (p (d (a+k)))
theorem tM {p:α->Bool} {d d' : Nat->α} {a b:Nat} : ∀ {k:Nat},(∀ i,i < k->d (a+i)=d' (b+i))->xT p d a k=xT p d' b k
 | 0,_=>rfl
 | k+1,h=>by
  rw [xT,xT,tM (k:=k) fun i hi=>h i (by omega),h k (by omega)]
theorem tN {p:α->Bool} {d:Nat->α} {a k:Nat} : ∀ (l:Nat),xT p d a (k+l)=xT p d a k+xT p d (a+k) l
 | 0=>by simp [xT]
 | l+1=>by
  show xT p d a (k+l)+b2 (p (d (a+(k+l))))=xT p d a k+(xT p d (a+k) l+b2 (p (d (a+k+l))));rw [tN l,HL a k l];omega
theorem aaE {p:α->Bool} {d:Nat->α} {a:Nat} : xT p d a 1=b2 (p (d a)):=by simp [xT]
theorem ahS {p:α->Bool} {d:Nat->α} {a:Nat} : ∀ {k:Nat},0 < xT p d a k->∃ i,i < k/\p (d (a+i))=true
 | 0,h=>by simp [xT] at h
 | k+1,h=>by
  rw [xT] at h;cases hp:p (d (a+k)) with
  | true=>exact ⟨k,by omega,hp⟩
  | false=>
   rw [hp] at h;obtain ⟨i,h1,h2⟩:=ahS (k:=k) (by simpa [b2] using h);exact ⟨i,by omega,h2⟩
theorem ahT {p:α->Bool} {d:Nat->α} {a i:Nat} : ∀ {k:Nat},i < k->p (d (a+i))=true->0 < xT p d a k
 | 0,h,_=>by omega
 | k+1,h,hp=>by
  rw [xT];by_cases e:i=k
  ·subst e; rw [hp]; simp [b2]
  ·have:=ahT (k:=k) (by omega) hp
   omega
def Perm (d d' : Nat->α) (a b:Nat):Prop:=(∀ p:α->Bool,xT p d' a (b - a)=xT p d a (b - a))/\∀ i,i < a\/b<=i->d' i=d i
theorem Perm.refl (d:Nat->α) (a b:Nat):Perm d d a b:=⟨fun _=>rfl,fun _ _=>rfl⟩
theorem Perm.trans {d d' d'' : Nat->α} {a b:Nat} (h:Perm d d' a b) (k:Perm d' d'' a b):Perm d d'' a b:=⟨fun p=>(k.1 p).trans (h.1 p),fun i hi=>(k.2 i hi).trans (h.2 i hi)⟩
theorem Perm.wide {d d' : Nat->α} {a b a' b' : Nat} (h:Perm d d' a b) (h1:a'<=a) (h2:a<=b) (h3:b<=b'):Perm d d' a' b':=by
 refine ⟨fun p=>?_,fun i hi=>h.2 i (by omega)⟩;have e:b' - a' = (a - a')+((b - a)+(b' - b)):=by omega
 rw [e,tN,tN,tN (d:=d),tN (d:=d)];rw [show a' + (a - a')=a by omega,h.1 p,show a+(b - a)=b by omega];rw [tM (d:=d') (d':=d) (a:=a') (b:=a') fun i hi=>h.2 _ (by omega),tM (d:=d') (d':=d) (a:=b) (b:=b) fun i hi=>h.2 _ (by omega)]
theorem Perm.mem {d d' : Nat->α} {a b:Nat} (h:Perm d d' a b) {i:Nat} (h1:a<=i) (h2:i < b):∃ j,a<=j/\j < b/\d' i=d j:=by
 classical
 have:=ahT (p:=fun x=>decide (x=d' i)) (d:=d') (a:=a) (i:=i - a) (k:=b - a) (by omega) (by simp [show a+(i - a)=i by omega]);rw [h.1] at this;obtain ⟨j,h3,h4⟩:=ahS this;exact ⟨a+j,by omega,by omega,(rl h4).symm⟩
def ins (d:Nat->α) (j i:Nat):Nat->α:=fun t=>if t < j then d t else if t=j then d i else if t<=i then d (t - 1) else d t
theorem Dm {d:Nat->α} {j i t:Nat} (h:t < j):ins d j i t=d t:=by simp [ins,h]
theorem Nk {d:Nat->α} {j i:Nat} : ins d j i j=d i:=by simp [ins]
theorem PN {d:Nat->α} {j i t:Nat} (h:j < t) (h2:t<=i):ins d j i t=d (t - 1):=by
 rw [ins,ay (by omega),ay (by omega),aV h2]
theorem af8 {d:Nat->α} {j i t:Nat} (h:j<=i) (h2:i < t):ins d j i t=d t:=by
 rw [ins,ay (by omega),ay (by omega),ay (by omega)]
theorem akt {d:Nat->α} {i:Nat} : ins d i i=d:=by
 funext t;by_cases h:t < i
 ·exact Dm h
 ·by_cases e:t=i
  ·subst e; exact Nk
  ·exact af8 (aW _) (by omega)
theorem aku {d:Nat->α} {a j i:Nat} (h1:a<=j) (h2:j<=i):Perm d (ins d j i) a (i+1):=by
 refine ⟨fun p=>?_,fun t ht=>?_⟩
 ·have e:i+1 - a=(j - a)+(1+(i - j)):=by omega
  have e2:i+1 - a=(j - a)+((i - j)+1):=by omega
  rw [e,tN,tN,aaE,show a+(j - a)=j by omega,Nk];rw [<- e,e2,tN,tN (k:=i - j),aaE,show a+(j - a)=j by omega,show j+(i - j)=i by omega];rw [tM (d:=ins d j i) (d':=d) (a:=a) (b:=a) fun t ht=>Dm (by omega),tM (d:=ins d j i) (d':=d) (a:=j+1) (b:=j) fun t ht=>by rw [PN (by omega) (by omega)]; congr 1; omega];omega
 ·rcases ht with ht | ht
  ·exact Dm (by omega)
  ·exact af8 h2 (by omega)
theorem akv {d:Nat->α} {j i t:Nat} (h:j<=i) (h1:1<=j):ins d (j - 1) i t=if t=j - 1 then ins d j i j else if t=j then ins d j i (j - 1) else ins d j i t:=by
 by_cases e:t=j - 1
 ·subst e; rw [aV rfl,Nk,Nk]
 ·rw [ay e]
  by_cases e2:t=j
  ·subst e2; rw [aV rfl,PN (by omega) h,Dm (by omega)]
  ·rw [ay e2]
   by_cases e3:t < j
   ·rw [Dm (by omega),Dm e3]
   ·by_cases e4:t<=i
    ·rw [PN (by omega) e4,PN (by omega) e4]
    ·rw [af8 (by omega) (by omega),af8 h (by omega)]
def PO (d:Nat->α) (a k:Nat):Nat->α:=fun t=>if t < a then d t else if t < k then d (t+1) else if t=k then d a else d t
theorem af9 {d:Nat->α} {a k t:Nat} (h:t < a):PO d a k t=d t:=by simp [PO,h]
theorem IC {d:Nat->α} {a k t:Nat} (h:a<=t) (h2:t < k):PO d a k t=d (t+1):=by
 rw [PO,ay (by omega),aV h2]
theorem WB {d:Nat->α} {a k:Nat} (h:a<=k):PO d a k k=d a:=by
 rw [PO,ay (by omega),ay (by omega),aV rfl]
theorem RR {d:Nat->α} {a k t:Nat} (h:a<=k) (h2:k < t):PO d a k t=d t:=by
 rw [PO,ay (by omega),ay (by omega),ay (by omega)]
theorem aro {d:Nat->α} {a:Nat} : PO d a a=d:=by
 funext t;by_cases h:t < a
 ·exact af9 h
 ·by_cases e:t=a
  ·subst e; exact WB (aW _)
  ·exact RR (aW _) (by omega)
theorem arp {d:Nat->α} {a k:Nat} (h:a<=k):Perm d (PO d a k) a (k+1):=by
 refine ⟨fun p=>?_,fun t ht=>?_⟩
 ·have e:k+1 - a=(k - a)+1:=by omega
  have e2:k+1 - a=1+(k - a):=by omega
  rw [e,tN,aaE,show a+(k - a)=k by omega,WB h,<- e,e2,tN,aaE];rw [tM (d:=PO d a k) (d':=d) (a:=a) (b:=a+1) fun t ht=>by rw [IC (by omega) (by omega)]; congr 1; omega];omega
 ·rcases ht with ht | ht
  ·exact af9 ht
  ·exact RR h (by omega)
theorem arq {d:Nat->α} {a k t:Nat} (h:a<=k):PO d a (k+1) t=if t=k then PO d a k (k+1) else if t=k+1 then PO d a k k else PO d a k t:=by
 by_cases e:t=k
 ·subst e; rw [aV rfl,IC h (by omega),RR h (by omega)]
 ·rw [ay e]
  by_cases e2:t=k+1
  ·subst e2; rw [aV rfl,WB (by omega),WB h]
  ·rw [ay e2]
   by_cases e3:t < a
   ·rw [af9 e3,af9 e3]
   ·by_cases e4:t < k
    ·rw [IC (by omega) (by omega),IC (by omega) e4]
    ·rw [RR (by omega) (by omega),RR h (by omega)]
def Ky (d:Nat->α) (a m b:Nat):Nat->α:=fun t=>if t < a then d t else if t < a+(b - m) then d (t+(m - a)) else if t < b then d (t - (b - m)) else d t
theorem PQ {d:Nat->α} {a m b t:Nat} (h1:a<=m) (h2:m<=b) (h:t < a\/b<=t):Ky d a m b t=d t:=by
 rcases h with h | h
 ·simp [Ky,h]
 ·rw [Ky,ay (by omega),ay (by omega),ay (by omega)]
theorem WC {d:Nat->α} {a m b t:Nat} (h1:a<=t) (h2:t < a+(b - m)):Ky d a m b t=d (t+(m - a)):=by
 rw [Ky,ay (by omega),aV h2]
theorem RS {d:Nat->α} {a m b t:Nat} (h1:a+(b - m)<=t) (h2:t < b):Ky d a m b t=d (t - (b - m)):=by
 rw [Ky,ay (by omega),ay (by omega),aV h2]
theorem art {d:Nat->α} {a m b:Nat} (h1:a<=m) (h2:m<=b):Perm d (Ky d a m b) a b:=by
 refine ⟨fun p=>?_,fun t ht=>PQ h1 h2 ht⟩;have e:b - a=(b - m)+(m - a):=by omega
 have e2:b - a=(m - a)+(b - m):=by omega
 rw [e,tN,<- e,e2,tN,show a+(m - a)=m by omega];rw [tM (d:=Ky d a m b) (d':=d) (a:=a) (b:=m) fun t ht=>by rw [WC (by omega) (by omega)]; congr 1; omega,tM (d:=Ky d a m b) (d':=d) (a:=a+(b - m)) (b:=a) fun t ht=>by rw [RS (by omega) (by omega)]; congr 1; omega];omega
structure Ord (α:Type) where
 key:α->Int
 ic:α->α->Prop
def Ord.lt (o:Ord α) (x y:α):Prop:=o.key x < o.key y\/(o.key x=o.key y/\o.ic x y)
theorem Ord.auD {o:Ord α} {x y:α} (h:o.lt x y):o.key x<=o.key y:=by rcases h with h | h <;> omega
theorem Ord.apg {o:Ord α} {x y:α} (h:o.key x<=o.key y) (h0:o.ic x y):o.lt x y:=by
 by_cases e:o.key x=o.key y
 ·exact .inr ⟨e,h0⟩
 ·exact .inl (by omega)
def ia (o:Ord α) (d:Nat->α) (a b:Nat):Prop:=∀ i j,a<=i->i < j->j < b->o.lt (d i) (d j)
def LH (o:Ord α) (d:Nat->α) (a m b:Nat):Prop:=∀ i j,a<=i->i < m->m<=j->j < b->o.ic (d i) (d j)
variable {o:Ord α}
theorem ia.key {d:Nat->α} {a b:Nat} (h:ia o d a b) {i j:Nat} (h1:a<=i) (h2:i<=j) (h3:j < b):o.key (d i)<=o.key (d j):=by
 by_cases e:i=j
 ·subst e; exact Int.le_refl _
 ·exact Ord.auD (h i j h1 (by omega) h3)
theorem ia.congr {d d' : Nat->α} {a b:Nat} (h:ia o d a b) (e:∀ i,a<=i->i < b->d' i=d i):ia o d' a b:=fun i j h1 h2 h3=>by
 rw [e i h1 (by omega),e j (by omega) h3]; exact h i j h1 h2 h3
theorem ia.one {d:Nat->α} {a b:Nat} (h:b<=a+1):ia o d a b:=fun i j h1 h2 h3=>by omega
theorem aey {d:Nat->α} {a j i:Nat} (hs:ia o d a i) (hc:LH o d a i (i+1)) (h1:a<=j) (h2:j<=i) (hl:∀ s,a<=s->s < j->o.key (d s)<=o.key (d i)) (hr:∀ t,j<=t->t < i->o.key (d i) < o.key (d t)):ia o (ins d j i) a (i+1):=by
 intro s t q1 q2 q3;by_cases ht:t < j
 ·rw [Dm ht,Dm (by omega)]
  exact hs s t q1 q2 (by omega)
 ·by_cases PA:t=j
  ·subst PA
   rw [Nk,Dm q2];exact Ord.apg (hl s q1 q2) (hc s i q1 (by omega) (aW _) (by omega))
  ·rw [PN (t:=t) (by omega) (by omega)]
   by_cases h3:s < j
   ·rw [Dm h3]; exact hs s (t - 1) q1 (by omega) (by omega)
   ·by_cases h4:s=j
    ·subst h4; rw [Nk]; exact .inl (hr (t - 1) (by omega) (by omega))
    ·rw [PN (t:=s) (by omega) (by omega)]; exact hs (s - 1) (t - 1) (by omega) (by omega) (by omega)
theorem anJ {d:Nat->α} {a i b:Nat} (hs:ia o d (a+1) b) (hc:LH o d a (a+1) b) (h1:a+1<=i) (h2:i<=b) (hl:∀ t,a+1<=t->t < i->o.key (d t) < o.key (d a)) (hr:∀ t,i<=t->t < b->o.key (d a)<=o.key (d t)):ia o (PO d a (i - 1)) a b:=by
 intro s t q1 q2 q3;by_cases ht:t < i - 1
 ·rw [IC (by omega) ht,IC q1 (by omega)]
  exact hs _ _ (by omega) (by omega) (by omega)
 ·by_cases PA:t=i - 1
  ·subst PA
   rw [WB (by omega),IC q1 q2];exact .inl (hl _ (by omega) (by omega))
  ·rw [RR (t:=t) (by omega) (by omega)]
   by_cases h3:s < i - 1
   ·rw [IC q1 h3]; exact hs _ _ (by omega) (by omega) q3
   ·by_cases h4:s=i - 1
    ·subst h4; rw [WB (by omega)]; exact Ord.apg (hr t (by omega) q3) (hc a t (aW _) (by omega) (by omega) q3)
    ·rw [RR (t:=s) (by omega) (by omega)]; exact hs _ _ (by omega) q2 q3
structure Split (o:Ord α) (D:Nat->α) (a s cM e b:Nat):Prop where
 l1:ia o D a s
 l2:ia o D s cM
 l0:LH o D a s cM
 r1:ia o D cM e
 r2:ia o D e b
 r0:LH o D cM e b
 lr:∀ i j,a<=i->i < cM->cM<=j->j < b->o.lt (D i) (D j)
theorem aph {d:Nat->α} {a s cM m e b:Nat} (h1:ia o d a m) (h2:ia o d m b) (hc:LH o d a m b) (q1:a<=s) (q2:s<=m) (q3:m<=e) (q4:e<=b) (q5:e+s=cM+m) (hL:∀ i j,a<=i->i < s->e<=j->j < b->o.key (d i)<=o.key (d j)) (hR:∀ i j,s<=i->i < m->m<=j->j < e->o.key (d j) < o.key (d i)) :
  Split o (Ky d s m e) a s cM e b:=by
 have v1:∀ t,t < s->Ky d s m e t=d t:=fun t h=>PQ q2 q3 (.inl h);have v2:∀ t,s<=t->t < cM->Ky d s m e t=d (t+(m - s)):=fun t h h'=>WC h (by omega);have v3:∀ t,cM<=t->t < e->Ky d s m e t=d (t - (e - m)):=fun t h h'=>RS (by omega) h';have v4:∀ t,e<=t->Ky d s m e t=d t:=fun t h=>PQ q2 q3 (.inr h);refine ⟨fun i j p1 p2 p3=>?_,fun i j p1 p2 p3=>?_,fun i j p1 p2 p3 p4=>?_,fun i j p1 p2 p3=>?_,fun i j p1 p2 p3=>?_,fun i j p1 p2 p3 p4=>?_,fun i j p1 p2 p3 p4=>?_⟩
 ·rw [v1 i (by omega),v1 j p3]; exact h1 i j p1 p2 (by omega)
 ·rw [v2 i p1 (by omega),v2 j (by omega) p3]; exact h2 _ _ (by omega) (by omega) (by omega)
 ·rw [v1 i p2,v2 j p3 p4]; exact hc _ _ p1 (by omega) (by omega) (by omega)
 ·rw [v3 i p1 (by omega),v3 j (by omega) p3]; exact h1 _ _ (by omega) (by omega) (by omega)
 ·rw [v4 i p1,v4 j (by omega)]; exact h2 _ _ (by omega) p2 p3
 ·rw [v3 i p1 p2,v4 j p3]; exact hc _ _ (by omega) (by omega) (by omega) p4
 ·by_cases hi:i < s
  ·rw [v1 i hi]
   by_cases hj:j < e
   ·rw [v3 j p3 hj]; exact h1 _ _ p1 (by omega) (by omega)
   ·rw [v4 j (by omega)]; exact Ord.apg (hL i j p1 hi (by omega) p4) (hc i j p1 (by omega) (by omega) p4)
  ·rw [v2 i (by omega) p2]
   by_cases hj:j < e
   ·rw [v3 j p3 hj]; exact .inl (hR _ _ (by omega) (by omega) (by omega) (by omega))
   ·rw [v4 j (by omega)]; exact h2 _ _ (by omega) (by omega) p4
theorem alD {D D2 D3:Nat->α} {a cM b:Nat} (h:∀ i j,a<=i->i < cM->cM<=j->j < b->o.lt (D i) (D j)) (p1:Perm D D2 a cM) (s1:ia o D2 a cM) (p2:Perm D2 D3 cM b) (s2:ia o D3 cM b):ia o D3 a b:=by
 intro i j q1 q2 q3;by_cases hj:j < cM
 ·rw [p2.2 i (.inl (by omega)),p2.2 j (.inl hj)]; exact s1 i j q1 q2 hj
 ·by_cases hi:i < cM
  ·rw [p2.2 i (.inl hi)]
   obtain ⟨i',r1,r2,e1⟩:=p1.mem q1 hi;obtain ⟨j',r3,r4,e2⟩:=p2.mem (i:=j) (by omega) q3;rw [e1,e2,p1.2 j' (.inr r3)];exact h i' j' r1 r2 r3 r4
  ·exact s2 i j (by omega) q2 q3
theorem XX {d:Nat->α} {a s s0 r0 cM m b:Nat} (h1:ia o d a m) (h2:ia o d m b) (q1:a<=s) (q2:s<=m) (q3:m+s<=cM+m) (q4:cM+m<=b+s) (hs:(s=s0/\(s0=a\/cM+m=b+s0))\/(a < s/\cM+m < b+s/\o.key (d (s - 1))<=o.key (d (cM+m - s)))) (hr:(s=r0/\(r0=m\/r0=cM))\/(s < m/\s < cM/\o.key (d (cM+m - 1 - s)) < o.key (d s))) :
  (∀ i j,a<=i->i < s->cM+m - s<=j->j < b->o.key (d i)<=o.key (d j))/\∀ i j,s<=i->i < m->m<=j->j < cM+m - s->o.key (d j) < o.key (d i):=by
 constructor
 ·intro i j p1 p2 p3 p4
  rcases hs with ⟨e,h | h⟩ | ⟨e1,e2,e3⟩
  ·omega
  ·omega
  ·have k1:=h1.key (i:=i) (j:=s - 1) p1 (by omega) (by omega)
   have k2:=h2.key (i:=cM+m - s) (j:=j) (by omega) p3 p4;omega
 ·intro i j p1 p2 p3 p4
  rcases hr with ⟨e,h | h⟩ | ⟨e1,e2,e3⟩
  ·omega
  ·omega
  ·have k1:=h1.key (i:=s) (j:=i) q1 p1 p2
   have k2:=h2.key (i:=j) (j:=cM+m - 1 - s) p3 (by omega) (by omega);omega
def akw (o:Ord α) (g:Nat->α) (n:Nat):Prop:=∀ i j,i < j->j < n->o.ic (g i) (g j)
theorem aez {d g:Nat->α} {a k:Nat} (h:∀ p:α->Bool,xT p d a k=xT p g a k) {i:Nat} (h1:a<=i) (h2:i < a+k):∃ j,a<=j/\j < a+k/\d i=g j:=by
 classical
 have:=ahT (p:=fun x=>decide (x=d i)) (d:=d) (a:=a) (i:=i - a) (k:=k) (by omega) (by simp [show a+(i - a)=i by omega]);rw [h] at this;obtain ⟨j,h3,h4⟩:=ahS this;exact ⟨a+j,by omega,by omega,(rl h4).symm⟩
theorem akx {d g:Nat->α} {a m b n:Nat} (hg:akw o g n) (hb:b<=n) (h1:a<=m) (h2:m<=b) (c1:∀ p:α->Bool,xT p d a (m - a)=xT p g a (m - a)) (c2:∀ p:α->Bool,xT p d m (b - m)=xT p g m (b - m)):LH o d a m b:=by
 intro i j q1 q2 q3 q4;obtain ⟨i',r1,r2,e1⟩:=aez c1 q1 (by omega);obtain ⟨j',r3,r4,e2⟩:=aez c2 q3 (by omega);rw [e1,e2];exact hg i' j' (by omega) (by omega)
end Go.K.hY
end
section
namespace Go.Proofs.YtchbpckkmgcgkaaGreat.b
open Go.K
theorem funcs:Tryz.prog.funcs.toList.all aF.qx=true:=by kernel_rfl
theorem mixed:Tryz.prog.follows .mixedOrders=true:=by kernel_rfl
noncomputable abbrev PG:Program:=Tryz.prog
noncomputable abbrev g0 (T:TypeId) (v:KV):KV:=vA PG (eJ PG iU) T v
abbrev bj (i:Int) (n:Nat):Bool:=(decide (0<=i))&&(decide (i < (n:Int)))
abbrev aC (n:Nat):Bool:=ik n n
abbrev nm (b n m:Nat):Bool:=(ik n n)&&(ij b n m)
theorem bM {R:Type} [Inhabited R] {k:R->KV} {r:List KV->Option R} {g:FuncId} {ps:List (Nat×(List KV->KR KV))} {ls:List Lp} {mt:TypeId->Bool} {fz eg:Bool} {a:(Nat->KV)->List KV} {q:(Nat->KV)->Option R} (je:ao PG ps) (og:aL PG ls)
  (hr:∀ w,zW PG (iK PG ps ls mt fz eg) 9 9 g (a w)=(q w).map k) (h:∀ w,Ac PG (gw PG g) w 0=a w/\r (a w)=q w:=by exact fun w=>⟨by kernel_rfl,by kernel_rfl⟩) (hy:Nat.blt g aF.yB=true:=by rfl):a9 PG g (bd PG g (bg k r)):=
 aex funcs mixed je og (L:=9) (n:=9) (fun w=>by rw [(h w).1,(h w).2]; exact hr w) hy
theorem tl {l:Lp} {X:Type} [Inhabited X] {ps:List (Nat×(List KV->KR KV))} {ls:List Lp} {mt:TypeId->Bool} {fz eg:Bool} {step:X->aJ X} {ev:X->List KV} {er:X->List (List KV)} {es:List aF.aq} {pa:List KV->List (List KV)->X} (je:ao PG ps) (og:aL PG ls)
  (wy:∀ x,Dk PG (iK PG ps ls mt fz eg) 9 9 l.f l.p (pn PG l.f l.p) l.S (ev x) (er x)=aJ.enc ev er (step x)) (hF:l.F=fun vs rs=>bT ev er (goN step (pa vs rs)) es:=by rfl)
  (jN:∀ wv wr,ev (pa (mP PG l.S.eI wv 0) (mQ PG l.S.rows wr 0))=mP PG l.S.eI wv 0/\er (pa (mP PG l.S.eI wv 0) (mQ PG l.S.rows wr 0))=mQ PG l.S.rows wr 0:=by exact fun wv wr=>⟨by kernel_rfl,by kernel_rfl⟩) (hs:l.st=false:=by rfl):l.Ok PG:=
 U0 funcs mixed je og (L:=9) (n:=9) hF jN wy gT.nil hs
theorem hH {l:Lp} {ls:List Lp} (h:l.Ok PG) (r:aL PG ls) (t:GZ PG l.f l.p=true:=by kernel_rfl):aL PG (l::ls):=aL.cons h t r
noncomputable abbrev hJ (ps:List (Nat×(List KV->KR KV))) (ls:List Lp) (g:FuncId) (a:List KV):Option KV:=zW PG (iK PG ps ls) 9 9 g a
noncomputable abbrev uj (ps:List (Nat×(List KV->KR KV))) (ls:List Lp) (f p:Nat) (S:aQ):=Dk PG (iK PG ps ls) 9 9 f p (pn PG f p) S
abbrev v9 (vs:List KV) (i:Nat):KV:=vs.getD i .bG
abbrev r9 (rs:List (List KV)) (i k:Nat):KV:=(rs.getD i []).getD k .bG
abbrev i9:CD:=.k (.int .i64)
abbrev u9:CD:=.k (.int .u8)
abbrev b9:CD:=.k .bool
abbrev n9 (T:TypeId):CD:=.k (.slice T)
abbrev w9 (c:CD):VD:=⟨false,[c]⟩
end Go.Proofs.YtchbpckkmgcgkaaGreat.b
end
section
namespace Go.Proofs.YtchbpckkmgcgkaaGreat.b
open Go.K
noncomputable section
def cR (a:Int) (b:Int):Option (Int×Int):=(cond (decide (b < 1)) (some (0,2)) (cond (!(decide (b=0))) (cond (!(decide (b=0))) (cond (decide ((Int.tmod a b) < 0)) (some ((ak ((ak (Int.tdiv a b)) - 1)),0)) (some ((ak (Int.tdiv a b)),0))) none) none))
theorem acK (a:Int) (b:Int):hJ [] [] 148 [(kI .i64) a,(kI .i64) b] = (cR a b).map (fun (r:Int×Int)=>KV.lP [(kI .i64) r.1,(kI .i64) r.2]):=by
 unfold cR
 try simp only [aY,acH,arl,UZ,ate,atf,atg,ath,ati,ape,apf,arn,atj,ark,apd,anH]
 kernel_rfl
def Ad:List KV->KR KV:=bd PG 148 (bg (fun (r:Int×Int)=>KV.lP [(kI .i64) r.1,(kI .i64) r.2]) fun vs=>cR (intOf (v9 vs 0)) (intOf (v9 vs 1)))
theorem zn:a9 PG 148 Ad:=bM ao.nil aL.nil fun w=>acK (intOf (g0 3 (w 0))) (intOf (g0 3 (w 1)))
structure iP where
 x:Int
 y:Int
 z:Int
instance:Inhabited iP:=⟨⟨default,default,default⟩⟩
def awR (x:iP):List KV:=[.int .i64 x.x,.int .i64 x.y,.int .i64 x.z]
def rf (x:iP):KV:=.agg (awR x)
def awS (c:Nat->KV):iP:=⟨intOf (c 0),intOf (c 1),intOf (c 2)⟩
def rN (v:KV):iP:=awS fun k=>v.cells.getD k .bG
structure bK where
 p:iP
 u:Int
 v:Int
instance:Inhabited bK:=⟨⟨default,default,default⟩⟩
def auE (x:bK):List KV:=[.int .i64 x.p.x,.int .i64 x.p.y,.int .i64 x.p.z,.int .i64 x.u,.int .i64 x.v]
def pN (x:bK):KV:=.agg (auE x)
def auF (c:Nat->KV):bK:=⟨⟨intOf (c 0),intOf (c 1),intOf (c 2)⟩,intOf (c 3),intOf (c 4)⟩
def kP (v:KV):bK:=auF fun k=>v.cells.getD k .bG
theorem acL (x:bK):kP (pN x)=x:=rfl
theorem aky:kP .bG=default:=rfl
theorem aeA (s:Sl bK) (v:bK):s.push v=kX kP (s.n+1) (dS s.n (fun i=>pN (s.get i)) (qy [pN v])):=(yN acL aky s v).symm
theorem api (l:List bK):Sl.lit l=kX kP l.length (qy (l.map pN)):=(ahP acL aky l).symm
theorem ahU (m n n' : Nat) (acc hO:Nat->KV):kX kP m (dS n (fun i=>pN ((kX kP n' acc).get i)) hO)=kX kP m (dS n acc hO):=anF acL ..
def kY (p:bK):Option (Int):=(cond (decide (p.p.x < (-(32768:Int)))) (some (8)) (cond (decide (p.p.x > 32768)) (some (8)) (cond (decide (p.p.y < (-(32768:Int)))) (some (8)) (cond (decide (p.p.y > 32768)) (some (8)) (cond (decide (p.p.z < (-(32768:Int)))) (some (8)) (cond (decide (p.p.z > 32768)) (some (8)) (cond (decide (p.u < 0)) (some (8)) (cond (decide (p.u > 255)) (some (8)) (cond (decide (p.v < 0)) (some (8)) (cond (decide (p.v > 255)) (some (8)) (some (0))))))))))))
theorem ae6 (p:bK):hJ [] [] 162 [pN p] = (kY p).map (kI .i64):=by
 unfold kY
 try simp only [aY]
 kernel_rfl
def vE:List KV->KR KV:=bd PG 162 (bg (kI .i64) fun vs=>kY (kP (v9 vs 0)))
theorem tq:a9 PG 162 vE:=bM ao.nil aL.nil fun w=>ae6 (kP (g0 177 (w 0)))
structure pO where
 low:Int
 high:Int
 t6:Bool
 t9:(Sl Int)
 t10:Int
 t11:Int
instance:Inhabited pO:=⟨by constructor<;>exact default⟩
def DL (x:pO):List KV:=[.int .i64 x.low,.int .i64 x.high,.bool x.t6,fL 3 (kI .i64) x.t9,.int .i64 x.t10,.int .i64 x.t11]
def DM (x:pO):List (List KV):=[]
def LI (vs:List KV) (rs:List (List KV)):pO:=⟨intOf (v9 vs 0),intOf (v9 vs 1),kN (v9 vs 2),fg intOf (v9 vs 3),intOf (v9 vs 4),intOf (v9 vs 5)⟩
def Nl:aQ:=⟨[(0,w9 i9),(1,w9 i9),(6,w9 b9),(9,w9 (n9 3)),(10,w9 i9),(11,w9 i9)],[],[]⟩
def Y5:=uj [] [] 214 26 Nl
def oS (x:pO):aJ pO:=(cond (decide (x.t11 < x.t10)) (cond (bj x.t11 x.t9.n) (cond (decide ((x.t9.get (Int.toNat x.t11)) < x.low)) (.out aF.aq.ret ⟨x.low,x.high,false,x.t9,x.t10,x.t11⟩) (cond (decide ((x.t9.get (Int.toNat x.t11)) > x.high)) (.out aF.aq.ret ⟨x.low,x.high,false,x.t9,x.t10,x.t11⟩) (.next ⟨x.low,x.high,x.t6,x.t9,x.t10,(ak (x.t11+1))⟩))) .fail) (.out (aF.aq.exit 0) x))
theorem U3 (x:pO):Y5 (DL x) (DM x)=aJ.enc DL DM (oS x):=by
 unfold oS bj
 try simp only [aJ.bz]
 kernel_rfl
def Nm:Lp:=⟨214,26,Nl,fun vs rs=>bT DL DM (goN oS (LI vs rs)) [aF.aq.exit 0,aF.aq.ret],false⟩
theorem Y6:Nm.Ok PG:=tl ao.nil aL.nil (pa:=LI) U3
def Bn (low:Int) (high:Int) (l:(Sl Int)):=goN oS ⟨low,high,false,l,(l.n:Int),0⟩
def rC (low:Int) (high:Int) (l:(Sl Int)):Option (Bool):=(cond ((Bn low high l).by (aF.aq.exit 0)) (some (true)) (cond ((Bn low high l).by aF.aq.ret) (some ((Bn low high l).st.t6)) none))
theorem acM (low:Int) (high:Int) (l:(Sl Int)):hJ [] [Nm] 214 [(kI .i64) low,(kI .i64) high,(fL 3 (kI .i64)) l] = (rC low high l).map kB:=by
 unfold rC
 try simp only [aY]
 kernel_rfl
def U4:List KV->KR KV:=bd PG 214 (bg kB fun vs=>rC (intOf (v9 vs 0)) (intOf (v9 vs 1)) ((fg intOf) (v9 vs 2)))
theorem aaF:a9 PG 214 U4:=bM ao.nil (hH Y6 aL.nil) fun w=>acM (intOf (g0 3 (w 0))) (intOf (g0 3 (w 1))) ((fg intOf) (g0 66 (w 2)))
structure oT where
 x:Int
 y:Int
 d:Int
 u:Int
 v:Int
instance:Inhabited oT:=⟨⟨default,default,default,default,default⟩⟩
def avO (x:oT):List KV:=[.int .i64 x.x,.int .i64 x.y,.int .i64 x.d,.int .i64 x.u,.int .i64 x.v]
def Fl (x:oT):KV:=.agg (avO x)
def avP (c:Nat->KV):oT:=⟨intOf (c 0),intOf (c 1),intOf (c 2),intOf (c 3),intOf (c 4)⟩
def Jh (v:KV):oT:=avP fun k=>v.cells.getD k .bG
def Dn (s:oT):=rC (-(131072:Int)) 131072 (Sl.lit [s.x,s.y])
def Dp (s:oT):=rC 1 65536 (Sl.lit [s.d])
def Dq (s:oT):=rC 0 255 (Sl.lit [s.u,s.v])
def sZ (s:oT):Option (Int):=(cond (Dn s).isSome (cond (!((Dn s).getD default)) (some (8)) (cond (Dp s).isSome (cond (!((Dp s).getD default)) (some (8)) (cond (Dq s).isSome (cond (!((Dq s).getD default)) (some (8)) (some (0))) none)) none)) none)
theorem ae7 (s:oT):hJ [(214,U4)] [] 203 [Fl s] = (sZ s).map (kI .i64):=by
 unfold sZ
 try simp only [aY,Dn,Dp,Dq,UZ]
 kernel_rfl
def XY:List KV->KR KV:=bd PG 203 (bg (kI .i64) fun vs=>sZ (Jh (v9 vs 0)))
theorem acN:a9 PG 203 XY:=bM (ao.cons aaF ao.nil) aL.nil fun w=>ae7 (Jh (g0 61 (w 0)))
structure aK where
 e0:oT
 e1:oT
 e2:oT
instance:Inhabited aK:=⟨⟨default,default,default⟩⟩
def aru (x:aK):List KV:=[.int .i64 x.e0.x,.int .i64 x.e0.y,.int .i64 x.e0.d,.int .i64 x.e0.u,.int .i64 x.e0.v,.int .i64 x.e1.x,.int .i64 x.e1.y,.int .i64 x.e1.d,.int .i64 x.e1.u,.int .i64 x.e1.v,.int .i64 x.e2.x,.int .i64 x.e2.y,.int .i64 x.e2.d,.int .i64 x.e2.u,.int .i64 x.e2.v]
def gx (x:aK):KV:=.agg (aru x)
def arv (c:Nat->KV):aK:=⟨⟨intOf (c 0),intOf (c 1),intOf (c 2),intOf (c 3),intOf (c 4)⟩,⟨intOf (c 5),intOf (c 6),intOf (c 7),intOf (c 8),intOf (c 9)⟩,⟨intOf (c 10),intOf (c 11),intOf (c 12),intOf (c 13),intOf (c 14)⟩⟩
def eM (v:KV):aK:=arv fun k=>v.cells.getD k .bG
theorem anK (x:aK):eM (gx x)=x:=rfl
theorem anL:eM .bG=default:=rfl
theorem XZ (s:Sl aK) (v:aK):s.push v=kX eM (s.n+1) (dS s.n (fun i=>gx (s.get i)) (qy [gx v])):=(yN anK anL s v).symm
def Fm (t:aK):=sZ t.e0
def Fo (t:aK):=sZ t.e1
def Fp (t:aK):=sZ t.e2
def rp (t:aK):Option (Int×Int):=(cond (Fm t).isSome (cond (((Fm t).getD default) != 0) (some (0,((Fm t).getD default))) (cond (Fo t).isSome (cond (((Fo t).getD default) != 0) (some (0,((Fo t).getD default))) (cond (Fp t).isSome (cond (((Fp t).getD default) != 0) (some (0,((Fp t).getD default))) (some ((ak ((ak ((ak (t.e1.x - t.e0.x)) * (ak (t.e2.y - t.e0.y)))) - (ak ((ak (t.e2.x - t.e0.x)) * (ak (t.e1.y - t.e0.y)))))),0))) none)) none)) none)
theorem ahV (t:aK):hJ [(203,XY)] [] 163 [gx t] = (rp t).map (fun (r:Int×Int)=>KV.lP [(kI .i64) r.1,(kI .i64) r.2]):=by
 unfold rp
 try simp only [aY]
 kernel_rfl
def Kz:List KV->KR KV:=bd PG 163 (bg (fun (r:Int×Int)=>KV.lP [(kI .i64) r.1,(kI .i64) r.2]) fun vs=>rp (eM (v9 vs 0)))
theorem Ji:a9 PG 163 Kz:=bM (ao.cons acN ao.nil) aL.nil fun w=>ahV (eM (g0 62 (w 0)))
def oi (t:aK) (cA:Int):=rp t
def rq (t:aK) (cA:Int):Option (Bool×Int):=(cond (oi t cA).isSome (cond (((oi t cA).getD default).snd != 0) (some (false,((oi t cA).getD default).snd)) (cond (cA==0) (some ((((oi t cA).getD default).fst != 0),0)) (cond (cA==1) (some ((decide (((oi t cA).getD default).fst > 0)),0)) (cond (cA==2) (some ((decide (((oi t cA).getD default).fst < 0)),0)) (some (false,2)))))) none)
theorem ae8 (t:aK) (cA:Int):hJ [(163,Kz)] [] 104 [gx t,(kI .u8) cA] = (rq t cA).map (fun (r:Bool×Int)=>KV.lP [kB r.1,(kI .i64) r.2]):=by
 unfold rq
 try simp only [aY]
 kernel_rfl
def Ow:List KV->KR KV:=bd PG 104 (bg (fun (r:Bool×Int)=>KV.lP [kB r.1,(kI .i64) r.2]) fun vs=>rq (eM (v9 vs 0)) (intOf (v9 vs 1)))
theorem PR:a9 PG 104 Ow:=bM (ao.cons Ji ao.nil) aL.nil fun w=>ae8 (eM (g0 62 (w 0))) (intOf (g0 5 (w 1)))
def r8 (t:aK):=rp t
def s4 (t:aK):Option (aK×Int):=(cond (r8 t).isSome (cond (((r8 t).getD default).snd != 0) (some (⟨⟨0,0,0,0,0⟩,⟨0,0,0,0,0⟩,⟨0,0,0,0,0⟩⟩,((r8 t).getD default).snd)) (cond (((r8 t).getD default).fst==0) (some (⟨⟨0,0,0,0,0⟩,⟨0,0,0,0,0⟩,⟨0,0,0,0,0⟩⟩,6)) (cond (decide (((r8 t).getD default).fst < 0)) (some (⟨t.e0,t.e2,t.e1⟩,0)) (some (t,0))))) none)
theorem ae9 (t:aK):hJ [(163,Kz)] [] 105 [gx t] = (s4 t).map (fun (r:aK×Int)=>KV.lP [gx r.1,(kI .i64) r.2]):=by
 unfold s4
 try simp only [aY]
 kernel_rfl
def Ox:List KV->KR KV:=bd PG 105 (bg (fun (r:aK×Int)=>KV.lP [gx r.1,(kI .i64) r.2]) fun vs=>s4 (eM (v9 vs 0)))
theorem PS:a9 PG 105 Ox:=bM (ao.cons Ji ao.nil) aL.nil fun w=>ae9 (eM (g0 62 (w 0)))
structure xX where
 di:Int
 t4:Bool
 t7:(Sl Int)
 t8:Int
 t9:Int
instance:Inhabited xX:=⟨⟨default,default,default,default,default⟩⟩
def Oy (x:xX):List KV:=[.int .i64 x.di,.bool x.t4,fL 3 (kI .i64) x.t7,.int .i64 x.t8,.int .i64 x.t9]
def Oz (x:xX):List (List KV):=[]
def X0 (vs:List KV) (rs:List (List KV)):xX:=⟨intOf (v9 vs 0),kN (v9 vs 1),fg intOf (v9 vs 2),intOf (v9 vs 3),intOf (v9 vs 4)⟩
def aaG:aQ:=⟨[(0,w9 i9),(4,w9 b9),(7,w9 (n9 3)),(8,w9 i9),(9,w9 i9)],[],[]⟩
def ajh:=uj [] [] 177 26 aaG
def uI (x:xX):aJ xX:=(cond (decide (x.t9 < x.t8)) (cond (bj x.t9 x.t7.n) (cond (decide ((x.t7.get (Int.toNat x.t9)) < (ak (0 - x.di)))) (.out aF.aq.ret ⟨x.di,false,x.t7,x.t8,x.t9⟩) (cond (decide ((x.t7.get (Int.toNat x.t9)) > x.di)) (.out aF.aq.ret ⟨x.di,false,x.t7,x.t8,x.t9⟩) (.next ⟨x.di,x.t4,x.t7,x.t8,(ak (x.t9+1))⟩))) .fail) (.out (aF.aq.exit 0) x))
theorem afa (x:xX):ajh (Oy x) (Oz x)=aJ.enc Oy Oz (uI x):=by
 unfold uI bj
 try simp only [aJ.bz]
 kernel_rfl
def aaH:Lp:=⟨177,26,aaG,fun vs rs=>bT Oy Oz (goN uI (X0 vs rs)) [aF.aq.exit 0,aF.aq.ret],false⟩
theorem aji:aaH.Ok PG:=tl ao.nil aL.nil (pa:=X0) afa
def Nn (di:Int) (l:(Sl Int)):=goN uI ⟨di,false,l,(l.n:Int),0⟩
def Em (di:Int) (l:(Sl Int)):Option (Bool):=(cond ((Nn di l).by (aF.aq.exit 0)) (some (true)) (cond ((Nn di l).by aF.aq.ret) (some ((Nn di l).st.t4)) none))
theorem anM (di:Int) (l:(Sl Int)):hJ [] [aaH] 177 [(kI .i64) di,(fL 3 (kI .i64)) l] = (Em di l).map kB:=by
 unfold Em
 try simp only [aY]
 kernel_rfl
def acO:List KV->KR KV:=bd PG 177 (bg kB fun vs=>Em (intOf (v9 vs 0)) ((fg intOf) (v9 vs 1)))
theorem aaI:a9 PG 177 acO:=bM ao.nil (hH aji aL.nil) fun w=>anM (intOf (g0 3 (w 0))) ((fg intOf) (g0 66 (w 1)))
def Fq (v:iP):=Em 4096 (Sl.lit [v.x,v.y,v.z])
def sM (v:iP):Option (Int):=(cond (Fq v).isSome (cond (!((Fq v).getD default)) (some (20)) (some (0))) none)
theorem ahW (v:iP):hJ [(177,acO)] [] 126 [rf v] = (sM v).map (kI .i64):=by
 unfold sM
 try simp only [aY,Fq,UZ]
 kernel_rfl
def Bo:List KV->KR KV:=bd PG 126 (bg (kI .i64) fun vs=>sM (rN (v9 vs 0)))
theorem yu:a9 PG 126 Bo:=bM (ao.cons aaI ao.nil) aL.nil fun w=>ahW (rN (g0 27 (w 0)))
def eD (n:Int) (low:Int) (high:Int):Option (Bool):=(cond (decide (n >= low)) (some ((decide (n<=high)))) (some (false)))
theorem Y7 (n:Int) (low:Int) (high:Int):hJ [] [] 135 [(kI .i64) n,(kI .i64) low,(kI .i64) high] = (eD n low high).map kB:=by
 unfold eD
 try simp only [aY]
 kernel_rfl
def PT:List KV->KR KV:=bd PG 135 (bg kB fun vs=>eD (intOf (v9 vs 0)) (intOf (v9 vs 1)) (intOf (v9 vs 2)))
theorem WZ:a9 PG 135 PT:=bM ao.nil aL.nil fun w=>Y7 (intOf (g0 3 (w 0))) (intOf (g0 3 (w 1))) (intOf (g0 3 (w 2)))
structure jz where
 e0:Int
 e1:Int
 e2:Int
instance:Inhabited jz:=⟨⟨default,default,default⟩⟩
def atk (x:jz):List KV:=[.int .i64 x.e0,.int .i64 x.e1,.int .i64 x.e2]
def tP (x:jz):KV:=.agg (atk x)
def atl (c:Nat->KV):jz:=⟨intOf (c 0),intOf (c 1),intOf (c 2)⟩
def ID (v:KV):jz:=atl fun k=>v.cells.getD k .bG
structure cN where
 e0:jz
 e1:jz
 e2:jz
instance:Inhabited cN:=⟨⟨default,default,default⟩⟩
def anN (x:cN):List KV:=[.int .i64 x.e0.e0,.int .i64 x.e0.e1,.int .i64 x.e0.e2,.int .i64 x.e1.e0,.int .i64 x.e1.e1,.int .i64 x.e1.e2,.int .i64 x.e2.e0,.int .i64 x.e2.e1,.int .i64 x.e2.e2]
def IE (x:cN):KV:=.agg (anN x)
def anO (c:Nat->KV):cN:=⟨⟨intOf (c 0),intOf (c 1),intOf (c 2)⟩,⟨intOf (c 3),intOf (c 4),intOf (c 5)⟩,⟨intOf (c 6),intOf (c 7),intOf (c 8)⟩⟩
def s5 (v:KV):cN:=anO fun k=>v.cells.getD k .bG
structure aE where
 pos:iP
 m:cN
 sN:Int
 ax:Int
 w:Int
 h:Int
instance:Inhabited aE:=⟨by constructor<;>exact default⟩
def wL (x:aE):List KV:=[.int .i64 x.pos.x,.int .i64 x.pos.y,.int .i64 x.pos.z,.int .i64 x.m.e0.e0,.int .i64 x.m.e0.e1,.int .i64 x.m.e0.e2,.int .i64 x.m.e1.e0,.int .i64 x.m.e1.e1,.int .i64 x.m.e1.e2,.int .i64 x.m.e2.e0,.int .i64 x.m.e2.e1,.int .i64 x.m.e2.e2,.int .i64 x.sN,.int .i64 x.ax,.int .i64 x.w,.int .i64 x.h]
def qF (x:aE):KV:=.agg (wL x)
def wM (c:Nat->KV):aE:=⟨⟨intOf (c 0),intOf (c 1),intOf (c 2)⟩,⟨⟨intOf (c 3),intOf (c 4),intOf (c 5)⟩,⟨intOf (c 6),intOf (c 7),intOf (c 8)⟩,⟨intOf (c 9),intOf (c 10),intOf (c 11)⟩⟩,intOf (c 12),intOf (c 13),intOf (c 14),intOf (c 15)⟩
def gZ (v:KV):aE:=wM fun k=>v.cells.getD k .bG
def zo (c:aE):=sM c.pos
def zp (c:aE):=eD c.sN 1 64
def zq (c:aE):=eD c.ax 256 4096
def zr (c:aE):=eD c.w 1 64
def zt (c:aE):=eD c.h 1 64
def zu (c:aE):=eD c.m.e0.e0 (-(256:Int)) 256
def zv (c:aE):=eD c.m.e0.e1 (-(256:Int)) 256
def zw (c:aE):=eD c.m.e0.e2 (-(256:Int)) 256
def zx (c:aE):=eD c.m.e1.e0 (-(256:Int)) 256
def zy (c:aE):=eD c.m.e1.e1 (-(256:Int)) 256
def xY (c:aE):=eD c.m.e1.e2 (-(256:Int)) 256
def xZ (c:aE):=eD c.m.e2.e0 (-(256:Int)) 256
def x4 (c:aE):=eD c.m.e2.e1 (-(256:Int)) 256
def x5 (c:aE):=eD c.m.e2.e2 (-(256:Int)) 256
def jD (c:aE):Option (Int):=(cond (zo c).isSome (cond (((zo c).getD default)==0) (cond (zp c).isSome (cond ((zp c).getD default) (cond (zq c).isSome (cond ((zq c).getD default) (cond (zr c).isSome (cond ((zr c).getD default) (cond (zt c).isSome (cond ((zt c).getD default) (cond (zu c).isSome (cond ((zu c).getD default) (cond (zv c).isSome (cond ((zv c).getD default) (cond (zw c).isSome (cond ((zw c).getD default) (cond (zx c).isSome (cond ((zx c).getD default) (cond (zy c).isSome (cond ((zy c).getD default) (cond (xY c).isSome (cond ((xY c).getD default) (cond (xZ c).isSome (cond ((xZ c).getD default) (cond (x4 c).isSome (cond ((x4 c).getD default) (cond (x5 c).isSome (cond (!((x5 c).getD default)) (some (150)) (some (0))) none) (some (150))) none) (some (150))) none) (some (150))) none) (some (150))) none) (some (150))) none) (some (150))) none) (some (150))) none) (some (150))) none) (some (150))) none) (some (150))) none) (some (150))) none) (some (150))) none) (some (150))) none)
theorem aaJ (c:aE):hJ [(135,PT),(126,Bo)] [] 100 [qF c] = (jD c).map (kI .i64):=by
 unfold jD
 try simp only [aY]
 kernel_rfl
def Dr:List KV->KR KV:=bd PG 100 (bg (kI .i64) fun vs=>jD (gZ (v9 vs 0)))
theorem DN:a9 PG 100 Dr:=bM (ao.cons WZ (ao.cons yu ao.nil)) aL.nil fun w=>aaJ (gZ (g0 31 (w 0)))
def xC (m:cN):Option (Bool):=(cond (decide (m.e0.e0 < (-(1024:Int)))) (some (false)) (cond (decide (m.e0.e0 > 1024)) (some (false)) (cond (decide (m.e0.e1 < (-(1024:Int)))) (some (false)) (cond (decide (m.e0.e1 > 1024)) (some (false)) (cond (decide (m.e0.e2 < (-(1024:Int)))) (some (false)) (cond (decide (m.e0.e2 > 1024)) (some (false)) (cond (decide (m.e1.e0 < (-(1024:Int)))) (some (false)) (cond (decide (m.e1.e0 > 1024)) (some (false)) (cond (decide (m.e1.e1 < (-(1024:Int)))) (some (false)) (cond (decide (m.e1.e1 > 1024)) (some (false)) (cond (decide (m.e1.e2 < (-(1024:Int)))) (some (false)) (cond (decide (m.e1.e2 > 1024)) (some (false)) (cond (decide (m.e2.e0 < (-(1024:Int)))) (some (false)) (cond (decide (m.e2.e0 > 1024)) (some (false)) (cond (decide (m.e2.e1 < (-(1024:Int)))) (some (false)) (cond (decide (m.e2.e1 > 1024)) (some (false)) (cond (decide (m.e2.e2 < (-(1024:Int)))) (some (false)) (cond (decide (m.e2.e2 > 1024)) (some (false)) (some (true))))))))))))))))))))
theorem ajj (m:cN):hJ [] [] 198 [IE m] = (xC m).map kB:=by
 unfold xC
 try simp only [aY]
 kernel_rfl
def aeB:List KV->KR KV:=bd PG 198 (bg kB fun vs=>xC (s5 (v9 vs 0)))
theorem ahX:a9 PG 198 aeB:=bM ao.nil aL.nil fun w=>ajj (s5 (g0 29 (w 0)))
def U5 (v:iP):Option (jz):=(some (⟨v.x,v.y,v.z⟩))
theorem ajk (v:iP):hJ [] [] 201 [rf v] = (U5 v).map tP:=by
 unfold U5
 kernel_rfl
def aeC:List KV->KR KV:=bd PG 201 (bg tP fun vs=>U5 (rN (v9 vs 0)))
theorem ahY:a9 PG 201 aeC:=bM ao.nil aL.nil fun w=>ajk (rN (g0 27 (w 0)))
def H2 (m:cN) (v:jz):=cR (ak ((ak ((ak (0+(ak (m.e0.e0 * v.e0))))+(ak (m.e0.e1 * v.e1))))+(ak (m.e0.e2 * v.e2)))) 256
def H3 (m:cN) (v:jz):=cR (ak ((ak ((ak (0+(ak (m.e1.e0 * v.e0))))+(ak (m.e1.e1 * v.e1))))+(ak (m.e1.e2 * v.e2)))) 256
def H4 (m:cN) (v:jz):=cR (ak ((ak ((ak (0+(ak (m.e2.e0 * v.e0))))+(ak (m.e2.e1 * v.e1))))+(ak (m.e2.e2 * v.e2)))) 256
def Ae (m:cN) (v:jz):Option (jz):=(cond (H2 m v).isSome (cond (H3 m v).isSome (cond (H4 m v).isSome (some (⟨((H2 m v).getD default).fst,((H3 m v).getD default).fst,((H4 m v).getD default).fst⟩)) none) none) none)
theorem ajl (m:cN) (v:jz):hJ [(148,Ad)] [] 200 [IE m,tP v] = (Ae m v).map tP:=by
 unfold Ae
 try simp only [aY]
 kernel_rfl
def aeD:List KV->KR KV:=bd PG 200 (bg tP fun vs=>Ae (s5 (v9 vs 0)) (ID (v9 vs 1)))
theorem ahZ:a9 PG 200 aeD:=bM (ao.cons zn ao.nil) aL.nil fun w=>ajl (s5 (g0 29 (w 0))) (ID (g0 28 (w 1)))
def RU (l:jz):Option (iP):=(some (⟨l.e0,l.e1,l.e2⟩))
theorem ah0 (l:jz):hJ [] [] 199 [tP l] = (RU l).map rf:=by
 unfold RU
 kernel_rfl
def aaK:List KV->KR KV:=bd PG 199 (bg rf fun vs=>RU (ID (v9 vs 0)))
theorem afb:a9 PG 199 aaK:=bM ao.nil aL.nil fun w=>ah0 (ID (g0 28 (w 0)))
def H5 (m:cN) (v:iP):=xC m
def C1 (m:cN) (v:iP):=Em 32768 (Sl.lit [v.x,v.y,v.z])
def vF (m:cN) (v:iP):=Ae m ⟨v.x,v.y,v.z⟩
def Af (m:cN) (v:iP):Option (iP×Int):=(cond (H5 m v).isSome (cond (!((H5 m v).getD default)) (some (⟨0,0,0⟩,2)) (cond (C1 m v).isSome (cond (!((C1 m v).getD default)) (some (⟨0,0,0⟩,2)) (cond (vF m v).isSome (some (⟨((vF m v).getD default).e0,((vF m v).getD default).e1,((vF m v).getD default).e2⟩,0)) none)) none)) none)
theorem ajm (m:cN) (v:iP):hJ [(199,aaK),(200,aeD),(201,aeC),(177,acO),(198,aeB)] [] 159 [IE m,rf v] = (Af m v).map (fun (r:iP×Int)=>KV.lP [rf r.1,(kI .i64) r.2]):=by
 unfold Af
 try simp only [aY,C1,UZ]
 kernel_rfl
def aeE:List KV->KR KV:=bd PG 159 (bg (fun (r:iP×Int)=>KV.lP [rf r.1,(kI .i64) r.2]) fun vs=>Af (s5 (v9 vs 0)) (rN (v9 vs 1)))
theorem ah1:a9 PG 159 aeE:=bM (ao.cons afb (ao.cons ahZ (ao.cons ahY (ao.cons aaI (ao.cons ahX ao.nil))))) aL.nil fun w=>ajm (s5 (g0 29 (w 0))) (rN (g0 27 (w 1)))
def wN (c:aE) (v:iP):=jD c
def wO (c:aE) (v:iP):=sM v
def tt (c:aE) (v:iP):=Af c.m ⟨(ak (v.x - c.pos.x)),(ak (v.y - c.pos.y)),(ak (v.z - c.pos.z))⟩
def mj (c:aE) (v:iP):Option (iP×Int):=(cond (wN c v).isSome (cond (((wN c v).getD default) != 0) (some (⟨0,0,0⟩,((wN c v).getD default))) (cond (wO c v).isSome (cond (((wO c v).getD default) != 0) (some (⟨0,0,0⟩,((wO c v).getD default))) (cond (tt c v).isSome (some (((tt c v).getD default).fst,((tt c v).getD default).snd)) none)) none)) none)
theorem acP (c:aE) (v:iP):hJ [(159,aeE),(126,Bo),(100,Dr)] [] 101 [qF c,rf v] = (mj c v).map (fun (r:iP×Int)=>KV.lP [rf r.1,(kI .i64) r.2]):=by
 unfold mj
 try simp only [aY]
 kernel_rfl
def LJ:List KV->KR KV:=bd PG 101 (bg (fun (r:iP×Int)=>KV.lP [rf r.1,(kI .i64) r.2]) fun vs=>mj (gZ (v9 vs 0)) (rN (v9 vs 1)))
theorem Np:a9 PG 101 LJ:=bM (ao.cons ah1 (ao.cons yu (ao.cons DN ao.nil))) aL.nil fun w=>acP (gZ (g0 31 (w 0))) (rN (g0 27 (w 1)))
structure oU where
 t4:Int
 t14:(Sl bK)
 t15:Int
 t16:Int
instance:Inhabited oU:=⟨⟨default,default,default,default⟩⟩
def Fs (x:oU):List KV:=[.int .i64 x.t4,fL 177 pN x.t14,.int .i64 x.t15,.int .i64 x.t16]
def Ft (x:oU):List (List KV):=[]
def Nq (vs:List KV) (rs:List (List KV)):oU:=⟨intOf (v9 vs 0),fg kP (v9 vs 1),intOf (v9 vs 2),intOf (v9 vs 3)⟩
def PU:aQ:=⟨[(4,w9 i9),(14,w9 (n9 177)),(15,w9 i9),(16,w9 i9)],[],[]⟩
def aaL:=uj [(162,vE)] [] 160 58 PU
def qN (x:oU):=kY (x.t14.get (Int.toNat x.t16))
def lh (x:oU):aJ oU:=(cond (decide (x.t16 < x.t15)) (cond (bj x.t16 x.t14.n) (cond (qN x).isSome (cond (((qN x).getD default) != 0) (.out aF.aq.ret ⟨((qN x).getD default),x.t14,x.t15,x.t16⟩) (.next ⟨x.t4,x.t14,x.t15,(ak (x.t16+1))⟩)) .fail) .fail) (.out (aF.aq.exit 0) x))
theorem W4 (x:oU):aaL (Fs x) (Ft x)=aJ.enc Fs Ft (lh x):=by
 unfold lh bj
 try simp only [aJ.bz]
 kernel_rfl
def PV:Lp:=⟨160,58,PU,fun vs rs=>bT Fs Ft (goN lh (Nq vs rs)) [aF.aq.exit 0,aF.aq.ret],false⟩
theorem aaM:PV.Ok PG:=tl (ao.cons tq ao.nil) aL.nil (pa:=Nq) W4
def sa (ax:Int) (l:(Sl bK)):=goN lh ⟨0,l,(l.n:Int),0⟩
def s6 (ax:Int) (l:(Sl bK)):Option (Int):=(cond (decide (ax < 256)) (some (2)) (cond (decide (ax > 4096)) (some (2)) (cond ((sa ax l).by (aF.aq.exit 0)) (some (0)) (cond ((sa ax l).by aF.aq.ret) (some ((sa ax l).st.t4)) none))))
theorem afc (ax:Int) (l:(Sl bK)):hJ [(162,vE)] [PV] 160 [(kI .i64) ax,(fL 177 pN) l] = (s6 ax l).map (kI .i64):=by
 unfold s6
 try simp only [aY]
 kernel_rfl
def Ya:List KV->KR KV:=bd PG 160 (bg (kI .i64) fun vs=>s6 (intOf (v9 vs 0)) ((fg kP) (v9 vs 1)))
theorem acQ:a9 PG 160 Ya:=bM (ao.cons tq ao.nil) (hH aaM aL.nil) fun w=>afc (intOf (g0 3 (w 0))) ((fg kP) (g0 249 (w 1)))
structure aga where
 e0:Int
 e1:Int
 e2:Int
 e3:Int
instance:Inhabited aga:=⟨⟨default,default,default,default⟩⟩
def atm (x:aga):List KV:=[.int .i64 x.e0,.int .i64 x.e1,.int .i64 x.e2,.int .i64 x.e3]
def anP (x:aga):KV:=.agg (atm x)
def LK (p:bK):Option (aga):=(some (⟨p.p.x,p.p.y,p.u,p.v⟩))
theorem acR (p:bK):hJ [] [] 202 [pN p] = (LK p).map anP:=by
 unfold LK
 kernel_rfl
def U6:List KV->KR KV:=bd PG 202 (bg anP fun vs=>LK (kP (v9 vs 0)))
theorem aaN:a9 PG 202 U6:=bM ao.nil aL.nil fun w=>acR (kP (g0 177 (w 0)))
def yO (ax:Int) (a:bK) (b:bK):=s6 ax (Sl.lit [a,b])
def H6 (ax:Int) (a:bK) (b:bK):=cR (ak ((ak (b.p.x - a.p.x)) * (ak (ax - a.p.z)))) (ak (b.p.z - a.p.z))
def H7 (ax:Int) (a:bK) (b:bK):=cR (ak ((ak (b.p.y - a.p.y)) * (ak (ax - a.p.z)))) (ak (b.p.z - a.p.z))
def H8 (ax:Int) (a:bK) (b:bK):=cR (ak ((ak (b.u - a.u)) * (ak (ax - a.p.z)))) (ak (b.p.z - a.p.z))
def H9 (ax:Int) (a:bK) (b:bK):=cR (ak ((ak (b.v - a.v)) * (ak (ax - a.p.z)))) (ak (b.p.z - a.p.z))
def fk (ax:Int) (a:bK) (b:bK):Option (bK×Int):=(cond (yO ax a b).isSome (cond (((yO ax a b).getD default) != 0) (some (⟨⟨0,0,0⟩,0,0⟩,((yO ax a b).getD default))) (cond (decide (a.p.z >= ax)) (some (⟨⟨0,0,0⟩,0,0⟩,6)) (cond (decide (b.p.z < ax)) (some (⟨⟨0,0,0⟩,0,0⟩,6)) (cond (H6 ax a b).isSome (cond (H7 ax a b).isSome (cond (H8 ax a b).isSome (cond (H9 ax a b).isSome (some (⟨⟨(ak (a.p.x+((H6 ax a b).getD default).fst)),(ak (a.p.y+((H7 ax a b).getD default).fst)),ax⟩,(ak (a.u+((H8 ax a b).getD default).fst)),(ak (a.v+((H9 ax a b).getD default).fst))⟩,0)) none) none) none) none)))) none)
theorem ajn (ax:Int) (a:bK) (b:bK):hJ [(148,Ad),(202,U6),(160,Ya)] [] 161 [(kI .i64) ax,pN a,pN b] = (fk ax a b).map (fun (r:bK×Int)=>KV.lP [pN r.1,(kI .i64) r.2]):=by
 unfold fk
 try simp only [aY,yO,api]
 kernel_rfl
def Nr:List KV->KR KV:=bd PG 161 (bg (fun (r:bK×Int)=>KV.lP [pN r.1,(kI .i64) r.2]) fun vs=>fk (intOf (v9 vs 0)) (kP (v9 vs 1)) (kP (v9 vs 2)))
theorem LL:a9 PG 161 Nr:=bM (ao.cons zn (ao.cons aaN (ao.cons acQ ao.nil))) aL.nil fun w=>ajn (intOf (g0 3 (w 0))) (kP (g0 177 (w 1))) (kP (g0 177 (w 2)))
def tu (t:aK):=rp t
def wP (t:aK):Option (Int):=(cond (tu t).isSome (cond (((tu t).getD default).snd==0) (cond (decide (((tu t).getD default).fst<=0)) (some (6)) (some (((tu t).getD default).snd))) (some (((tu t).getD default).snd))) none)
theorem acS (t:aK):hJ [(163,Kz)] [] 137 [gx t] = (wP t).map (kI .i64):=by
 unfold wP
 try simp only [aY]
 kernel_rfl
def U7:List KV->KR KV:=bd PG 137 (bg (kI .i64) fun vs=>wP (eM (v9 vs 0)))
theorem aaO:a9 PG 137 U7:=bM (ao.cons Ji ao.nil) aL.nil fun w=>acS (eM (g0 62 (w 0)))
def wQ (x:Int) (y:Int):Option (Bool):=(cond (decide ((min x y) >= 0)) (some ((decide ((max x y) < 64)))) (some (false)))
theorem acT (x:Int) (y:Int):hJ [] [] 138 [(kI .i64) x,(kI .i64) y] = (wQ x y).map kB:=by
 unfold wQ
 try simp only [aY]
 kernel_rfl
def U9:List KV->KR KV:=bd PG 138 (bg kB fun vs=>wQ (intOf (v9 vs 0)) (intOf (v9 vs 1)))
theorem aaP:a9 PG 138 U9:=bM ao.nil aL.nil fun w=>acT (intOf (g0 3 (w 0))) (intOf (g0 3 (w 1)))
def yv (n:Int):Option (Int):=(some ((ak ((ak (8 * n))+4))))
theorem aaQ (n:Int):hJ [] [] 191 [(kI .i64) n] = (yv n).map (kI .i64):=by
 unfold yv
 kernel_rfl
def SV:List KV->KR KV:=bd PG 191 (bg (kI .i64) fun vs=>yv (intOf (v9 vs 0)))
theorem Y8:a9 PG 191 SV:=bM ao.nil aL.nil fun w=>aaQ (intOf (g0 3 (w 0)))
def wR (t:aK) (x:Int) (y:Int):=wP t
def Bp (t:aK) (x:Int) (y:Int):=wQ x y
def Bq (t:aK) (x:Int) (y:Int):=yv y
def Br (t:aK) (x:Int) (y:Int):=yv x
def ml (t:aK) (x:Int) (y:Int):Option (jz×Int):=(cond (wR t x y).isSome (cond (((wR t x y).getD default) != 0) (some (⟨0,0,0⟩,((wR t x y).getD default))) (cond (Bp t x y).isSome (cond (!((Bp t x y).getD default)) (some (⟨0,0,0⟩,2)) (some (⟨(ak ((ak ((ak (t.e2.x - t.e1.x)) * (ak (((Bq t x y).getD default) - t.e1.y)))) - (ak ((ak (((Br t x y).getD default) - t.e1.x)) * (ak (t.e2.y - t.e1.y)))))),(ak ((ak ((ak (t.e0.x - t.e2.x)) * (ak (((Bq t x y).getD default) - t.e2.y)))) - (ak ((ak (((Br t x y).getD default) - t.e2.x)) * (ak (t.e0.y - t.e2.y)))))),(ak ((ak ((ak (t.e1.x - t.e0.x)) * (ak (((Bq t x y).getD default) - t.e0.y)))) - (ak ((ak (((Br t x y).getD default) - t.e0.x)) * (ak (t.e1.y - t.e0.y))))))⟩,0))) none)) none)
theorem acU (t:aK) (x:Int) (y:Int):hJ [(191,SV),(138,U9),(137,U7)] [] 147 [gx t,(kI .i64) x,(kI .i64) y] = (ml t x y).map (fun (r:jz×Int)=>KV.lP [tP r.1,(kI .i64) r.2]):=by
 unfold ml
 try simp only [aY]
 kernel_rfl
def LM:List KV->KR KV:=bd PG 147 (bg (fun (r:jz×Int)=>KV.lP [tP r.1,(kI .i64) r.2]) fun vs=>ml (eM (v9 vs 0)) (intOf (v9 vs 1)) (intOf (v9 vs 2)))
theorem Ns:a9 PG 147 LM:=bM (ao.cons Y8 (ao.cons aaP (ao.cons aaO ao.nil))) aL.nil fun w=>acU (eM (g0 62 (w 0))) (intOf (g0 3 (w 1))) (intOf (g0 3 (w 2)))
def ct (t:aK) (x:Int) (y:Int):=ml t x y
def mm (t:aK) (x:Int) (y:Int):Option (Bool×Int):=(cond (decide (t.e1.y < t.e0.y)) (cond (decide (((ct t x y).getD default).fst.e2 < 0)) (some (false,0)) (cond (((ct t x y).getD default).fst.e2==0) (some (true,0)) (some (true,0)))) (cond (t.e1.y==t.e0.y) (cond (decide (((ct t x y).getD default).fst.e2 < 0)) (some (false,0)) (cond (((ct t x y).getD default).fst.e2==0) (cond (!(decide (t.e1.x > t.e0.x))) (some (false,0)) (some (true,0))) (some (true,0)))) (cond (decide (((ct t x y).getD default).fst.e2 < 0)) (some (false,0)) (cond (((ct t x y).getD default).fst.e2==0) (some (false,0)) (some (true,0))))))
def mn (t:aK) (x:Int) (y:Int):Option (Bool×Int):=(cond (decide (t.e0.y < t.e2.y)) (cond (decide (((ct t x y).getD default).fst.e1 < 0)) (some (false,0)) (cond (((ct t x y).getD default).fst.e1==0)
   (mm t x y)
   (mm t x y))) (cond (t.e0.y==t.e2.y) (cond (decide (((ct t x y).getD default).fst.e1 < 0)) (some (false,0)) (cond (((ct t x y).getD default).fst.e1==0) (cond (!(decide (t.e0.x > t.e2.x))) (some (false,0))
    (mm t x y))
   (mm t x y))) (cond (decide (((ct t x y).getD default).fst.e1 < 0)) (some (false,0)) (cond (((ct t x y).getD default).fst.e1==0) (some (false,0))
   (mm t x y)))))
def qj (t:aK) (x:Int) (y:Int):Option (Bool×Int):=(cond (ct t x y).isSome (cond (((ct t x y).getD default).snd != 0) (some (false,((ct t x y).getD default).snd)) (cond (decide (t.e2.y < t.e1.y)) (cond (decide (((ct t x y).getD default).fst.e0 < 0)) (some (false,0)) (cond (((ct t x y).getD default).fst.e0==0)
    (mn t x y)
    (mn t x y))) (cond (t.e2.y==t.e1.y) (cond (decide (((ct t x y).getD default).fst.e0 < 0)) (some (false,0)) (cond (((ct t x y).getD default).fst.e0==0) (cond (!(decide (t.e2.x > t.e1.x))) (some (false,0))
     (mn t x y))
    (mn t x y))) (cond (decide (((ct t x y).getD default).fst.e0 < 0)) (some (false,0)) (cond (((ct t x y).getD default).fst.e0==0) (some (false,0))
    (mn t x y)))))) none)
theorem aaR (t:aK) (x:Int) (y:Int):hJ [(147,LM)] [] 146 [gx t,(kI .i64) x,(kI .i64) y] = (qj t x y).map (fun (r:Bool×Int)=>KV.lP [kB r.1,(kI .i64) r.2]):=by
 unfold qj mn mm
 try simp only [aY]
 kernel_rfl
def SW:List KV->KR KV:=bd PG 146 (bg (fun (r:Bool×Int)=>KV.lP [kB r.1,(kI .i64) r.2]) fun vs=>qj (eM (v9 vs 0)) (intOf (v9 vs 1)) (intOf (v9 vs 2)))
theorem Y9:a9 PG 146 SW:=bM (ao.cons Ns ao.nil) aL.nil fun w=>aaR (eM (g0 62 (w 0))) (intOf (g0 3 (w 1))) (intOf (g0 3 (w 2)))
def vG (t:aK) (x:Int) (y:Int):=qj t x y
def dN (t:aK) (x:Int) (y:Int):=ml t x y
def yP (t:aK) (x:Int) (y:Int):=cR (ak ((ak ((ak (0+(ak ((ak (((dN t x y).getD default).fst.e0 * t.e0.d)) * 1))))+(ak ((ak (((dN t x y).getD default).fst.e1 * t.e1.d)) * 1))))+(ak ((ak (((dN t x y).getD default).fst.e2 * t.e2.d)) * 1)))) (ak ((ak ((ak (0+((dN t x y).getD default).fst.e0))+((dN t x y).getD default).fst.e1))+((dN t x y).getD default).fst.e2))
def vH (t:aK) (x:Int) (y:Int):=cR (ak ((ak ((ak (0+(ak ((ak (((dN t x y).getD default).fst.e0 * t.e0.d)) * t.e0.u))))+(ak ((ak (((dN t x y).getD default).fst.e1 * t.e1.d)) * t.e1.u))))+(ak ((ak (((dN t x y).getD default).fst.e2 * t.e2.d)) * t.e2.u)))) (ak ((ak ((ak (0+(ak ((ak (((dN t x y).getD default).fst.e0 * t.e0.d)) * 1))))+(ak ((ak (((dN t x y).getD default).fst.e1 * t.e1.d)) * 1))))+(ak ((ak (((dN t x y).getD default).fst.e2 * t.e2.d)) * 1))))
def vI (t:aK) (x:Int) (y:Int):=cR (ak ((ak ((ak (0+(ak ((ak (((dN t x y).getD default).fst.e0 * t.e0.d)) * t.e0.v))))+(ak ((ak (((dN t x y).getD default).fst.e1 * t.e1.d)) * t.e1.v))))+(ak ((ak (((dN t x y).getD default).fst.e2 * t.e2.d)) * t.e2.v)))) (ak ((ak ((ak (0+(ak ((ak (((dN t x y).getD default).fst.e0 * t.e0.d)) * 1))))+(ak ((ak (((dN t x y).getD default).fst.e1 * t.e1.d)) * 1))))+(ak ((ak (((dN t x y).getD default).fst.e2 * t.e2.d)) * 1))))
def lj (t:aK) (x:Int) (y:Int):Option (oT×Int):=(cond (vG t x y).isSome (cond (((vG t x y).getD default).snd != 0) (some (⟨0,0,0,0,0⟩,((vG t x y).getD default).snd)) (cond (!((vG t x y).getD default).fst) (some (⟨0,0,0,0,0⟩,6)) (cond (dN t x y).isSome (cond (((dN t x y).getD default).snd != 0) (some (⟨0,0,0,0,0⟩,((dN t x y).getD default).snd)) (cond (yP t x y).isSome (cond (vH t x y).isSome (cond (vI t x y).isSome (some (⟨(ak ((ak (8 * x))+4)),(ak ((ak (8 * y))+4)),((yP t x y).getD default).fst,((vH t x y).getD default).fst,((vI t x y).getD default).fst⟩,0)) none) none) none)) none))) none)
theorem ajo (t:aK) (x:Int) (y:Int):hJ [(148,Ad),(147,LM),(146,SW)] [] 85 [gx t,(kI .i64) x,(kI .i64) y] = (lj t x y).map (fun (r:oT×Int)=>KV.lP [Fl r.1,(kI .i64) r.2]):=by
 unfold lj
 try simp only [aY]
 kernel_rfl
def En:List KV->KR KV:=bd PG 85 (bg (fun (r:oT×Int)=>KV.lP [Fl r.1,(kI .i64) r.2]) fun vs=>lj (eM (v9 vs 0)) (intOf (v9 vs 1)) (intOf (v9 vs 2)))
theorem Ag:a9 PG 85 En:=bM (ao.cons zn (ao.cons Ns (ao.cons Y9 ao.nil))) aL.nil fun w=>ajo (eM (g0 62 (w 0))) (intOf (g0 3 (w 1))) (intOf (g0 3 (w 2)))
structure bk where
 e0:bK
 e1:bK
 e2:bK
instance:Inhabited bk:=⟨⟨default,default,default⟩⟩
def Za (x:bk):List KV:=[.int .i64 x.e0.p.x,.int .i64 x.e0.p.y,.int .i64 x.e0.p.z,.int .i64 x.e0.u,.int .i64 x.e0.v,.int .i64 x.e1.p.x,.int .i64 x.e1.p.y,.int .i64 x.e1.p.z,.int .i64 x.e1.u,.int .i64 x.e1.v,.int .i64 x.e2.p.x,.int .i64 x.e2.p.y,.int .i64 x.e2.p.z,.int .i64 x.e2.u,.int .i64 x.e2.v]
def mo (x:bk):KV:=.agg (Za x)
def Zb (c:Nat->KV):bk:=⟨⟨⟨intOf (c 0),intOf (c 1),intOf (c 2)⟩,intOf (c 3),intOf (c 4)⟩,⟨⟨intOf (c 5),intOf (c 6),intOf (c 7)⟩,intOf (c 8),intOf (c 9)⟩,⟨⟨intOf (c 10),intOf (c 11),intOf (c 12)⟩,intOf (c 13),intOf (c 14)⟩⟩
def oG (v:KV):bk:=Zb fun k=>v.cells.getD k .bG
theorem alE (x:bk):oG (mo x)=x:=rfl
theorem alF:oG .bG=default:=rfl
theorem Va (s:Sl bk) (v:bk):s.push v=kX oG (s.n+1) (dS s.n (fun i=>mo (s.get i)) (qy [mo v])):=(yN alE alF s v).symm
structure bB where
 ax:Int
 out:(Sl bk)
 e:Int
 l:(Sl bK)
 t22:bk
 t23:Int
 t:bk
instance:Inhabited bB:=⟨by constructor<;>exact default⟩
def Fu (x:bB):List KV:=[.int .i64 x.ax,fL 178 mo x.out,.int .i64 x.e,fL 177 pN x.l,mo x.t22,.int .i64 x.t23]
def Fv (x:bB):List (List KV):=[Za x.t]
def Nt (vs:List KV) (rs:List (List KV)):bB:=⟨intOf (v9 vs 0),fg oG (v9 vs 1),intOf (v9 vs 2),fg kP (v9 vs 3),oG (v9 vs 4),intOf (v9 vs 5),Zb (r9 rs 0)⟩
def PW:aQ:=⟨[(0,w9 i9),(4,⟨false,[.aZ 178]⟩),(5,w9 i9),(7,⟨false,[.aZ 177]⟩),(22,⟨true,[i9,i9,i9,i9,i9,i9,i9,i9,i9,i9,i9,i9,i9,i9,i9]⟩),(23,w9 i9)],[(3,[i9,i9,i9,i9,i9,i9,i9,i9,i9,i9,i9,i9,i9,i9,i9],5)],[(3,0,0)]⟩
def aaS:=Dk PG (iK PG [(161,Nr),(162,vE)] [] (fun _=>false) false true) 9 9 102 122 (pn PG 102 122) PW
def LN (x:bB):=fk x.ax x.t.e0 x.t22.e0
def LO (x:bB):=fk x.ax x.t22.e0 x.t.e0
def DP (x:bB):=fk x.ax x.t.e1 x.t22.e0
def DQ (x:bB):=fk x.ax x.t22.e0 x.t.e1
def LP (x:bB):=fk x.ax x.t.e2 x.t22.e0
def LQ (x:bB):=fk x.ax x.t22.e0 x.t.e2
def LR (x:bB):=fk x.ax x.t.e0 x.t22.e1
def LS (x:bB):=fk x.ax x.t22.e1 x.t.e0
def LU (x:bB):=fk x.ax x.t.e1 x.t22.e1
def LV (x:bB):=fk x.ax x.t22.e1 x.t.e1
def Cg (x:bB):=fk x.ax x.t.e2 x.t22.e1
def Ch (x:bB):=fk x.ax x.t22.e1 x.t.e2
def Ci (x:bB):=fk x.ax x.t.e0 x.t22.e2
def Cj (x:bB):=fk x.ax x.t22.e2 x.t.e0
def JV (x:bB):=fk x.ax x.t.e1 x.t22.e2
def JW (x:bB):=fk x.ax x.t22.e2 x.t.e1
def JX (x:bB):=fk x.ax x.t.e2 x.t22.e2
def JY (x:bB):=fk x.ax x.t22.e2 x.t.e2
def eo (x:bB) (aA bA:bK) (pA qA:(Option (Prod bK Int))):aJ bB:=(cond (decide (aA.p.z >= x.ax)) (cond (decide (bA.p.z >= x.ax)) (cond (nm 40 x.l.n 1) (cond (cond (aC (x.l.n+1)) (aC x.out.n) false) (.next ⟨x.ax,x.out,x.e,(x.l.push aA),x.t22,(ak (x.t23+1)),x.t⟩) .fail) .fail) (cond (nm 40 x.l.n 1) (cond qA.isSome (cond (nm 40 (x.l.n+1) 1) (cond (cond (aC ((x.l.n+1)+1)) (aC x.out.n) false) (.next ⟨x.ax,x.out,x.e,((x.l.push aA).push (qA.getD default).fst),x.t22,(ak (x.t23+1)),x.t⟩) .fail) .fail) .fail) .fail)) (cond (decide (bA.p.z >= x.ax)) (cond pA.isSome (cond (nm 40 x.l.n 1) (cond (cond (aC (x.l.n+1)) (aC x.out.n) false) (.next ⟨x.ax,x.out,x.e,(x.l.push (pA.getD default).fst),x.t22,(ak (x.t23+1)),x.t⟩) .fail) .fail) .fail) (cond (cond (aC x.l.n) (aC x.out.n) false) (.next ⟨x.ax,x.out,x.e,x.l,x.t22,(ak (x.t23+1)),x.t⟩) .fail)))
def dK (x:bB):aJ bB:=(cond (decide (x.t23 < 3)) (cond (decide (x.t23=0)) (cond (decide ((Int.tmod (ak (x.t23+1)) 3)=0)) (eo x x.t22.e0 x.t.e0 (LO x) (LN x)) (cond (decide ((Int.tmod (ak (x.t23+1)) 3)=1)) (eo x x.t22.e0 x.t.e1 (DQ x) (DP x)) (cond (decide ((Int.tmod (ak (x.t23+1)) 3)=2)) (eo x x.t22.e0 x.t.e2 (LQ x) (LP x)) .fail))) (cond (decide (x.t23=1)) (cond (decide ((Int.tmod (ak (x.t23+1)) 3)=0)) (eo x x.t22.e1 x.t.e0 (LS x) (LR x)) (cond (decide ((Int.tmod (ak (x.t23+1)) 3)=1)) (eo x x.t22.e1 x.t.e1 (LV x) (LU x)) (cond (decide ((Int.tmod (ak (x.t23+1)) 3)=2)) (eo x x.t22.e1 x.t.e2 (Ch x) (Cg x)) .fail))) (cond (decide (x.t23=2)) (cond (decide ((Int.tmod (ak (x.t23+1)) 3)=0)) (eo x x.t22.e2 x.t.e0 (Cj x) (Ci x)) (cond (decide ((Int.tmod (ak (x.t23+1)) 3)=1)) (eo x x.t22.e2 x.t.e1 (JW x) (JV x)) (cond (decide ((Int.tmod (ak (x.t23+1)) 3)=2)) (eo x x.t22.e2 x.t.e2 (JY x) (JX x)) .fail))) .fail))) (cond (cond (aC x.l.n) (aC x.out.n) false) (.out (aF.aq.exit 0) x) .fail))
theorem W5 (x:bB):aaS (Fu x) (Fv x)=aJ.enc Fu Fv (dK x):=by
 unfold dK eo nm aC
 try simp only [aJ.bz,aeA,ahU]
 kernel_rfl
def G7:Lp:=⟨102,122,PW,fun vs rs=>bT Fu Fv (goN dK (Nt vs rs)) [aF.aq.exit 0],false⟩
theorem Nu:G7.Ok PG:=tl (ao.cons LL (ao.cons tq ao.nil)) aL.nil (pa:=Nt) W5
structure oV where
 out:(Sl bk)
 e:Int
 l:(Sl bK)
 i:Int
instance:Inhabited oV:=⟨⟨default,default,default,default⟩⟩
def Fw (x:oV):List KV:=[fL 178 mo x.out,.int .i64 x.e,fL 177 pN x.l,.int .i64 x.i]
def Fx (x:oV):List (List KV):=[]
def Nv (vs:List KV) (rs:List (List KV)):oV:=⟨fg oG (v9 vs 0),intOf (v9 vs 1),fg kP (v9 vs 2),intOf (v9 vs 3)⟩
def PX:aQ:=⟨[(4,⟨false,[.aZ 178]⟩),(5,w9 i9),(7,⟨false,[.aZ 177]⟩),(15,w9 i9)],[],[]⟩
def aaT:=Dk PG (iK PG [(161,Nr),(162,vE)] [G7] (fun _=>false) false true) 9 9 102 250 (pn PG 102 250) PX
def lk (x:oV):aJ oV:=(cond (decide (x.i < (x.l.n:Int))) (cond (decide (0 < (x.l.n:Int))) (cond (bj (ak (x.i - 1)) x.l.n) (cond (bj x.i x.l.n) (cond (nm 120 x.out.n 1) (cond (cond (aC x.l.n) (aC (x.out.n+1)) false) (.next ⟨(x.out.push ⟨(x.l.get 0),(x.l.get (Int.toNat (ak (x.i - 1)))),(x.l.get (Int.toNat x.i))⟩),x.e,x.l,(ak (x.i+1))⟩) .fail) .fail) .fail) .fail) .fail) (cond (cond (aC x.l.n) (aC x.out.n) false) (.out (aF.aq.exit 2) x) .fail))
theorem W6 (x:oV):aaT (Fw x) (Fx x)=aJ.enc Fw Fx (lk x):=by
 unfold lk bj nm aC
 try simp only [aJ.bz,Va]
 kernel_rfl
def PY:Lp:=⟨102,250,PX,fun vs rs=>bT Fw Fx (goN lk (Nv vs rs)) [aF.aq.exit 2],false⟩
theorem aaU:PY.Ok PG:=tl (ao.cons LL (ao.cons tq ao.nil)) (hH Nu aL.nil) (pa:=Nv) W6
def wS (ax:Int) (t:bk):=kY t.e0
def il (ax:Int) (t:bk):=goN dK ⟨ax,⟨0,(fun i=>⟨⟨⟨0,0,0⟩,0,0⟩,⟨⟨0,0,0⟩,0,0⟩,⟨⟨0,0,0⟩,0,0⟩⟩)⟩,0,⟨0,(fun i=>⟨⟨0,0,0⟩,0,0⟩)⟩,t,0,t⟩
def kJ (ax:Int) (t:bk):=goN lk ⟨(il ax t).st.out,(il ax t).st.e,(il ax t).st.l,2⟩
def wT (ax:Int) (t:bk):=kY t.e1
def wU (ax:Int) (t:bk):=kY t.e2
def yw (ax:Int) (t:bk):Option ((Sl bk)×Int):=(some (⟨0,(fun i=>⟨⟨⟨0,0,0⟩,0,0⟩,⟨⟨0,0,0⟩,0,0⟩,⟨⟨0,0,0⟩,0,0⟩⟩)⟩,2))
def se (ax:Int) (t:bk):Option ((Sl bk)×Int):=(cond ((il ax t).by (aF.aq.exit 0)) (cond (cond (aC (il ax t).st.l.n) (aC (il ax t).st.out.n) false) (cond ((kJ ax t).by (aF.aq.exit 2)) (some ((kJ ax t).st.out,0)) none) none) none)
def vd (ax:Int) (t:bk):Option ((Sl bk)×Int):=(cond (decide (ax < 256))
  (yw ax t) (cond (decide (ax > 4096))
  (yw ax t) (cond (wS ax t).isSome (cond (((wS ax t).getD default) != 0) (cond (((wS ax t).getD default) != 0) (some (⟨0,(fun i=>⟨⟨⟨0,0,0⟩,0,0⟩,⟨⟨0,0,0⟩,0,0⟩,⟨⟨0,0,0⟩,0,0⟩⟩)⟩,((wS ax t).getD default)))
    (se ax t)) (cond (wT ax t).isSome (cond (((wT ax t).getD default) != 0) (cond (((wT ax t).getD default) != 0) (some (⟨0,(fun i=>⟨⟨⟨0,0,0⟩,0,0⟩,⟨⟨0,0,0⟩,0,0⟩,⟨⟨0,0,0⟩,0,0⟩⟩)⟩,((wT ax t).getD default)))
     (se ax t)) (cond (wU ax t).isSome (cond (((wU ax t).getD default) != 0) (cond (((wU ax t).getD default) != 0) (some (⟨0,(fun i=>⟨⟨⟨0,0,0⟩,0,0⟩,⟨⟨0,0,0⟩,0,0⟩,⟨⟨0,0,0⟩,0,0⟩⟩)⟩,((wU ax t).getD default)))
      (se ax t))
     (se ax t)) none)) none)) none)))
theorem ah2 (ax:Int) (t:bk):zW PG (iK PG [(161,Nr),(162,vE)] [G7,PY] (fun _=>false) false true) 9 9 102 [(kI .i64) ax,mo t] = (vd ax t).map (fun (r:(Sl bk)×Int)=>KV.lP [(fL 178 mo) r.1,(kI .i64) r.2]):=by
 unfold vd se yw aC
 try simp only [aY]
 kernel_rfl
def RV:List KV->KR KV:=bd PG 102 (bg (fun (r:(Sl bk)×Int)=>KV.lP [(fL 178 mo) r.1,(kI .i64) r.2]) fun vs=>vd (intOf (v9 vs 0)) (oG (v9 vs 1)))
theorem SX:a9 PG 102 RV:=bM (ao.cons LL (ao.cons tq ao.nil)) (hH Nu (hH aaU aL.nil)) fun w=>ah2 (intOf (g0 3 (w 0))) (oG (g0 178 (w 1)))
def yQ (n:Int):Option (Bool):=(cond (decide (n >= (-(32768:Int)))) (some ((decide (n<=32768)))) (some (false)))
theorem anQ (n:Int):hJ [] [] 178 [(kI .i64) n] = (yQ n).map kB:=by
 unfold yQ
 try simp only [aY]
 kernel_rfl
def WD:List KV->KR KV:=bd PG 178 (bg kB fun vs=>yQ (intOf (v9 vs 0)))
theorem RW:a9 PG 178 WD:=bM ao.nil aL.nil fun w=>anQ (intOf (g0 3 (w 0)))
structure Fy where
 low:iP
 high:iP
instance:Inhabited Fy:=⟨⟨default,default⟩⟩
def anR (x:Fy):List KV:=[.int .i64 x.low.x,.int .i64 x.low.y,.int .i64 x.low.z,.int .i64 x.high.x,.int .i64 x.high.y,.int .i64 x.high.z]
def Ir (x:Fy):KV:=.agg (anR x)
def anS (c:Nat->KV):Fy:=⟨⟨intOf (c 0),intOf (c 1),intOf (c 2)⟩,⟨intOf (c 3),intOf (c 4),intOf (c 5)⟩⟩
def akz (v:KV):Fy:=anS fun k=>v.cells.getD k .bG
structure Span where
 low:Int
 high:Int
instance:Inhabited Span:=⟨⟨default,default⟩⟩
structure IG where
 e0:Span
 e1:Span
 e2:Span
instance:Inhabited IG:=⟨⟨default,default,default⟩⟩
def arw (x:IG):List KV:=[.int .i64 x.e0.low,.int .i64 x.e0.high,.int .i64 x.e1.low,.int .i64 x.e1.high,.int .i64 x.e2.low,.int .i64 x.e2.high]
def acV (x:IG):KV:=.agg (arw x)
def arx (c:Nat->KV):IG:=⟨⟨intOf (c 0),intOf (c 1)⟩,⟨intOf (c 2),intOf (c 3)⟩,⟨intOf (c 4),intOf (c 5)⟩⟩
def akA (v:KV):IG:=arx fun k=>v.cells.getD k .bG
def RX (b:Fy):Option (IG):=(some (⟨⟨b.low.x,b.high.x⟩,⟨b.low.y,b.high.y⟩,⟨b.low.z,b.high.z⟩⟩))
theorem ah3 (b:Fy):hJ [] [] 210 [Ir b] = (RX b).map acV:=by
 unfold RX
 kernel_rfl
def aaV:List KV->KR KV:=bd PG 210 (bg acV fun vs=>RX (akz (v9 vs 0)))
theorem afd:a9 PG 210 aaV:=bM ao.nil aL.nil fun w=>ah3 (akz (g0 109 (w 0)))
def RY (s:IG):Option (Fy):=(some (⟨⟨s.e0.low,s.e1.low,s.e2.low⟩,⟨s.e0.high,s.e1.high,s.e2.high⟩⟩))
theorem ah4 (s:IG):hJ [] [] 211 [acV s] = (RY s).map Ir:=by
 unfold RY
 kernel_rfl
def aaW:List KV->KR KV:=bd PG 211 (bg Ir fun vs=>RY (akA (v9 vs 0)))
theorem afe:a9 PG 211 aaW:=bM ao.nil aL.nil fun w=>ah4 (akA (g0 296 (w 0)))
def Vb (a:Fy) (b:Fy):Option (Fy):=(some (⟨⟨(min a.low.x b.low.x),(min a.low.y b.low.y),(min a.low.z b.low.z)⟩,⟨(max a.high.x b.high.x),(max a.high.y b.high.y),(max a.high.z b.high.z)⟩⟩))
theorem ajp (a:Fy) (b:Fy):hJ [(211,aaW),(210,aaV)] [] 179 [Ir a,Ir b] = (Vb a b).map Ir:=by
 unfold Vb
 kernel_rfl
def Nw:List KV->KR KV:=bd PG 179 (bg Ir fun vs=>Vb (akz (v9 vs 0)) (akz (v9 vs 1)))
theorem LW:a9 PG 179 Nw:=bM (ao.cons afe (ao.cons afd ao.nil)) aL.nil fun w=>ajp (akz (g0 109 (w 0))) (akz (g0 109 (w 1)))
structure oj where
 l:(Sl iP)
 e:Int
 t17:(Sl iP)
 t18:Int
 t19:Int
 b:Fy
instance:Inhabited oj:=⟨by constructor<;>exact default⟩
def OA (x:oj):List KV:=[fL 27 rf x.l,.int .i64 x.e,fL 27 rf x.t17,.int .i64 x.t18,.int .i64 x.t19]
def OB (x:oj):List (List KV):=[anR x.b]
def Yb (vs:List KV) (rs:List (List KV)):oj:=⟨fg rN (v9 vs 0),intOf (v9 vs 1),fg rN (v9 vs 2),intOf (v9 vs 3),intOf (v9 vs 4),anS (r9 rs 0)⟩
def aaX:aQ:=⟨[(0,w9 (n9 27)),(3,w9 i9),(17,w9 (n9 27)),(18,w9 i9),(19,w9 i9)],[(2,[i9,i9,i9,i9,i9,i9],1)],[(2,0,0)]⟩
def ajq:=uj [(179,Nw),(178,WD)] [] 127 58 aaX
def wV (x:oj):=yQ (x.t17.get (Int.toNat x.t19)).x
def wW (x:oj):=yQ (x.t17.get (Int.toNat x.t19)).y
def wX (x:oj):=yQ (x.t17.get (Int.toNat x.t19)).z
def qO (x:oj):aJ oj:=(.out aF.aq.ret ⟨x.l,20,x.t17,x.t18,x.t19,⟨⟨0,0,0⟩,⟨0,0,0⟩⟩⟩)
def qk (x:oj):aJ oj:=(cond (decide (x.t19 < x.t18)) (cond (bj x.t19 x.t17.n) (cond (wV x).isSome (cond (!((wV x).getD default))
   (qO x) (cond (wW x).isSome (cond (!((wW x).getD default))
    (qO x) (cond (wX x).isSome (cond (!((wX x).getD default))
     (qO x) (.next ⟨x.l,x.e,x.t17,x.t18,(ak (x.t19+1)),x.b⟩)) .fail)) .fail)) .fail) .fail) (.out (aF.aq.exit 0) x))
theorem aff (x:oj):ajq (OA x) (OB x)=aJ.enc OA OB (qk x):=by
 unfold qk qO bj
 try simp only [aJ.bz]
 kernel_rfl
def RZ:Lp:=⟨127,58,aaX,fun vs rs=>bT OA OB (goN qk (Yb vs rs)) [aF.aq.exit 0,aF.aq.ret],false⟩
theorem Yc:RZ.Ok PG:=tl (ao.cons LW (ao.cons RW ao.nil)) aL.nil (pa:=Yb) aff
structure s7 where
 e:Int
 t49:(Sl iP)
 t50:Int
 t51:Int
 b:Fy
instance:Inhabited s7:=⟨⟨default,default,default,default,default⟩⟩
def LX (x:s7):List KV:=[.int .i64 x.e,fL 27 rf x.t49,.int .i64 x.t50,.int .i64 x.t51]
def LY (x:s7):List (List KV):=[anR x.b]
def Vc (vs:List KV) (rs:List (List KV)):s7:=⟨intOf (v9 vs 0),fg rN (v9 vs 1),intOf (v9 vs 2),intOf (v9 vs 3),anS (r9 rs 0)⟩
def Yd:aQ:=⟨[(3,w9 i9),(49,w9 (n9 27)),(50,w9 i9),(51,w9 i9)],[(2,[i9,i9,i9,i9,i9,i9],1)],[(2,0,0)]⟩
def ah5:=uj [(179,Nw),(178,WD)] [RZ] 127 250 Yd
def mR (x:s7):aJ s7:=(cond (decide (x.t51 < x.t50)) (cond (bj x.t51 x.t49.n) (.next ⟨x.e,x.t49,x.t50,(ak (x.t51+1)),⟨⟨(min x.b.low.x (x.t49.get (Int.toNat x.t51)).x),(min x.b.low.y (x.t49.get (Int.toNat x.t51)).y),(min x.b.low.z (x.t49.get (Int.toNat x.t51)).z)⟩,⟨(max x.b.high.x (x.t49.get (Int.toNat x.t51)).x),(max x.b.high.y (x.t49.get (Int.toNat x.t51)).y),(max x.b.high.z (x.t49.get (Int.toNat x.t51)).z)⟩⟩⟩) .fail) (.out (aF.aq.exit 2) x))
theorem acW (x:s7):ah5 (LX x) (LY x)=aJ.enc LX LY (mR x):=by
 unfold mR bj
 try simp only [aJ.bz]
 kernel_rfl
def Ye:Lp:=⟨127,250,Yd,fun vs rs=>bT LX LY (goN mR (Vc vs rs)) [aF.aq.exit 2],false⟩
theorem ah6:Ye.Ok PG:=tl (ao.cons LW (ao.cons RW ao.nil)) (hH Yc aL.nil) (pa:=Vc) acW
def fJ (l:(Sl iP)):=goN qk ⟨l,0,l,(l.n:Int),0,⟨⟨0,0,0⟩,⟨0,0,0⟩⟩⟩
def ve (l:(Sl iP)):=goN mR ⟨(fJ l).st.e,⟨((Int.toNat ((fJ l).st.l.n:Int)) - 1),(fun i=>((fJ l).st.l.get (1+i)))⟩,((((Int.toNat ((fJ l).st.l.n:Int)) - 1):Nat):Int),0,⟨((fJ l).st.l.get 0),((fJ l).st.l.get 0)⟩⟩
def Bs (l:(Sl iP)):Option (Fy×Int):=(some (⟨⟨0,0,0⟩,⟨0,0,0⟩⟩,4))
def Bt (l:(Sl iP)):Option (Fy×Int):=(cond ((l.n:Int)==0)
  (Bs l) (cond (decide ((l.n:Int) > 4096))
  (Bs l) (cond ((fJ l).by (aF.aq.exit 0)) (cond (decide (0 < ((fJ l).st.l.n:Int))) (cond (decide (0 < ((fJ l).st.l.n:Int))) (cond ((decide (1<=((fJ l).st.l.n:Int)))&&(decide (((fJ l).st.l.n:Int)<=((fJ l).st.l.n:Int)))) (cond ((ve l).by (aF.aq.exit 2)) (some ((ve l).st.b,0)) none) none) none) none) (cond ((fJ l).by aF.aq.ret) (some ((fJ l).st.b,(fJ l).st.e)) none))))
theorem anT (l:(Sl iP)):hJ [(179,Nw),(178,WD)] [RZ,Ye] 127 [(fL 27 rf) l] = (Bt l).map (fun (r:Fy×Int)=>KV.lP [Ir r.1,(kI .i64) r.2]):=by
 unfold Bt Bs
 try simp only [aY]
 kernel_rfl
def WG:List KV->KR KV:=bd PG 127 (bg (fun (r:Fy×Int)=>KV.lP [Ir r.1,(kI .i64) r.2]) fun vs=>Bt ((fg rN) (v9 vs 0)))
theorem R8:a9 PG 127 WG:=bM (ao.cons LW (ao.cons RW ao.nil)) (hH Yc (hH ah6 aL.nil)) fun w=>anT ((fg rN) (g0 103 (w 0)))
def kK (n:Int):Option (Bool):=(cond (decide (n > 0)) (some ((decide (n<=16)))) (some (false)))
theorem aaY (n:Int):hJ [] [] 176 [(kI .i64) n] = (kK n).map kB:=by
 unfold kK
 try simp only [aY]
 kernel_rfl
def SY:List KV->KR KV:=bd PG 176 (bg kB fun vs=>kK (intOf (v9 vs 0)))
theorem Zc:a9 PG 176 SY:=bM ao.nil aL.nil fun w=>aaY (intOf (g0 3 (w 0)))
structure Color where
 e0:Int
 e1:Int
 e2:Int
 e3:Int
instance:Inhabited Color:=⟨⟨default,default,default,default⟩⟩
def Fz (x:Color):List KV:=[.int .u8 x.e0,.int .u8 x.e1,.int .u8 x.e2,.int .u8 x.e3]
def fH (x:Color):KV:=.agg (Fz x)
def FB (c:Nat->KV):Color:=⟨intOf (c 0),intOf (c 1),intOf (c 2),intOf (c 3)⟩
def jA (v:KV):Color:=FB fun k=>v.cells.getD k .bG
theorem akB (x:Color):jA (fH x)=x:=rfl
theorem ary:jA .bG=default:=rfl
theorem aeF (s:Sl Color) (v:Color):s.push v=kX jA (s.n+1) (dS s.n (fun i=>fH (s.get i)) (qy [fH v])):=(yN akB ary s v).symm
theorem anU (s t:Sl Color):s.join t=kX jA (s.n+t.n) (dS s.n (fun i=>fH (s.get i)) (fun i=>fH (t.get i))):=(acG akB s t).symm
structure bF where
 w:Int
 h:Int
 dH:(Sl Color)
instance:Inhabited bF:=⟨⟨default,default,default⟩⟩
def acX (x:bF):List KV:=[.int .i64 x.w,.int .i64 x.h,fL 33 fH x.dH]
def iy (x:bF):KV:=.agg (acX x)
def acY (c:Nat->KV):bF:=⟨intOf (c 0),intOf (c 1),fg jA (c 2)⟩
def en (v:KV):bF:=acY fun k=>v.cells.getD k .bG
theorem anV (x:bF):en (iy x)=x:=rfl
theorem anW:en .bG=default:=rfl
theorem ajr (s:Sl bF) (v:bF):s.push v=kX en (s.n+1) (dS s.n (fun i=>iy (s.get i)) (qy [iy v])):=(yN anV anW s v).symm
def tQ (t:bF):=kK t.w
def tR (t:bF):=kK t.h
def eS (t:bF):Option (Int):=(cond (tQ t).isSome (cond (!((tQ t).getD default)) (some (8)) (cond (tR t).isSome (cond (!((tR t).getD default)) (some (8)) (cond ((t.dH.n:Int) != (ak (t.w * t.h))) (some (8)) (some (0)))) none)) none)
theorem Zd (t:bF):hJ [(176,SY)] [] 123 [iy t] = (eS t).map (kI .i64):=by
 unfold eS
 try simp only [aY]
 kernel_rfl
def Bu:List KV->KR KV:=bd PG 123 (bg (kI .i64) fun vs=>eS (en (v9 vs 0)))
theorem Ck:a9 PG 123 Bu:=bM (ao.cons Zc ao.nil) aL.nil fun w=>Zd (en (g0 114 (w 0)))
structure ke where
 t2:Int
 t9:(Sl bF)
 t10:Int
 t11:Int
instance:Inhabited ke:=⟨⟨default,default,default,default⟩⟩
def y8 (x:ke):List KV:=[.int .i64 x.t2,fL 114 iy x.t9,.int .i64 x.t10,.int .i64 x.t11]
def y9 (x:ke):List (List KV):=[]
def Gt (vs:List KV) (rs:List (List KV)):ke:=⟨intOf (v9 vs 0),fg en (v9 vs 1),intOf (v9 vs 2),intOf (v9 vs 3)⟩
def II:aQ:=⟨[(2,w9 i9),(9,w9 (n9 114)),(10,w9 i9),(11,w9 i9)],[],[]⟩
def TF:=uj [(123,Bu)] [] 61 58 II
def iW (x:ke):=eS (x.t9.get (Int.toNat x.t11))
def fO (x:ke):aJ ke:=(cond (decide (x.t11 < x.t10)) (cond (bj x.t11 x.t9.n) (cond (iW x).isSome (cond (((iW x).getD default) != 0) (.out aF.aq.ret ⟨((iW x).getD default),x.t9,x.t10,x.t11⟩) (.next ⟨x.t2,x.t9,x.t10,(ak (x.t11+1))⟩)) .fail) .fail) (.out (aF.aq.exit 0) x))
theorem PZ (x:ke):TF (y8 x) (y9 x)=aJ.enc y8 y9 (fO x):=by
 unfold fO bj
 try simp only [aJ.bz]
 kernel_rfl
def IJ:Lp:=⟨61,58,II,fun vs rs=>bT y8 y9 (goN fO (Gt vs rs)) [aF.aq.exit 0,aF.aq.ret],false⟩
theorem TG:IJ.Ok PG:=tl (ao.cons Ck ao.nil) aL.nil (pa:=Gt) PZ
def dL (l:(Sl bF)):=goN fO ⟨0,l,(l.n:Int),0⟩
def gf (l:(Sl bF)):Option (Int):=(cond (decide ((l.n:Int) > 16)) (some (4)) (cond ((dL l).by (aF.aq.exit 0)) (some (0)) (cond ((dL l).by aF.aq.ret) (some ((dL l).st.t2)) none)))
theorem W7 (l:(Sl bF)):hJ [(123,Bu)] [IJ] 61 [(fL 114 iy) l] = (gf l).map (kI .i64):=by
 unfold gf
 try simp only [aY]
 kernel_rfl
def zz:List KV->KR KV:=bd PG 61 (bg (kI .i64) fun vs=>gf ((fg en) (v9 vs 0)))
theorem Ah:a9 PG 61 zz:=bM (ao.cons Ck ao.nil) (hH TG aL.nil) fun w=>W7 ((fg en) (g0 23 (w 0)))
structure yx where
 color:Color
 iG:Int
 cA:Int
 FC:Int
 Ai:Bool
 bin:Int
instance:Inhabited yx:=⟨by constructor<;>exact default⟩
def avQ (x:yx):List KV:=[.int .u8 x.color.e0,.int .u8 x.color.e1,.int .u8 x.color.e2,.int .u8 x.color.e3,.int .i64 x.iG,.int .u8 x.cA,.int .i64 x.FC,.bool x.Ai,.int .i64 x.bin]
def alG (x:yx):KV:=.agg (avQ x)
def avR (c:Nat->KV):yx:=⟨⟨intOf (c 0),intOf (c 1),intOf (c 2),intOf (c 3)⟩,intOf (c 4),intOf (c 5),intOf (c 6),kN (c 7),intOf (c 8)⟩
def Vd (v:KV):yx:=avR fun k=>v.cells.getD k .bG
def eO (l:yx) (au:Int):Option (Int):=(cond (decide (au < 0)) (some (2)) (cond (decide (au > 16)) (some (2)) (cond (decide (l.iG < (-(1:Int)))) (some (8)) (cond (decide (l.iG >= au)) (some (8)) (cond (decide (l.cA > 2)) (some (8)) (cond (decide (l.FC < (-(1024:Int)))) (some (8)) (cond (decide (l.FC > 1024)) (some (8)) (cond (decide (l.bin < 0)) (some (8)) (cond (decide (l.bin > 15)) (some (8)) (some (0)))))))))))
theorem Ve (l:yx) (au:Int):hJ [] [] 125 [alG l,(kI .i64) au] = (eO l au).map (kI .i64):=by
 unfold eO
 try simp only [aY]
 kernel_rfl
def tS:List KV->KR KV:=bd PG 125 (bg (kI .i64) fun vs=>eO (Vd (v9 vs 0)) (intOf (v9 vs 1)))
theorem ui:a9 PG 125 tS:=bM ao.nil aL.nil fun w=>Ve (Vd (g0 107 (w 0))) (intOf (g0 3 (w 1)))
structure WH where
 e0:Int
 e1:Int
instance:Inhabited WH:=⟨⟨default,default⟩⟩
def atn (x:WH):List KV:=[.int .i64 x.e0,.int .i64 x.e1]
def ah7 (x:WH):KV:=.agg (atn x)
def ato (c:Nat->KV):WH:=⟨intOf (c 0),intOf (c 1)⟩
def atp (v:KV):WH:=ato fun k=>v.cells.getD k .bG
structure Item where
 aH:(Sl iP)
 uV:(Sl WH)
 bf:(Sl jz)
 look:yx
 box:Fy
instance:Inhabited Item:=⟨⟨default,default,default,default,default⟩⟩
def Cl (x:Item):List KV:=[fL 27 rf x.aH,fL 181 ah7 x.uV,fL 28 tP x.bf,.int .u8 x.look.color.e0,.int .u8 x.look.color.e1,.int .u8 x.look.color.e2,.int .u8 x.look.color.e3,.int .i64 x.look.iG,.int .u8 x.look.cA,.int .i64 x.look.FC,.bool x.look.Ai,.int .i64 x.look.bin,.int .i64 x.box.low.x,.int .i64 x.box.low.y,.int .i64 x.box.low.z,.int .i64 x.box.high.x,.int .i64 x.box.high.y,.int .i64 x.box.high.z]
def FD (x:Item):KV:=.agg (Cl x)
def DR (c:Nat->KV):Item:=⟨fg rN (c 0),fg atp (c 1),fg ID (c 2),⟨⟨intOf (c 3),intOf (c 4),intOf (c 5),intOf (c 6)⟩,intOf (c 7),intOf (c 8),intOf (c 9),kN (c 10),intOf (c 11)⟩,⟨⟨intOf (c 12),intOf (c 13),intOf (c 14)⟩,⟨intOf (c 15),intOf (c 16),intOf (c 17)⟩⟩⟩
def x6 (v:KV):Item:=DR fun k=>v.cells.getD k .bG
structure oW where
 t4:Bool
 n:Int
 t38:(Sl iP)
 t39:Int
 t40:Int
 x:Item
instance:Inhabited oW:=⟨by constructor<;>exact default⟩
def FE (x:oW):List KV:=[.bool x.t4,.int .i64 x.n,fL 27 rf x.t38,.int .i64 x.t39,.int .i64 x.t40]
def FF (x:oW):List (List KV):=[Cl x.x]
def Nx (vs:List KV) (rs:List (List KV)):oW:=⟨kN (v9 vs 0),intOf (v9 vs 1),fg rN (v9 vs 2),intOf (v9 vs 3),intOf (v9 vs 4),DR (r9 rs 0)⟩
def P0:aQ:=⟨[(4,w9 b9),(5,w9 i9),(38,w9 (n9 27)),(39,w9 i9),(40,w9 i9)],[(2,[n9 27,n9 181,n9 28,u9,u9,u9,u9,i9,u9,i9,b9,i9,i9,i9,i9,i9,i9,i9],1)],[(2,0,0)]⟩
def aaZ:=uj [(127,WG),(126,Bo),(125,tS)] [] 64 122 P0
def qP (x:oW):=sM (x.t38.get (Int.toNat x.t40))
def ll (x:oW):aJ oW:=(cond (decide (x.t40 < x.t39)) (cond (bj x.t40 x.t38.n) (cond (qP x).isSome (cond (((qP x).getD default) != 0) (.out aF.aq.ret ⟨false,x.n,x.t38,x.t39,x.t40,x.x⟩) (cond (bj x.t40 x.x.uV.n) (cond (bj x.t40 x.x.uV.n) (cond (decide ((min (x.x.uV.get (Int.toNat x.t40)).e0 (x.x.uV.get (Int.toNat x.t40)).e1) < 0)) (.out aF.aq.ret ⟨false,x.n,x.t38,x.t39,x.t40,x.x⟩) (cond (bj x.t40 x.x.uV.n) (cond (bj x.t40 x.x.uV.n) (cond (decide ((max (x.x.uV.get (Int.toNat x.t40)).e0 (x.x.uV.get (Int.toNat x.t40)).e1) > 255)) (.out aF.aq.ret ⟨false,x.n,x.t38,x.t39,x.t40,x.x⟩) (.next ⟨x.t4,x.n,x.t38,x.t39,(ak (x.t40+1)),x.x⟩)) .fail) .fail)) .fail) .fail)) .fail) .fail) (.out (aF.aq.exit 0) x))
theorem W8 (x:oW):aaZ (FE x) (FF x)=aJ.enc FE FF (ll x):=by
 unfold ll bj
 try simp only [aJ.bz]
 kernel_rfl
def G8:Lp:=⟨64,122,P0,fun vs rs=>bT FE FF (goN ll (Nx vs rs)) [aF.aq.exit 0,aF.aq.ret],false⟩
theorem Ny:G8.Ok PG:=tl (ao.cons R8 (ao.cons yu (ao.cons ui ao.nil))) aL.nil (pa:=Nx) W8
structure mS where
 t4:Bool
 n:Int
 t82:(Sl jz)
 t83:Int
 t84:Int
 x:Item
instance:Inhabited mS:=⟨by constructor<;>exact default⟩
def FG (x:mS):List KV:=[.bool x.t4,.int .i64 x.n,fL 28 tP x.t82,.int .i64 x.t83,.int .i64 x.t84]
def FH (x:mS):List (List KV):=[Cl x.x]
def Nz (vs:List KV) (rs:List (List KV)):mS:=⟨kN (v9 vs 0),intOf (v9 vs 1),fg ID (v9 vs 2),intOf (v9 vs 3),intOf (v9 vs 4),DR (r9 rs 0)⟩
def Qa:aQ:=⟨[(4,w9 b9),(5,w9 i9),(82,w9 (n9 28)),(83,w9 i9),(84,w9 i9)],[(2,[n9 27,n9 181,n9 28,u9,u9,u9,u9,i9,u9,i9,b9,i9,i9,i9,i9,i9,i9,i9],1)],[(2,0,0)]⟩
def aa0:=uj [(127,WG),(126,Bo),(125,tS)] [G8] 64 250 Qa
def iD (x:mS):aJ mS:=(cond (decide (x.t84 < x.t83)) (cond (bj x.t84 x.t82.n) (cond (decide ((min (min (x.t82.get (Int.toNat x.t84)).e0 (x.t82.get (Int.toNat x.t84)).e1) (x.t82.get (Int.toNat x.t84)).e2) < 0)) (.out aF.aq.ret ⟨false,x.n,x.t82,x.t83,x.t84,x.x⟩) (cond (decide ((max (max (x.t82.get (Int.toNat x.t84)).e0 (x.t82.get (Int.toNat x.t84)).e1) (x.t82.get (Int.toNat x.t84)).e2) >= x.n)) (.out aF.aq.ret ⟨false,x.n,x.t82,x.t83,x.t84,x.x⟩) (.next ⟨x.t4,x.n,x.t82,x.t83,(ak (x.t84+1)),x.x⟩))) .fail) (.out (aF.aq.exit 2) x))
theorem W9 (x:mS):aa0 (FG x) (FH x)=aJ.enc FG FH (iD x):=by
 unfold iD bj
 try simp only [aJ.bz]
 kernel_rfl
def Qb:Lp:=⟨64,250,Qa,fun vs rs=>bT FG FH (goN iD (Nz vs rs)) [aF.aq.exit 2,aF.aq.ret],false⟩
theorem aa1:Qb.Ok PG:=tl (ao.cons R8 (ao.cons yu (ao.cons ui ao.nil))) (hH Ny aL.nil) (pa:=Nz) W9
def wY (x:Item) (au:Int):=eO x.look au
def ek (x:Item) (au:Int):=goN ll ⟨false,(x.aH.n:Int),x.aH,(x.aH.n:Int),0,x⟩
def dv (x:Item) (au:Int):=goN iD ⟨(ek x au).st.t4,(ek x au).st.n,(ek x au).st.x.bf,((ek x au).st.x.bf.n:Int),0,(ek x au).st.x⟩
def jF (x:Item) (au:Int):=Bt (dv x au).st.x.aH
def om (x:Item) (au:Int):Option (Bool):=(cond (decide ((x.aH.n:Int) > 64)) (some (false)) (cond ((x.uV.n:Int) != (x.aH.n:Int)) (some (false)) (cond (decide ((x.bf.n:Int) > 64)) (some (false)) (cond (wY x au).isSome (cond (((wY x au).getD default) != 0) (some (false)) (cond ((ek x au).by (aF.aq.exit 0)) (cond ((dv x au).by (aF.aq.exit 2)) (cond (jF x au).isSome (cond ((((jF x au).getD default).fst.low.x==(dv x au).st.x.box.low.x)&&((((jF x au).getD default).fst.low.y==(dv x au).st.x.box.low.y)&&((((jF x au).getD default).fst.low.z==(dv x au).st.x.box.low.z)&&((((jF x au).getD default).fst.high.x==(dv x au).st.x.box.high.x)&&((((jF x au).getD default).fst.high.y==(dv x au).st.x.box.high.y)&&((((jF x au).getD default).fst.high.z==(dv x au).st.x.box.high.z)&&true)))))) (cond (((jF x au).getD default).snd==0) (some (true)) (some (((dv x au).st.n==0)))) (some (false))) none) (cond ((dv x au).by aF.aq.ret) (some ((dv x au).st.t4)) none)) (cond ((ek x au).by aF.aq.ret) (some ((ek x au).st.t4)) none))) none))))
theorem ah8 (x:Item) (au:Int):hJ [(127,WG),(126,Bo),(125,tS)] [G8,Qb] 64 [FD x,(kI .i64) au] = (om x au).map kB:=by
 unfold om
 try simp only [aY]
 kernel_rfl
def Sa:List KV->KR KV:=bd PG 64 (bg kB fun vs=>om (x6 (v9 vs 0)) (intOf (v9 vs 1)))
theorem SZ:a9 PG 64 Sa:=bM (ao.cons R8 (ao.cons yu (ao.cons ui ao.nil))) (hH Ny (hH aa1 aL.nil)) fun w=>ah8 (x6 (g0 111 (w 0))) (intOf (g0 3 (w 1)))
structure Show where
 items:(Sl Item)
 au:(Sl bF)
instance:Inhabited Show:=⟨⟨default,default⟩⟩
def sP (x:Show):List KV:=[fL 111 FD x.items,fL 114 iy x.au]
def uB (x:Show):KV:=.agg (sP x)
def sQ (c:Nat->KV):Show:=⟨fg x6 (c 0),fg en (c 1)⟩
def kL (v:KV):Show:=sQ fun k=>v.cells.getD k .bG
structure cB where
 s:(Sl Item)
 t4:Int
 t7:Int
 t8:Int
 ah9:Show
instance:Inhabited cB:=⟨⟨default,default,default,default,default⟩⟩
def kr (x:cB):List KV:=[fL 111 FD x.s,.fn (.func 63) [] [.ptr 0 0],.int .i64 x.t4,.int .i64 x.t7,.int .i64 x.t8]
def ku (x:cB):List (List KV):=[sP x.ah9]
def pP (vs:List KV) (rs:List (List KV)):cB:=⟨fg x6 (v9 vs 0),intOf (v9 vs 2),intOf (v9 vs 3),intOf (v9 vs 4),sQ (r9 rs 0)⟩
def ql:aQ:=⟨[(0,w9 (n9 111)),(1,⟨false,[.ref (.fn (.func 63) [] [.ptr 0 0])]⟩),(4,w9 i9),(7,w9 i9),(8,w9 i9)],[(100001,[n9 111,n9 114],1)],[]⟩
def x7:=uj [(64,Sa),(61,zz)] [] 124 26 ql
def gW (x:cB):=om (x.s.get (Int.toNat x.t8)) (x.ah9.au.n:Int)
def cj (x:cB):aJ cB:=(cond (decide (x.t8 < x.t7)) (cond (bj x.t8 x.s.n) (cond (gW x).isSome (cond (!((gW x).getD default)) (.out aF.aq.ret ⟨x.s,x.t8,x.t7,x.t8,x.ah9⟩) (.next ⟨x.s,x.t4,x.t7,(ak (x.t8+1)),x.ah9⟩)) .fail) .fail) (.out (aF.aq.exit 0) x))
theorem wZ (x:cB):x7 (kr x) (ku x)=aJ.enc kr ku (cj x):=by
 unfold cj bj
 try simp only [aJ.bz]
 kernel_rfl
def qm:Lp:=⟨124,26,ql,fun vs rs=>bT kr ku (goN cj (pP vs rs)) [aF.aq.exit 0,aF.aq.ret],false⟩
theorem x8:qm.Ok PG:=tl (ao.cons SZ (ao.cons Ah ao.nil)) aL.nil (pa:=pP) wZ
def tv (s:Show):=gf s.au
def dU (s:Show):=goN cj ⟨s.items,0,(s.items.n:Int),0,s⟩
def iX (s:Show):Option (Int):=(cond (decide ((s.items.n:Int) > 256)) (some (4)) (cond (decide ((s.au.n:Int) > 16)) (some (4)) (cond (tv s).isSome (cond (((tv s).getD default) != 0) (some (8)) (cond ((dU s).by (aF.aq.exit 0)) (some (0)) (cond ((dU s).by aF.aq.ret) (cond (decide ((dU s).st.t4 >= 0)) (some (8)) (some (0))) none))) none)))
theorem acZ (s:Show):hJ [(64,Sa),(61,zz)] [qm] 19 [uB s] = (iX s).map (kI .i64):=by
 unfold iX
 try simp only [aY]
 kernel_rfl
def Vf:List KV->KR KV:=bd PG 19 (bg (kI .i64) fun vs=>iX (kL (v9 vs 0)))
theorem aa2:a9 PG 19 Vf:=bM (ao.cons SZ (ao.cons Ah ao.nil)) (hH x8 aL.nil) fun w=>acZ (kL (g0 25 (w 0)))
def yz (c:aE) (p:bK):=jD c
def yA (c:aE) (p:bK):=kY p
def Ds (c:aE) (p:bK):=cR (ak ((ak (8 * c.sN)) * p.p.x)) p.p.z
def Dt (c:aE) (p:bK):=cR (ak ((ak (8 * c.sN)) * p.p.y)) p.p.z
def px (c:aE) (p:bK):Option (oT×Int):=(cond (yz c p).isSome (cond (((yz c p).getD default) != 0) (some (⟨0,0,0,0,0⟩,((yz c p).getD default))) (cond (yA c p).isSome (cond (((yA c p).getD default) != 0) (some (⟨0,0,0,0,0⟩,((yA c p).getD default))) (cond (decide (p.p.z < c.ax)) (some (⟨0,0,0,0,0⟩,6)) (cond (Ds c p).isSome (cond (Dt c p).isSome (cond (!(decide (p.p.z=0))) (some (⟨(ak (((Ds c p).getD default).fst+(ak (4 * c.w)))),(ak ((ak (4 * c.h)) - ((Dt c p).getD default).fst)),(ak (Int.tdiv 16777216 p.p.z)),p.u,p.v⟩,0)) none) none) none))) none)) none)
theorem afg (c:aE) (p:bK):hJ [(148,Ad),(162,vE),(100,Dr)] [] 103 [qF c,pN p] = (px c p).map (fun (r:oT×Int)=>KV.lP [Fl r.1,(kI .i64) r.2]):=by
 unfold px
 try simp only [aY]
 kernel_rfl
def OC:List KV->KR KV:=bd PG 103 (bg (fun (r:oT×Int)=>KV.lP [Fl r.1,(kI .i64) r.2]) fun vs=>px (gZ (v9 vs 0)) (kP (v9 vs 1)))
theorem Qc:a9 PG 103 OC:=bM (ao.cons zn (ao.cons tq (ao.cons DN ao.nil))) aL.nil fun w=>afg (gZ (g0 31 (w 0))) (kP (g0 177 (w 1)))
structure fq where
 out:(Sl aK)
 t72:(Sl bk)
 t73:Int
 t74:Int
 c:aE
 x:Item
instance:Inhabited fq:=⟨by constructor<;>exact default⟩
def Cm (x:fq):List KV:=[fL 62 gx x.out,fL 178 mo x.t72,.int .i64 x.t73,.int .i64 x.t74]
def Cn (x:fq):List (List KV):=[wL x.c,Cl x.x]
def JZ (vs:List KV) (rs:List (List KV)):fq:=⟨fg eM (v9 vs 0),fg oG (v9 vs 1),intOf (v9 vs 2),intOf (v9 vs 3),wM (r9 rs 0),DR (r9 rs 1)⟩
def LZ:aQ:=⟨[(8,⟨false,[.aZ 62]⟩),(72,w9 (n9 178)),(73,w9 i9),(74,w9 i9)],[(5,[i9,i9,i9,i9,i9,i9,i9,i9,i9,i9,i9,i9,i9,i9,i9,i9],1),(9,[n9 27,n9 181,n9 28,u9,u9,u9,u9,i9,u9,i9,b9,i9,i9,i9,i9,i9,i9,i9],1)],[(5,0,0),(9,1,0)]⟩
def Xa:=uj [(105,Ox),(104,Ow),(103,OC),(102,RV),(101,LJ)] [] 48 506 LZ
def oX (x:fq):=px x.c (x.t72.get (Int.toNat x.t74)).e0
def oY (x:fq):=px x.c (x.t72.get (Int.toNat x.t74)).e1
def oZ (x:fq):=px x.c (x.t72.get (Int.toNat x.t74)).e2
def o4 (x:fq):=rq ⟨((oX x).getD default).fst,((oY x).getD default).fst,((oZ x).getD default).fst⟩ x.x.look.cA
def rD (x:fq):=s4 ⟨((oX x).getD default).fst,((oY x).getD default).fst,((oZ x).getD default).fst⟩
def gS (x:fq):aJ fq:=(cond (decide (x.t74 < x.t73)) (cond (bj x.t74 x.t72.n) (cond (oX x).isSome (cond (oY x).isSome (cond (oZ x).isSome (cond (o4 x).isSome (cond ((o4 x).getD default).fst (cond (rD x).isSome (cond (nm 120 x.out.n 1) (cond (aC (x.out.n+1)) (.next ⟨(x.out.push ((rD x).getD default).fst),x.t72,x.t73,(ak (x.t74+1)),x.c,x.x⟩) .fail) .fail) .fail) (cond (aC x.out.n) (.next ⟨x.out,x.t72,x.t73,(ak (x.t74+1)),x.c,x.x⟩) .fail)) .fail) .fail) .fail) .fail) .fail) (cond (aC x.out.n) (.out (aF.aq.exit 2) x) .fail))
theorem TH (x:fq):Xa (Cm x) (Cn x)=aJ.enc Cm Cn (gS x):=by
 unfold gS bj nm aC
 try simp only [aJ.bz,XZ]
 kernel_rfl
def L1:Lp:=⟨48,506,LZ,fun vs rs=>bT Cm Cn (goN gS (JZ vs rs)) [aF.aq.exit 2],false⟩
theorem Xb:L1.Ok PG:=tl (ao.cons PS (ao.cons PR (ao.cons Qc (ao.cons SX (ao.cons Np ao.nil))))) aL.nil (pa:=JZ) TH
def o5 (s:Show) (c:aE) (item:Int) (cl:Int):=mj c ((s.items.get (Int.toNat item)).aH.get (Int.toNat ((s.items.get (Int.toNat item)).bf.get (Int.toNat cl)).e0))
def o6 (s:Show) (c:aE) (item:Int) (cl:Int):=mj c ((s.items.get (Int.toNat item)).aH.get (Int.toNat ((s.items.get (Int.toNat item)).bf.get (Int.toNat cl)).e1))
def o7 (s:Show) (c:aE) (item:Int) (cl:Int):=mj c ((s.items.get (Int.toNat item)).aH.get (Int.toNat ((s.items.get (Int.toNat item)).bf.get (Int.toNat cl)).e2))
def mT (s:Show) (c:aE) (item:Int) (cl:Int):=vd c.ax ⟨⟨((o5 s c item cl).getD default).fst,((s.items.get (Int.toNat item)).uV.get (Int.toNat ((s.items.get (Int.toNat item)).bf.get (Int.toNat cl)).e0)).e0,((s.items.get (Int.toNat item)).uV.get (Int.toNat ((s.items.get (Int.toNat item)).bf.get (Int.toNat cl)).e0)).e1⟩,⟨((o6 s c item cl).getD default).fst,((s.items.get (Int.toNat item)).uV.get (Int.toNat ((s.items.get (Int.toNat item)).bf.get (Int.toNat cl)).e1)).e0,((s.items.get (Int.toNat item)).uV.get (Int.toNat ((s.items.get (Int.toNat item)).bf.get (Int.toNat cl)).e1)).e1⟩,⟨((o7 s c item cl).getD default).fst,((s.items.get (Int.toNat item)).uV.get (Int.toNat ((s.items.get (Int.toNat item)).bf.get (Int.toNat cl)).e2)).e0,((s.items.get (Int.toNat item)).uV.get (Int.toNat ((s.items.get (Int.toNat item)).bf.get (Int.toNat cl)).e2)).e1⟩⟩
def hZ (s:Show) (c:aE) (item:Int) (cl:Int):=goN gS ⟨⟨0,(fun i=>⟨⟨0,0,0,0,0⟩,⟨0,0,0,0,0⟩,⟨0,0,0,0,0⟩⟩)⟩,((mT s c item cl).getD default).fst,(((mT s c item cl).getD default).fst.n:Int),0,c,(s.items.get (Int.toNat item))⟩
def kM (s:Show) (c:aE) (item:Int) (cl:Int):Option ((Sl aK)):=(cond (bj item s.items.n) (cond (bj cl (s.items.get (Int.toNat item)).bf.n) (cond (bj ((s.items.get (Int.toNat item)).bf.get (Int.toNat cl)).e0 (s.items.get (Int.toNat item)).aH.n) (cond (o5 s c item cl).isSome (cond (bj ((s.items.get (Int.toNat item)).bf.get (Int.toNat cl)).e0 (s.items.get (Int.toNat item)).uV.n) (cond (bj ((s.items.get (Int.toNat item)).bf.get (Int.toNat cl)).e0 (s.items.get (Int.toNat item)).uV.n) (cond (bj ((s.items.get (Int.toNat item)).bf.get (Int.toNat cl)).e1 (s.items.get (Int.toNat item)).aH.n) (cond (o6 s c item cl).isSome (cond (bj ((s.items.get (Int.toNat item)).bf.get (Int.toNat cl)).e1 (s.items.get (Int.toNat item)).uV.n) (cond (bj ((s.items.get (Int.toNat item)).bf.get (Int.toNat cl)).e1 (s.items.get (Int.toNat item)).uV.n) (cond (bj ((s.items.get (Int.toNat item)).bf.get (Int.toNat cl)).e2 (s.items.get (Int.toNat item)).aH.n) (cond (o7 s c item cl).isSome (cond (bj ((s.items.get (Int.toNat item)).bf.get (Int.toNat cl)).e2 (s.items.get (Int.toNat item)).uV.n) (cond (bj ((s.items.get (Int.toNat item)).bf.get (Int.toNat cl)).e2 (s.items.get (Int.toNat item)).uV.n) (cond (mT s c item cl).isSome (cond ((hZ s c item cl).by (aF.aq.exit 2)) (some ((hZ s c item cl).st.out)) none) none) none) none) none) none) none) none) none) none) none) none) none) none) none) none)
theorem ac0 (s:Show) (c:aE) (item:Int) (cl:Int):hJ [(105,Ox),(104,Ow),(103,OC),(102,RV),(101,LJ)] [L1] 48 [uB s,qF c,(kI .i64) item,(kI .i64) cl] = (kM s c item cl).map (fL 62 gx):=by
 unfold kM bj
 try simp only [aY]
 kernel_rfl
def Aj:List KV->KR KV:=bd PG 48 (bg (fL 62 gx) fun vs=>kM (kL (v9 vs 0)) (gZ (v9 vs 1)) (intOf (v9 vs 2)) (intOf (v9 vs 3)))
theorem zA:a9 PG 48 Aj:=bM (ao.cons PS (ao.cons PR (ao.cons Qc (ao.cons SX (ao.cons Np ao.nil))))) (hH Xb aL.nil) fun w=>ac0 (kL (g0 25 (w 0))) (gZ (g0 31 (w 1))) (intOf (g0 3 (w 2))) (intOf (g0 3 (w 3)))
def qQ (s:Show) (c:aE):=iX s
def tw (s:Show) (c:aE):=jD c
def dw (s:Show) (c:aE):Option (Int):=(cond (qQ s c).isSome (cond (((qQ s c).getD default) != 0) (some (((qQ s c).getD default))) (cond (tw s c).isSome (some (((tw s c).getD default))) none)) none)
theorem ac1 (s:Show) (c:aE):hJ [(100,Dr),(19,Vf)] [] 47 [uB s,qF c] = (dw s c).map (kI .i64):=by
 unfold dw
 try simp only [aY]
 kernel_rfl
def FJ:List KV->KR KV:=bd PG 47 (bg (kI .i64) fun vs=>dw (kL (v9 vs 0)) (gZ (v9 vs 1)))
theorem FK:a9 PG 47 FJ:=bM (ao.cons DN (ao.cons aa2 ao.nil)) aL.nil fun w=>ac1 (kL (g0 25 (w 0))) (gZ (g0 31 (w 1)))
end
end Go.Proofs.YtchbpckkmgcgkaaGreat.b
end
