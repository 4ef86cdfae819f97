/- Part of the proof of ImageLeaves: a machine that runs the program's code over open terms, shown to be the model's, and the plain models of its functions. No conditions. -/
import Derived.Test.YtahhdndhkgbcjaaGp
import Derived.OpenShut
import Derived.ChangeArms
import Derived.WideShapes
import Derived.Below
import Derived.KernelRfl
import Derived.Test.YtahhdndhkgbcjaaProg
section
namespace Go.K
open Go Go.aE
mutual
def wfK:KV→Prop
 | .int k n=>(Lit.int k n).wf=true
 | .str s=>s.size≤maxLen
 | .ts _ _ n es _=>n≤maxLen∧GL es
 | .agg cs=>GL cs
 | _=>True
def GL:List KV→Prop
 | []=>True
 | v::vs=>wfK v∧GL vs
end
theorem CH:∀ {a b:List KV},GL a→GL b→GL (a++b)
 | [],_,_,h=>h
 | x::a,b,h,k=>by
  simp only [GL] at h
  exact ⟨h.1,CH h.2 k⟩
structure Na (P:Program) (W:World) (E:Env) (B:St) (ρ:aW):Prop where
 jy:uB ρ B W.heap.size W
 k:fK P E .empty B
 κ:∀ b,E.κ b=none
 ta:∀ b o,B.get b=some o→o.fw=false∧o.mz=none
 α:∀ b,E.α b=none
def Env.none:Env:=⟨fun _=>.none,fun _=>.none,fun _=>.none,fun _=>.none⟩
theorem Ic.empty {P:Program} {E:Env} {B:St} (qn:∀ b,E.α b=none):Ic P E .empty B:=by
 have hn:∀ b o,¬ ax.empty.get b=some o:=fun b o hb=>by simp [ax.empty,ax.get] at hb
 exact ⟨fun b v hb=>(hn b _ hb).elim,fun b v hb=>(hn b _ hb).elim,fun x ⟨b,v,_,_,hb,_⟩=>(hn b _ hb).elim,fun b c v u x L N L' N' hb=>(hn b _ hb).elim,fun b c v u x y L N L' N' cs e own g k b8 e' pk k' hb=>(hn b _ hb).elim,fun b x _=>qn b,fun b p e=>by rw [qn b] at e; simp at e,fun b x L N e=>by rw [qn b] at e; simp at e,fun b v x L N cs e own g k hb=>(hn b _ hb).elim,fun b v hb=>(hn b _ hb).elim⟩
theorem Na.start (P:Program) (W:World):Na P W .none .empty (De []):=by
 refine ⟨uB.empty W,⟨?_,?_,?_,?_,?_,?_,?_,?_,?_,?_,?_,?_,?_,?_,.empty fun _=>rfl⟩,fun _=>rfl,fun b o h=>by simp [St.get,St.empty] at h,fun _=>rfl⟩
 ·intro b cs bU h; simp [ax.empty,ax.get] at h
 ·intro b cs bU h; simp [ax.empty,ax.get] at h
 ·intro b r h; simp [Env.none] at h
 ·intro b r h; simp [Env.none] at h
 ·intro b c r h; simp [Env.none] at h
 ·intro b c r _ _ _ _ _ _ h; simp [Env.none] at h
 ·intro b r h; simp [Env.none] at h
 ·intro b r h; simp [Env.none] at h
 ·intro b o h; simp [ax.empty,ax.get] at h
 ·intro b r h; simp [Env.none] at h
 ·intro b r h; simp [Env.none] at h
 ·intro b r h; simp [Env.none] at h
 ·intro g _; simp [St.members,St.empty]
 ·intro g x h; simp [St.members,St.empty] at h
theorem Na.add {P:Program} {W:World} {E:Env} {B:St} {ρ:aW} (h:Na P W E B ρ) {cs:List Value} {l:aE.Loc}
  (hc:∀ (i:Nat) (v:Value),cs[i]? = some v→∃ v',W.cell? ⟨l.cb,l.ej+i,.none⟩=some v'∧VR ρ v v'∧scalar v=true) (hl:l.cb < W.heap.size) (hf:l.ej+cs.length≤l.yI) :
  Na P W (E.gD B.next ⟨cs,l.bU,false,.none⟩) (B.new (.row cs l.bU false .none)) (ρ.set B.next l)∧E.le (E.gD B.next ⟨cs,l.bU,false,.none⟩)∧ρ.le (ρ.set B.next l):=by
 have hle:E.le (E.gD B.next ⟨cs,l.bU,false,.none⟩):=⟨fun _ _ e=>e,fun _ _ e=>e,fun b r e=>by
  have:=h.k.nD b r e
  simp only [Env.gD]; rw [if_neg (by omega)]; exact e,fun _ _ e=>e⟩
 have lC:=h.jy.HU l
 have nf:∀ b o,(B.new (.row cs l.bU false .none)).get b=some o→(b=B.next∧o = .row cs l.bU false .none)∨(b≠B.next∧B.get b=some o):=by
  intro b o hb
  rw [St.dr] at hb
  split at hb
  ·rename_i e; simp at hb; exact .inl ⟨e,hb.symm⟩
  ·rename_i e; exact .inr ⟨e,hb⟩
 have acK:∀ b o,(B.new (.row cs l.bU false .none)).get b=some o→o.fw=false∧o.mz = .none:=by
  intro b o hb
  rcases nf b o hb with ⟨_,rfl⟩ | ⟨_,hb⟩
  ·exact ⟨rfl,rfl⟩
  ·exact h.ta b o hb
 refine ⟨⟨⟨⟨?_,?_,?_,?_,?_,?_⟩,?_,h.jy.size,h.jy.Jj.mono lC⟩,?_,h.κ,acK,h.α⟩,hle,lC⟩
 ·intro b mB bU own bP hb
  rcases nf b _ hb with ⟨rfl,e⟩ | ⟨dJ,hb⟩
  ·simp only [dg.row.injEq] at e
   obtain ⟨rfl,rfl,rfl,rfl⟩:=e
   refine ⟨l,by simp [aW.set],⟨fun i v hi=>?_,fun _=>hl,fun e=>by simp at e,fun e=>by simp at e,hf,fun e=>by simp at e,rfl,hl,fun e=>by simp at e⟩⟩
   obtain ⟨v',h1,h2,h3⟩:=hc i v hi
   exact ⟨v',h1,h2.mono lC,h3⟩
  ·obtain ⟨l',h1,h2⟩:=h.jy.rel.row b mB bU own bP hb
   exact ⟨l',lC _ _ h1,⟨fun i v hi=>by obtain ⟨v',q1,q2,q3⟩:=h2.cells i v hi; exact ⟨v',q1,q2.mono lC,q3⟩,h2.ta,h2.fw,h2.there,h2.fits,h2.ends,h2.bU,h2.oq,h2.mark⟩⟩
 ·intro b es hb
  have:=(acK b _ hb).1
  simp [dg.fw] at this
 ·intro b s pos hb
  have:=(acK b _ hb).1
  simp [dg.fw] at this
 ·intro b st e t ps a c hb
  have:=(acK b _ hb).1
  simp [dg.fw] at this
 ·intro b1 b2 o1 o2 l1 l2 _ h1 _ h3
  have:=(acK b1 _ h1).1
  rw [h3] at this; simp at this
 ·intro b o bc f hb hk
  have:=(acK b _ hb).2
  rw [hk] at this; simp at this
 ·intro b l' hb
  rw [St.cr]
  simp only [aW.set] at hb
  split at hb
  ·omega
  ·have:=h.jy.lQ b l' hb; omega
 ·refine ⟨?_,?_,?_,?_,?_,?_,?_,?_,?_,?_,?_,?_,?_,?_,.empty h.α⟩
  ·intro b cs bU h; simp [ax.empty,ax.get] at h
  ·intro b cs bU h; simp [ax.empty,ax.get] at h
  ·intro b r hb
   simp only [Env.gD] at hb
   split at hb
   ·rename_i e
    simp at hb
    subst hb e
    simp
   ·have:=h.k.nD b r hb
    rw [St.dr,if_neg (by omega)]
    exact h.k.z b r hb
  ·intro b x hb; have hb:E.κ b=some x:=hb; rw [h.κ b] at hb; simp at hb
  ·exact h.k.inj
  ·exact h.k.jP
  ·exact h.k.lQ
  ·exact h.k.nq
  ·exact h.k.live
  ·intro b x hb; have:=h.k.hH b x hb; rw [St.cr]; omega
  ·intro b r hb
   simp only [Env.gD] at hb
   rw [St.cr]
   split at hb
   ·omega
   ·have:=h.k.nD b r hb; omega
  ·intro b g hb; have:=h.k.kr b g hb; rw [St.cr]; omega
  ·intro g hg; rw [St.cr] at hg; rw [St.lB]; exact h.k.fresh g (by omega)
  ·intro g x hx; rw [St.lB] at hx; rw [St.cr]; have:=h.k.mem g x hx; omega
def ZS (P:Program):Nat→List Field→Option Nat
 | off,[]=>some off
 | off,f::fs=>cond (Nat.beq f.offset off) (ZS P (off+P.cellsOf f.type) fs) .none
def y8 (P:Program):Nat→TypeId→Bool
 | 0,_=>false
 | n+1,t=>match P.underlying t with
  | some (.int _) | some .bool | some .string=>true
  | some (.slice e)=>Nat.ble 1 (P.cellsOf e)&&y8 P n e&&(match lay P 12 e with
   | some l=>Nat.beq l.ks.length (P.cellsOf e)&&(l.agg||Nat.beq l.ks.length 1)
   | .none=>false)
  | some (.struct fs)=>fs.toList.all (fun f=>y8 P n f.type)&&(match ZS P 0 fs.toList with
   | some k=>Nat.beq k (P.cellsOf t)
   | .none=>false)
  | some (.array len e)=>y8 P n e&&Nat.beq (P.cellsOf t) (len * P.cellsOf e)
  | _=>false
def ZT (W:World) (cs:List Value):Prop:=∀ a n c,Value.slice (some a) n c∈cs→0 < W.heap.size
def Got (P:Program) (W:World) (E:Env) (_:St) (ρ:aW) (cs:List Value) (K:List KV→Prop):Prop:=
 ∃ E' B' aX ks,Na P W E' B' aX∧E.le E'∧ρ.le aX∧BQ P E' aX ks cs∧GL ks∧K ks
def X6 {H:Type} (enc:TypeId×Value→H) (P:Program) (W:World) (n:Nat):Prop:=
 ∀ t,y8 P n t=true→∀ (fuel:Nat) (cs:List Value) (x:DataW H×List MemPlace) (E:Env) (B:St) (ρ:aW),DataW.trod enc P W 0 (fun _=>true) true fuel t cs=some x→ZT W cs→Na P W E B ρ→
  Got P W E B ρ cs fun ks=>∀ m l,lay P m t=some l→aF l.ks ks=true
section
variable {H:Type} {enc:TypeId×Value→H} {P:Program} {W:World} {E:Env} {B:St} {ρ:aW}
theorem BQ.append {E:Env} {ρ:aW} {a b:List KV} {a' b' : List Value} (h:BQ P E ρ a a') (k:BQ P E ρ b b'):BQ P E ρ (a++b) (a'++b'):=by
 obtain ⟨m,h1,h2⟩:=h
 obtain ⟨l,h3,h4⟩:=k
 exact ⟨m++l,h1.append h3,h2.append h4⟩
theorem BQ.mono {E E' : Env} {ρ aX:aW} {a:List KV} {a' : List Value} (h:BQ P E ρ a a') (hE:E.le E') (lC:ρ.le aX):BQ P E' aX a a':=by
 obtain ⟨m,h1,h2⟩:=h
 exact ⟨m,h1.mono hE,h2.mono lC⟩
theorem BQ.len {E:Env} {ρ:aW} {a:List KV} {a' : List Value} (h:BQ P E ρ a a'):a'.length=a.length:=by
 obtain ⟨m,h1,h2⟩:=h
 rw [h2.length,h1.length]
theorem Fw:∀ {ks:List CK} {vs:List KV},aF ks vs=true→vs.length=ks.length
 | [],[],_=>rfl
 | [],_::_,h=>by simp [aF] at h
 | _::_,[],h=>by simp [aF] at h
 | k::ks,v::vs,h=>by
  simp only [aF,Bool.and_eq_true] at h
  simp [Fw h.2]
theorem Fx:∀ {ks ls:List CK} {vs us:List KV},aF ks vs=true→aF ls us=true→aF (ks++ls) (vs++us)=true
 | [],_,[],_,_,h=>h
 | [],_,_::_,_,h,_=>by simp [aF] at h
 | _::_,_,[],_,h,_=>by simp [aF] at h
 | k::ks,ls,v::vs,us,h,h'=>by
  simp only [aF,Bool.and_eq_true] at h
  simp only [List.cons_append,aF,Bool.and_eq_true]
  exact ⟨h.1,Fx h.2 h'⟩
theorem ZT.sub {W:World} {cs ds:List Value} (h:ZT W cs) (k:∀ v∈ds,v∈cs):ZT W ds:=fun a n c hm=>h a n c (k _ hm)
theorem ZU {cs:List Value} {i n:Nat} : ∀ v∈(cs.drop i).take n,v∈cs:=fun _ h=>List.mem_of_mem_drop (List.mem_of_mem_take h)
theorem Wi (cs:List Value) (i m n:Nat):(cs.drop i).take m++(cs.drop (i+m)).take n=(cs.drop i).take (m+n):=by
 rw [List.take_add,List.drop_drop]
theorem Rq {n:Nat} (IH:X6 enc P W n) {fuel:Nat} {cs:List Value} (hp:ZT W cs):∀ (fs:List Field) (off k:Nat) (E:Env) (B:St) (ρ:aW),Na P W E B ρ→ZS P off fs=some k→k≤cs.length→(∀ f∈fs,y8 P n f.type=true)→
  (∀ f∈fs,∃ x,DataW.trod enc P W 0 (fun _=>true) true fuel f.type ((cs.drop f.offset).take (P.cellsOf f.type))=some x)→
  off≤k∧Got P W E B ρ ((cs.drop off).take (k - off)) fun ks=>∀ m l,Kw (lay P m) fs off=some l→aF l ks=true
 | [],off,k,E,B,ρ,hi,ht,hk,_,_=>by
  simp [ZS] at ht; subst ht
  refine ⟨Nat.le_refl _,E,B,ρ,[],hi,Env.le_refl _,aW.le_refl _,?_,trivial,?_⟩
  ·rw [Nat.sub_self,List.take_zero]; exact ⟨[],.nil,.nil⟩
  ·intro m l h; simp [Kw] at h; subst h; rfl
 | f::fs,off,k,E,B,ρ,hi,ht,hk,he,hx=>by
  unfold ZS at ht
  cases hb:Nat.beq f.offset off with
  | false=>rw [hb] at ht; simp at ht
  | true=>
   rw [hb,cond_true] at ht
   have Jl:=Nat.eq_of_beq_eq_true hb
   obtain ⟨x,Cz⟩:=hx f (by simp)
   obtain ⟨E1,B1,mX,ks1,h1,h2,h3,h4,h5,h6⟩:=IH f.type (he f (by simp)) fuel _ x E B ρ Cz (hp.sub ZU) hi
   obtain ⟨hle,E2,B2,uJ,ks2,q1,q2,q3,q4,q5,q6⟩:=Rq IH hp fs (off+P.cellsOf f.type) k E1 B1 mX h1 ht hk (fun g hg=>he g (by simp [hg])) (fun g hg=>hx g (by simp [hg]))
   have hlen:ks1.length=P.cellsOf f.type:=by
    rw [← h4.len,List.length_take,List.length_drop,Jl]
    omega
   refine ⟨by omega,E2,B2,uJ,ks1++ks2,q1,Env.le_trans h2 q2,aW.le_trans h3 q3,?_,CH h5 q5,?_⟩
   ·have:=(h4.mono q2 q3).append q4
    rw [Jl,Wi] at this
    rw [show k - off=P.cellsOf f.type+(k - (off+P.cellsOf f.type)) by omega]
    exact this
   ·intro m l hl
    unfold Kw at hl
    rw [hb,cond_true] at hl
    obtain ⟨l1,hl1,hl⟩:=Option.bind_eq_some_iff.1 hl
    obtain ⟨l2,mq,rfl⟩:=Option.map_eq_some_iff.1 hl
    have Ge:=h6 m l1 hl1
    have anE:=Fw Ge
    rw [← anE,hlen] at mq
    exact Fx Ge (q6 m l2 mq)
theorem Wj {n:Nat} (IH:X6 enc P W n) {fuel len c:Nat} {e:TypeId} {cs:List Value} (hp:ZT W cs) (he:y8 P n e=true) (hc:P.cellsOf e=c) (hk:len * c≤cs.length) (hx:∀ i,i < len→∃ x,DataW.trod enc P W 0 (fun _=>true) true fuel e ((cs.drop (i * c)).take c)=some x) (hi:Na P W E B ρ):∀ j,j≤len→
  Got P W E B ρ (cs.take (j * c)) fun ks=>∀ m l,lay P m e=some l→aF (dV l.ks j) ks=true
 | 0,_=>by
  refine ⟨E,B,ρ,[],hi,Env.le_refl _,aW.le_refl _,?_,trivial,fun m l _=>rfl⟩
  rw [Nat.zero_mul,List.take_zero]; exact ⟨[],.nil,.nil⟩
 | j+1,hj=>by
  obtain ⟨E1,B1,mX,ks1,h1,h2,h3,h4,h5,h6⟩:=Wj IH hp he hc hk hx hi j (by omega)
  obtain ⟨x,Cz⟩:=hx j (by omega)
  obtain ⟨E2,B2,uJ,ks2,q1,q2,q3,q4,q5,q6⟩:=IH e he fuel _ x E1 B1 mX Cz (hp.sub ZU) h1
  refine ⟨E2,B2,uJ,ks1++ks2,q1,Env.le_trans h2 q2,aW.le_trans h3 q3,?_,CH h5 q5,?_⟩
  ·have:=(h4.mono q2 q3).append q4
   have e:=Wi cs 0 (j * c) c
   simp only [List.drop_zero,Nat.zero_add] at e
   rw [e] at this
   rw [show (j+1) * c=j * c+c by rw [Nat.succ_mul]]
   exact this
  ·intro m l hl
   have:dV l.ks (j+1)=dV l.ks j++l.ks:=by
    have comm:∀ n,l.ks++dV l.ks n=dV l.ks n++l.ks:=by
     intro n
     induction n with
     | zero=>simp [dV]
     | succ n ih=>simp only [dV,List.append_assoc]; rw [ih]
    rw [← comm]; rfl
   rw [this]
   exact Fx (h6 m l hl) (q6 m l hl)
theorem Rr {a:Addr} {i k:Nat} {v:Value} (h:W.cell? ((a.add i).add k)=some v):W.cell? ⟨a.block,a.off+i+k,.none⟩=some v∧a.block < W.heap.size∧(i+k=0→a.spot = .none):=by
 have hb:((a.add i).add k).block=a.block:=by unfold Addr.add; split <;> split <;> rfl
 have ho:((a.add i).add k).off=a.off+i+k:=by
  unfold Addr.add
  split <;> split <;> simp_all
 have hs:((a.add i).add k).spot = .none:=by
  unfold World.cell? at h
  split at h
  ·split at h
   ·simp at h
   ·rename_i hs; simpa using hs
  ·simp at h
 have he:(a.add i).add k=⟨a.block,a.off+i+k,.none⟩:=by
  generalize (a.add i).add k=p at hb ho hs
  obtain ⟨b,o,s⟩:=p
  simp at hb ho hs
  simp [hb,ho,hs]
 refine ⟨he ▸ h,?_,fun e=>?_⟩
 ·rw [he] at h
  unfold World.cell? at h
  split at h
  ·rename_i heq
   exact (Array.getElem?_eq_some_iff.1 heq).1
  ·simp at h
 ·have h1:i=0:=by omega
  have h2:k=0:=by omega
  subst h1 h2
  simpa [Addr.add] using hs
theorem ZV {a:Addr} {n:Nat} {cs:List Value} (h:W.cells? 0 a n=some cs):cs.length=n∧∀ (k:Nat) (v:Value),cs[k]? = some v→W.cell? (a.add k)=some v:=by
 unfold World.cells? at h
 rw [if_pos (Nat.zero_le _)] at h
 have hl:=mapM_some_length h
 simp at hl
 refine ⟨hl,fun k v hv=>?_⟩
 have hk:k < n:=by rw [← hl]; exact (List.getElem?_eq_some_iff.1 hv).1
 rw [mapM_some_get h k k (by simp [hk])]
 exact hv
theorem aik {ks:List KV} {agg:Bool} (h:GL ks):wfK (J8 agg ks):=by
 cases agg with
 | true=>exact h
 | false=>
  match ks,h with
  | [],_=>exact trivial
  | v::vs,h=>exact h.1
theorem N1 {E:Env} {ρ:aW} : ∀ {ks:List CK} {vs:List KV} {m:List Value},aF ks vs=true→bb P E vs m→∀ v∈m,scalar v=true
 | [],[],m,_,h,v,hv=>by rw [h.cl] at hv; simp at hv
 | [],_::_,_,h,_,_,_=>by simp [aF] at h
 | _::_,[],_,h,_,_,_=>by simp [aF] at h
 | k::ks,u::vs,m,h,hm,v,hv=>by
  simp only [aF,Bool.and_eq_true] at h
  obtain ⟨y,ys,rfl,h1,h2⟩:=hm.cons_inv
  rcases List.mem_cons.1 hv with rfl | hv
  ·refine h1.scalar ?_
   have:=h.1
   cases u <;> first | rfl | (cases k <;> simp [kindOk] at this)
  ·exact N1 (ρ:=ρ) h.2 h2 v hv
theorem Wk {n:Nat} (IH:X6 enc P W n) {fuel len c:Nat} {e:TypeId} {l:vi} {a:Addr} (he:y8 P n e=true) (hl:lay P 12 e=some l) (D6:l.ks.length=c) (ha:l.agg=true∨l.ks.length=1) (hc:P.cellsOf e=c) (hc1:1≤c)
  (hx:∀ i,i < len→∃ x,(W.cells? 0 (a.add (i * c)) c).bind (DataW.trod enc P W 0 (fun _=>true) true fuel e)=some x) (hi:Na P W E B ρ):∀ j,j≤len→
  ∃ E' B' aX es us fl,Na P W E' B' aX∧E.le E'∧ρ.le aX∧es.length=j∧bb P E' es us∧fQ l es=true∧GL es∧fl.length=j * c∧ou c 0 fl us∧
   (∀ (i:Nat) (v:Value),fl[i]? = some v→∃ v',W.cell? ⟨a.block,a.off+i,.none⟩=some v'∧VR aX v v'∧scalar v=true)∧(0 < j→a.block < W.heap.size∧a.spot = .none)
 | 0,_=>⟨E,B,ρ,[],[],[],hi,Env.le_refl _,aW.le_refl _,rfl,.nil,rfl,trivial,by simp,fun i x h=>by simp at h,fun i v h=>by simp at h,fun h=>by omega⟩
 | j+1,hj=>by
  obtain ⟨E1,B1,mX,es,us,fl,h1,h2,h3,h4,h5,h6,h7,h8,h9,sJ,D9⟩:=Wk IH he hl D6 ha hc hc1 hx hi j (by omega)
  obtain ⟨x,Cz⟩:=hx j (by omega)
  obtain ⟨cs,HW,hx2⟩:=Option.bind_eq_some_iff.1 Cz
  obtain ⟨hlen,nf⟩:=ZV HW
  have Gd:a.block < W.heap.size:=by
   have h0:0 < cs.length:=by rw [hlen]; omega
   exact (Rr (nf 0 _ (List.getElem?_eq_getElem h0))).2.1
  obtain ⟨E2,B2,uJ,ks,q1,q2,q3,⟨m,q4,q4'⟩,q5,q6⟩:=IH e he fuel cs x E1 B1 mX hx2 (fun _ _ _ _=>by omega) h1
  have hk:=q6 12 l hl
  have hml:m.length=c:=by rw [q4.length,Fw hk,D6]
  have xz:l.agg=true∨m.length=1:=by rw [hml,← D6]; exact ha
  have WM:=N1 (ρ:=ρ) hk q4
  have oz:=Ze WM xz
  have hul:us.length=j:=by rw [h5.length,h4]
  refine ⟨E2,B2,uJ,es++[J8 l.agg ks],us++[mkE l.agg m],fl++m,q1,Env.le_trans h2 q2,aW.le_trans h3 q3,by simp [h4],(h5.mono q2).append (.cons (Zf q4 xz) .nil),?_,CH h7 ⟨aik q5,trivial⟩,?_,?_,?_,fun _=>⟨Gd,?_⟩⟩
  ·have:∀ {es:List KV},fQ l es=true→fQ l (es++[J8 l.agg ks])=true:=by
    intro es
    induction es with
    | nil=>intro _; simp [fQ,TX hk ha]
    | cons e es ih=>
     intro h
     simp only [fQ,Bool.and_eq_true] at h
     simp only [List.cons_append,fQ,Bool.and_eq_true]
     exact ⟨h.1,ih h.2⟩
   exact this h6
  ·rw [List.length_append,h8,hml,Nat.succ_mul]
  ·intro i y hy
   by_cases hi:i < j
   ·rw [List.getElem?_append_left (by omega)] at hy
    obtain ⟨r1,r2⟩:=h9 i y hy
    refine ⟨r1,fun k z hz=>?_⟩
    have:=r2 k z hz
    rw [List.getElem?_append_left (List.getElem?_eq_some_iff.1 this).1]
    exact this
   ·rw [List.getElem?_append_right (by omega),hul] at hy
    have CI:i=j:=by
     have:=(List.getElem?_eq_some_iff.1 hy).1
     simp at this
     omega
    subst CI
    simp at hy
    subst hy
    have fv:(mkE l.agg m).cells.size=c:=by rw [← Array.length_toList,oz,hml]
    refine ⟨fv,fun k z hz=>?_⟩
    rw [← Array.getElem?_toList,oz] at hz
    rw [List.getElem?_append_right (by rw [h8]; omega),h8,show 0+i * c+k - i * c=k by omega]
    exact hz
  ·intro i v hv
   by_cases hi:i < fl.length
   ·rw [List.getElem?_append_left hi] at hv
    obtain ⟨v',r1,r2,r3⟩:=sJ i v hv
    exact ⟨v',r1,r2.mono q3,r3⟩
   ·rw [List.getElem?_append_right (by omega)] at hv
    obtain ⟨v',r1,r2⟩:=q4'.get hv
    refine ⟨v',?_,r2,WM v (List.mem_of_getElem? hv)⟩
    have:=(Rr (nf _ _ r1)).1
    rw [h8] at this
    rw [h8] at hi
    rw [show a.off+i=a.off+j * c+(i - j * c) by omega]
    exact this
  ·by_cases h0:j=0
   ·subst h0
    have h0:0 < cs.length:=by rw [hlen]; omega
    exact (Rr (nf 0 _ (List.getElem?_eq_getElem h0))).2.2 (by omega)
   ·exact (D9 (by omega)).2
theorem afN:∀ n,X6 enc P W n
 | 0=>fun t ht=>by simp [y8] at ht
 | n+1=>by
  have IH:=afN n
  intro t ht fuel cs x E B ρ hx hp hi
  have hn:∀ {m l},lay P m t=some l→∃ m',m=m' + 1:=by
   intro m l h
   cases m with
   | zero=>simp [lay] at h
   | succ m=>exact ⟨m,rfl⟩
  unfold y8 at ht
  split at ht
  ·rename_i k hu
   obtain ⟨i,rfl,_,hw⟩:=DataW.trod_int hu hx
   refine ⟨E,B,ρ,[.int k i],hi,Env.le_refl _,aW.le_refl _,⟨_,.cons .mkInt .nil,.cons (by simp [VR]) .nil⟩,⟨hw,trivial⟩,fun m l h=>?_⟩
   obtain ⟨m',rfl⟩:=hn h
   simp only [lay,hu,Option.some.injEq] at h
   subst h
   simp [aF,kindOk]
  ·rename_i hu
   obtain ⟨b,rfl,_⟩:=DataW.trod_bool hu hx
   refine ⟨E,B,ρ,[.bool b],hi,Env.le_refl _,aW.le_refl _,⟨_,.cons .sH .nil,.cons (by simp [VR]) .nil⟩,⟨trivial,trivial⟩,fun m l h=>?_⟩
   obtain ⟨m',rfl⟩:=hn h
   simp only [lay,hu,Option.some.injEq] at h
   subst h
   simp [aF,kindOk]
  ·rename_i hu
   obtain ⟨s,rfl,_,hw⟩:=DataW.trod_string hu hx
   refine ⟨E,B,ρ,[.str s],hi,Env.le_refl _,aW.le_refl _,⟨_,.cons .mkStr .nil,.cons (by simp [VR]) .nil⟩,⟨hw,trivial⟩,fun m l h=>?_⟩
   obtain ⟨m',rfl⟩:=hn h
   simp only [lay,hu,Option.some.injEq] at h
   subst h
   simp [aF,kindOk]
  ·rename_i e hu
   simp only [Bool.and_eq_true] at ht
   obtain ⟨⟨wc,Gy⟩,ht3⟩:=ht
   have hc1:=Nat.le_of_ble_eq_true wc
   split at ht3
   ·rename_i l hl
    simp only [Bool.and_eq_true,Bool.or_eq_true] at ht3
    have D6:=Nat.eq_of_beq_eq_true ht3.1
    have xz:l.agg=true∨l.ks.length=1:=ht3.2.imp id Nat.eq_of_beq_eq_true
    have hlF:bt P e=l:=by simp [bt,hl]
    have fv:bd P e=P.cellsOf e:=by rw [bd,hlF,D6]
    have fin:∀ {ks:List KV} {m:Nat} {l' : vi} {mk:Mk} {nn:Nat} {es:List KV} {acc:Nat→KV},mk = .any→lay P m t=some l'→ks = [.ts e mk nn es acc]→aF l'.ks ks=true:=by
     intro ks m l' mk nn es acc WN h rH
     obtain ⟨m',rfl⟩:=hn h
     simp only [lay,hu,Option.some.injEq] at h
     subst h rH WN
     simp [aF,kindOk]
    rcases DataW.trod_slice hu hx with ⟨rfl,_⟩ | ⟨a,len,cap,elems,rest,fu,_,rfl,_,_,hle,ajy,Bm,hE,hR,_⟩
    ·refine ⟨E,B,ρ,[.ts e .any 0 [] ot],hi,Env.le_refl _,aW.le_refl _,⟨[.slice .none 0 0],.cons ?_ .nil,.cons (by simp [VR]) .nil⟩,⟨⟨Nat.zero_le _,trivial⟩,trivial⟩,fun m l h=>fin rfl h rfl⟩
     simp only [VK]
     exact ⟨⟨rfl,fun i h=>by omega,rfl⟩,[],.nil,.none,0,rfl,Nat.le_refl _,.inl ⟨rfl,rfl⟩,trivial⟩
    ·have hxs:∀ i,i < len→∃ x,(W.cells? 0 (a.add (i * P.cellsOf e)) (P.cellsOf e)).bind (DataW.trod enc P W 0 (fun _=>true) true fu e)=some x:=by
      intro i h
      rw [hE i h]
      exact ⟨_,List.getElem?_eq_getElem (by rw [Bm]; exact h)⟩
     obtain ⟨E1,B1,mX,es,us,fl,h1,h2,h3,h4,h5,h6,h7,h8,h9,sJ,D9⟩:=Wk IH Gy hl D6 xz rfl hc1 hxs hi len (Nat.le_refl _)
     have vg:0 < cap→a.block < W.heap.size∧a.spot = .none:=by
      intro h0
      by_cases Ks:0 < len
      ·exact D9 Ks
      ·have Ks:len=0:=by omega
       subst Ks
       obtain ⟨hr1,uD⟩:=hR rfl
       have hr3:=uD 0 (by omega)
       rw [List.getElem?_eq_getElem (by rw [hr1]; omega)] at hr3
       obtain ⟨b8,ajE,_⟩:=Option.bind_eq_some_iff.1 hr3
       obtain ⟨hlen,nf⟩:=ZV ajE
       have h0:0 < b8.length:=by rw [hlen]; omega
       have:=Rr (nf 0 _ (List.getElem?_eq_getElem h0))
       exact ⟨this.2.1,this.2.2 (by omega)⟩
     have hh:0 < W.heap.size:=hp a len cap (by simp)
     have hlenes:us.length=len:=by rw [h5.length,h4]
     have anF:∃ lc:aE.Loc,lc.bU=P.cellsOf e∧lc.cb < W.heap.size∧lc.ej+fl.length≤lc.yI∧(cap≠0→a=⟨lc.cb,lc.ej,.none⟩)∧lc.ej+cap * lc.bU≤lc.yI∧
       (∀ (i:Nat) (v:Value),fl[i]? = some v→∃ v',W.cell? ⟨lc.cb,lc.ej+i,.none⟩=some v'∧VR mX v v'∧scalar v=true):=by
      by_cases h0:cap=0
      ·subst h0
       have Ks:len=0:=by omega
       subst Ks
       refine ⟨⟨0,0,0,P.cellsOf e⟩,rfl,hh,by simp [h8],fun h=>absurd rfl h,by simp,fun i v hv=>?_⟩
       have:fl = []:=by apply List.eq_nil_of_length_eq_zero; simp [h8]
       rw [this] at hv; simp at hv
      ·obtain ⟨p1,p2⟩:=vg (by omega)
       refine ⟨⟨a.block,a.off,a.off+cap * P.cellsOf e,P.cellsOf e⟩,rfl,p1,?_,fun _=>?_,Nat.le_refl _,sJ⟩
       ·rw [h8]; exact Nat.add_le_add_left (Nat.mul_le_mul_right _ hle) _
       ·obtain ⟨b,o,s⟩:=a
        simp at p2
        simp [p2]
     obtain ⟨lc,l1,l2,l3,l4,l5,l6⟩:=anF
     obtain ⟨i1,i2,i3⟩:=h1.add l6 l2 l3
     refine ⟨_,_,_,[.ts e .any len es (rq es)],i1,Env.le_trans h2 i2,aW.le_trans h3 i3,⟨[.slice (some ⟨B1.next,0,.none⟩) len len],.cons ?_ .nil,.cons ?_ .nil⟩,⟨⟨by omega,h7⟩,trivial⟩,fun m l h=>fin rfl h rfl⟩
     ·simp only [VK]
      refine ⟨⟨h4.symm,fun i _=>rfl,by rw [hlF]; exact h6⟩,us,h5.mono i2,some ⟨B1.next,0,.none⟩,len,rfl,Nat.le_refl _,.inr ⟨B1.next,0,⟨fl,lc.bU,false,.none⟩,rfl,by simp [Env.gD],by rw [l1,fv],?_⟩,trivial⟩
      rw [fv]
      exact h9
     ·simp only [VR]
      exact ⟨trivial,Nat.le_refl _,lc,a,cap,by simp [aW.set],hle,fun h=>by simpa using l4 h,by simpa using l5,rfl⟩
   ·simp at ht3
  ·rename_i fs hu
   simp only [Bool.and_eq_true,List.all_eq_true] at ht
   split at ht
   ·rename_i k hk
    have hkc:=Nat.eq_of_beq_eq_true ht.2
    obtain ⟨xs,fu,_,_,hlen,hxs,hf⟩:=DataW.trod_struct hu hx
    have hff:∀ f∈fs.toList,∃ x,DataW.trod enc P W 0 (fun _=>true) true fu f.type ((cs.drop f.offset).take (P.cellsOf f.type))=some x:=by
     intro f hm
     obtain ⟨i,OM⟩:=List.getElem?_of_mem hm
     have hi2:fs[i]? = some f:=by simpa using OM
     have bV:i < xs.length:=by rw [hxs]; exact (Array.getElem?_eq_some_iff.1 hi2).1
     exact ⟨xs[i],by rw [hf i f hi2]; exact List.getElem?_eq_getElem bV⟩
    obtain ⟨_,E1,B1,mX,ks,h1,h2,h3,h4,h5,h6⟩:=Rq IH hp fs.toList 0 k E B ρ hi hk (by rw [hkc,hlen]; exact Nat.le_refl _) ht.1 hff
    refine ⟨E1,B1,mX,ks,h1,h2,h3,?_,h5,fun m l h=>?_⟩
    ·have e:(cs.drop 0).take (k - 0)=cs:=by rw [List.drop_zero,Nat.sub_zero,hkc,← hlen,List.take_length]
     rw [e] at h4
     exact h4
    ·obtain ⟨m',rfl⟩:=hn h
     simp only [lay,hu,Option.map_eq_some_iff] at h
     obtain ⟨l',sv,rfl⟩:=h
     exact h6 m' l' sv
   ·simp at ht
  ·rename_i len e hu
   simp only [Bool.and_eq_true] at ht
   have hkc:=Nat.eq_of_beq_eq_true ht.2
   obtain ⟨xs,fu,_,_,hlen,hxs,hf⟩:=DataW.trod_array hu hx
   have hff:∀ i,i < len→∃ x,DataW.trod enc P W 0 (fun _=>true) true fu e ((cs.drop (i * P.cellsOf e)).take (P.cellsOf e))=some x:=by
    intro i h
    exact ⟨xs[i],by rw [hf i h]; exact List.getElem?_eq_getElem (by rw [hxs]; exact h)⟩
   obtain ⟨E1,B1,mX,ks,h1,h2,h3,h4,h5,h6⟩:=Wj IH hp ht.1 rfl (by rw [hlen,hkc]; exact Nat.le_refl _) hff hi len (Nat.le_refl _)
   refine ⟨E1,B1,mX,ks,h1,h2,h3,?_,h5,fun m l h=>?_⟩
   ·rw [← hkc,← hlen,List.take_length] at h4
    exact h4
   ·obtain ⟨m',rfl⟩:=hn h
    simp only [lay,hu,Option.map_eq_some_iff] at h
    obtain ⟨l',sv,rfl⟩:=h
    exact h6 m' l' sv
  ·simp at ht
end
end Go.K
end
section
namespace Go.K
open Go Go.aE Go.WideShapes
mutual
def aku (P:Program):KV→Prop
 | .ts T _ n es acc=>jg P T n es acc∧IM P es
 | .agg cs=>IM P cs
 | _=>True
def IM (P:Program):List KV→Prop
 | []=>True
 | v::vs=>aku P v∧IM P vs
end
mutual
theorem VK.deep {P:Program} {E:Env} : ∀ {v:KV} {u:Value},VK P E v u→aku P v
 | .ts T m n es acc,u,h=>by
  obtain ⟨h1,us,h2,_⟩:=h.mI
  exact ⟨h1,bb.deep h2⟩
 | .agg cs,u,h=>by
  obtain ⟨l,_,h1⟩:=h.mD
  exact bb.deep (vs:=cs) h1
 | .int _ _,_,_ | .bool _,_,_ | .str _,_,_ | .kk _,_,_ | .tp ..,_,_ | .ptr ..,_,_ | .al ..,_,_ | .ap ..,_,_ | .sl ..,_,_ | .Ch,_,_ | .lk,_,_ | .yP,_,_ | .map _,_,_ | .fn ..,_,_ | .Df,_,_ | .iface ..,_,_ | .Dg,_,_ | .aw,_,_=>trivial
theorem bb.deep {P:Program} {E:Env} : ∀ {vs:List KV} {us:List Value},bb P E vs us→IM P vs
 | [],_,_=>trivial
 | v::vs,us,h=>by
  simp only [bb] at h
  obtain ⟨y,ys,_,h1,h2⟩:=h
  exact ⟨VK.deep h1,bb.deep h2⟩
end
def oI (P:Program):List TypeId→List KV→Bool
 | [],[]=>true
 | t::ts,v::vs=>dv (bt P t) v&&oI P ts vs
 | _,_=>false
theorem Wl {P:Program} : ∀ {ts:List TypeId} {anQ:List KV},oI P ts anQ=true→anQ.length=ts.length
 | [],[],_=>rfl
 | [],_::_,h=>by simp [oI] at h
 | _::_,[],h=>by simp [oI] at h
 | t::ts,v::vs,h=>by
  simp only [oI,Bool.and_eq_true] at h
  simp [Wl h.2]
def Rs (P:Program) (t:TypeId):Bool:=y8 P 30 t&&(match lay P 12 t with
 | some l=>Nat.beq l.ks.length (P.cellsOf t)
 | .none=>false)
section
variable {H:Type} {enc:TypeId×Value→H} {P:Program} {W:World}
theorem adR {r:Reach} {base:Nat} {t:TypeId} {v:Value} (h:Value.okWide P W r base t v):ZT W v.cells.toList:=by
 intro a n c hm
 have cell:∀ u,Cell.okWide P W r base u (.slice (some a) n c)→0 < W.heap.size:=by
  intro u hu
  unfold Cell.okWide at hu
  split at hu <;> try (rename_i heq; simp at heq; done)
  unfold Cell.ok at hu
  split at hu <;> try (rename_i heq; simp at heq; done)
  ·rename_i e heq
   simp at heq
   obtain ⟨rfl,rfl,rfl⟩:=heq
   obtain ⟨_,_,_,_,row,cells,hs,_⟩:=hu
   unfold World.shape? at hs
   split at hs
   ·rename_i hh
    have:=(Array.getElem?_eq_some_iff.1 hh).1
    omega
   ·simp at hs
  ·exact hu.elim
 unfold Value.okWide at h
 split at h
 ·obtain ⟨cs,rfl,_,ts,_,_,hc⟩:=h
  obtain ⟨i,hi⟩:=List.getElem?_of_mem hm
  obtain ⟨u,_,hu⟩:=hc i _ (by simpa [Value.cells] using hi)
  exact cell u hu
 ·obtain ⟨cs,rfl,_,ts,_,_,hc⟩:=h
  obtain ⟨i,hi⟩:=List.getElem?_of_mem hm
  obtain ⟨u,_,hu⟩:=hc i _ (by simpa [Value.cells] using hi)
  exact cell u hu
 ·have hv:v.cells.toList = [v]∨∃ cs,v = .agg cs:=by cases v <;> first | exact .inl rfl | exact .inr ⟨_,rfl⟩
  rcases hv with hv | ⟨cs,rfl⟩
  ·rw [hv] at hm
   simp at hm
   subst hm
   exact cell t h
  ·exfalso
   unfold Cell.okWide at h
   split at h <;> try (rename_i heq; simp at heq; done)
   unfold Cell.ok at h
   split at h <;> first | (rename_i heq; simp at heq; done) | exact h.elim
theorem aiV {E:Env} {B:St} {ρ:aW} {t:TypeId} {v:Value} {d:DataW H} {ps:List MemPlace} {r:Reach} {base:Nat} (ht:Rs P t=true) (hd:DataW.Trod enc P W 0 (fun _=>true) true t v d ps) (hw:Value.okWide P W r base t v) (hi:Na P W E B ρ) :
  ∃ E' B' aX a,Na P W E' B' aX∧E.le E'∧ρ.le aX∧VC P E' aX a v∧dv (bt P t) a=true∧wfK a:=by
 unfold Rs at ht
 simp only [Bool.and_eq_true] at ht
 obtain ⟨wc,Gy⟩:=ht
 split at Gy
 ·rename_i l hl
  obtain ⟨fuel,hf⟩:=hd
  obtain ⟨E1,B1,mX,ks,h1,h2,h3,⟨m,h4,h4'⟩,h5,h6⟩:=afN 30 t wc fuel _ _ E B ρ hf (adR hw) hi
  have hk:=h6 12 l hl
  have hlF:bt P t=l:=by simp [bt,hl]
  have ail:(l.agg=true∧∃ cs:Array Value,v = .agg cs)∨(l.agg=false∧l.ks.length=1∧v.cells.toList = [v]):=by
   unfold y8 at wc
   split at wc
   ·rename_i k hu
    obtain ⟨n,rfl⟩:=okWide_int hu hw
    simp only [lay,hu,Option.some.injEq] at hl
    subst hl; exact .inr ⟨rfl,rfl,rfl⟩
   ·rename_i hu
    obtain ⟨n,rfl⟩:=okWide_bool hu hw
    simp only [lay,hu,Option.some.injEq] at hl
    subst hl; exact .inr ⟨rfl,rfl,rfl⟩
   ·rename_i hu
    obtain ⟨n,rfl⟩:=okWide_string hu hw
    simp only [lay,hu,Option.some.injEq] at hl
    subst hl; exact .inr ⟨rfl,rfl,rfl⟩
   ·rename_i e hu
    obtain ⟨a,n,c,rfl⟩:=okWide_slice hu hw
    simp only [lay,hu,Option.some.injEq] at hl
    subst hl; exact .inr ⟨rfl,rfl,rfl⟩
   ·rename_i fs hu
    simp only [lay,hu,Option.map_eq_some_iff] at hl
    obtain ⟨_,_,rfl⟩:=hl
    unfold Value.okWide at hw
    rw [hu] at hw
    obtain ⟨cs,rfl,_⟩:=hw
    exact .inl ⟨rfl,cs,rfl⟩
   ·rename_i len e hu
    simp only [lay,hu,Option.map_eq_some_iff] at hl
    obtain ⟨_,_,rfl⟩:=hl
    unfold Value.okWide at hw
    rw [hu] at hw
    obtain ⟨cs,rfl,_⟩:=hw
    exact .inl ⟨rfl,cs,rfl⟩
   ·simp at wc
  refine ⟨E1,B1,mX,J8 l.agg ks,h1,h2,h3,?_,?_,aik h5⟩
  ·rcases ail with ⟨ha,cs,rfl⟩ | ⟨ha,hlen,hv⟩
   ·rw [ha]
    exact ⟨.agg ⟨m⟩,.pd h4,VR.pd (l':=cs.toList) h4'⟩
   ·rw [ha]
    rw [hv] at h4'
    have hml:m.length=1:=by have:=h4'.length; simpa using this.symm
    have:=Zf (agg:=false) h4 (.inr hml)
    match m,hml,h4',this with
    | [y],_,h4',this=>
     obtain ⟨z,zs,e,q1,_⟩:=h4'.cons_inv
     simp at e
     refine ⟨y,this,?_⟩
     rw [e.1]; exact q1
  ·rw [hlF]
   exact TX hk (ail.imp (·.1) (·.2.1))
 ·simp at Gy
theorem ZW {r:Reach} {base:Nat} : ∀ {ts:List TypeId} {vs:List Value} {ds:List (DataW H)} {ps:List MemPlace} {E:Env} {B:St} {ρ:aW},(∀ t∈ts,Rs P t=true)→DataW.TrodAll enc P W 0 (fun _=>true) true ts vs ds ps→
  (∀ (j:Nat) t v,ts[j]? = some t→vs[j]? = some v→Value.okWide P W r base t v)→Na P W E B ρ→∃ E' B' aX anQ,Na P W E' B' aX∧E.le E'∧ρ.le aX∧BQ P E' aX anQ vs∧oI P ts anQ=true∧GL anQ
 | [],vs,ds,ps,E,B,ρ,_,h,_,hi=>by
  obtain ⟨rfl,_,_⟩:=Go.ChangeShapes.trodAll_nil h
  exact ⟨E,B,ρ,[],hi,Env.le_refl _,aW.le_refl _,⟨[],.nil,.nil⟩,rfl,trivial⟩
 | t::ts,vs,ds,ps,E,B,ρ,ht,h,hw,hi=>by
  obtain ⟨v,vs1,d,ds1,a,b,rfl,rfl,rfl,h1,h2⟩:=Go.ChangeShapes.trodAll_cons h
  obtain ⟨E1,B1,mX,x,q1,q2,q3,⟨u,q4,q4'⟩,q5,q6⟩:=aiV (ht t (by simp)) h1 (hw 0 t v rfl rfl) hi
  obtain ⟨E2,B2,uJ,xs,p1,p2,p3,⟨m,p4,p4'⟩,p5,p6⟩:=ZW (fun t' h'=>ht t' (by simp [h'])) h2 (fun j t' v' h3 h4=>hw (j+1) t' v' (by simpa using h3) (by simpa using h4)) q1
  exact ⟨E2,B2,uJ,x::xs,p1,Env.le_trans q2 p2,aW.le_trans q3 p3,⟨u::m,.cons (q4.mono p2) p4,.cons (q4'.mono p3) p4'⟩,by simp [oI,q5,p5],⟨q6,p6⟩⟩
theorem alI (hP:P.funcs.toList.all m9=true) (hm:P.follows .mixedOrders=true) {cfg:eJ} (iu:ra P cfg.pc) (mu:uN P cfg) {L n:Nat} {f:FuncId} {ts:List TypeId} (hts:ts.all (Rs P)=true)
  (pg:∀ anQ,oI P ts anQ=true→GL anQ→IM P anQ→dm P cfg L n f (normArgs P ts anQ)=some (.bool true)) {args:Array Value} {ds:List (DataW H)} {ps:List MemPlace} {r:Reach} {base:Nat}
  (hd:DataW.TrodAll enc P W 0 (fun _=>true) true ts args.toList ds ps) (hw:∀ (j:Nat) t v,ts[j]? = some t→args.toList[j]? = some v→Value.okWide P W r base t v) :
  Calls P f args W fun e w'=>e = .returned (.bool true)∧RowKit.Below W.heap.size W w':=by
 obtain ⟨E,B,ρ,anQ,h1,_,_,h4,h5,h6⟩:=ZW (List.all_eq_true.1 hts) hd hw (Na.start P W)
 have amH:IM P anQ:=by obtain ⟨m,q,_⟩:=h4; exact q.deep
 have mZ:=pg anQ h5 h6 amH
 have h4:BQ P E ρ (normArgs P ts anQ) args.toList:=by
  obtain ⟨m,q,q'⟩:=h4
  exact ⟨m,bb.ZD rfl q (Wl h5),q'⟩
 have uu:=tC (R:=KV) hP hm iu mu L n
 obtain ⟨fn,c,hf,hc,b9,hnm,mZ⟩:=K4 hP mZ
 have:=IE iu uu hm L hf hc b9 (mu.2 f fn c hf hc) mZ h4 (base:=W.heap.size) (w:=W) ⟨h1.k,h1.jy⟩
 refine this.mono ?_
 rintro e w' ⟨vs,cS,E1,A1,B1,mX,rfl,⟨m,q1,q1'⟩,q2,q3⟩
 have q3:Bool.rec (motive:=fun _=>Option KV) .none (some (Dj (vm P (rK P f) (v7 A1 vs).1))) (Nat.beq vs.length (rK P f).length)=some (.bool true):=q3
 obtain ⟨E2,_,q1⟩:=Ep q2.jy q1
 cases hb:Nat.beq vs.length (rK P f).length with
 | false=>rw [hb] at q3; exact absurd q3 (by simp)
 | true=>
  rw [hb] at q3
  have q3:some (Dj (vm P (rK P f) (v7 A1 vs).1))=some (.bool true):=q3
  simp only [Option.some.injEq] at q3
  have hv:VC P E2 mX (Dj (vm P (rK P f) (v7 A1 vs).1)) (adK cS):=K3 ⟨m,by rw [Dw]; exact bb.ZD rfl q1 ((Iu A1 vs).trans (Nat.eq_of_beq_eq_true hb)),q1'⟩
  rw [q3] at hv
  have hg:=q2.fP
  refine ⟨by rw [hv.gf],hg.kept.os,hg.kept.tape,hg.kept.output,hg.kept.size,fun k hk=>hg.kept.block k hk ?_⟩
  rintro ⟨b,o,l,ho,Fh,_⟩
  rw [(h1.ta b o ho).1] at Fh
  simp at Fh
end
noncomputable def acL:List (Nat×(List KV→KR KV))→FuncId→Option (List KV→KR KV)
 | [],_=>.none
 | p::ps,g=>cond (Nat.beq p.1 g) (some p.2) (acL ps g)
theorem aim {P:Program} : ∀ {ps:List (Nat×(List KV→KR KV))},(∀ p∈ps,ca P p.1 p.2)→ra P (acL ps)
 | [],_=>fun g F h=>by simp [acL] at h
 | p::ps,h=>fun g F hF=>by
  unfold acL at hF
  cases hb:Nat.beq p.1 g with
  | true=>
   rw [hb] at hF
   simp only [cond_true,Option.some.injEq] at hF
   have:=Nat.eq_of_beq_eq_true hb
   subst this hF
   exact h p (by simp)
  | false=>
   rw [hb] at hF
   exact aim (fun q hq=>h q (List.mem_cons_of_mem _ hq)) g F hF
theorem afO (l:vi):dv l .aw=false:=by
 show (!l.agg&&aF l.ks [.aw])=false
 cases l.ks with
 | nil=>simp [aF]
 | cons c cs=>cases c <;> simp [aF,kindOk]
theorem aha {P:Program} {t:TypeId} {v:KV} (h:dv (bt P t) (QR P t v)=true):∃ w,QR P t v=ay P (aj P aq) t w:=by
 unfold QR at h ⊢
 cases hb:dv (bt P t) (gu (bt P t) v) with
 | false=>rw [hb,cond_false,afO] at h; simp at h
 | true=>exact ⟨gu (bt P t) v,rfl⟩
theorem IP:∀ {ks:List CK} {cs:List KV},aF ks cs=true→yR ks cs=cs
 | [],[],_=>rfl
 | [],_::_,h=>by simp [aF] at h
 | _::_,[],h=>by simp [aF] at h
 | k::ks,v::vs,h=>by
  simp only [aF,Bool.and_eq_true] at h
  have e:m6 k v=v:=by
   unfold m6
   split
   ·simp [kindOk] at h
   ·rename_i t t' m n es acc
    cases m <;> simp [kindOk] at h
    obtain ⟨rfl,_⟩:=h
    rw [Nat.beq_refl,cond_true]
   ·rw [h.1]; rfl
  rw [yR,e,IP h.2]
theorem afP {l:vi} {v:KV} (h:dv l v=true):gu l v=v:=by
 by_cases ha:∃ cs,v = .agg cs
 ·obtain ⟨cs,rfl⟩:=ha
  simp only [dv,Bool.and_eq_true] at h
  show cond (l.agg&&Nat.beq cs.length l.ks.length) (KV.agg (yR l.ks cs)) .aw=_
  rw [h.1,qo h.2,IP h.2]
  simp
 ·have h1:(!l.agg&&aF l.ks [v])=true:=by
   cases v <;> first | exact h | exact absurd ⟨_,rfl⟩ ha | simp [dv] at h
  simp only [Bool.and_eq_true,Bool.not_eq_true'] at h1
  have e:gu l v=cond l.agg .aw (match l.ks with | [c]=>m6 c v | _=>.aw):=by
   cases v <;> first | rfl | exact absurd ⟨_,rfl⟩ ha
  rw [e,h1.1,cond_false]
  match hk:l.ks,h1.2 with
  | [c],h2=>
   have:=IP h2
   simpa [yR] using this
  | [],h2=>simp [aF] at h2
  | _::_::_,h2=>simp [aF] at h2
theorem ahb {P:Program} {t:TypeId} {v:KV} (h:dv (bt P t) v=true):QR P t v=ay P (aj P aq) t v:=by
 unfold QR
 rw [afP h,h,cond_true]
noncomputable def cM (P:Program):List TypeId→(Nat→KV)→Nat→List KV
 | [],_,_=>[]
 | t::ts,w,k=>ay P (aj P aq) t (w k)::cM P ts w (Nat.succ k)
theorem Rt {P:Program} : ∀ {ts:List TypeId} {w w' : Nat→KV} {k:Nat},(∀ i,k≤i→w i=w' i)→cM P ts w k=cM P ts w' k
 | [],_,_,_,_=>rfl
 | t::ts,w,w',k,h=>by
  rw [cM,cM,h k (Nat.le_refl _),Rt fun i hi=>h i (by omega)]
theorem ZX {P:Program} : ∀ {ts:List TypeId} {anQ:List KV} (k:Nat),oI P ts (normArgs P ts anQ)=true→∃ w,normArgs P ts anQ=cM P ts w k
 | [],anQ,k,_=>⟨fun _=>.aw,by cases anQ <;> rfl⟩
 | t::ts,[],k,h=>by simp [normArgs,oI] at h
 | t::ts,v::vs,k,h=>by
  simp only [normArgs,oI,Bool.and_eq_true] at h
  obtain ⟨w,hw⟩:=aha h.1
  obtain ⟨w',hw'⟩:=ZX (k+1) h.2
  refine ⟨fun i=>if i=k then w else w' i,?_⟩
  rw [normArgs,cM,hw,hw',if_pos rfl]
  rw [Rt (w:=w') (w':=fun i=>if i=k then w else w' i) fun i hi=>by rw [if_neg (by omega)]]
theorem ZY {P:Program} : ∀ {ts:List TypeId} {anQ:List KV} (k:Nat) {w:Nat→KV},oI P ts anQ=true→(∀ i,i < anQ.length→w (k+i)=anQ.getD i .aw)→normArgs P ts anQ=cM P ts w k
 | [],[],k,_,_,_=>rfl
 | [],_::_,_,_,h,_=>by simp [oI] at h
 | _::_,[],_,_,h,_=>by simp [oI] at h
 | t::ts,v::vs,k,w,h,hw=>by
  simp only [oI,Bool.and_eq_true] at h
  rw [normArgs,cM,ahb h.1,ZY (k+1) (w:=w) h.2 fun i hi=>by have:=hw (i+1) (by simp; omega); rw [show k+1+i=k+(i+1) by omega,this]; rfl]
  have:=hw 0 (by simp)
  rw [Nat.add_zero] at this
  rw [this]; rfl
noncomputable def cw (P:Program) (g:FuncId) (F:List KV→KR KV):List KV→KR KV:=fun anQ=>cond (oI P (aJ P g) anQ) (F anQ) .no
theorem akv {P:Program} {g:FuncId} {F:List KV→KR KV} (hP:P.funcs.toList.all m9=true) (hm:P.follows .mixedOrders=true) {cfg:eJ} (iu:ra P cfg.pc) (mu:uN P cfg) {L n:Nat}
  (h:∀ w v,a5 (F (cM P (aJ P g) w 0)) v→dm P cfg L n g (cM P (aJ P g) w 0)=some v) (hy:Nat.blt g yB=true:=by rfl):ca P g (cw P g F):=
 akb hy hP hm fun anQ v _ hF=>by
  unfold cw at hF
  obtain ⟨hb,hF⟩:=a5.cond hF
  obtain ⟨w,hw⟩:=ZX 0 hb
  rw [hw] at hF ⊢
  exact ⟨cfg,L,n,iu,mu,h w v hF⟩
noncomputable def akw (P:Program) (d:CD) (w:KV):KV:=
 match d with
 | .k c=>aj P aq (leaf c w)
 | .lit v=>v
 | .bc t=>aj P aq (leaf (.slice t) w)
 | .arr t=>aj P aq (leaf (.slice t) w)
 | .ref v=>v
noncomputable def Fy (P:Program):List CD→(Nat→KV)→Nat→List KV
 | [],_,_=>[]
 | d::ds,w,k=>akw P d (w k)::Fy P ds w (Nat.succ k)
noncomputable def adS (P:Program) (d:VD) (w:Nat→KV):KV:=Bool.rec (motive:=fun _=>KV) ((Fy P d.ks w 0).headD .aw) (.agg (Fy P d.ks w 0)) d.agg
noncomputable def mf (P:Program):List (Tmp×VD)→(Nat→Nat→KV)→Nat→List KV
 | [],_,_=>[]
 | p::ps,w,k=>adS P p.2 (w k)::mf P ps w (Nat.succ k)
noncomputable def mg (P:Program):List (Tmp×List CD×Nat)→(Nat→Nat→KV)→Nat→List (List KV)
 | [],_,_=>[]
 | p::ps,w,k=>Fy P p.2.1 (w k) 0::mg P ps w (Nat.succ k)
theorem acM {P:Program} {A:ax} {d:CD} {v:KV} (h:jJ d (fy P A d v)=true):∃ w,fy P A d v=akw P d w:=by
 cases d with
 | ref u=>exact ⟨.aw,rfl⟩
 | k c=>
  have e:fy P A (.k c) v=cond (kindOk c (m6 c v)) (aj P aq (leaf c (m6 c v))) .aw:=rfl
  cases hb:kindOk c (m6 c v) with
  | true=>exact ⟨m6 c v,by rw [e,hb]; rfl⟩
  | false=>
   rw [e,hb] at h
   cases c <;> simp [jJ,kindOk] at h
 | lit u=>
  have e:fy P A (.lit u) v=cond (uO u v) u .aw:=rfl
  cases hb:uO u v with
  | true=>exact ⟨.aw,by rw [e,hb]; rfl⟩
  | false=>
   rw [e,hb,cond_false] at h
   have h:uO u .aw=true:=h
   cases u <;> first | (simp [uO] at h; done) | (rename_i f a b; cases f <;> cases a <;> cases b <;> simp [uO] at h)
 | bc t=>
  cases v with
  | lk=>exact ⟨.ts t .any 0 [] ot,rfl⟩
  | ts t' m n es acc=>
   cases m with
   | bc f=>
    have e:fy P A (.bc t) (.ts t' (.bc f) n es acc)=cond (Nat.beq t t') (aj P aq (.ts t .any n es acc)) .aw:=rfl
    cases hb:Nat.beq t t' with
    | true=>exact ⟨.ts t .any n es acc,by rw [e,hb]; rfl⟩
    | false=>rw [e,hb] at h; simp [jJ,kindOk] at h
   | _=>simp [fy,jJ,kindOk] at h
  | _=>simp [fy,jJ,kindOk] at h
 | arr t=>
  rcases Ui h with rfl | ⟨b,n,m,N,es,acc,rfl,_,he⟩
  ·exact ⟨.ts t .any 0 [] ot,rfl⟩
  ·exact ⟨.ts t .any N es acc,he⟩
theorem Ru {P:Program} : ∀ {ds:List CD} {w w' : Nat→KV} {k:Nat},(∀ i,k≤i→w i=w' i)→Fy P ds w k=Fy P ds w' k
 | [],_,_,_,_=>rfl
 | t::ts,w,w',k,h=>by
  rw [Fy,Fy,h k (Nat.le_refl _),Ru fun i hi=>h i (by omega)]
theorem Ul {P:Program} {A:ax} : ∀ {ds:List CD} {vs:List KV} (k:Nat),dN ds (fA P A ds vs)=true→∃ w,fA P A ds vs=Fy P ds w k
 | [],vs,k,_=>⟨fun _=>.aw,by cases vs <;> rfl⟩
 | d::ds,[],k,h=>by simp [fA,dN] at h
 | d::ds,v::vs,k,h=>by
  simp only [fA,dN,Bool.and_eq_true] at h
  obtain ⟨w,hw⟩:=acM h.1
  obtain ⟨w',hw'⟩:=Ul (k+1) h.2
  refine ⟨fun i=>if i=k then w else w' i,?_⟩
  rw [fA,Fy,hw,hw',if_pos rfl]
  rw [Ru (w:=w') (w':=fun i=>if i=k then w else w' i) fun i hi=>by rw [if_neg (by omega)]]
theorem aiW {P:Program} {A:ax} {d:VD} {v:KV} (h:vp d (tR P A d v)=true):∃ w,tR P A d v=adS P d w:=by
 have xz:=wU h
 rcases wV h with ⟨cs,rfl,h1,h2,h3⟩ | ⟨h0,c,h1,h2,h3,h4,h5⟩
 ·obtain ⟨w,hw⟩:=Ul 0 h3
  refine ⟨w,?_⟩
  have:d.agg=true:=by
   rcases xz with ⟨_,_,q,_⟩ | ⟨q,_⟩
   ·exact q
   ·exact absurd h2 (q _)
  rw [h2,hw,adS,this]
 ·obtain ⟨w,hw⟩:=acM h3
  refine ⟨fun _=>w,?_⟩
  have:d.agg=false:=by
   rcases xz with ⟨cs,q,_⟩ | ⟨_,q,_⟩
   ·rw [h2] at q; exact absurd q (h5 _)
   ·exact q
  rw [h2,hw,adS,this,h1]; rfl
theorem N3 {P:Program} : ∀ {ps:List (Tmp×VD)} {w w' : Nat→Nat→KV} {k:Nat},(∀ i,k≤i→w i=w' i)→mf P ps w k=mf P ps w' k
 | [],_,_,_,_=>rfl
 | t::ts,w,w',k,h=>by
  rw [mf,mf,h k (Nat.le_refl _),N3 fun i hi=>h i (by omega)]
theorem ZZ {P:Program} {t:bz} {A:ax} : ∀ {ps:List (Tmp×VD)} (k:Nat),iv ps (pq P t A ps)=true→∃ w,pq P t A ps=mf P ps w k
 | [],k,_=>⟨fun _ _=>.aw,rfl⟩
 | p::ps,k,h=>by
  simp only [pq,iv,Bool.and_eq_true] at h
  obtain ⟨w,hw⟩:=aiW h.1
  obtain ⟨w',hw'⟩:=ZZ (k+1) h.2
  refine ⟨fun i=>if i=k then w else w' i,?_⟩
  rw [pq,mf,hw,hw',if_pos rfl]
  rw [N3 (w:=w') (w':=fun i=>if i=k then w else w' i) fun i hi=>by rw [if_neg (by omega)]]
theorem N4 {P:Program} : ∀ {ps:List (Tmp×List CD×Nat)} {w w' : Nat→Nat→KV} {k:Nat},(∀ i,k≤i→w i=w' i)→mg P ps w k=mg P ps w' k
 | [],_,_,_,_=>rfl
 | t::ts,w,w',k,h=>by
  rw [mg,mg,h k (Nat.le_refl _),N4 fun i hi=>h i (by omega)]
theorem Z0 {P:Program} : ∀ {ps:List (Tmp×List CD×Nat)} {rs:List (List KV)} (k:Nat),rs.length=ps.length→(∀ (i:Nat) p r,ps[i]? = some p→rs[i]? = some r→dN p.2.1 r=true)→
  (∀ (i:Nat) p,ps[i]? = some p→∃ A mB,rs[i]? = some (fA P A p.2.1 mB)∧mB.length=p.2.1.length)→∃ w,rs=mg P ps w k
 | [],[],k,_,_,_=>⟨fun _ _=>.aw,rfl⟩
 | [],_::_,_,h,_,_=>by simp at h
 | _::_,[],_,h,_,_=>by simp at h
 | p::ps,r::rs,k,hl,hg,hn=>by
  obtain ⟨A,mB,h1,_⟩:=hn 0 p rfl
  simp only [List.getElem?_cons_zero,Option.some.injEq] at h1
  have h2:=hg 0 p r rfl rfl
  rw [h1] at h2
  obtain ⟨w,hw⟩:=Ul 0 h2
  obtain ⟨w',hw'⟩:=Z0 (ps:=ps) (rs:=rs) (k+1) (by simpa using hl) (fun i p r a b=>hg (i+1) p r (by simpa using a) (by simpa using b)) fun i p a=>by simpa using hn (i+1) p (by simpa using a)
  refine ⟨fun i=>if i=k then w else w' i,?_⟩
  rw [mg,h1,hw,if_pos rfl]
  congr 1
  rw [hw']
  exact N4 fun i hi=>by rw [if_neg (by omega)]
theorem zU.form {P:Program} {S:aU} {vs:List KV} {rs:List (List KV)} (h:zU P S vs rs):∃ wv wr,vs=mf P S.dW wv 0∧rs=mg P S.rows wr 0:=by
 obtain ⟨t,A,ht⟩:=h.vn
 have hv:=h.v
 rw [ht] at hv
 obtain ⟨wv,hwv⟩:=ZZ 0 hv
 obtain ⟨wr,hwr⟩:=Z0 0 h.rS h.vZ h.rn
 exact ⟨wv,wr,by rw [ht,hwv],hwr⟩
inductive aI (X:Type) where
 | fail
 | next (x:X)
 | out (e:ak) (x:X)
def aI.enc {X:Type} (ev:X→List KV) (er:X→List (List KV)):aI X→Option (ak×List KV×List (List KV))
 | .fail=>.none
 | .next x=>some (.normal,ev x,er x)
 | .out e x=>some (e,ev x,er x)
theorem aI.df {X:Type} (ev:X→List KV) (er:X→List (List KV)) (c:Bool) (a b:aI X):aI.enc ev er (cond c a b)=cond c (aI.enc ev er a) (aI.enc ev er b):=by cases c <;> rfl
def aI.go {X:Type} (step:X→aI X):Nat→X→aI X
 | 0,_=>.fail
 | n+1,x=>match step x with
  | .fail=>.fail
  | .next x=>aI.go step n x
  | .out e x=>cond (yh e) .fail (.out e x)
def fB:ak→ak→Bool
 | .normal,.normal=>true
 | .exit i,.exit j=>Nat.beq i j
 | .goto i,.goto j=>Nat.beq i j
 | .ret,.ret=>true
 | _,_=>false
theorem adT {a b:ak} (h:fB a b=true):a=b:=by
 cases a <;> cases b <;> simp [fB] at h <;> first | rfl | (subst h; rfl)
def aI.by {X:Type} (s:aI X) (e:ak):Bool:=
 match s with
 | .out e' _=>fB e' e
 | _=>false
def aI.st {X:Type} [Inhabited X] (s:aI X):X:=
 match s with
 | .out _ x=>x
 | _=>default
theorem afQ {X:Type} {step:X→aI X} {ev:X→List KV} {er:X→List (List KV)} {rd:List KV→List (List KV)→Option (ak×List KV×List (List KV))} (h:∀ x,rd (ev x) (er x)=aI.enc ev er (step x)) :
  ∀ (n:Nat) (x:X) (e:ak) (y:X),aI.go step n x = .out e y→xJ rd n (ev x) (er x)=some (e,ev y,er y)
 | 0,x,e,y,hg=>by simp [aI.go] at hg
 | n+1,x,e,y,hg=>by
  simp only [aI.go] at hg
  have hx:=h x
  cases hs:step x with
  | fail=>rw [hs] at hg; simp at hg
  | next x'=>
   rw [hs] at hg hx
   simp only [xJ,hx,aI.enc,yh,cond_true]
   exact afQ h n x' e y hg
  | out e' x'=>
   rw [hs] at hg hx
   simp only at hg
   cases hn:yh e' with
   | true=>rw [hn] at hg; simp at hg
   | false=>
    rw [hn,cond_false] at hg
    simp only [aI.out.injEq] at hg
    obtain ⟨rfl,rfl⟩:=hg
    simp only [xJ,hx,aI.enc,hn,cond_false]
def dC {X:Type} [Inhabited X] (ev:X→List KV) (er:X→List (List KV)) (s:aI X):List ak→rR
 | []=>.no
 | e::es=>.br (s.by e) (.out e (ev s.st) (er s.st)) (dC ev er s es)
theorem Pu {X:Type} [Inhabited X] {ev:X→List KV} {er:X→List (List KV)} {s:aI X} : ∀ {es:List ak} {e:ak} {vs:List KV} {rs:List (List KV)},(dC ev er s es).ev=some (e,vs,rs)→∃ x,s = .out e x∧vs=ev x∧rs=er x
 | [],e,vs,rs,h=>by simp [dC,rR.ev] at h
 | e'::es,e,vs,rs,h=>by
  simp only [dC,rR.ev] at h
  cases hb:s.by e' with
  | false=>rw [hb] at h; exact Pu h
  | true=>
   rw [hb,cond_true] at h
   simp only [Option.some.injEq,Prod.mk.injEq] at h
   obtain ⟨rfl,rfl,rfl⟩:=h
   cases s with
   | out e0 x=>
    have:=adT (show fB e0 e' = true from hb)
    subst this
    exact ⟨x,rfl,rfl,rfl⟩
   | fail=>simp [aI.by] at hb
   | next x=>simp [aI.by] at hb
def mm:Nat:=1000000000000
def goN {X:Type} (step:X→aI X) (x:X):aI X:=aI.go step mm x
theorem afR {P:Program} {l:Lp} {X:Type} [Inhabited X] {cfg:eJ} {L n:Nat} (iu:ra P cfg.pc) (mu:uN P cfg) {step:X→aI X} {ev:X→List KV} {er:X→List (List KV)} {es:List ak} {pa:List KV→List (List KV)→X}
  (hF:∀ vs rs,l.F vs rs=dC ev er (goN step (pa vs rs)) es) (iX:∀ wv wr,ev (pa (mf P l.S.dW wv 0) (mg P l.S.rows wr 0))=mf P l.S.dW wv 0∧er (pa (mf P l.S.dW wv 0) (mg P l.S.rows wr 0))=mg P l.S.rows wr 0)
  (sA:∀ x,aii l.st P cfg L n l.f l.p (eZ P l.f l.p) l.S (ev x) (er x)=aI.enc ev er (step x)):l.Ok P:=
 ⟨cfg,L,n,iu,mu,fun vs rs e cS mK b9 pn=>by
  obtain ⟨wv,wr,rfl,rfl⟩:=b9.form
  obtain ⟨h1,h2⟩:=iX wv wr
  rw [hF] at pn
  obtain ⟨y,hy,rfl,rfl⟩:=Pu pn
  have:=afQ sA mm _ e y hy
  rw [h1,h2] at this
  exact ⟨mm,this⟩⟩
theorem akx {P:Program} {c:Fc} {X:Type} [Inhabited X] {cfg:eJ} {L n:Nat} (iu:ra P cfg.pc) (mu:uN P cfg) {step:X→aI X} {ev:X→List KV} {er:X→List (List KV)} {es:List ak} {pa:List KV→List (List KV)→X} (hy:Nat.blt c.g yB=true)
  (hF:∀ vs rs,c.F vs rs=dC ev er (step (pa vs rs)) es) (iX:∀ wv wr,ev (pa (mf P c.S.dW wv 0) (mg P c.S.rows wr 0))=mf P c.S.dW wv 0∧er (pa (mf P c.S.dW wv 0) (mg P c.S.rows wr 0))=mg P c.S.rows wr 0)
  (sA:∀ x y,step x = .out .ret y→Fv P cfg L n c.g c.S (ev x) (er x)=some (.ret,ev y,er y)) (KO:es = [.ret]):c.Ok P:=
 ⟨hy,cfg,L,n,iu,mu,fun vs rs e cS mK b9 pn=>by
  obtain ⟨wv,wr,rfl,rfl⟩:=b9.form
  obtain ⟨h1,h2⟩:=iX wv wr
  subst KO
  rw [hF] at pn
  have he:e = .ret:=by
   simp only [dC,rR.ev] at pn
   cases hb:(step (pa (mf P c.S.dW wv 0) (mg P c.S.rows wr 0))).by ak.ret with
   | false=>rw [hb] at pn; simp at pn
   | true=>rw [hb] at pn; simp at pn; exact pn.1.symm
  subst he
  obtain ⟨y,hy,rfl,rfl⟩:=Pu pn
  have:=sA _ y hy
  rw [h1,h2] at this
  exact this⟩
theorem ahc {P:Program} {c:Fc} {cfg:eJ} (iu:ra P cfg.pc) (mu:uN P cfg) (hy:Nat.blt c.g yB=true) (hF:∀ vs rs,(c.F vs rs).ev=none):c.Ok P:=
 ⟨hy,cfg,9,9,iu,mu,fun vs rs e cS mK _ pn=>by rw [hF] at pn; simp at pn⟩
def Lg:Nat:=64
theorem adL {P:Program} {anQ:List KV} (h:oI P [] anQ=true):anQ = []:=by
 cases anQ with
 | nil=>rfl
 | cons a anQ=>simp [oI] at h
end Go.K
end
section
namespace Go.K
open Go Go.aE
variable {P:Program} {E:Env}
end Go.K
end
section
namespace Go.K
open Go Go.aE
structure Sl (α:Type) where
 n:Nat
 get:Nat→α
instance {α:Type} [Inhabited α] : Inhabited (Sl α):=⟨⟨0,fun _=>default⟩⟩
def iE {α:Type} (T:TypeId) (k:α→KV) (s:Sl α):KV:=.ts T .any s.n ((List.range s.n).map fun i=>k (s.get i)) (fun i=>k (s.get i))
def kl {α:Type} (p:KV→α) (n:Nat) (acc:Nat→KV):Sl α:=⟨n,fun i=>p (acc i)⟩
def gZ {α:Type} (p:KV→α) (v:KV):Sl α:=kl p (lenOf v) (ajH v)
def kI (k:IntKind) (n:Int):KV:=.int k n
def kB (b:Bool):KV:=.bool b
abbrev au (n:Int):Int:=IntKind.wrap .i64 n
abbrev w8 (n:Int):Int:=IntKind.wrap .u8 n
abbrev m4 (n:Int):Int:=IntKind.wrap .u64 n
def Sl.push {α:Type} [Inhabited α] (s:Sl α) (v:α):Sl α:=⟨s.n+1,fun i=>cond (Nat.blt i s.n) (s.get i) (cond (Nat.beq i s.n) v default)⟩
def Sl.join {α:Type} (s t:Sl α):Sl α:=⟨s.n+t.n,fun i=>cond (Nat.blt i s.n) (s.get i) (t.get (i - s.n))⟩
def Sl.lit {α:Type} [Inhabited α] (l:List α):Sl α:=⟨l.length,fun i=>l.getD i default⟩
theorem Z1 {α:Type} [Inhabited α] {p:KV→α} {k:α→KV} (h:∀ x,p (k x)=x) (hd:p .aw=default) (l:List α):kl p l.length (rq (l.map k))=Sl.lit l:=by
 unfold kl Sl.lit rq
 congr 1
 funext i
 rw [List.getD_eq_getElem?_getD,List.getD_eq_getElem?_getD,List.getElem?_map]
 cases l[i]? with
 | none=>exact hd
 | some x=>exact h x
theorem yk {α:Type} [Inhabited α] {p:KV→α} {k:α→KV} (h:∀ x,p (k x)=x) (hd:p .aw=default) (s:Sl α) (v:α):kl p (s.n+1) (ff s.n (fun i=>k (s.get i)) (rq [k v]))=s.push v:=by
 unfold kl Sl.push
 congr 1
 funext i
 unfold ff
 cases hb:Nat.blt i s.n with
 | true=>exact h _
 | false=>
  have hi:s.n≤i:=by
   cases Nat.lt_or_ge i s.n with
   | inl h=>rw [← Nat.blt_eq,hb] at h; simp at h
   | inr h=>exact h
  rw [cond_false,cond_false]
  cases hq:Nat.beq i s.n with
  | true=>
   have:=Nat.eq_of_beq_eq_true hq
   subst this
   rw [Nat.sub_self,cond_true]
   exact h v
  | false=>
   have dJ:i≠s.n:=fun e=>by rw [e,Nat.beq_refl] at hq; simp at hq
   rw [cond_false]
   obtain ⟨j,hj⟩:∃ j,i - s.n=j+1:=⟨i - s.n - 1,by omega⟩
   rw [hj]
   exact hd
theorem acN {α:Type} {p:KV→α} {k:α→KV} (h:∀ x,p (k x)=x) (s t:Sl α):kl p (s.n+t.n) (ff s.n (fun i=>k (s.get i)) (fun i=>k (t.get i)))=s.join t:=by
 unfold kl Sl.join
 congr 1
 funext i
 unfold ff
 cases Nat.blt i s.n <;> exact h _
def Sl.set {α:Type} (s:Sl α) (i:Nat) (v:α):Sl α:=⟨s.n,fun j=>cond (Nat.beq j i) v (s.get j)⟩
def Sl.adU {α:Type} (s:Sl α) (o k:Nat) (t:Sl α):Sl α:=⟨s.n,fun j=>cond (Nat.blt j o) (s.get j) (cond (Nat.blt j (o+k)) (t.get (j - o)) (s.get j))⟩
theorem Z2 {α:Type} {p:KV→α} {k:α→KV} (h:∀ x,p (k x)=x) (s:Sl α) (i:Nat) (v:α):kl p s.n (sC (fun j=>k (s.get j)) i (k v))=s.set i v:=by
 unfold kl Sl.set
 congr 1
 funext j
 unfold sC
 cases Nat.beq j i <;> exact h _
theorem Z3 {α:Type} {p:KV→α} {k:α→KV} (h:∀ x,p (k x)=x) (s t:Sl α) (o m:Nat):kl p s.n (la o m (fun j=>k (s.get j)) (fun j=>k (t.get j)))=s.adU o m t:=by
 unfold kl Sl.adU
 congr 1
 funext j
 unfold la
 cases Nat.blt j o with
 | true=>exact h _
 | false=>cases Nat.blt j (o+m) <;> exact h _
theorem afS {α:Type} {p:KV→α} {k:α→KV} (h:∀ x,p (k x)=x) (m n n' : Nat) (acc fW:Nat→KV):kl p m (ff n (fun i=>k ((kl p n' acc).get i)) fW)=kl p m (ff n acc fW):=by
 unfold kl
 congr 1
 funext i
 unfold ff
 cases Nat.blt i n with
 | true=>exact h _
 | false=>rfl
theorem aky {α:Type} {p:KV→α} {k:α→KV} (h:∀ x,p (k x)=x) (m n n' : Nat) (acc fW:Nat→KV):kl p m (ff n acc (fun i=>k ((kl p n' fW).get i)))=kl p m (ff n acc fW):=by
 unfold kl
 congr 1
 funext i
 unfold ff
 cases Nat.blt i n with
 | true=>rfl
 | false=>exact h _
theorem afT {α:Type} {p:KV→α} {k:α→KV} (h:∀ x,p (k x)=x) (m n' i:Nat) (acc:Nat→KV) (v:KV):kl p m (sC (fun j=>k ((kl p n' acc).get j)) i v)=kl p m (sC acc i v):=by
 unfold kl
 congr 1
 funext j
 unfold sC
 cases Nat.beq j i with
 | true=>rfl
 | false=>exact h _
theorem akz {α:Type} {p:KV→α} {k:α→KV} (h:∀ x,p (k x)=x) (n n' o m:Nat) (acc fW:Nat→KV):kl p n (la o m (fun j=>k ((kl p n' acc).get j)) fW)=kl p n (la o m acc fW):=by
 unfold kl
 congr 1
 funext j
 unfold la
 cases Nat.blt j o with
 | true=>exact h _
 | false=>
  cases Nat.blt j (o+m) with
  | true=>rfl
  | false=>exact h _
theorem akA {α:Type} {p:KV→α} {k:α→KV} (h:∀ x,p (k x)=x) (n n' o m:Nat) (acc fW:Nat→KV):kl p n (la o m acc (fun j=>k ((kl p n' fW).get j)))=kl p n (la o m acc fW):=by
 unfold kl
 congr 1
 funext j
 unfold la
 cases Nat.blt j o with
 | true=>rfl
 | false=>
  cases Nat.blt j (o+m) with
  | true=>exact h _
  | false=>rfl
theorem akB (m n n' : Nat) (acc fW:Nat→KV):kl (fun v=>intOf (v.cells.getD 0 .aw)) m (ff n (fun i=>kI .i64 ((kl (fun v=>intOf (v.cells.getD 0 .aw)) n' acc).get i)) fW)=kl (fun v=>intOf (v.cells.getD 0 .aw)) m (ff n acc fW):=afS (k:=kI .i64) (fun _=>rfl) ..
theorem akC (m n n' : Nat) (acc fW:Nat→KV):kl (fun v=>intOf (v.cells.getD 0 .aw)) m (ff n acc (fun i=>kI .i64 ((kl (fun v=>intOf (v.cells.getD 0 .aw)) n' fW).get i)))=kl (fun v=>intOf (v.cells.getD 0 .aw)) m (ff n acc fW):=aky (k:=kI .i64) (fun _=>rfl) ..
theorem akD (m n' i:Nat) (acc:Nat→KV) (v:KV):kl (fun v=>intOf (v.cells.getD 0 .aw)) m (sC (fun j=>kI .i64 ((kl (fun v=>intOf (v.cells.getD 0 .aw)) n' acc).get j)) i v)=kl (fun v=>intOf (v.cells.getD 0 .aw)) m (sC acc i v):=afT (k:=kI .i64) (fun _=>rfl) ..
theorem akE (n n' o m:Nat) (acc fW:Nat→KV):kl (fun v=>intOf (v.cells.getD 0 .aw)) n (la o m (fun j=>kI .i64 ((kl (fun v=>intOf (v.cells.getD 0 .aw)) n' acc).get j)) fW)=kl (fun v=>intOf (v.cells.getD 0 .aw)) n (la o m acc fW):=akz (k:=kI .i64) (fun _=>rfl) ..
theorem akF (n n' o m:Nat) (acc fW:Nat→KV):kl (fun v=>intOf (v.cells.getD 0 .aw)) n (la o m acc (fun j=>kI .i64 ((kl (fun v=>intOf (v.cells.getD 0 .aw)) n' fW).get j)))=kl (fun v=>intOf (v.cells.getD 0 .aw)) n (la o m acc fW):=akA (k:=kI .i64) (fun _=>rfl) ..
theorem akG (s:Sl Int) (i:Nat) (v:Int):s.set i v=kl (fun v=>intOf (v.cells.getD 0 .aw)) s.n (sC (fun j=>kI .i64 (s.get j)) i (kI .i64 v)):=(Z2 (k:=kI .i64) (fun _=>rfl) s i v).symm
theorem aiX (s:Sl Bool) (i:Nat) (v:Bool):s.set i v=kl (fun v=>ql (v.cells.getD 0 .aw)) s.n (sC (fun j=>kB (s.get j)) i (kB v)):=(Z2 (k:=kB) (fun _=>rfl) s i v).symm
theorem ahd (s t:Sl Int) (o m:Nat):s.adU o m t=kl (fun v=>intOf (v.cells.getD 0 .aw)) s.n (la o m (fun j=>kI .i64 (s.get j)) (fun j=>kI .i64 (t.get j))):=(Z3 (k:=kI .i64) (fun _=>rfl) s t o m).symm
theorem afU (s t:Sl Bool) (o m:Nat):s.adU o m t=kl (fun v=>ql (v.cells.getD 0 .aw)) s.n (la o m (fun j=>kB (s.get j)) (fun j=>kB (t.get j))):=(Z3 (k:=kB) (fun _=>rfl) s t o m).symm
theorem aiY (s:Sl Int) (v:Int):s.push v=kl (fun v=>intOf (v.cells.getD 0 .aw)) (s.n+1) (ff s.n (fun i=>kI .i64 (s.get i)) (rq [kI .i64 v])):=(yk (fun _=>rfl) rfl s v).symm
theorem aiZ (s t:Sl Int):s.join t=kl (fun v=>intOf (v.cells.getD 0 .aw)) (s.n+t.n) (ff s.n (fun i=>kI .i64 (s.get i)) (fun i=>kI .i64 (t.get i))):=(acN (fun _=>rfl) s t).symm
theorem Lh (l:List Int):Sl.lit l=kl (fun v=>intOf (v.cells.getD 0 .aw)) l.length (rq (l.map (kI .i64))):=(Z1 (fun _=>rfl) rfl l).symm
theorem ai0 (l:List Bool):Sl.lit l=kl (fun v=>ql (v.cells.getD 0 .aw)) l.length (rq (l.map kB)):=(Z1 (fun _=>rfl) rfl l).symm
theorem ahe (s:Sl Bool) (v:Bool):s.push v=kl (fun v=>ql (v.cells.getD 0 .aw)) (s.n+1) (ff s.n (fun i=>kB (s.get i)) (rq [kB v])):=(yk (fun _=>rfl) rfl s v).symm
theorem ahf (s t:Sl Bool):s.join t=kl (fun v=>ql (v.cells.getD 0 .aw)) (s.n+t.n) (ff s.n (fun i=>kB (s.get i)) (fun i=>kB (t.get i))):=(acN (fun _=>rfl) s t).symm
theorem cc {α β:Type} (f:α→β) (c:Bool) (a b:Option α):Option.map f (cond c a b)=cond c (Option.map f a) (Option.map f b):=by cases c <;> rfl
def ao (P:Program) (ps:List (Nat×(List KV→KR KV))):Prop:=∀ p∈ps,ca P p.1 p.2
theorem ao.nil {P:Program} : ao P []:=fun p hp=>by simp at hp
theorem ao.cons {P:Program} {g:Nat} {F:List KV→KR KV} {ps:List (Nat×(List KV→KR KV))} (h:ca P g F) (t:ao P ps):ao P ((g,F)::ps):=fun p hp=>by
 rcases List.mem_cons.1 hp with rfl | hp
 ·exact h
 ·exact t p hp
theorem ao.pc {P:Program} {ps:List (Nat×(List KV→KR KV))} (h:ao P ps):ra P (acL ps):=aim h
def az (P:Program) (ls:List Lp):Prop:=∀ l∈ls,l.Ok P∧cA P l.f l.p=true
theorem az.nil {P:Program} : az P []:=fun p hp=>by simp at hp
theorem az.cons {P:Program} {l:Lp} {ls:List Lp} (h:l.Ok P) (h' : cA P l.f l.p=true) (t:az P ls):az P (l::ls):=fun p hp=>by
 rcases List.mem_cons.1 hp with rfl | hp
 ·exact ⟨h,h'⟩
 ·exact t p hp
def fR (P:Program) (fs:List Fc):Prop:=∀ c∈fs,c.Ok P
theorem fR.nil {P:Program} : fR P []:=fun p hp=>by simp at hp
theorem fR.cons {P:Program} {c:Fc} {fs:List Fc} (h:c.Ok P) (t:fR P fs):fR P (c::fs):=fun p hp=>by
 rcases List.mem_cons.1 hp with rfl | hp
 ·exact h
 ·exact t p hp
noncomputable def bo (P:Program) (ps:List (Nat×(List KV→KR KV))) (ls:List Lp) (mt:TypeId→Bool:=fun _=>false) (fz:Bool:=false) (eg:Bool:=false) (fs:List Fc:=[]):eJ:=⟨acL ps,ZR P ls,⟨acJ P fs,mt,fz,eg⟩⟩
noncomputable def cG {R:Type} [Inhabited R] (k:R→KV) (r:List KV→Option R):List KV→KR KV:=fun anQ=>.mj (r anQ).isSome (k ((r anQ).getD default))
theorem aY {P:Program} {R:Type} [Inhabited R] {k:R→KV} {r:List KV→Option R} {g:FuncId} (hP:P.funcs.toList.all m9=true) (hm:P.follows .mixedOrders=true) {ps:List (Nat×(List KV→KR KV))} {ls:List Lp} (iu:ao P ps) (mu:az P ls) {L n:Nat} {mt:TypeId→Bool} {fz eg:Bool} {fs:List Fc}
  (h:∀ w,dm P (bo P ps ls mt fz eg fs) L n g (cM P (aJ P g) w 0)=(r (cM P (aJ P g) w 0)).map k) (hy:Nat.blt g yB=true:=by rfl) (BV:fR P fs:=by exact fR.nil):ca P g (cw P g (cG k r)):=
 akv (cfg:=bo P ps ls mt fz eg fs) hP hm iu.pc (MN hP hm (MO hP hm BV) mu) (hy:=hy) fun w v hv=>by
  obtain ⟨h1,h2⟩:=a5.mj hv
  rw [h w]
  cases hr:r (cM P (aJ P g) w 0) with
  | none=>rw [hr] at h1; simp at h1
  | some x=>rw [hr] at h2; rw [← h2]; rfl
theorem eH {P:Program} {l:Lp} {X:Type} [Inhabited X] (hP:P.funcs.toList.all m9=true) (hm:P.follows .mixedOrders=true) {ps:List (Nat×(List KV→KR KV))} {ls:List Lp} (iu:ao P ps) (mu:az P ls) {L n:Nat} {mt:TypeId→Bool} {fz eg:Bool} {fs:List Fc} {step:X→aI X} {ev:X→List KV} {er:X→List (List KV)} {es:List ak} {pa:List KV→List (List KV)→X}
  (hF:l.F=fun vs rs=>dC ev er (goN step (pa vs rs)) es) (iX:∀ wv wr,ev (pa (mf P l.S.dW wv 0) (mg P l.S.rows wr 0))=mf P l.S.dW wv 0∧er (pa (mf P l.S.dW wv 0) (mg P l.S.rows wr 0))=mg P l.S.rows wr 0)
  (sA:∀ x,jh P (bo P ps ls mt fz eg fs) L n l.f l.p (eZ P l.f l.p) l.S (ev x) (er x)=aI.enc ev er (step x)) (BV:fR P fs:=by exact fR.nil) (hs:l.st=false:=by rfl):l.Ok P:=
 afR (cfg:=bo P ps ls mt fz eg fs) iu.pc (MN hP hm (MO hP hm BV) mu) (fun _ _=>by rw [hF]) iX (fun x=>by rw [hs]; exact sA x)
theorem lF {P:Program} {l:Lp} {X:Type} [Inhabited X] (hP:P.funcs.toList.all m9=true) (hm:P.follows .mixedOrders=true) {ps:List (Nat×(List KV→KR KV))} {ls:List Lp} (iu:ao P ps) (mu:az P ls) {L n:Nat} {mt:TypeId→Bool} {fz eg:Bool} {fs:List Fc} {step:X→aI X} {ev:X→List KV} {er:X→List (List KV)} {es:List ak} {pa:List KV→List (List KV)→X}
  (hF:l.F=fun vs rs=>dC ev er (goN step (pa vs rs)) es) (iX:∀ wv wr,ev (pa (mf P l.S.dW wv 0) (mg P l.S.rows wr 0))=mf P l.S.dW wv 0∧er (pa (mf P l.S.dW wv 0) (mg P l.S.rows wr 0))=mg P l.S.rows wr 0)
  (sA:∀ x,pM P (bo P ps ls mt fz eg fs) L n l.f l.p (eZ P l.f l.p) l.S (ev x) (er x)=aI.enc ev er (step x)) (BV:fR P fs:=by exact fR.nil) (hs:l.st=true:=by rfl):l.Ok P:=
 afR (cfg:=bo P ps ls mt fz eg fs) iu.pc (MN hP hm (MO hP hm BV) mu) (fun _ _=>by rw [hF]) iX (fun x=>by rw [hs]; exact sA x)
theorem Br {P:Program} {c:Fc} {X:Type} [Inhabited X] (hP:P.funcs.toList.all m9=true) (hm:P.follows .mixedOrders=true) {ps:List (Nat×(List KV→KR KV))} {ls:List Lp} (iu:ao P ps) (mu:az P ls) {L n:Nat} {mt:TypeId→Bool} {fz eg:Bool} {fs:List Fc} {step:X→aI X} {ev:X→List KV} {er:X→List (List KV)} {es:List ak} {pa:List KV→List (List KV)→X}
  (hF:c.F=fun vs rs=>dC ev er (step (pa vs rs)) es) (iX:∀ wv wr,ev (pa (mf P c.S.dW wv 0) (mg P c.S.rows wr 0))=mf P c.S.dW wv 0∧er (pa (mf P c.S.dW wv 0) (mg P c.S.rows wr 0))=mg P c.S.rows wr 0)
  (sA:∀ x,Fv P (bo P ps ls mt fz eg fs) L n c.g c.S (ev x) (er x)=aI.enc ev er (step x)) (hy:Nat.blt c.g yB=true:=by rfl) (KO:es = [.ret]:=by rfl) (BV:fR P fs:=by exact fR.nil):c.Ok P:=
 akx (cfg:=bo P ps ls mt fz eg fs) iu.pc (MN hP hm (MO hP hm BV) mu) hy (fun _ _=>by rw [hF]) iX (fun x y h=>by rw [sA x,h]; rfl) KO
end Go.K
end
section
namespace Go.Proofs.Ytahhdndhkgbcjaa.b
open Go.K
theorem funcs:Try.prog.funcs.toList.all aE.m9=true:=by kernel_rfl
theorem mixed:Try.prog.follows .mixedOrders=true:=by kernel_rfl
end Go.Proofs.Ytahhdndhkgbcjaa.b
end
section
namespace Go.Proofs.Ytahhdndhkgbcjaa.b
open Go.K
set_option linter.unusedVariables false
set_option linter.unusedSimpArgs false
noncomputable section
def Jr:List (Nat×(List KV→KR KV)):=[]
def Js:List Lp:=[]
theorem Rv:ao Try.prog Jr:=ao.nil
theorem Rw:az Try.prog Js:=az.nil
def eB (a:Int) (b:Int):Option (Int×Int):=
 (cond (decide (b < (1:Int)))
 (some ((0:Int),(2:Int)))
 (cond (!(decide (b=(0:Int))))
 (cond (!(decide (b=(0:Int))))
 (cond (decide ((Int.tmod a b) < (0:Int)))
 (some ((au ((au (Int.tdiv a b)) - (1:Int))),(0:Int)))
 (some ((au (Int.tdiv a b)),(0:Int))))
 none)
 none))
theorem Um (a:Int) (b:Int):dm Try.prog (bo Try.prog Jr Js (fun _=>false)) 9 9 99 [(kI .i64) a,(kI .i64) b] = (eB a b).map (fun (r:Int×Int)=>KV.kk [(kI .i64) r.1,(kI .i64) r.2]):=by
 unfold eB
 try simp only [cc,aiY,aiZ,Lh,akB,akC,akD,akE,akF,ahe,ahf,ai0,akG,aiX,ahd,afU]
 kernel_rfl
def uU:List KV→KR KV:=cw Try.prog 99 (cG (fun (r:Int×Int)=>KV.kk [(kI .i64) r.1,(kI .i64) r.2]) fun vs=>eB (intOf (vs.getD 0 .aw)) (intOf (vs.getD 1 .aw)))
theorem Rx (w:Nat→KV):cM Try.prog [3,3] w 0 = [(kI .i64) (intOf (ay Try.prog (aj Try.prog aq) 3 (w 0))),(kI .i64) (intOf (ay Try.prog (aj Try.prog aq) 3 (w 1)))]:=by kernel_rfl
theorem tT:ca Try.prog 99 uU:=aY funcs mixed Rv Rw (L:=9) (n:=9) fun w=>by
 have e:aJ Try.prog 99 = [3,3]:=by kernel_rfl
 rw [e,Rx]
 exact (Um (intOf (ay Try.prog (aj Try.prog aq) 3 (w 0))) (intOf (ay Try.prog (aj Try.prog aq) 3 (w 1)))).trans (by kernel_rfl)
def abF (a:Int) (b:Int):Option (Int×Int):=
 (cond (decide (b < (1:Int)))
 (some ((0:Int),(2:Int)))
 (cond (!(decide (b=(0:Int))))
 (cond (!(decide (b=(0:Int))))
 (cond (decide ((Int.tmod a b) > (0:Int)))
 (some ((au ((au (Int.tdiv a b))+(1:Int))),(0:Int)))
 (some ((au (Int.tdiv a b)),(0:Int))))
 none)
 none))
structure dY where
 x:Int
 y:Int
 z:Int
instance:Inhabited dY:=⟨⟨default,default,default⟩⟩
def anH (x:dY):List KV:=[.int .i64 x.x,.int .i64 x.y,.int .i64 x.z]
def wW (x:dY):KV:=.agg (anH x)
def anI (c:Nat→KV):dY:=⟨intOf (c 0),intOf (c 1),intOf (c 2)⟩
def yl (v:KV):dY:=anI fun k=>v.cells.getD k .aw
structure bX where
 p:dY
 u:Int
 v:Int
instance:Inhabited bX:=⟨⟨default,default,default⟩⟩
def alK (x:bX):List KV:=[.int .i64 x.p.x,.int .i64 x.p.y,.int .i64 x.p.z,.int .i64 x.u,.int .i64 x.v]
def nb (x:bX):KV:=.agg (alK x)
def alL (c:Nat→KV):bX:=⟨⟨intOf (c 0),intOf (c 1),intOf (c 2)⟩,intOf (c 3),intOf (c 4)⟩
def jQ (v:KV):bX:=alL fun k=>v.cells.getD k .aw
theorem Un (x:bX):jQ (nb x)=x:=rfl
theorem acO:jQ .aw=default:=rfl
theorem afV (s:Sl bX) (v:bX):s.push v=kl jQ (s.n+1) (ff s.n (fun i=>nb (s.get i)) (rq [nb v])):=(yk Un acO s v).symm
theorem ahg (l:List bX):Sl.lit l=kl jQ l.length (rq (l.map nb)):=(Z1 Un acO l).symm
theorem ahh (m n n' : Nat) (acc fW:Nat→KV):kl jQ m (ff n (fun i=>nb ((kl jQ n' acc).get i)) fW)=kl jQ m (ff n acc fW):=afS Un ..
def Li:List (Nat×(List KV→KR KV)):=[]
def Lj:List Lp:=[]
theorem Uo:ao Try.prog Li:=ao.nil
theorem Uq:az Try.prog Lj:=az.nil
def lu (p:bX):Option (Int):=
 (cond (decide (p.p.x < (-(32768:Int))))
 (some ((8:Int)))
 (cond (decide (p.p.x > (32768:Int)))
 (some ((8:Int)))
 (cond (decide (p.p.y < (-(32768:Int))))
 (some ((8:Int)))
 (cond (decide (p.p.y > (32768:Int)))
 (some ((8:Int)))
 (cond (decide (p.p.z < (-(32768:Int))))
 (some ((8:Int)))
 (cond (decide (p.p.z > (32768:Int)))
 (some ((8:Int)))
 (cond (decide (p.u < (0:Int)))
 (some ((8:Int)))
 (cond (decide (p.u > (255:Int)))
 (some ((8:Int)))
 (cond (decide (p.v < (0:Int)))
 (some ((8:Int)))
 (cond (decide (p.v > (255:Int)))
 (some ((8:Int)))
 (some ((0:Int)))))))))))))
theorem WO (p:bX):dm Try.prog (bo Try.prog Li Lj (fun _=>false)) 9 9 130 [nb p] = (lu p).map (kI .i64):=by
 unfold lu
 try simp only [cc]
 kernel_rfl
def qV:List KV→KR KV:=cw Try.prog 130 (cG (kI .i64) fun vs=>lu (jQ (vs.getD 0 .aw)))
theorem Ur (w:Nat→KV):cM Try.prog [180] w 0 = [nb (jQ (ay Try.prog (aj Try.prog aq) 180 (w 0)))]:=by kernel_rfl
theorem o3:ca Try.prog 130 qV:=aY funcs mixed Uo Uq (L:=9) (n:=9) fun w=>by
 have e:aJ Try.prog 130 = [180]:=by kernel_rfl
 rw [e,Ur]
 exact (WO (jQ (ay Try.prog (aj Try.prog aq) 180 (w 0)))).trans (by kernel_rfl)
structure gj where
 low:Int
 high:Int
 t6:Bool
 t9:(Sl Int)
 t10:Int
 t11:Int
instance:Inhabited gj:=⟨⟨default,default,default,default,default,default⟩⟩
def sM (x:gj):List KV:=[.int .i64 x.low,.int .i64 x.high,.bool x.t6,iE 3 (kI .i64) x.t9,.int .i64 x.t10,.int .i64 x.t11]
def sN (x:gj):List (List KV):=[]
def DE (vs:List KV) (rs:List (List KV)):gj:=⟨intOf (vs.getD 0 .aw),intOf (vs.getD 1 .aw),ql (vs.getD 2 .aw),gZ intOf (vs.getD 3 .aw),intOf (vs.getD 4 .aw),intOf (vs.getD 5 .aw)⟩
def Ey:aU:=⟨[(0,⟨false,[.k (.int .i64)]⟩),(1,⟨false,[.k (.int .i64)]⟩),(6,⟨false,[.k .bool]⟩),(9,⟨false,[.k (.slice 3)]⟩),(10,⟨false,[.k (.int .i64)]⟩),(11,⟨false,[.k (.int .i64)]⟩)],[],[]⟩
def Pv:=jh Try.prog (bo Try.prog [] [] (fun _=>false)) 9 9 143 26 (eZ Try.prog 143 26) Ey
def j8 (x:gj):aI gj:=
 (cond (decide (x.t11 < x.t10))
 (cond ((decide ((0:Int)≤x.t11))&&(decide (x.t11 < ((x.t9.n:Nat):Int))))
 (cond (decide ((x.t9.get (Int.toNat x.t11)) < x.low))
 (.out aE.ak.ret (⟨x.low,x.high,false,x.t9,x.t10,x.t11⟩:gj))
 (cond (decide ((x.t9.get (Int.toNat x.t11)) > x.high))
 (.out aE.ak.ret (⟨x.low,x.high,false,x.t9,x.t10,x.t11⟩:gj))
 (.next (⟨x.low,x.high,x.t6,x.t9,x.t10,(au (x.t11+(1:Int)))⟩:gj))))
 .fail)
 (.out (aE.ak.exit 0) x))
theorem Ll (x:gj):Pv (sM x) (sN x)=aI.enc sM sN (j8 x):=by
 unfold j8
 try simp only [aI.df]
 kernel_rfl
def tU:Lp:=⟨143,26,Ey,fun vs rs=>dC sM sN (goN j8 (DE vs rs)) [aE.ak.exit 0,aE.ak.ret],false⟩
theorem Pw:tU.Ok Try.prog:=eH funcs mixed ao.nil az.nil (L:=9) (n:=9) (step:=j8) (ev:=sM) (er:=sN) (pa:=DE) rfl (fun wv wr=>⟨by kernel_rfl,by kernel_rfl⟩) Ll
theorem Ka:cA Try.prog tU.f tU.p=true:=by kernel_rfl
def Jt:List (Nat×(List KV→KR KV)):=[]
def Ju:List Lp:=[tU]
theorem Ry:ao Try.prog Jt:=ao.nil
theorem Rz:az Try.prog Ju:=(az.cons Pw Ka az.nil)
def vt (low:Int) (high:Int) (l:(Sl Int)):(aI gj):=(goN j8 (⟨low,high,false,l,((l.n:Nat):Int),(0:Int)⟩:gj))
def nR (low:Int) (high:Int) (l:(Sl Int)):Option (Bool):=
 (cond ((vt low high l).by (aE.ak.exit 0))
 (some (true))
 (cond ((vt low high l).by aE.ak.ret)
 (some ((vt low high l).st.t6))
 none))
theorem Ut (low:Int) (high:Int) (l:(Sl Int)):dm Try.prog (bo Try.prog Jt Ju (fun _=>false)) 9 9 143 [(kI .i64) low,(kI .i64) high,(iE 3 (kI .i64)) l] = (nR low high l).map kB:=by
 unfold nR
 try simp only [cc]
 kernel_rfl
def Lm:List KV→KR KV:=cw Try.prog 143 (cG kB fun vs=>nR (intOf (vs.getD 0 .aw)) (intOf (vs.getD 1 .aw)) ((gZ intOf) (vs.getD 2 .aw)))
theorem RA (w:Nat→KV):cM Try.prog [3,3,26] w 0 = [(kI .i64) (intOf (ay Try.prog (aj Try.prog aq) 3 (w 0))),(kI .i64) (intOf (ay Try.prog (aj Try.prog aq) 3 (w 1))),(iE 3 (kI .i64)) ((gZ intOf) (ay Try.prog (aj Try.prog aq) 26 (w 2)))]:=by kernel_rfl
theorem RB:ca Try.prog 143 Lm:=aY funcs mixed Ry Rz (L:=9) (n:=9) fun w=>by
 have e:aJ Try.prog 143 = [3,3,26]:=by kernel_rfl
 rw [e,RA]
 exact (Ut (intOf (ay Try.prog (aj Try.prog aq) 3 (w 0))) (intOf (ay Try.prog (aj Try.prog aq) 3 (w 1))) ((gZ intOf) (ay Try.prog (aj Try.prog aq) 26 (w 2)))).trans (by kernel_rfl)
structure fX where
 x:Int
 y:Int
 d:Int
 u:Int
 v:Int
instance:Inhabited fX:=⟨⟨default,default,default,default,default⟩⟩
def amI (x:fX):List KV:=[.int .i64 x.x,.int .i64 x.y,.int .i64 x.d,.int .i64 x.u,.int .i64 x.v]
def Uu (x:fX):KV:=.agg (amI x)
def amJ (c:Nat→KV):fX:=⟨intOf (c 0),intOf (c 1),intOf (c 2),intOf (c 3),intOf (c 4)⟩
def ahi (v:KV):fX:=amJ fun k=>v.cells.getD k .aw
def Ln:List (Nat×(List KV→KR KV)):=[(143,Lm)]
def Lo:List Lp:=[]
theorem Uv:ao Try.prog Ln:=(ao.cons RB ao.nil)
theorem Uw:az Try.prog Lo:=az.nil
def xj (s:fX):(Option Bool):=(nR (-(131072:Int)) (131072:Int) (Sl.lit [s.x,s.y]))
def xk (s:fX):(Option Bool):=(nR (1:Int) (65536:Int) (Sl.lit [s.d]))
def xl (s:fX):(Option Bool):=(nR (0:Int) (255:Int) (Sl.lit [s.u,s.v]))
def oQ (s:fX):Option (Int):=
 (cond (xj s).isSome
 (cond (!((xj s).getD default))
 (some ((8:Int)))
 (cond (xk s).isSome
 (cond (!((xk s).getD default))
 (some ((8:Int)))
 (cond (xl s).isSome
 (cond (!((xl s).getD default))
 (some ((8:Int)))
 (some ((0:Int))))
 none))
 none))
 none)
theorem WQ (s:fX):dm Try.prog (bo Try.prog Ln Lo (fun _=>false)) 9 9 131 [Uu s] = (oQ s).map (kI .i64):=by
 unfold oQ
 try simp only [cc,xj,xk,xl,Lh]
 kernel_rfl
def N5:List KV→KR KV:=cw Try.prog 131 (cG (kI .i64) fun vs=>oQ (ahi (vs.getD 0 .aw)))
theorem Ux (w:Nat→KV):cM Try.prog [117] w 0 = [Uu (ahi (ay Try.prog (aj Try.prog aq) 117 (w 0)))]:=by kernel_rfl
theorem Uy:ca Try.prog 131 N5:=aY funcs mixed Uv Uw (L:=9) (n:=9) fun w=>by
 have e:aJ Try.prog 131 = [117]:=by kernel_rfl
 rw [e,Ux]
 exact (WQ (ahi (ay Try.prog (aj Try.prog aq) 117 (w 0)))).trans (by kernel_rfl)
structure bg where
 e0:fX
 e1:fX
 e2:fX
instance:Inhabited bg:=⟨⟨default,default,default⟩⟩
def ai1 (x:bg):List KV:=[.int .i64 x.e0.x,.int .i64 x.e0.y,.int .i64 x.e0.d,.int .i64 x.e0.u,.int .i64 x.e0.v,.int .i64 x.e1.x,.int .i64 x.e1.y,.int .i64 x.e1.d,.int .i64 x.e1.u,.int .i64 x.e1.v,.int .i64 x.e2.x,.int .i64 x.e2.y,.int .i64 x.e2.d,.int .i64 x.e2.u,.int .i64 x.e2.v]
def iw (x:bg):KV:=.agg (ai1 x)
def ai2 (c:Nat→KV):bg:=⟨⟨intOf (c 0),intOf (c 1),intOf (c 2),intOf (c 3),intOf (c 4)⟩,⟨intOf (c 5),intOf (c 6),intOf (c 7),intOf (c 8),intOf (c 9)⟩,⟨intOf (c 10),intOf (c 11),intOf (c 12),intOf (c 13),intOf (c 14)⟩⟩
def gE (v:KV):bg:=ai2 fun k=>v.cells.getD k .aw
theorem afW (x:bg):gE (iw x)=x:=rfl
theorem afX:gE .aw=default:=rfl
theorem abG (s:Sl bg) (v:bg):s.push v=kl gE (s.n+1) (ff s.n (fun i=>iw (s.get i)) (rq [iw v])):=(yk afW afX s v).symm
def N6:List (Nat×(List KV→KR KV)):=[(131,N5)]
def N7:List Lp:=[]
theorem WR:ao Try.prog N6:=(ao.cons Uy ao.nil)
theorem WS:az Try.prog N7:=az.nil
def y9 (t:bg):(Option Int):=(oQ t.e0)
def za (t:bg):(Option Int):=(oQ t.e1)
def zb (t:bg):(Option Int):=(oQ t.e2)
def nH (t:bg):Option (Int×Int):=
 (cond (y9 t).isSome
 (cond (((y9 t).getD default) != (0:Int))
 (some ((0:Int),((y9 t).getD default)))
 (cond (za t).isSome
 (cond (((za t).getD default) != (0:Int))
 (some ((0:Int),((za t).getD default)))
 (cond (zb t).isSome
 (cond (((zb t).getD default) != (0:Int))
 (some ((0:Int),((zb t).getD default)))
 (some ((au ((au ((au (t.e1.x - t.e0.x)) * (au (t.e2.y - t.e0.y)))) - (au ((au (t.e2.x - t.e0.x)) * (au (t.e1.y - t.e0.y)))))),(0:Int))))
 none))
 none))
 none)
theorem Z4 (t:bg):dm Try.prog (bo Try.prog N6 N7 (fun _=>false)) 9 9 115 [iw t] = (nH t).map (fun (r:Int×Int)=>KV.kk [(kI .i64) r.1,(kI .i64) r.2]):=by
 unfold nH
 try simp only [cc]
 kernel_rfl
def CJ:List KV→KR KV:=cw Try.prog 115 (cG (fun (r:Int×Int)=>KV.kk [(kI .i64) r.1,(kI .i64) r.2]) fun vs=>nH (gE (vs.getD 0 .aw)))
theorem WT (w:Nat→KV):cM Try.prog [118] w 0 = [iw (gE (ay Try.prog (aj Try.prog aq) 118 (w 0)))]:=by kernel_rfl
theorem BW:ca Try.prog 115 CJ:=aY funcs mixed WR WS (L:=9) (n:=9) fun w=>by
 have e:aJ Try.prog 115 = [118]:=by kernel_rfl
 rw [e,WT]
 exact (Z4 (gE (ay Try.prog (aj Try.prog aq) 118 (w 0)))).trans (by kernel_rfl)
def Lq:List (Nat×(List KV→KR KV)):=[(115,CJ)]
def Lr:List Lp:=[]
theorem Uz:ao Try.prog Lq:=(ao.cons BW ao.nil)
theorem UA:az Try.prog Lr:=az.nil
def og (t:bg) (zc:Int):(Option (Prod Int Int)):=(nH t)
def tD (t:bg) (zc:Int):Option (Bool×Int):=
 (cond (og t zc).isSome
 (cond (((og t zc).getD default).snd != (0:Int))
 (some (false,((og t zc).getD default).snd))
 (cond (zc==(0:Int))
 (some ((((og t zc).getD default).fst != (0:Int)),(0:Int)))
 (cond (zc==(1:Int))
 (some ((decide (((og t zc).getD default).fst > (0:Int))),(0:Int)))
 (cond (zc==(2:Int))
 (some ((decide (((og t zc).getD default).fst < (0:Int))),(0:Int)))
 (some (false,(2:Int)))))))
 none)
theorem WU (t:bg) (zc:Int):dm Try.prog (bo Try.prog Lq Lr (fun _=>false)) 9 9 113 [iw t,(kI .u8) zc] = (tD t zc).map (fun (r:Bool×Int)=>KV.kk [kB r.1,(kI .i64) r.2]):=by
 unfold tD
 try simp only [cc]
 kernel_rfl
def Fz:List KV→KR KV:=cw Try.prog 113 (cG (fun (r:Bool×Int)=>KV.kk [kB r.1,(kI .i64) r.2]) fun vs=>tD (gE (vs.getD 0 .aw)) (intOf (vs.getD 1 .aw)))
theorem UB (w:Nat→KV):cM Try.prog [118,5] w 0 = [iw (gE (ay Try.prog (aj Try.prog aq) 118 (w 0))),(kI .u8) (intOf (ay Try.prog (aj Try.prog aq) 5 (w 1)))]:=by kernel_rfl
theorem GM:ca Try.prog 113 Fz:=aY funcs mixed Uz UA (L:=9) (n:=9) fun w=>by
 have e:aJ Try.prog 113 = [118,5]:=by kernel_rfl
 rw [e,UB]
 exact (WU (gE (ay Try.prog (aj Try.prog aq) 118 (w 0))) (intOf (ay Try.prog (aj Try.prog aq) 5 (w 1)))).trans (by kernel_rfl)
def Ls:List (Nat×(List KV→KR KV)):=[(115,CJ)]
def Lt:List Lp:=[]
theorem UC:ao Try.prog Ls:=(ao.cons BW ao.nil)
theorem UD:az Try.prog Lt:=az.nil
def qd (t:bg):(Option (Prod Int Int)):=(nH t)
def tE (t:bg):Option (bg×Int):=
 (cond (qd t).isSome
 (cond (((qd t).getD default).snd != (0:Int))
 (some ((⟨(⟨(0:Int),(0:Int),(0:Int),(0:Int),(0:Int)⟩:fX),(⟨(0:Int),(0:Int),(0:Int),(0:Int),(0:Int)⟩:fX),(⟨(0:Int),(0:Int),(0:Int),(0:Int),(0:Int)⟩:fX)⟩:bg),((qd t).getD default).snd))
 (cond (((qd t).getD default).fst==(0:Int))
 (some ((⟨(⟨(0:Int),(0:Int),(0:Int),(0:Int),(0:Int)⟩:fX),(⟨(0:Int),(0:Int),(0:Int),(0:Int),(0:Int)⟩:fX),(⟨(0:Int),(0:Int),(0:Int),(0:Int),(0:Int)⟩:fX)⟩:bg),(6:Int)))
 (cond (decide (((qd t).getD default).fst < (0:Int)))
 (some ((⟨t.e0,t.e2,t.e1⟩:bg),(0:Int)))
 (some (t,(0:Int))))))
 none)
theorem WV (t:bg):dm Try.prog (bo Try.prog Ls Lt (fun _=>false)) 9 9 114 [iw t] = (tE t).map (fun (r:bg×Int)=>KV.kk [iw r.1,(kI .i64) r.2]):=by
 unfold tE
 try simp only [cc]
 kernel_rfl
def FB:List KV→KR KV:=cw Try.prog 114 (cG (fun (r:bg×Int)=>KV.kk [iw r.1,(kI .i64) r.2]) fun vs=>tE (gE (vs.getD 0 .aw)))
theorem UE (w:Nat→KV):cM Try.prog [118] w 0 = [iw (gE (ay Try.prog (aj Try.prog aq) 118 (w 0)))]:=by kernel_rfl
theorem GN:ca Try.prog 114 FB:=aY funcs mixed UC UD (L:=9) (n:=9) fun w=>by
 have e:aJ Try.prog 114 = [118]:=by kernel_rfl
 rw [e,UE]
 exact (WV (gE (ay Try.prog (aj Try.prog aq) 118 (w 0)))).trans (by kernel_rfl)
structure lG where
 mL:Int
 t4:Bool
 t7:(Sl Int)
 t8:Int
 t9:Int
instance:Inhabited lG:=⟨⟨default,default,default,default,default⟩⟩
def A5 (x:lG):List KV:=[.int .i64 x.mL,.bool x.t4,iE 3 (kI .i64) x.t7,.int .i64 x.t8,.int .i64 x.t9]
def A6 (x:lG):List (List KV):=[]
def N8 (vs:List KV) (rs:List (List KV)):lG:=⟨intOf (vs.getD 0 .aw),ql (vs.getD 1 .aw),gZ intOf (vs.getD 2 .aw),intOf (vs.getD 3 .aw),intOf (vs.getD 4 .aw)⟩
def RC:aU:=⟨[(0,⟨false,[.k (.int .i64)]⟩),(4,⟨false,[.k .bool]⟩),(7,⟨false,[.k (.slice 3)]⟩),(8,⟨false,[.k (.int .i64)]⟩),(9,⟨false,[.k (.int .i64)]⟩)],[],[]⟩
def abH:=jh Try.prog (bo Try.prog [] [] (fun _=>false)) 9 9 124 26 (eZ Try.prog 124 26) RC
def oh (x:lG):aI lG:=
 (cond (decide (x.t9 < x.t8))
 (cond ((decide ((0:Int)≤x.t9))&&(decide (x.t9 < ((x.t7.n:Nat):Int))))
 (cond (decide ((x.t7.get (Int.toNat x.t9)) < (au ((0:Int) - x.mL))))
 (.out aE.ak.ret (⟨x.mL,false,x.t7,x.t8,x.t9⟩:lG))
 (cond (decide ((x.t7.get (Int.toNat x.t9)) > x.mL))
 (.out aE.ak.ret (⟨x.mL,false,x.t7,x.t8,x.t9⟩:lG))
 (.next (⟨x.mL,x.t4,x.t7,x.t8,(au (x.t9+(1:Int)))⟩:lG))))
 .fail)
 (.out (aE.ak.exit 0) x))
theorem WW (x:lG):abH (A5 x) (A6 x)=aI.enc A5 A6 (oh x):=by
 unfold oh
 try simp only [aI.df]
 kernel_rfl
def CL:Lp:=⟨124,26,RC,fun vs rs=>dC A5 A6 (goN oh (N8 vs rs)) [aE.ak.exit 0,aE.ak.ret],false⟩
theorem abI:CL.Ok Try.prog:=eH funcs mixed ao.nil az.nil (L:=9) (n:=9) (step:=oh) (ev:=A5) (er:=A6) (pa:=N8) rfl (fun wv wr=>⟨by kernel_rfl,by kernel_rfl⟩) WW
theorem UF:cA Try.prog CL.f CL.p=true:=by kernel_rfl
def Z5:List (Nat×(List KV→KR KV)):=[]
def Z6:List Lp:=[CL]
theorem adV:ao Try.prog Z5:=ao.nil
theorem adW:az Try.prog Z6:=(az.cons abI UF az.nil)
def Ez (mL:Int) (l:(Sl Int)):(aI lG):=(goN oh (⟨mL,false,l,((l.n:Nat):Int),(0:Int)⟩:lG))
def ym (mL:Int) (l:(Sl Int)):Option (Bool):=
 (cond ((Ez mL l).by (aE.ak.exit 0))
 (some (true))
 (cond ((Ez mL l).by aE.ak.ret)
 (some ((Ez mL l).st.t4))
 none))
theorem afY (mL:Int) (l:(Sl Int)):dm Try.prog (bo Try.prog Z5 Z6 (fun _=>false)) 9 9 124 [(kI .i64) mL,(iE 3 (kI .i64)) l] = (ym mL l).map kB:=by
 unfold ym
 try simp only [cc]
 kernel_rfl
def UG:List KV→KR KV:=cw Try.prog 124 (cG kB fun vs=>ym (intOf (vs.getD 0 .aw)) ((gZ intOf) (vs.getD 1 .aw)))
theorem adX (w:Nat→KV):cM Try.prog [3,26] w 0 = [(kI .i64) (intOf (ay Try.prog (aj Try.prog aq) 3 (w 0))),(iE 3 (kI .i64)) ((gZ intOf) (ay Try.prog (aj Try.prog aq) 26 (w 1)))]:=by kernel_rfl
theorem RD:ca Try.prog 124 UG:=aY funcs mixed adV adW (L:=9) (n:=9) fun w=>by
 have e:aJ Try.prog 124 = [3,26]:=by kernel_rfl
 rw [e,adX]
 exact (afY (intOf (ay Try.prog (aj Try.prog aq) 3 (w 0))) ((gZ intOf) (ay Try.prog (aj Try.prog aq) 26 (w 1)))).trans (by kernel_rfl)
def N9:List (Nat×(List KV→KR KV)):=[(124,UG)]
def Oa:List Lp:=[]
theorem WX:ao Try.prog N9:=(ao.cons RD ao.nil)
theorem WY:az Try.prog Oa:=az.nil
def zd (v:dY):(Option Bool):=(ym (4096:Int) (Sl.lit [v.x,v.y,v.z]))
def oJ (v:dY):Option (Int):=
 (cond (zd v).isSome
 (cond (!((zd v).getD default))
 (some ((20:Int)))
 (some ((0:Int))))
 none)
theorem Z7 (v:dY):dm Try.prog (bo Try.prog N9 Oa (fun _=>false)) 9 9 108 [wW v] = (oJ v).map (kI .i64):=by
 unfold oJ
 try simp only [cc,zd,Lh]
 kernel_rfl
def vu:List KV→KR KV:=cw Try.prog 108 (cG (kI .i64) fun vs=>oJ (yl (vs.getD 0 .aw)))
theorem WZ (w:Nat→KV):cM Try.prog [41] w 0 = [wW (yl (ay Try.prog (aj Try.prog aq) 41 (w 0)))]:=by kernel_rfl
theorem tj:ca Try.prog 108 vu:=aY funcs mixed WX WY (L:=9) (n:=9) fun w=>by
 have e:aJ Try.prog 108 = [41]:=by kernel_rfl
 rw [e,WZ]
 exact (Z7 (yl (ay Try.prog (aj Try.prog aq) 41 (w 0)))).trans (by kernel_rfl)
def EA:List (Nat×(List KV→KR KV)):=[]
def EB:List Lp:=[]
theorem Nb:ao Try.prog EA:=ao.nil
theorem Nc:az Try.prog EB:=az.nil
def dK (n:Int) (low:Int) (high:Int):Option (Bool):=
 (cond (decide (n ≥ low))
 (some ((decide (n≤high))))
 (some (false)))
theorem Px (n:Int) (low:Int) (high:Int):dm Try.prog (bo Try.prog EA EB (fun _=>false)) 9 9 83 [(kI .i64) n,(kI .i64) low,(kI .i64) high] = (dK n low high).map kB:=by
 unfold dK
 try simp only [cc]
 kernel_rfl
def GP:List KV→KR KV:=cw Try.prog 83 (cG kB fun vs=>dK (intOf (vs.getD 0 .aw)) (intOf (vs.getD 1 .aw)) (intOf (vs.getD 2 .aw)))
theorem Nd (w:Nat→KV):cM Try.prog [3,3,3] w 0 = [(kI .i64) (intOf (ay Try.prog (aj Try.prog aq) 3 (w 0))),(kI .i64) (intOf (ay Try.prog (aj Try.prog aq) 3 (w 1))),(kI .i64) (intOf (ay Try.prog (aj Try.prog aq) 3 (w 2)))]:=by kernel_rfl
theorem Nf:ca Try.prog 83 GP:=aY funcs mixed Nb Nc (L:=9) (n:=9) fun w=>by
 have e:aJ Try.prog 83 = [3,3,3]:=by kernel_rfl
 rw [e,Nd]
 exact (Px (intOf (ay Try.prog (aj Try.prog aq) 3 (w 0))) (intOf (ay Try.prog (aj Try.prog aq) 3 (w 1))) (intOf (ay Try.prog (aj Try.prog aq) 3 (w 2)))).trans (by kernel_rfl)
structure eL where
 e0:Int
 e1:Int
 e2:Int
instance:Inhabited eL:=⟨⟨default,default,default⟩⟩
def akH (x:eL):List KV:=[.int .i64 x.e0,.int .i64 x.e1,.int .i64 x.e2]
def tl (x:eL):KV:=.agg (akH x)
def akI (c:Nat→KV):eL:=⟨intOf (c 0),intOf (c 1),intOf (c 2)⟩
def Bs (v:KV):eL:=akI fun k=>v.cells.getD k .aw
structure gN where
 e0:eL
 e1:eL
 e2:eL
instance:Inhabited gN:=⟨⟨default,default,default⟩⟩
def afZ (x:gN):List KV:=[.int .i64 x.e0.e0,.int .i64 x.e0.e1,.int .i64 x.e0.e2,.int .i64 x.e1.e0,.int .i64 x.e1.e1,.int .i64 x.e1.e2,.int .i64 x.e2.e0,.int .i64 x.e2.e1,.int .i64 x.e2.e2]
def yn (x:gN):KV:=.agg (afZ x)
def af0 (c:Nat→KV):gN:=⟨⟨intOf (c 0),intOf (c 1),intOf (c 2)⟩,⟨intOf (c 3),intOf (c 4),intOf (c 5)⟩,⟨intOf (c 6),intOf (c 7),intOf (c 8)⟩⟩
def qv (v:KV):gN:=af0 fun k=>v.cells.getD k .aw
structure aP where
 pos:dY
 m:gN
 UH:Int
 aO:Int
 w:Int
 h:Int
instance:Inhabited aP:=⟨⟨default,default,default,default,default,default⟩⟩
def GQ (x:aP):List KV:=[.int .i64 x.pos.x,.int .i64 x.pos.y,.int .i64 x.pos.z,.int .i64 x.m.e0.e0,.int .i64 x.m.e0.e1,.int .i64 x.m.e0.e2,.int .i64 x.m.e1.e0,.int .i64 x.m.e1.e1,.int .i64 x.m.e1.e2,.int .i64 x.m.e2.e0,.int .i64 x.m.e2.e1,.int .i64 x.m.e2.e2,.int .i64 x.UH,.int .i64 x.aO,.int .i64 x.w,.int .i64 x.h]
def kK (x:aP):KV:=.agg (GQ x)
def GS (c:Nat→KV):aP:=⟨⟨intOf (c 0),intOf (c 1),intOf (c 2)⟩,⟨⟨intOf (c 3),intOf (c 4),intOf (c 5)⟩,⟨intOf (c 6),intOf (c 7),intOf (c 8)⟩,⟨intOf (c 9),intOf (c 10),intOf (c 11)⟩⟩,intOf (c 12),intOf (c 13),intOf (c 14),intOf (c 15)⟩
def hY (v:KV):aP:=GS fun k=>v.cells.getD k .aw
def GU:List (Nat×(List KV→KR KV)):=[(83,GP),(108,vu)]
def GV:List Lp:=[]
theorem Py:ao Try.prog GU:=(ao.cons Nf (ao.cons tj ao.nil))
theorem Pz:az Try.prog GV:=az.nil
def ze (c:aP):(Option Int):=(oJ c.pos)
def zf (c:aP):(Option Bool):=(dK c.UH (1:Int) (64:Int))
def zg (c:aP):(Option Bool):=(dK c.aO (256:Int) (4096:Int))
def zh (c:aP):(Option Bool):=(dK c.w (1:Int) (64:Int))
def zi (c:aP):(Option Bool):=(dK c.h (1:Int) (64:Int))
def zj (c:aP):(Option Bool):=(dK c.m.e0.e0 (-(256:Int)) (256:Int))
def zk (c:aP):(Option Bool):=(dK c.m.e0.e1 (-(256:Int)) (256:Int))
def zl (c:aP):(Option Bool):=(dK c.m.e0.e2 (-(256:Int)) (256:Int))
def zm (c:aP):(Option Bool):=(dK c.m.e1.e0 (-(256:Int)) (256:Int))
def zn (c:aP):(Option Bool):=(dK c.m.e1.e1 (-(256:Int)) (256:Int))
def xK (c:aP):(Option Bool):=(dK c.m.e1.e2 (-(256:Int)) (256:Int))
def xL (c:aP):(Option Bool):=(dK c.m.e2.e0 (-(256:Int)) (256:Int))
def xM (c:aP):(Option Bool):=(dK c.m.e2.e1 (-(256:Int)) (256:Int))
def xN (c:aP):(Option Bool):=(dK c.m.e2.e2 (-(256:Int)) (256:Int))
def kf (c:aP):Option (Int):=
 (cond (ze c).isSome
 (cond (((ze c).getD default)==(0:Int))
 (cond (zf c).isSome
 (cond ((zf c).getD default)
 (cond (zg c).isSome
 (cond ((zg c).getD default)
 (cond (zh c).isSome
 (cond ((zh c).getD default)
 (cond (zi c).isSome
 (cond ((zi c).getD default)
 (cond (zj c).isSome
 (cond ((zj c).getD default)
 (cond (zk c).isSome
 (cond ((zk c).getD default)
 (cond (zl c).isSome
 (cond ((zl c).getD default)
 (cond (zm c).isSome
 (cond ((zm c).getD default)
 (cond (zn c).isSome
 (cond ((zn c).getD default)
 (cond (xK c).isSome
 (cond ((xK c).getD default)
 (cond (xL c).isSome
 (cond ((xL c).getD default)
 (cond (xM c).isSome
 (cond ((xM c).getD default)
 (cond (xN c).isSome
 (cond (!((xN c).getD default))
 (some ((150:Int)))
 (some ((0:Int))))
 none)
 (some ((150:Int))))
 none)
 (some ((150:Int))))
 none)
 (some ((150:Int))))
 none)
 (some ((150:Int))))
 none)
 (some ((150:Int))))
 none)
 (some ((150:Int))))
 none)
 (some ((150:Int))))
 none)
 (some ((150:Int))))
 none)
 (some ((150:Int))))
 none)
 (some ((150:Int))))
 none)
 (some ((150:Int))))
 none)
 (some ((150:Int))))
 none)
 (some ((150:Int))))
 none)
theorem RE (c:aP):dm Try.prog (bo Try.prog GU GV (fun _=>false)) 9 9 82 [kK c] = (kf c).map (kI .i64):=by
 unfold kf
 try simp only [cc]
 kernel_rfl
def xm:List KV→KR KV:=cw Try.prog 82 (cG (kI .i64) fun vs=>kf (hY (vs.getD 0 .aw)))
theorem PA (w:Nat→KV):cM Try.prog [53] w 0 = [kK (hY (ay Try.prog (aj Try.prog aq) 53 (w 0)))]:=by kernel_rfl
theorem xO:ca Try.prog 82 xm:=aY funcs mixed Py Pz (L:=9) (n:=9) fun w=>by
 have e:aJ Try.prog 82 = [53]:=by kernel_rfl
 rw [e,PA]
 exact (RE (hY (ay Try.prog (aj Try.prog aq) 53 (w 0)))).trans (by kernel_rfl)
structure Bt where
 x0:Int
 y0:Int
 x1:Int
 y1:Int
instance:Inhabited Bt:=⟨⟨default,default,default,default⟩⟩
end
end Go.Proofs.Ytahhdndhkgbcjaa.b
end
section
namespace Go.Proofs.Ytahhdndhkgbcjaa.b
open Go.K
set_option linter.unusedVariables false
set_option linter.unusedSimpArgs false
noncomputable section
def RF:List (Nat×(List KV→KR KV)):=[]
def RG:List Lp:=[]
theorem Z8:ao Try.prog RF:=ao.nil
theorem Z9:az Try.prog RG:=az.nil
def yo (m:gN):Option (Bool):=
 (cond (decide (m.e0.e0 < (-(1024:Int))))
 (some (false))
 (cond (decide (m.e0.e0 > (1024:Int)))
 (some (false))
 (cond (decide (m.e0.e1 < (-(1024:Int))))
 (some (false))
 (cond (decide (m.e0.e1 > (1024:Int)))
 (some (false))
 (cond (decide (m.e0.e2 < (-(1024:Int))))
 (some (false))
 (cond (decide (m.e0.e2 > (1024:Int)))
 (some (false))
 (cond (decide (m.e1.e0 < (-(1024:Int))))
 (some (false))
 (cond (decide (m.e1.e0 > (1024:Int)))
 (some (false))
 (cond (decide (m.e1.e1 < (-(1024:Int))))
 (some (false))
 (cond (decide (m.e1.e1 > (1024:Int)))
 (some (false))
 (cond (decide (m.e1.e2 < (-(1024:Int))))
 (some (false))
 (cond (decide (m.e1.e2 > (1024:Int)))
 (some (false))
 (cond (decide (m.e2.e0 < (-(1024:Int))))
 (some (false))
 (cond (decide (m.e2.e0 > (1024:Int)))
 (some (false))
 (cond (decide (m.e2.e1 < (-(1024:Int))))
 (some (false))
 (cond (decide (m.e2.e1 > (1024:Int)))
 (some (false))
 (cond (decide (m.e2.e2 < (-(1024:Int))))
 (some (false))
 (cond (decide (m.e2.e2 > (1024:Int)))
 (some (false))
 (some (true))))))))))))))))))))
theorem abJ (m:gN):dm Try.prog (bo Try.prog RF RG (fun _=>false)) 9 9 138 [yn m] = (yo m).map kB:=by
 unfold yo
 try simp only [cc]
 kernel_rfl
def Wm:List KV→KR KV:=cw Try.prog 138 (cG kB fun vs=>yo (qv (vs.getD 0 .aw)))
theorem aaa (w:Nat→KV):cM Try.prog [51] w 0 = [yn (qv (ay Try.prog (aj Try.prog aq) 51 (w 0)))]:=by kernel_rfl
theorem aab:ca Try.prog 138 Wm:=aY funcs mixed Z8 Z9 (L:=9) (n:=9) fun w=>by
 have e:aJ Try.prog 138 = [51]:=by kernel_rfl
 rw [e,aaa]
 exact (abJ (qv (ay Try.prog (aj Try.prog aq) 51 (w 0)))).trans (by kernel_rfl)
def RH:List (Nat×(List KV→KR KV)):=[]
def RI:List Lp:=[]
theorem aac:ao Try.prog RH:=ao.nil
theorem aad:az Try.prog RI:=az.nil
def Lu (v:dY):Option (eL):=
 (some ((⟨v.x,v.y,v.z⟩:eL)))
theorem abK (v:dY):dm Try.prog (bo Try.prog RH RI (fun _=>false)) 9 9 141 [wW v] = (Lu v).map tl:=by
 unfold Lu
 kernel_rfl
def Wn:List KV→KR KV:=cw Try.prog 141 (cG tl fun vs=>Lu (yl (vs.getD 0 .aw)))
theorem aae (w:Nat→KV):cM Try.prog [41] w 0 = [wW (yl (ay Try.prog (aj Try.prog aq) 41 (w 0)))]:=by kernel_rfl
theorem aaf:ca Try.prog 141 Wn:=aY funcs mixed aac aad (L:=9) (n:=9) fun w=>by
 have e:aJ Try.prog 141 = [41]:=by kernel_rfl
 rw [e,aae]
 exact (abK (yl (ay Try.prog (aj Try.prog aq) 41 (w 0)))).trans (by kernel_rfl)
def RJ:List (Nat×(List KV→KR KV)):=[(99,uU)]
def RK:List Lp:=[]
theorem aag:ao Try.prog RJ:=(ao.cons tT ao.nil)
theorem aah:az Try.prog RK:=az.nil
def FC (m:gN) (v:eL):(Option (Prod Int Int)):=(eB (au ((au ((au ((0:Int)+(au (m.e0.e0 * v.e0))))+(au (m.e0.e1 * v.e1))))+(au (m.e0.e2 * v.e2)))) (256:Int))
def FD (m:gN) (v:eL):(Option (Prod Int Int)):=(eB (au ((au ((au ((0:Int)+(au (m.e1.e0 * v.e0))))+(au (m.e1.e1 * v.e1))))+(au (m.e1.e2 * v.e2)))) (256:Int))
def FE (m:gN) (v:eL):(Option (Prod Int Int)):=(eB (au ((au ((au ((0:Int)+(au (m.e2.e0 * v.e0))))+(au (m.e2.e1 * v.e1))))+(au (m.e2.e2 * v.e2)))) (256:Int))
def yp (m:gN) (v:eL):Option (eL):=
 (cond (FC m v).isSome
 (cond (FD m v).isSome
 (cond (FE m v).isSome
 (some ((⟨((FC m v).getD default).fst,((FD m v).getD default).fst,((FE m v).getD default).fst⟩:eL)))
 none)
 none)
 none)
theorem abL (m:gN) (v:eL):dm Try.prog (bo Try.prog RJ RK (fun _=>false)) 9 9 140 [yn m,tl v] = (yp m v).map tl:=by
 unfold yp
 try simp only [cc]
 kernel_rfl
def Wo:List KV→KR KV:=cw Try.prog 140 (cG tl fun vs=>yp (qv (vs.getD 0 .aw)) (Bs (vs.getD 1 .aw)))
theorem aai (w:Nat→KV):cM Try.prog [51,50] w 0 = [yn (qv (ay Try.prog (aj Try.prog aq) 51 (w 0))),tl (Bs (ay Try.prog (aj Try.prog aq) 50 (w 1)))]:=by kernel_rfl
theorem aaj:ca Try.prog 140 Wo:=aY funcs mixed aag aah (L:=9) (n:=9) fun w=>by
 have e:aJ Try.prog 140 = [51,50]:=by kernel_rfl
 rw [e,aai]
 exact (abL (qv (ay Try.prog (aj Try.prog aq) 51 (w 0))) (Bs (ay Try.prog (aj Try.prog aq) 50 (w 1)))).trans (by kernel_rfl)
def Ob:List (Nat×(List KV→KR KV)):=[]
def Oc:List Lp:=[]
theorem W3:ao Try.prog Ob:=ao.nil
theorem W4:az Try.prog Oc:=az.nil
def IQ (l:eL):Option (dY):=
 (some ((⟨l.e0,l.e1,l.e2⟩:dY)))
theorem aak (l:eL):dm Try.prog (bo Try.prog Ob Oc (fun _=>false)) 9 9 139 [tl l] = (IQ l).map wW:=by
 unfold IQ
 kernel_rfl
def RL:List KV→KR KV:=cw Try.prog 139 (cG wW fun vs=>IQ (Bs (vs.getD 0 .aw)))
theorem W5 (w:Nat→KV):cM Try.prog [50] w 0 = [tl (Bs (ay Try.prog (aj Try.prog aq) 50 (w 0)))]:=by kernel_rfl
theorem W6:ca Try.prog 139 RL:=aY funcs mixed W3 W4 (L:=9) (n:=9) fun w=>by
 have e:aJ Try.prog 139 = [50]:=by kernel_rfl
 rw [e,W5]
 exact (aak (Bs (ay Try.prog (aj Try.prog aq) 50 (w 0)))).trans (by kernel_rfl)
def RM:List (Nat×(List KV→KR KV)):=[(139,RL),(140,Wo),(141,Wn),(124,UG),(138,Wm)]
def RN:List Lp:=[]
theorem aal:ao Try.prog RM:=(ao.cons W6 (ao.cons aaj (ao.cons aaf (ao.cons RD (ao.cons aab ao.nil)))))
theorem aam:az Try.prog RN:=az.nil
def FF (m:gN) (v:dY):(Option Bool):=(yo m)
def A7 (m:gN) (v:dY):(Option Bool):=(ym (32768:Int) (Sl.lit [v.x,v.y,v.z]))
def wX (m:gN) (v:dY):(Option eL):=(yp m (⟨v.x,v.y,v.z⟩:eL))
def yq (m:gN) (v:dY):Option (dY×Int):=
 (cond (FF m v).isSome
 (cond (!((FF m v).getD default))
 (some ((⟨(0:Int),(0:Int),(0:Int)⟩:dY),(2:Int)))
 (cond (A7 m v).isSome
 (cond (!((A7 m v).getD default))
 (some ((⟨(0:Int),(0:Int),(0:Int)⟩:dY),(2:Int)))
 (cond (wX m v).isSome
 (some ((⟨((wX m v).getD default).e0,((wX m v).getD default).e1,((wX m v).getD default).e2⟩:dY),(0:Int)))
 none))
 none))
 none)
theorem abM (m:gN) (v:dY):dm Try.prog (bo Try.prog RM RN (fun _=>false)) 9 9 127 [yn m,wW v] = (yq m v).map (fun (r:dY×Int)=>KV.kk [wW r.1,(kI .i64) r.2]):=by
 unfold yq
 try simp only [cc,A7,Lh]
 kernel_rfl
def Wp:List KV→KR KV:=cw Try.prog 127 (cG (fun (r:dY×Int)=>KV.kk [wW r.1,(kI .i64) r.2]) fun vs=>yq (qv (vs.getD 0 .aw)) (yl (vs.getD 1 .aw)))
theorem aan (w:Nat→KV):cM Try.prog [51,41] w 0 = [yn (qv (ay Try.prog (aj Try.prog aq) 51 (w 0))),wW (yl (ay Try.prog (aj Try.prog aq) 41 (w 1)))]:=by kernel_rfl
theorem aao:ca Try.prog 127 Wp:=aY funcs mixed aal aam (L:=9) (n:=9) fun w=>by
 have e:aJ Try.prog 127 = [51,41]:=by kernel_rfl
 rw [e,aan]
 exact (abM (qv (ay Try.prog (aj Try.prog aq) 51 (w 0))) (yl (ay Try.prog (aj Try.prog aq) 41 (w 1)))).trans (by kernel_rfl)
def Jv:List (Nat×(List KV→KR KV)):=[(127,Wp),(108,vu),(82,xm)]
def Jw:List Lp:=[]
theorem RO:ao Try.prog Jv:=(ao.cons aao (ao.cons tj (ao.cons xO ao.nil)))
theorem RP:az Try.prog Jw:=az.nil
def vv (c:aP) (v:dY):(Option Int):=(kf c)
def vw (c:aP) (v:dY):(Option Int):=(oJ v)
def vx (c:aP) (v:dY):(Option (Prod dY Int)):=(yq c.m (⟨(au (v.x - c.pos.x)),(au (v.y - c.pos.y)),(au (v.z - c.pos.z))⟩:dY))
def nS (c:aP) (v:dY):Option (dY×Int):=
 (cond (vv c v).isSome
 (cond (((vv c v).getD default) != (0:Int))
 (some ((⟨(0:Int),(0:Int),(0:Int)⟩:dY),((vv c v).getD default)))
 (cond (vw c v).isSome
 (cond (((vw c v).getD default) != (0:Int))
 (some ((⟨(0:Int),(0:Int),(0:Int)⟩:dY),((vw c v).getD default)))
 (cond (vx c v).isSome
 (some (((vx c v).getD default).fst,((vx c v).getD default).snd))
 none))
 none))
 none)
theorem UI (c:aP) (v:dY):dm Try.prog (bo Try.prog Jv Jw (fun _=>false)) 9 9 110 [kK c,wW v] = (nS c v).map (fun (r:dY×Int)=>KV.kk [wW r.1,(kI .i64) r.2]):=by
 unfold nS
 try simp only [cc]
 kernel_rfl
def DF:List KV→KR KV:=cw Try.prog 110 (cG (fun (r:dY×Int)=>KV.kk [wW r.1,(kI .i64) r.2]) fun vs=>nS (hY (vs.getD 0 .aw)) (yl (vs.getD 1 .aw)))
theorem RQ (w:Nat→KV):cM Try.prog [53,41] w 0 = [kK (hY (ay Try.prog (aj Try.prog aq) 53 (w 0))),wW (yl (ay Try.prog (aj Try.prog aq) 41 (w 1)))]:=by kernel_rfl
theorem EC:ca Try.prog 110 DF:=aY funcs mixed RO RP (L:=9) (n:=9) fun w=>by
 have e:aJ Try.prog 110 = [53,41]:=by kernel_rfl
 rw [e,RQ]
 exact (UI (hY (ay Try.prog (aj Try.prog aq) 53 (w 0))) (yl (ay Try.prog (aj Try.prog aq) 41 (w 1)))).trans (by kernel_rfl)
structure gR where
 t4:Int
 t14:(Sl bX)
 t15:Int
 t16:Int
instance:Inhabited gR:=⟨⟨default,default,default,default⟩⟩
def tV (x:gR):List KV:=[.int .i64 x.t4,iE 180 nb x.t14,.int .i64 x.t15,.int .i64 x.t16]
def tW (x:gR):List (List KV):=[]
def ED (vs:List KV) (rs:List (List KV)):gR:=⟨intOf (vs.getD 0 .aw),gZ jQ (vs.getD 1 .aw),intOf (vs.getD 2 .aw),intOf (vs.getD 3 .aw)⟩
def GW:aU:=⟨[(4,⟨false,[.k (.int .i64)]⟩),(14,⟨false,[.k (.slice 180)]⟩),(15,⟨false,[.k (.int .i64)]⟩),(16,⟨false,[.k (.int .i64)]⟩)],[],[]⟩
def RR:=jh Try.prog (bo Try.prog [(130,qV)] [] (fun _=>false)) 9 9 128 58 (eZ Try.prog 128 58) GW
def sP (x:gR):(Option Int):=(lu (x.t14.get (Int.toNat x.t16)))
def kP (x:gR):aI gR:=
 (cond (decide (x.t16 < x.t15))
 (cond ((decide ((0:Int)≤x.t16))&&(decide (x.t16 < ((x.t14.n:Nat):Int))))
 (cond (sP x).isSome
 (cond (((sP x).getD default) != (0:Int))
 (.out aE.ak.ret (⟨((sP x).getD default),x.t14,x.t15,x.t16⟩:gR))
 (.next (⟨x.t4,x.t14,x.t15,(au (x.t16+(1:Int)))⟩:gR)))
 .fail)
 .fail)
 (.out (aE.ak.exit 0) x))
theorem Ng (x:gR):RR (tV x) (tW x)=aI.enc tV tW (kP x):=by
 unfold kP
 try simp only [aI.df]
 kernel_rfl
def vy:Lp:=⟨128,58,GW,fun vs rs=>dC tV tW (goN kP (ED vs rs)) [aE.ak.exit 0,aE.ak.ret],false⟩
theorem RS:vy.Ok Try.prog:=eH funcs mixed (ao.cons o3 ao.nil) az.nil (L:=9) (n:=9) (step:=kP) (ev:=tV) (er:=tW) (pa:=ED) rfl (fun wv wr=>⟨by kernel_rfl,by kernel_rfl⟩) Ng
theorem Lv:cA Try.prog vy.f vy.p=true:=by kernel_rfl
def Lw:List (Nat×(List KV→KR KV)):=[(130,qV)]
def Lx:List Lp:=[vy]
theorem UJ:ao Try.prog Lw:=(ao.cons o3 ao.nil)
theorem UK:az Try.prog Lx:=(az.cons RS Lv az.nil)
def xn (aO:Int) (l:(Sl bX)):(aI gR):=(goN kP (⟨(0:Int),l,((l.n:Nat):Int),(0:Int)⟩:gR))
def tF (aO:Int) (l:(Sl bX)):Option (Int):=
 (cond (decide (aO < (256:Int)))
 (some ((2:Int)))
 (cond (decide (aO > (4096:Int)))
 (some ((2:Int)))
 (cond ((xn aO l).by (aE.ak.exit 0))
 (some ((0:Int)))
 (cond ((xn aO l).by aE.ak.ret)
 (some ((xn aO l).st.t4))
 none))))
theorem W7 (aO:Int) (l:(Sl bX)):dm Try.prog (bo Try.prog Lw Lx (fun _=>false)) 9 9 128 [(kI .i64) aO,(iE 180 nb) l] = (tF aO l).map (kI .i64):=by
 unfold tF
 try simp only [cc]
 kernel_rfl
def Od:List KV→KR KV:=cw Try.prog 128 (cG (kI .i64) fun vs=>tF (intOf (vs.getD 0 .aw)) ((gZ jQ) (vs.getD 1 .aw)))
theorem UL (w:Nat→KV):cM Try.prog [3,204] w 0 = [(kI .i64) (intOf (ay Try.prog (aj Try.prog aq) 3 (w 0))),(iE 180 nb) ((gZ jQ) (ay Try.prog (aj Try.prog aq) 204 (w 1)))]:=by kernel_rfl
theorem UM:ca Try.prog 128 Od:=aY funcs mixed UJ UK (L:=9) (n:=9) fun w=>by
 have e:aJ Try.prog 128 = [3,204]:=by kernel_rfl
 rw [e,UL]
 exact (W7 (intOf (ay Try.prog (aj Try.prog aq) 3 (w 0))) ((gZ jQ) (ay Try.prog (aj Try.prog aq) 204 (w 1)))).trans (by kernel_rfl)
structure RT where
 e0:Int
 e1:Int
 e2:Int
 e3:Int
instance:Inhabited RT:=⟨⟨default,default,default,default⟩⟩
def akJ (x:RT):List KV:=[.int .i64 x.e0,.int .i64 x.e1,.int .i64 x.e2,.int .i64 x.e3]
def af1 (x:RT):KV:=.agg (akJ x)
def Jx:List (Nat×(List KV→KR KV)):=[]
def Jy:List Lp:=[]
theorem RU:ao Try.prog Jx:=ao.nil
theorem RV:az Try.prog Jy:=az.nil
def DG (p:bX):Option (RT):=
 (some ((⟨p.p.x,p.p.y,p.u,p.v⟩:RT)))
theorem UN (p:bX):dm Try.prog (bo Try.prog Jx Jy (fun _=>false)) 9 9 142 [nb p] = (DG p).map af1:=by
 unfold DG
 kernel_rfl
def Ly:List KV→KR KV:=cw Try.prog 142 (cG af1 fun vs=>DG (jQ (vs.getD 0 .aw)))
theorem RW (w:Nat→KV):cM Try.prog [180] w 0 = [nb (jQ (ay Try.prog (aj Try.prog aq) 180 (w 0)))]:=by kernel_rfl
theorem RX:ca Try.prog 142 Ly:=aY funcs mixed RU RV (L:=9) (n:=9) fun w=>by
 have e:aJ Try.prog 142 = [180]:=by kernel_rfl
 rw [e,RW]
 exact (UN (jQ (ay Try.prog (aj Try.prog aq) 180 (w 0)))).trans (by kernel_rfl)
def RY:List (Nat×(List KV→KR KV)):=[(99,uU),(142,Ly),(128,Od)]
def RZ:List Lp:=[]
theorem aap:ao Try.prog RY:=(ao.cons tT (ao.cons RX (ao.cons UM ao.nil)))
theorem aaq:az Try.prog RZ:=az.nil
def wY (aO:Int) (a:bX) (b:bX):(Option Int):=(tF aO (Sl.lit [a,b]))
def FG (aO:Int) (a:bX) (b:bX):(Option (Prod Int Int)):=(eB (au ((au (b.p.x - a.p.x)) * (au (aO - a.p.z)))) (au (b.p.z - a.p.z)))
def FH (aO:Int) (a:bX) (b:bX):(Option (Prod Int Int)):=(eB (au ((au (b.p.y - a.p.y)) * (au (aO - a.p.z)))) (au (b.p.z - a.p.z)))
def FJ (aO:Int) (a:bX) (b:bX):(Option (Prod Int Int)):=(eB (au ((au (b.u - a.u)) * (au (aO - a.p.z)))) (au (b.p.z - a.p.z)))
def FK (aO:Int) (a:bX) (b:bX):(Option (Prod Int Int)):=(eB (au ((au (b.v - a.v)) * (au (aO - a.p.z)))) (au (b.p.z - a.p.z)))
def eM (aO:Int) (a:bX) (b:bX):Option (bX×Int):=
 (cond (wY aO a b).isSome
 (cond (((wY aO a b).getD default) != (0:Int))
 (some ((⟨(⟨(0:Int),(0:Int),(0:Int)⟩:dY),(0:Int),(0:Int)⟩:bX),((wY aO a b).getD default)))
 (cond (decide (a.p.z ≥ aO))
 (some ((⟨(⟨(0:Int),(0:Int),(0:Int)⟩:dY),(0:Int),(0:Int)⟩:bX),(6:Int)))
 (cond (decide (b.p.z < aO))
 (some ((⟨(⟨(0:Int),(0:Int),(0:Int)⟩:dY),(0:Int),(0:Int)⟩:bX),(6:Int)))
 (cond (FG aO a b).isSome
 (cond (FH aO a b).isSome
 (cond (FJ aO a b).isSome
 (cond (FK aO a b).isSome
 (some ((⟨(⟨(au (a.p.x+((FG aO a b).getD default).fst)),(au (a.p.y+((FH aO a b).getD default).fst)),aO⟩:dY),(au (a.u+((FJ aO a b).getD default).fst)),(au (a.v+((FK aO a b).getD default).fst))⟩:bX),(0:Int)))
 none)
 none)
 none)
 none))))
 none)
theorem abN (aO:Int) (a:bX) (b:bX):dm Try.prog (bo Try.prog RY RZ (fun _=>false)) 9 9 129 [(kI .i64) aO,nb a,nb b] = (eM aO a b).map (fun (r:bX×Int)=>KV.kk [nb r.1,(kI .i64) r.2]):=by
 unfold eM
 try simp only [cc,wY,ahg]
 kernel_rfl
def EE:List KV→KR KV:=cw Try.prog 129 (cG (fun (r:bX×Int)=>KV.kk [nb r.1,(kI .i64) r.2]) fun vs=>eM (intOf (vs.getD 0 .aw)) (jQ (vs.getD 1 .aw)) (jQ (vs.getD 2 .aw)))
theorem aar (w:Nat→KV):cM Try.prog [3,180,180] w 0 = [(kI .i64) (intOf (ay Try.prog (aj Try.prog aq) 3 (w 0))),nb (jQ (ay Try.prog (aj Try.prog aq) 180 (w 1))),nb (jQ (ay Try.prog (aj Try.prog aq) 180 (w 2)))]:=by kernel_rfl
theorem DH:ca Try.prog 129 EE:=aY funcs mixed aap aaq (L:=9) (n:=9) fun w=>by
 have e:aJ Try.prog 129 = [3,180,180]:=by kernel_rfl
 rw [e,aar]
 exact (abN (intOf (ay Try.prog (aj Try.prog aq) 3 (w 0))) (jQ (ay Try.prog (aj Try.prog aq) 180 (w 1))) (jQ (ay Try.prog (aj Try.prog aq) 180 (w 2)))).trans (by kernel_rfl)
def Jz:List (Nat×(List KV→KR KV)):=[(115,CJ)]
def JA:List Lp:=[]
theorem R0:ao Try.prog Jz:=(ao.cons BW ao.nil)
theorem R1:az Try.prog JA:=az.nil
def o4 (t:bg):(Option (Prod Int Int)):=(nH t)
def pr (t:bg):Option (Int):=
 (cond (o4 t).isSome
 (cond (((o4 t).getD default).snd==(0:Int))
 (cond (decide (((o4 t).getD default).fst≤(0:Int)))
 (some ((6:Int)))
 (some (((o4 t).getD default).snd)))
 (some (((o4 t).getD default).snd)))
 none)
theorem UO (t:bg):dm Try.prog (bo Try.prog Jz JA (fun _=>false)) 9 9 86 [iw t] = (pr t).map (kI .i64):=by
 unfold pr
 try simp only [cc]
 kernel_rfl
def Lz:List KV→KR KV:=cw Try.prog 86 (cG (kI .i64) fun vs=>pr (gE (vs.getD 0 .aw)))
theorem R2 (w:Nat→KV):cM Try.prog [118] w 0 = [iw (gE (ay Try.prog (aj Try.prog aq) 118 (w 0)))]:=by kernel_rfl
theorem R3:ca Try.prog 86 Lz:=aY funcs mixed R0 R1 (L:=9) (n:=9) fun w=>by
 have e:aJ Try.prog 86 = [118]:=by kernel_rfl
 rw [e,R2]
 exact (UO (gE (ay Try.prog (aj Try.prog aq) 118 (w 0)))).trans (by kernel_rfl)
def JB:List (Nat×(List KV→KR KV)):=[]
def JC:List Lp:=[]
theorem R4:ao Try.prog JB:=ao.nil
theorem R5:az Try.prog JC:=az.nil
def nT (x:Int) (y:Int):Option (Bool):=
 (cond (decide ((min x y) ≥ (0:Int)))
 (some ((decide ((max x y) < (64:Int)))))
 (some (false)))
theorem UQ (x:Int) (y:Int):dm Try.prog (bo Try.prog JB JC (fun _=>false)) 9 9 87 [(kI .i64) x,(kI .i64) y] = (nT x y).map kB:=by
 unfold nT
 try simp only [cc]
 kernel_rfl
def LA:List KV→KR KV:=cw Try.prog 87 (cG kB fun vs=>nT (intOf (vs.getD 0 .aw)) (intOf (vs.getD 1 .aw)))
theorem R6 (w:Nat→KV):cM Try.prog [3,3] w 0 = [(kI .i64) (intOf (ay Try.prog (aj Try.prog aq) 3 (w 0))),(kI .i64) (intOf (ay Try.prog (aj Try.prog aq) 3 (w 1)))]:=by kernel_rfl
theorem R7:ca Try.prog 87 LA:=aY funcs mixed R4 R5 (L:=9) (n:=9) fun w=>by
 have e:aJ Try.prog 87 = [3,3]:=by kernel_rfl
 rw [e,R6]
 exact (UQ (intOf (ay Try.prog (aj Try.prog aq) 3 (w 0))) (intOf (ay Try.prog (aj Try.prog aq) 3 (w 1)))).trans (by kernel_rfl)
def GX:List (Nat×(List KV→KR KV)):=[]
def GY:List Lp:=[]
theorem PB:ao Try.prog GX:=ao.nil
theorem PC:az Try.prog GY:=az.nil
def tq (n:Int):Option (Int):=
 (some ((au ((au ((8:Int) * n))+(4:Int)))))
theorem R8 (n:Int):dm Try.prog (bo Try.prog GX GY (fun _=>false)) 9 9 120 [(kI .i64) n] = (tq n).map (kI .i64):=by
 unfold tq
 kernel_rfl
def JD:List KV→KR KV:=cw Try.prog 120 (cG (kI .i64) fun vs=>tq (intOf (vs.getD 0 .aw)))
theorem PD (w:Nat→KV):cM Try.prog [3] w 0 = [(kI .i64) (intOf (ay Try.prog (aj Try.prog aq) 3 (w 0)))]:=by kernel_rfl
theorem PE:ca Try.prog 120 JD:=aY funcs mixed PB PC (L:=9) (n:=9) fun w=>by
 have e:aJ Try.prog 120 = [3]:=by kernel_rfl
 rw [e,PD]
 exact (R8 (intOf (ay Try.prog (aj Try.prog aq) 3 (w 0)))).trans (by kernel_rfl)
def JE:List (Nat×(List KV→KR KV)):=[(120,JD),(87,LA),(86,Lz)]
def JF:List Lp:=[]
theorem R9:ao Try.prog JE:=(ao.cons PE (ao.cons R7 (ao.cons R3 ao.nil)))
theorem Sa:az Try.prog JF:=az.nil
def vz (t:bg) (x:Int) (y:Int):(Option Int):=(pr t)
def Ay (t:bg) (x:Int) (y:Int):(Option Bool):=(nT x y)
def vA (t:bg) (x:Int) (y:Int):(Option Int):=(tq y)
def vB (t:bg) (x:Int) (y:Int):(Option Int):=(tq x)
def mM (t:bg) (x:Int) (y:Int):Option (eL×Int):=
 (cond (vz t x y).isSome
 (cond (((vz t x y).getD default) != (0:Int))
 (some ((⟨(0:Int),(0:Int),(0:Int)⟩:eL),((vz t x y).getD default)))
 (cond (Ay t x y).isSome
 (cond (!((Ay t x y).getD default))
 (some ((⟨(0:Int),(0:Int),(0:Int)⟩:eL),(2:Int)))
 (some ((⟨(au ((au ((au (t.e2.x - t.e1.x)) * (au (((vA t x y).getD default) - t.e1.y)))) - (au ((au (((vB t x y).getD default) - t.e1.x)) * (au (t.e2.y - t.e1.y)))))),(au ((au ((au (t.e0.x - t.e2.x)) * (au (((vA t x y).getD default) - t.e2.y)))) - (au ((au (((vB t x y).getD default) - t.e2.x)) * (au (t.e0.y - t.e2.y)))))),(au ((au ((au (t.e1.x - t.e0.x)) * (au (((vA t x y).getD default) - t.e0.y)))) - (au ((au (((vB t x y).getD default) - t.e0.x)) * (au (t.e1.y - t.e0.y))))))⟩:eL),(0:Int))))
 none))
 none)
theorem UR (t:bg) (x:Int) (y:Int):dm Try.prog (bo Try.prog JE JF (fun _=>false)) 9 9 98 [iw t,(kI .i64) x,(kI .i64) y] = (mM t x y).map (fun (r:eL×Int)=>KV.kk [tl r.1,(kI .i64) r.2]):=by
 unfold mM
 try simp only [cc]
 kernel_rfl
def DI:List KV→KR KV:=cw Try.prog 98 (cG (fun (r:eL×Int)=>KV.kk [tl r.1,(kI .i64) r.2]) fun vs=>mM (gE (vs.getD 0 .aw)) (intOf (vs.getD 1 .aw)) (intOf (vs.getD 2 .aw)))
theorem Sb (w:Nat→KV):cM Try.prog [118,3,3] w 0 = [iw (gE (ay Try.prog (aj Try.prog aq) 118 (w 0))),(kI .i64) (intOf (ay Try.prog (aj Try.prog aq) 3 (w 1))),(kI .i64) (intOf (ay Try.prog (aj Try.prog aq) 3 (w 2)))]:=by kernel_rfl
theorem EF:ca Try.prog 98 DI:=aY funcs mixed R9 Sa (L:=9) (n:=9) fun w=>by
 have e:aJ Try.prog 98 = [118,3,3]:=by kernel_rfl
 rw [e,Sb]
 exact (UR (gE (ay Try.prog (aj Try.prog aq) 118 (w 0))) (intOf (ay Try.prog (aj Try.prog aq) 3 (w 1))) (intOf (ay Try.prog (aj Try.prog aq) 3 (w 2)))).trans (by kernel_rfl)
def GZ:List (Nat×(List KV→KR KV)):=[(98,DI)]
def G0:List Lp:=[]
theorem PF:ao Try.prog GZ:=(ao.cons EF ao.nil)
theorem PG:az Try.prog G0:=az.nil
def ai (t:bg) (x:Int) (y:Int):(Option (Prod eL Int)):=(mM t x y)
def qe (t:bg) (x:Int) (y:Int):Option (Bool×Int):=
 (cond (ai t x y).isSome
 (cond (((ai t x y).getD default).snd != (0:Int))
 (some (false,((ai t x y).getD default).snd))
 (cond (decide (t.e2.y < t.e1.y))
 (cond (decide (((ai t x y).getD default).fst.e0 < (0:Int)))
 (some (false,(0:Int)))
 (cond (((ai t x y).getD default).fst.e0==(0:Int))
 (cond (decide (t.e0.y < t.e2.y))
 (cond (decide (((ai t x y).getD default).fst.e1 < (0:Int)))
 (some (false,(0:Int)))
 (cond (((ai t x y).getD default).fst.e1==(0:Int))
 (cond (decide (t.e1.y < t.e0.y))
 (cond (decide (((ai t x y).getD default).fst.e2 < (0:Int)))
 (some (false,(0:Int)))
 (cond (((ai t x y).getD default).fst.e2==(0:Int))
 (some (true,(0:Int)))
 (some (true,(0:Int)))))
 (cond (t.e1.y==t.e0.y)
 (cond (decide (((ai t x y).getD default).fst.e2 < (0:Int)))
 (some (false,(0:Int)))
 (cond (((ai t x y).getD default).fst.e2==(0:Int))
 (cond (!(decide (t.e1.x > t.e0.x)))
 (some (false,(0:Int)))
 (some (true,(0:Int))))
 (some (true,(0:Int)))))
 (cond (decide (((ai t x y).getD default).fst.e2 < (0:Int)))
 (some (false,(0:Int)))
 (cond (((ai t x y).getD default).fst.e2==(0:Int))
 (some (false,(0:Int)))
 (some (true,(0:Int)))))))
 (cond (decide (t.e1.y < t.e0.y))
 (cond (decide (((ai t x y).getD default).fst.e2 < (0:Int)))
 (some (false,(0:Int)))
 (cond (((ai t x y).getD default).fst.e2==(0:Int))
 (some (true,(0:Int)))
 (some (true,(0:Int)))))
 (cond (t.e1.y==t.e0.y)
 (cond (decide (((ai t x y).getD default).fst.e2 < (0:Int)))
 (some (false,(0:Int)))
 (cond (((ai t x y).getD default).fst.e2==(0:Int))
 (cond (!(decide (t.e1.x > t.e0.x)))
 (some (false,(0:Int)))
 (some (true,(0:Int))))
 (some (true,(0:Int)))))
 (cond (decide (((ai t x y).getD default).fst.e2 < (0:Int)))
 (some (false,(0:Int)))
 (cond (((ai t x y).getD default).fst.e2==(0:Int))
 (some (false,(0:Int)))
 (some (true,(0:Int)))))))))
 (cond (t.e0.y==t.e2.y)
 (cond (decide (((ai t x y).getD default).fst.e1 < (0:Int)))
 (some (false,(0:Int)))
 (cond (((ai t x y).getD default).fst.e1==(0:Int))
 (cond (!(decide (t.e0.x > t.e2.x)))
 (some (false,(0:Int)))
 (cond (decide (t.e1.y < t.e0.y))
 (cond (decide (((ai t x y).getD default).fst.e2 < (0:Int)))
 (some (false,(0:Int)))
 (cond (((ai t x y).getD default).fst.e2==(0:Int))
 (some (true,(0:Int)))
 (some (true,(0:Int)))))
 (cond (t.e1.y==t.e0.y)
 (cond (decide (((ai t x y).getD default).fst.e2 < (0:Int)))
 (some (false,(0:Int)))
 (cond (((ai t x y).getD default).fst.e2==(0:Int))
 (cond (!(decide (t.e1.x > t.e0.x)))
 (some (false,(0:Int)))
 (some (true,(0:Int))))
 (some (true,(0:Int)))))
 (cond (decide (((ai t x y).getD default).fst.e2 < (0:Int)))
 (some (false,(0:Int)))
 (cond (((ai t x y).getD default).fst.e2==(0:Int))
 (some (false,(0:Int)))
 (some (true,(0:Int))))))))
 (cond (decide (t.e1.y < t.e0.y))
 (cond (decide (((ai t x y).getD default).fst.e2 < (0:Int)))
 (some (false,(0:Int)))
 (cond (((ai t x y).getD default).fst.e2==(0:Int))
 (some (true,(0:Int)))
 (some (true,(0:Int)))))
 (cond (t.e1.y==t.e0.y)
 (cond (decide (((ai t x y).getD default).fst.e2 < (0:Int)))
 (some (false,(0:Int)))
 (cond (((ai t x y).getD default).fst.e2==(0:Int))
 (cond (!(decide (t.e1.x > t.e0.x)))
 (some (false,(0:Int)))
 (some (true,(0:Int))))
 (some (true,(0:Int)))))
 (cond (decide (((ai t x y).getD default).fst.e2 < (0:Int)))
 (some (false,(0:Int)))
 (cond (((ai t x y).getD default).fst.e2==(0:Int))
 (some (false,(0:Int)))
 (some (true,(0:Int)))))))))
 (cond (decide (((ai t x y).getD default).fst.e1 < (0:Int)))
 (some (false,(0:Int)))
 (cond (((ai t x y).getD default).fst.e1==(0:Int))
 (some (false,(0:Int)))
 (cond (decide (t.e1.y < t.e0.y))
 (cond (decide (((ai t x y).getD default).fst.e2 < (0:Int)))
 (some (false,(0:Int)))
 (cond (((ai t x y).getD default).fst.e2==(0:Int))
 (some (true,(0:Int)))
 (some (true,(0:Int)))))
 (cond (t.e1.y==t.e0.y)
 (cond (decide (((ai t x y).getD default).fst.e2 < (0:Int)))
 (some (false,(0:Int)))
 (cond (((ai t x y).getD default).fst.e2==(0:Int))
 (cond (!(decide (t.e1.x > t.e0.x)))
 (some (false,(0:Int)))
 (some (true,(0:Int))))
 (some (true,(0:Int)))))
 (cond (decide (((ai t x y).getD default).fst.e2 < (0:Int)))
 (some (false,(0:Int)))
 (cond (((ai t x y).getD default).fst.e2==(0:Int))
 (some (false,(0:Int)))
 (some (true,(0:Int)))))))))))
 (cond (decide (t.e0.y < t.e2.y))
 (cond (decide (((ai t x y).getD default).fst.e1 < (0:Int)))
 (some (false,(0:Int)))
 (cond (((ai t x y).getD default).fst.e1==(0:Int))
 (cond (decide (t.e1.y < t.e0.y))
 (cond (decide (((ai t x y).getD default).fst.e2 < (0:Int)))
 (some (false,(0:Int)))
 (cond (((ai t x y).getD default).fst.e2==(0:Int))
 (some (true,(0:Int)))
 (some (true,(0:Int)))))
 (cond (t.e1.y==t.e0.y)
 (cond (decide (((ai t x y).getD default).fst.e2 < (0:Int)))
 (some (false,(0:Int)))
 (cond (((ai t x y).getD default).fst.e2==(0:Int))
 (cond (!(decide (t.e1.x > t.e0.x)))
 (some (false,(0:Int)))
 (some (true,(0:Int))))
 (some (true,(0:Int)))))
 (cond (decide (((ai t x y).getD default).fst.e2 < (0:Int)))
 (some (false,(0:Int)))
 (cond (((ai t x y).getD default).fst.e2==(0:Int))
 (some (false,(0:Int)))
 (some (true,(0:Int)))))))
 (cond (decide (t.e1.y < t.e0.y))
 (cond (decide (((ai t x y).getD default).fst.e2 < (0:Int)))
 (some (false,(0:Int)))
 (cond (((ai t x y).getD default).fst.e2==(0:Int))
 (some (true,(0:Int)))
 (some (true,(0:Int)))))
 (cond (t.e1.y==t.e0.y)
 (cond (decide (((ai t x y).getD default).fst.e2 < (0:Int)))
 (some (false,(0:Int)))
 (cond (((ai t x y).getD default).fst.e2==(0:Int))
 (cond (!(decide (t.e1.x > t.e0.x)))
 (some (false,(0:Int)))
 (some (true,(0:Int))))
 (some (true,(0:Int)))))
 (cond (decide (((ai t x y).getD default).fst.e2 < (0:Int)))
 (some (false,(0:Int)))
 (cond (((ai t x y).getD default).fst.e2==(0:Int))
 (some (false,(0:Int)))
 (some (true,(0:Int)))))))))
 (cond (t.e0.y==t.e2.y)
 (cond (decide (((ai t x y).getD default).fst.e1 < (0:Int)))
 (some (false,(0:Int)))
 (cond (((ai t x y).getD default).fst.e1==(0:Int))
 (cond (!(decide (t.e0.x > t.e2.x)))
 (some (false,(0:Int)))
 (cond (decide (t.e1.y < t.e0.y))
 (cond (decide (((ai t x y).getD default).fst.e2 < (0:Int)))
 (some (false,(0:Int)))
 (cond (((ai t x y).getD default).fst.e2==(0:Int))
 (some (true,(0:Int)))
 (some (true,(0:Int)))))
 (cond (t.e1.y==t.e0.y)
 (cond (decide (((ai t x y).getD default).fst.e2 < (0:Int)))
 (some (false,(0:Int)))
 (cond (((ai t x y).getD default).fst.e2==(0:Int))
 (cond (!(decide (t.e1.x > t.e0.x)))
 (some (false,(0:Int)))
 (some (true,(0:Int))))
 (some (true,(0:Int)))))
 (cond (decide (((ai t x y).getD default).fst.e2 < (0:Int)))
 (some (false,(0:Int)))
 (cond (((ai t x y).getD default).fst.e2==(0:Int))
 (some (false,(0:Int)))
 (some (true,(0:Int))))))))
 (cond (decide (t.e1.y < t.e0.y))
 (cond (decide (((ai t x y).getD default).fst.e2 < (0:Int)))
 (some (false,(0:Int)))
 (cond (((ai t x y).getD default).fst.e2==(0:Int))
 (some (true,(0:Int)))
 (some (true,(0:Int)))))
 (cond (t.e1.y==t.e0.y)
 (cond (decide (((ai t x y).getD default).fst.e2 < (0:Int)))
 (some (false,(0:Int)))
 (cond (((ai t x y).getD default).fst.e2==(0:Int))
 (cond (!(decide (t.e1.x > t.e0.x)))
 (some (false,(0:Int)))
 (some (true,(0:Int))))
 (some (true,(0:Int)))))
 (cond (decide (((ai t x y).getD default).fst.e2 < (0:Int)))
 (some (false,(0:Int)))
 (cond (((ai t x y).getD default).fst.e2==(0:Int))
 (some (false,(0:Int)))
 (some (true,(0:Int)))))))))
 (cond (decide (((ai t x y).getD default).fst.e1 < (0:Int)))
 (some (false,(0:Int)))
 (cond (((ai t x y).getD default).fst.e1==(0:Int))
 (some (false,(0:Int)))
 (cond (decide (t.e1.y < t.e0.y))
 (cond (decide (((ai t x y).getD default).fst.e2 < (0:Int)))
 (some (false,(0:Int)))
 (cond (((ai t x y).getD default).fst.e2==(0:Int))
 (some (true,(0:Int)))
 (some (true,(0:Int)))))
 (cond (t.e1.y==t.e0.y)
 (cond (decide (((ai t x y).getD default).fst.e2 < (0:Int)))
 (some (false,(0:Int)))
 (cond (((ai t x y).getD default).fst.e2==(0:Int))
 (cond (!(decide (t.e1.x > t.e0.x)))
 (some (false,(0:Int)))
 (some (true,(0:Int))))
 (some (true,(0:Int)))))
 (cond (decide (((ai t x y).getD default).fst.e2 < (0:Int)))
 (some (false,(0:Int)))
 (cond (((ai t x y).getD default).fst.e2==(0:Int))
 (some (false,(0:Int)))
 (some (true,(0:Int)))))))))))))
 (cond (t.e2.y==t.e1.y)
 (cond (decide (((ai t x y).getD default).fst.e0 < (0:Int)))
 (some (false,(0:Int)))
 (cond (((ai t x y).getD default).fst.e0==(0:Int))
 (cond (!(decide (t.e2.x > t.e1.x)))
 (some (false,(0:Int)))
 (cond (decide (t.e0.y < t.e2.y))
 (cond (decide (((ai t x y).getD default).fst.e1 < (0:Int)))
 (some (false,(0:Int)))
 (cond (((ai t x y).getD default).fst.e1==(0:Int))
 (cond (decide (t.e1.y < t.e0.y))
 (cond (decide (((ai t x y).getD default).fst.e2 < (0:Int)))
 (some (false,(0:Int)))
 (cond (((ai t x y).getD default).fst.e2==(0:Int))
 (some (true,(0:Int)))
 (some (true,(0:Int)))))
 (cond (t.e1.y==t.e0.y)
 (cond (decide (((ai t x y).getD default).fst.e2 < (0:Int)))
 (some (false,(0:Int)))
 (cond (((ai t x y).getD default).fst.e2==(0:Int))
 (cond (!(decide (t.e1.x > t.e0.x)))
 (some (false,(0:Int)))
 (some (true,(0:Int))))
 (some (true,(0:Int)))))
 (cond (decide (((ai t x y).getD default).fst.e2 < (0:Int)))
 (some (false,(0:Int)))
 (cond (((ai t x y).getD default).fst.e2==(0:Int))
 (some (false,(0:Int)))
 (some (true,(0:Int)))))))
 (cond (decide (t.e1.y < t.e0.y))
 (cond (decide (((ai t x y).getD default).fst.e2 < (0:Int)))
 (some (false,(0:Int)))
 (cond (((ai t x y).getD default).fst.e2==(0:Int))
 (some (true,(0:Int)))
 (some (true,(0:Int)))))
 (cond (t.e1.y==t.e0.y)
 (cond (decide (((ai t x y).getD default).fst.e2 < (0:Int)))
 (some (false,(0:Int)))
 (cond (((ai t x y).getD default).fst.e2==(0:Int))
 (cond (!(decide (t.e1.x > t.e0.x)))
 (some (false,(0:Int)))
 (some (true,(0:Int))))
 (some (true,(0:Int)))))
 (cond (decide (((ai t x y).getD default).fst.e2 < (0:Int)))
 (some (false,(0:Int)))
 (cond (((ai t x y).getD default).fst.e2==(0:Int))
 (some (false,(0:Int)))
 (some (true,(0:Int)))))))))
 (cond (t.e0.y==t.e2.y)
 (cond (decide (((ai t x y).getD default).fst.e1 < (0:Int)))
 (some (false,(0:Int)))
 (cond (((ai t x y).getD default).fst.e1==(0:Int))
 (cond (!(decide (t.e0.x > t.e2.x)))
 (some (false,(0:Int)))
 (cond (decide (t.e1.y < t.e0.y))
 (cond (decide (((ai t x y).getD default).fst.e2 < (0:Int)))
 (some (false,(0:Int)))
 (cond (((ai t x y).getD default).fst.e2==(0:Int))
 (some (true,(0:Int)))
 (some (true,(0:Int)))))
 (cond (t.e1.y==t.e0.y)
 (cond (decide (((ai t x y).getD default).fst.e2 < (0:Int)))
 (some (false,(0:Int)))
 (cond (((ai t x y).getD default).fst.e2==(0:Int))
 (cond (!(decide (t.e1.x > t.e0.x)))
 (some (false,(0:Int)))
 (some (true,(0:Int))))
 (some (true,(0:Int)))))
 (cond (decide (((ai t x y).getD default).fst.e2 < (0:Int)))
 (some (false,(0:Int)))
 (cond (((ai t x y).getD default).fst.e2==(0:Int))
 (some (false,(0:Int)))
 (some (true,(0:Int))))))))
 (cond (decide (t.e1.y < t.e0.y))
 (cond (decide (((ai t x y).getD default).fst.e2 < (0:Int)))
 (some (false,(0:Int)))
 (cond (((ai t x y).getD default).fst.e2==(0:Int))
 (some (true,(0:Int)))
 (some (true,(0:Int)))))
 (cond (t.e1.y==t.e0.y)
 (cond (decide (((ai t x y).getD default).fst.e2 < (0:Int)))
 (some (false,(0:Int)))
 (cond (((ai t x y).getD default).fst.e2==(0:Int))
 (cond (!(decide (t.e1.x > t.e0.x)))
 (some (false,(0:Int)))
 (some (true,(0:Int))))
 (some (true,(0:Int)))))
 (cond (decide (((ai t x y).getD default).fst.e2 < (0:Int)))
 (some (false,(0:Int)))
 (cond (((ai t x y).getD default).fst.e2==(0:Int))
 (some (false,(0:Int)))
 (some (true,(0:Int)))))))))
 (cond (decide (((ai t x y).getD default).fst.e1 < (0:Int)))
 (some (false,(0:Int)))
 (cond (((ai t x y).getD default).fst.e1==(0:Int))
 (some (false,(0:Int)))
 (cond (decide (t.e1.y < t.e0.y))
 (cond (decide (((ai t x y).getD default).fst.e2 < (0:Int)))
 (some (false,(0:Int)))
 (cond (((ai t x y).getD default).fst.e2==(0:Int))
 (some (true,(0:Int)))
 (some (true,(0:Int)))))
 (cond (t.e1.y==t.e0.y)
 (cond (decide (((ai t x y).getD default).fst.e2 < (0:Int)))
 (some (false,(0:Int)))
 (cond (((ai t x y).getD default).fst.e2==(0:Int))
 (cond (!(decide (t.e1.x > t.e0.x)))
 (some (false,(0:Int)))
 (some (true,(0:Int))))
 (some (true,(0:Int)))))
 (cond (decide (((ai t x y).getD default).fst.e2 < (0:Int)))
 (some (false,(0:Int)))
 (cond (((ai t x y).getD default).fst.e2==(0:Int))
 (some (false,(0:Int)))
 (some (true,(0:Int))))))))))))
 (cond (decide (t.e0.y < t.e2.y))
 (cond (decide (((ai t x y).getD default).fst.e1 < (0:Int)))
 (some (false,(0:Int)))
 (cond (((ai t x y).getD default).fst.e1==(0:Int))
 (cond (decide (t.e1.y < t.e0.y))
 (cond (decide (((ai t x y).getD default).fst.e2 < (0:Int)))
 (some (false,(0:Int)))
 (cond (((ai t x y).getD default).fst.e2==(0:Int))
 (some (true,(0:Int)))
 (some (true,(0:Int)))))
 (cond (t.e1.y==t.e0.y)
 (cond (decide (((ai t x y).getD default).fst.e2 < (0:Int)))
 (some (false,(0:Int)))
 (cond (((ai t x y).getD default).fst.e2==(0:Int))
 (cond (!(decide (t.e1.x > t.e0.x)))
 (some (false,(0:Int)))
 (some (true,(0:Int))))
 (some (true,(0:Int)))))
 (cond (decide (((ai t x y).getD default).fst.e2 < (0:Int)))
 (some (false,(0:Int)))
 (cond (((ai t x y).getD default).fst.e2==(0:Int))
 (some (false,(0:Int)))
 (some (true,(0:Int)))))))
 (cond (decide (t.e1.y < t.e0.y))
 (cond (decide (((ai t x y).getD default).fst.e2 < (0:Int)))
 (some (false,(0:Int)))
 (cond (((ai t x y).getD default).fst.e2==(0:Int))
 (some (true,(0:Int)))
 (some (true,(0:Int)))))
 (cond (t.e1.y==t.e0.y)
 (cond (decide (((ai t x y).getD default).fst.e2 < (0:Int)))
 (some (false,(0:Int)))
 (cond (((ai t x y).getD default).fst.e2==(0:Int))
 (cond (!(decide (t.e1.x > t.e0.x)))
 (some (false,(0:Int)))
 (some (true,(0:Int))))
 (some (true,(0:Int)))))
 (cond (decide (((ai t x y).getD default).fst.e2 < (0:Int)))
 (some (false,(0:Int)))
 (cond (((ai t x y).getD default).fst.e2==(0:Int))
 (some (false,(0:Int)))
 (some (true,(0:Int)))))))))
 (cond (t.e0.y==t.e2.y)
 (cond (decide (((ai t x y).getD default).fst.e1 < (0:Int)))
 (some (false,(0:Int)))
 (cond (((ai t x y).getD default).fst.e1==(0:Int))
 (cond (!(decide (t.e0.x > t.e2.x)))
 (some (false,(0:Int)))
 (cond (decide (t.e1.y < t.e0.y))
 (cond (decide (((ai t x y).getD default).fst.e2 < (0:Int)))
 (some (false,(0:Int)))
 (cond (((ai t x y).getD default).fst.e2==(0:Int))
 (some (true,(0:Int)))
 (some (true,(0:Int)))))
 (cond (t.e1.y==t.e0.y)
 (cond (decide (((ai t x y).getD default).fst.e2 < (0:Int)))
 (some (false,(0:Int)))
 (cond (((ai t x y).getD default).fst.e2==(0:Int))
 (cond (!(decide (t.e1.x > t.e0.x)))
 (some (false,(0:Int)))
 (some (true,(0:Int))))
 (some (true,(0:Int)))))
 (cond (decide (((ai t x y).getD default).fst.e2 < (0:Int)))
 (some (false,(0:Int)))
 (cond (((ai t x y).getD default).fst.e2==(0:Int))
 (some (false,(0:Int)))
 (some (true,(0:Int))))))))
 (cond (decide (t.e1.y < t.e0.y))
 (cond (decide (((ai t x y).getD default).fst.e2 < (0:Int)))
 (some (false,(0:Int)))
 (cond (((ai t x y).getD default).fst.e2==(0:Int))
 (some (true,(0:Int)))
 (some (true,(0:Int)))))
 (cond (t.e1.y==t.e0.y)
 (cond (decide (((ai t x y).getD default).fst.e2 < (0:Int)))
 (some (false,(0:Int)))
 (cond (((ai t x y).getD default).fst.e2==(0:Int))
 (cond (!(decide (t.e1.x > t.e0.x)))
 (some (false,(0:Int)))
 (some (true,(0:Int))))
 (some (true,(0:Int)))))
 (cond (decide (((ai t x y).getD default).fst.e2 < (0:Int)))
 (some (false,(0:Int)))
 (cond (((ai t x y).getD default).fst.e2==(0:Int))
 (some (false,(0:Int)))
 (some (true,(0:Int)))))))))
 (cond (decide (((ai t x y).getD default).fst.e1 < (0:Int)))
 (some (false,(0:Int)))
 (cond (((ai t x y).getD default).fst.e1==(0:Int))
 (some (false,(0:Int)))
 (cond (decide (t.e1.y < t.e0.y))
 (cond (decide (((ai t x y).getD default).fst.e2 < (0:Int)))
 (some (false,(0:Int)))
 (cond (((ai t x y).getD default).fst.e2==(0:Int))
 (some (true,(0:Int)))
 (some (true,(0:Int)))))
 (cond (t.e1.y==t.e0.y)
 (cond (decide (((ai t x y).getD default).fst.e2 < (0:Int)))
 (some (false,(0:Int)))
 (cond (((ai t x y).getD default).fst.e2==(0:Int))
 (cond (!(decide (t.e1.x > t.e0.x)))
 (some (false,(0:Int)))
 (some (true,(0:Int))))
 (some (true,(0:Int)))))
 (cond (decide (((ai t x y).getD default).fst.e2 < (0:Int)))
 (some (false,(0:Int)))
 (cond (((ai t x y).getD default).fst.e2==(0:Int))
 (some (false,(0:Int)))
 (some (true,(0:Int)))))))))))))
 (cond (decide (((ai t x y).getD default).fst.e0 < (0:Int)))
 (some (false,(0:Int)))
 (cond (((ai t x y).getD default).fst.e0==(0:Int))
 (some (false,(0:Int)))
 (cond (decide (t.e0.y < t.e2.y))
 (cond (decide (((ai t x y).getD default).fst.e1 < (0:Int)))
 (some (false,(0:Int)))
 (cond (((ai t x y).getD default).fst.e1==(0:Int))
 (cond (decide (t.e1.y < t.e0.y))
 (cond (decide (((ai t x y).getD default).fst.e2 < (0:Int)))
 (some (false,(0:Int)))
 (cond (((ai t x y).getD default).fst.e2==(0:Int))
 (some (true,(0:Int)))
 (some (true,(0:Int)))))
 (cond (t.e1.y==t.e0.y)
 (cond (decide (((ai t x y).getD default).fst.e2 < (0:Int)))
 (some (false,(0:Int)))
 (cond (((ai t x y).getD default).fst.e2==(0:Int))
 (cond (!(decide (t.e1.x > t.e0.x)))
 (some (false,(0:Int)))
 (some (true,(0:Int))))
 (some (true,(0:Int)))))
 (cond (decide (((ai t x y).getD default).fst.e2 < (0:Int)))
 (some (false,(0:Int)))
 (cond (((ai t x y).getD default).fst.e2==(0:Int))
 (some (false,(0:Int)))
 (some (true,(0:Int)))))))
 (cond (decide (t.e1.y < t.e0.y))
 (cond (decide (((ai t x y).getD default).fst.e2 < (0:Int)))
 (some (false,(0:Int)))
 (cond (((ai t x y).getD default).fst.e2==(0:Int))
 (some (true,(0:Int)))
 (some (true,(0:Int)))))
 (cond (t.e1.y==t.e0.y)
 (cond (decide (((ai t x y).getD default).fst.e2 < (0:Int)))
 (some (false,(0:Int)))
 (cond (((ai t x y).getD default).fst.e2==(0:Int))
 (cond (!(decide (t.e1.x > t.e0.x)))
 (some (false,(0:Int)))
 (some (true,(0:Int))))
 (some (true,(0:Int)))))
 (cond (decide (((ai t x y).getD default).fst.e2 < (0:Int)))
 (some (false,(0:Int)))
 (cond (((ai t x y).getD default).fst.e2==(0:Int))
 (some (false,(0:Int)))
 (some (true,(0:Int)))))))))
 (cond (t.e0.y==t.e2.y)
 (cond (decide (((ai t x y).getD default).fst.e1 < (0:Int)))
 (some (false,(0:Int)))
 (cond (((ai t x y).getD default).fst.e1==(0:Int))
 (cond (!(decide (t.e0.x > t.e2.x)))
 (some (false,(0:Int)))
 (cond (decide (t.e1.y < t.e0.y))
 (cond (decide (((ai t x y).getD default).fst.e2 < (0:Int)))
 (some (false,(0:Int)))
 (cond (((ai t x y).getD default).fst.e2==(0:Int))
 (some (true,(0:Int)))
 (some (true,(0:Int)))))
 (cond (t.e1.y==t.e0.y)
 (cond (decide (((ai t x y).getD default).fst.e2 < (0:Int)))
 (some (false,(0:Int)))
 (cond (((ai t x y).getD default).fst.e2==(0:Int))
 (cond (!(decide (t.e1.x > t.e0.x)))
 (some (false,(0:Int)))
 (some (true,(0:Int))))
 (some (true,(0:Int)))))
 (cond (decide (((ai t x y).getD default).fst.e2 < (0:Int)))
 (some (false,(0:Int)))
 (cond (((ai t x y).getD default).fst.e2==(0:Int))
 (some (false,(0:Int)))
 (some (true,(0:Int))))))))
 (cond (decide (t.e1.y < t.e0.y))
 (cond (decide (((ai t x y).getD default).fst.e2 < (0:Int)))
 (some (false,(0:Int)))
 (cond (((ai t x y).getD default).fst.e2==(0:Int))
 (some (true,(0:Int)))
 (some (true,(0:Int)))))
 (cond (t.e1.y==t.e0.y)
 (cond (decide (((ai t x y).getD default).fst.e2 < (0:Int)))
 (some (false,(0:Int)))
 (cond (((ai t x y).getD default).fst.e2==(0:Int))
 (cond (!(decide (t.e1.x > t.e0.x)))
 (some (false,(0:Int)))
 (some (true,(0:Int))))
 (some (true,(0:Int)))))
 (cond (decide (((ai t x y).getD default).fst.e2 < (0:Int)))
 (some (false,(0:Int)))
 (cond (((ai t x y).getD default).fst.e2==(0:Int))
 (some (false,(0:Int)))
 (some (true,(0:Int)))))))))
 (cond (decide (((ai t x y).getD default).fst.e1 < (0:Int)))
 (some (false,(0:Int)))
 (cond (((ai t x y).getD default).fst.e1==(0:Int))
 (some (false,(0:Int)))
 (cond (decide (t.e1.y < t.e0.y))
 (cond (decide (((ai t x y).getD default).fst.e2 < (0:Int)))
 (some (false,(0:Int)))
 (cond (((ai t x y).getD default).fst.e2==(0:Int))
 (some (true,(0:Int)))
 (some (true,(0:Int)))))
 (cond (t.e1.y==t.e0.y)
 (cond (decide (((ai t x y).getD default).fst.e2 < (0:Int)))
 (some (false,(0:Int)))
 (cond (((ai t x y).getD default).fst.e2==(0:Int))
 (cond (!(decide (t.e1.x > t.e0.x)))
 (some (false,(0:Int)))
 (some (true,(0:Int))))
 (some (true,(0:Int)))))
 (cond (decide (((ai t x y).getD default).fst.e2 < (0:Int)))
 (some (false,(0:Int)))
 (cond (((ai t x y).getD default).fst.e2==(0:Int))
 (some (false,(0:Int)))
 (some (true,(0:Int))))))))))))))))
 none)
theorem Sc (t:bg) (x:Int) (y:Int):dm Try.prog (bo Try.prog GZ G0 (fun _=>false)) 9 9 97 [iw t,(kI .i64) x,(kI .i64) y] = (qe t x y).map (fun (r:Bool×Int)=>KV.kk [kB r.1,(kI .i64) r.2]):=by
 unfold qe
 try simp only [cc]
 kernel_rfl
def JG:List KV→KR KV:=cw Try.prog 97 (cG (fun (r:Bool×Int)=>KV.kk [kB r.1,(kI .i64) r.2]) fun vs=>qe (gE (vs.getD 0 .aw)) (intOf (vs.getD 1 .aw)) (intOf (vs.getD 2 .aw)))
theorem PH (w:Nat→KV):cM Try.prog [118,3,3] w 0 = [iw (gE (ay Try.prog (aj Try.prog aq) 118 (w 0))),(kI .i64) (intOf (ay Try.prog (aj Try.prog aq) 3 (w 1))),(kI .i64) (intOf (ay Try.prog (aj Try.prog aq) 3 (w 2)))]:=by kernel_rfl
theorem PI:ca Try.prog 97 JG:=aY funcs mixed PF PG (L:=9) (n:=9) fun w=>by
 have e:aJ Try.prog 97 = [118,3,3]:=by kernel_rfl
 rw [e,PH]
 exact (Sc (gE (ay Try.prog (aj Try.prog aq) 118 (w 0))) (intOf (ay Try.prog (aj Try.prog aq) 3 (w 1))) (intOf (ay Try.prog (aj Try.prog aq) 3 (w 2)))).trans (by kernel_rfl)
def EG (a:Int) (b:Int) (c:Int) (from_:Int) (to_:Int):(Option (Prod Int Int)):=(abF (au ((min (min a b) c) - (4:Int))) (8:Int))
def EH (a:Int) (b:Int) (c:Int) (from_:Int) (to_:Int):(Option (Prod Int Int)):=(eB (au ((max (max a b) c) - (4:Int))) (8:Int))
def JH (a:Int) (b:Int) (c:Int) (from_:Int) (to_:Int):Option (Int×Int):=
 (cond (EG a b c from_ to_).isSome
 (cond (EH a b c from_ to_).isSome
 (some ((max ((EG a b c from_ to_).getD default).fst from_),(min ((EH a b c from_ to_).getD default).fst to_)))
 none)
 none)
def zo (t:bg) (w:Bt):(Option Int):=(pr t)
def EI (t:bg) (w:Bt):(Option Bool):=(nT w.x0 w.y0)
def EJ (t:bg) (w:Bt):(Option Bool):=(nT w.x1 w.y1)
def qw (t:bg) (w:Bt):(Option (Prod Int Int)):=(JH t.e0.x t.e1.x t.e2.x w.x0 w.x1)
def qx (t:bg) (w:Bt):(Option (Prod Int Int)):=(JH t.e0.y t.e1.y t.e2.y w.y0 w.y1)
def W8 (t:bg) (w:Bt):Option (Bt×Bool×Int):=
 (cond (zo t w).isSome
 (cond (((zo t w).getD default) != (0:Int))
 (some ((⟨(0:Int),(0:Int),(0:Int),(0:Int)⟩:Bt),false,((zo t w).getD default)))
 (cond (EI t w).isSome
 (cond (!((EI t w).getD default))
 (some ((⟨(0:Int),(0:Int),(0:Int),(0:Int)⟩:Bt),false,(2:Int)))
 (cond (EJ t w).isSome
 (cond (!((EJ t w).getD default))
 (some ((⟨(0:Int),(0:Int),(0:Int),(0:Int)⟩:Bt),false,(2:Int)))
 (cond (decide (w.x0 > w.x1))
 (some ((⟨(0:Int),(0:Int),(0:Int),(0:Int)⟩:Bt),false,(2:Int)))
 (cond (decide (w.y0 > w.y1))
 (some ((⟨(0:Int),(0:Int),(0:Int),(0:Int)⟩:Bt),false,(2:Int)))
 (cond (qw t w).isSome
 (cond (qx t w).isSome
 (cond (decide (((qw t w).getD default).fst > ((qw t w).getD default).snd))
 (some ((⟨(0:Int),(0:Int),(0:Int),(0:Int)⟩:Bt),false,(0:Int)))
 (cond (decide (((qx t w).getD default).fst > ((qx t w).getD default).snd))
 (some ((⟨(0:Int),(0:Int),(0:Int),(0:Int)⟩:Bt),false,(0:Int)))
 (some ((⟨((qw t w).getD default).fst,((qx t w).getD default).fst,((qw t w).getD default).snd,((qx t w).getD default).snd⟩:Bt),true,(0:Int)))))
 none)
 none))))
 none))
 none))
 none)
def Sd:List (Nat×(List KV→KR KV)):=[(99,uU),(98,DI),(97,JG)]
def Se:List Lp:=[]
theorem aas:ao Try.prog Sd:=(ao.cons tT (ao.cons EF (ao.cons PI ao.nil)))
theorem aat:az Try.prog Se:=az.nil
def wZ (t:bg) (x:Int) (y:Int):(Option (Prod Bool Int)):=(qe t x y)
def dU (t:bg) (x:Int) (y:Int):(Option (Prod eL Int)):=(mM t x y)
def FL (t:bg) (x:Int) (y:Int):(Option (Prod Int Int)):=(eB (au ((au ((au ((0:Int)+(au ((au (((dU t x y).getD default).fst.e0 * t.e0.d)) * (1:Int)))))+(au ((au (((dU t x y).getD default).fst.e1 * t.e1.d)) * (1:Int)))))+(au ((au (((dU t x y).getD default).fst.e2 * t.e2.d)) * (1:Int))))) (au ((au ((au ((0:Int)+((dU t x y).getD default).fst.e0))+((dU t x y).getD default).fst.e1))+((dU t x y).getD default).fst.e2)))
def FM (t:bg) (x:Int) (y:Int):(Option (Prod Int Int)):=(eB (au ((au ((au ((0:Int)+(au ((au (((dU t x y).getD default).fst.e0 * t.e0.d)) * t.e0.u))))+(au ((au (((dU t x y).getD default).fst.e1 * t.e1.d)) * t.e1.u))))+(au ((au (((dU t x y).getD default).fst.e2 * t.e2.d)) * t.e2.u)))) (au ((au ((au ((0:Int)+(au ((au (((dU t x y).getD default).fst.e0 * t.e0.d)) * (1:Int)))))+(au ((au (((dU t x y).getD default).fst.e1 * t.e1.d)) * (1:Int)))))+(au ((au (((dU t x y).getD default).fst.e2 * t.e2.d)) * (1:Int))))))
def FN (t:bg) (x:Int) (y:Int):(Option (Prod Int Int)):=(eB (au ((au ((au ((0:Int)+(au ((au (((dU t x y).getD default).fst.e0 * t.e0.d)) * t.e0.v))))+(au ((au (((dU t x y).getD default).fst.e1 * t.e1.d)) * t.e1.v))))+(au ((au (((dU t x y).getD default).fst.e2 * t.e2.d)) * t.e2.v)))) (au ((au ((au ((0:Int)+(au ((au (((dU t x y).getD default).fst.e0 * t.e0.d)) * (1:Int)))))+(au ((au (((dU t x y).getD default).fst.e1 * t.e1.d)) * (1:Int)))))+(au ((au (((dU t x y).getD default).fst.e2 * t.e2.d)) * (1:Int))))))
def nU (t:bg) (x:Int) (y:Int):Option (fX×Int):=
 (cond (wZ t x y).isSome
 (cond (((wZ t x y).getD default).snd != (0:Int))
 (some ((⟨(0:Int),(0:Int),(0:Int),(0:Int),(0:Int)⟩:fX),((wZ t x y).getD default).snd))
 (cond (!((wZ t x y).getD default).fst)
 (some ((⟨(0:Int),(0:Int),(0:Int),(0:Int),(0:Int)⟩:fX),(6:Int)))
 (cond (dU t x y).isSome
 (cond (((dU t x y).getD default).snd != (0:Int))
 (some ((⟨(0:Int),(0:Int),(0:Int),(0:Int),(0:Int)⟩:fX),((dU t x y).getD default).snd))
 (cond (FL t x y).isSome
 (cond (FM t x y).isSome
 (cond (FN t x y).isSome
 (some ((⟨(au ((au ((8:Int) * x))+(4:Int))),(au ((au ((8:Int) * y))+(4:Int))),((FL t x y).getD default).fst,((FM t x y).getD default).fst,((FN t x y).getD default).fst⟩:fX),(0:Int)))
 none)
 none)
 none))
 none)))
 none)
theorem abO (t:bg) (x:Int) (y:Int):dm Try.prog (bo Try.prog Sd Se (fun _=>false)) 9 9 66 [iw t,(kI .i64) x,(kI .i64) y] = (nU t x y).map (fun (r:fX×Int)=>KV.kk [Uu r.1,(kI .i64) r.2]):=by
 unfold nU
 try simp only [cc]
 kernel_rfl
def qy:List KV→KR KV:=cw Try.prog 66 (cG (fun (r:fX×Int)=>KV.kk [Uu r.1,(kI .i64) r.2]) fun vs=>nU (gE (vs.getD 0 .aw)) (intOf (vs.getD 1 .aw)) (intOf (vs.getD 2 .aw)))
theorem aau (w:Nat→KV):cM Try.prog [118,3,3] w 0 = [iw (gE (ay Try.prog (aj Try.prog aq) 118 (w 0))),(kI .i64) (intOf (ay Try.prog (aj Try.prog aq) 3 (w 1))),(kI .i64) (intOf (ay Try.prog (aj Try.prog aq) 3 (w 2)))]:=by kernel_rfl
theorem nV:ca Try.prog 66 qy:=aY funcs mixed aas aat (L:=9) (n:=9) fun w=>by
 have e:aJ Try.prog 66 = [118,3,3]:=by kernel_rfl
 rw [e,aau]
 exact (abO (gE (ay Try.prog (aj Try.prog aq) 118 (w 0))) (intOf (ay Try.prog (aj Try.prog aq) 3 (w 1))) (intOf (ay Try.prog (aj Try.prog aq) 3 (w 2)))).trans (by kernel_rfl)
end
end Go.Proofs.Ytahhdndhkgbcjaa.b
end
