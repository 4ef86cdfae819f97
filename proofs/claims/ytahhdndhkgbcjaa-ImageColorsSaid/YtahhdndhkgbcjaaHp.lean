/- Part of the proof of ImageColors: a machine that runs the program's code over open terms, shown to be the model's, and the plain models of its functions. No conditions. -/
import Derived.Test.YtahhdndhkgbcjaaGp
import Derived.OpenShut
import Derived.ChangeArms
import Derived.WideShapes
import Derived.Below
import Derived.KernelRfl
import Derived.Test.YtahhdndhkgbcjaaProg
section
namespace Go.K
open Go Go.aE
mutual
def wfK:KV→Prop
 | .int k n=>(Lit.int k n).wf=true
 | .str s=>s.size≤maxLen
 | .ts _ _ n es _=>n≤maxLen∧Gg es
 | .agg cs=>Gg cs
 | _=>True
def Gg:List KV→Prop
 | []=>True
 | v::vs=>wfK v∧Gg vs
end
theorem Cs:∀ {a b:List KV},Gg a→Gg b→Gg (a++b)
 | [],_,_,h=>h
 | x::a,b,h,k=>by
  simp only [Gg] at h
  exact ⟨h.1,Cs h.2 k⟩
structure Mt (P:Program) (W:World) (E:Env) (B:St) (ρ:aW):Prop where
 jr:uj ρ B W.heap.size W
 k:fK P E .empty B
 κ:∀ b,E.κ b=none
 sP:∀ b o,B.get b=some o→o.fv=false∧o.mb=none
 α:∀ b,E.α b=none
def Env.none:Env:=⟨fun _=>.none,fun _=>.none,fun _=>.none,fun _=>.none⟩
theorem HC.empty {P:Program} {E:Env} {B:St} (qa:∀ b,E.α b=none):HC P E .empty B:=by
 have hn:∀ b o,¬ ax.empty.get b=some o:=fun b o hb=>by simp [ax.empty,ax.get] at hb
 exact ⟨fun b v hb=>(hn b _ hb).elim,fun b v hb=>(hn b _ hb).elim,fun x ⟨b,v,_,_,hb,_⟩=>(hn b _ hb).elim,fun b c v u x L N L' N' hb=>(hn b _ hb).elim,fun b c v u x y L N L' N' cs e own g k b8 e' o6 k' hb=>(hn b _ hb).elim,fun b x _=>qa b,fun b p e=>by rw [qa b] at e; simp at e,fun b x L N e=>by rw [qa b] at e; simp at e,fun b v x L N cs e own g k hb=>(hn b _ hb).elim,fun b v hb=>(hn b _ hb).elim⟩
theorem Mt.start (P:Program) (W:World):Mt P W .none .empty (CX []):=by
 refine ⟨uj.empty W,⟨?_,?_,?_,?_,?_,?_,?_,?_,?_,?_,?_,?_,?_,?_,.empty fun _=>rfl⟩,fun _=>rfl,fun b o h=>by simp [St.get,St.empty] at h,fun _=>rfl⟩
 ·intro b cs bW h; simp [ax.empty,ax.get] at h
 ·intro b cs bW h; simp [ax.empty,ax.get] at h
 ·intro b r h; simp [Env.none] at h
 ·intro b r h; simp [Env.none] at h
 ·intro b c r h; simp [Env.none] at h
 ·intro b c r _ _ _ _ _ _ h; simp [Env.none] at h
 ·intro b r h; simp [Env.none] at h
 ·intro b r h; simp [Env.none] at h
 ·intro b o h; simp [ax.empty,ax.get] at h
 ·intro b r h; simp [Env.none] at h
 ·intro b r h; simp [Env.none] at h
 ·intro b r h; simp [Env.none] at h
 ·intro g _; simp [St.members,St.empty]
 ·intro g x h; simp [St.members,St.empty] at h
theorem Mt.add {P:Program} {W:World} {E:Env} {B:St} {ρ:aW} (h:Mt P W E B ρ) {cs:List Value} {l:aE.Loc}
  (hc:∀ (i:Nat) (v:Value),cs[i]? = some v→∃ v',W.cell? ⟨l.cb,l.ej+i,.none⟩=some v'∧VR ρ v v'∧scalar v=true) (hl:l.cb < W.heap.size) (hf:l.ej+cs.length≤l.yv) :
  Mt P W (E.gx B.next ⟨cs,l.bW,false,.none⟩) (B.new (.row cs l.bW false .none)) (ρ.set B.next l)∧E.le (E.gx B.next ⟨cs,l.bW,false,.none⟩)∧ρ.le (ρ.set B.next l):=by
 have hle:E.le (E.gx B.next ⟨cs,l.bW,false,.none⟩):=⟨fun _ _ e=>e,fun _ _ e=>e,fun b r e=>by
  have:=h.k.nm b r e
  simp only [Env.gx]; rw [if_neg (by omega)]; exact e,fun _ _ e=>e⟩
 have lg:=h.jr.Hm l
 have mZ:∀ b o,(B.new (.row cs l.bW false .none)).get b=some o→(b=B.next∧o = .row cs l.bW false .none)∨(b≠B.next∧B.get b=some o):=by
  intro b o hb
  rw [St.du] at hb
  split at hb
  ·rename_i e; simp at hb; exact .inl ⟨e,hb.symm⟩
  ·rename_i e; exact .inr ⟨e,hb⟩
 have abS:∀ b o,(B.new (.row cs l.bW false .none)).get b=some o→o.fv=false∧o.mb = .none:=by
  intro b o hb
  rcases mZ b o hb with ⟨_,rfl⟩ | ⟨_,hb⟩
  ·exact ⟨rfl,rfl⟩
  ·exact h.sP b o hb
 refine ⟨⟨⟨⟨?_,?_,?_,?_,?_,?_⟩,?_,h.jr.size,h.jr.IC.mono lg⟩,?_,h.κ,abS,h.α⟩,hle,lg⟩
 ·intro b mf bW own bQ hb
  rcases mZ b _ hb with ⟨rfl,e⟩ | ⟨en,hb⟩
  ·simp only [dg.row.injEq] at e
   obtain ⟨rfl,rfl,rfl,rfl⟩:=e
   refine ⟨l,by simp [aW.set],⟨fun i v hi=>?_,fun _=>hl,fun e=>by simp at e,fun e=>by simp at e,hf,fun e=>by simp at e,rfl,hl,fun e=>by simp at e⟩⟩
   obtain ⟨v',h1,h2,h3⟩:=hc i v hi
   exact ⟨v',h1,h2.mono lg,h3⟩
  ·obtain ⟨l',h1,h2⟩:=h.jr.rel.row b mf bW own bQ hb
   exact ⟨l',lg _ _ h1,⟨fun i v hi=>by obtain ⟨v',q1,q2,q3⟩:=h2.cells i v hi; exact ⟨v',q1,q2.mono lg,q3⟩,h2.sP,h2.fv,h2.there,h2.fits,h2.ends,h2.bW,h2.oa,h2.mark⟩⟩
 ·intro b es hb
  have:=(abS b _ hb).1
  simp [dg.fv] at this
 ·intro b s pos hb
  have:=(abS b _ hb).1
  simp [dg.fv] at this
 ·intro b st e t ps a c hb
  have:=(abS b _ hb).1
  simp [dg.fv] at this
 ·intro b1 b2 o1 o2 l1 l2 _ h1 _ h3
  have:=(abS b1 _ h1).1
  rw [h3] at this; simp at this
 ·intro b o bf f hb hk
  have:=(abS b _ hb).2
  rw [hk] at this; simp at this
 ·intro b l' hb
  rw [St.cq]
  simp only [aW.set] at hb
  split at hb
  ·omega
  ·have:=h.jr.lE b l' hb; omega
 ·refine ⟨?_,?_,?_,?_,?_,?_,?_,?_,?_,?_,?_,?_,?_,?_,.empty h.α⟩
  ·intro b cs bW h; simp [ax.empty,ax.get] at h
  ·intro b cs bW h; simp [ax.empty,ax.get] at h
  ·intro b r hb
   simp only [Env.gx] at hb
   split at hb
   ·rename_i e
    simp at hb
    subst hb e
    simp
   ·have:=h.k.nm b r hb
    rw [St.du,if_neg (by omega)]
    exact h.k.z b r hb
  ·intro b x hb; have hb:E.κ b=some x:=hb; rw [h.κ b] at hb; simp at hb
  ·exact h.k.inj
  ·exact h.k.jJ
  ·exact h.k.lE
  ·exact h.k.na
  ·exact h.k.live
  ·intro b x hb; have:=h.k.gV b x hb; rw [St.cq]; omega
  ·intro b r hb
   simp only [Env.gx] at hb
   rw [St.cq]
   split at hb
   ·omega
   ·have:=h.k.nm b r hb; omega
  ·intro b g hb; have:=h.k.kd b g hb; rw [St.cq]; omega
  ·intro g hg; rw [St.cq] at hg; rw [St.la]; exact h.k.fresh g (by omega)
  ·intro g x hx; rw [St.la] at hx; rw [St.cq]; have:=h.k.mem g x hx; omega
def Y2 (P:Program):Nat→List Field→Option Nat
 | off,[]=>some off
 | off,f::fs=>cond (Nat.beq f.offset off) (Y2 P (off+P.cellsOf f.type) fs) .none
def yO (P:Program):Nat→TypeId→Bool
 | 0,_=>false
 | n+1,t=>match P.underlying t with
  | some (.int _) | some .bool | some .string=>true
  | some (.slice e)=>Nat.ble 1 (P.cellsOf e)&&yO P n e&&(match lay P 12 e with
   | some l=>Nat.beq l.ks.length (P.cellsOf e)&&(l.agg||Nat.beq l.ks.length 1)
   | .none=>false)
  | some (.struct fs)=>fs.toList.all (fun f=>yO P n f.type)&&(match Y2 P 0 fs.toList with
   | some k=>Nat.beq k (P.cellsOf t)
   | .none=>false)
  | some (.array len e)=>yO P n e&&Nat.beq (P.cellsOf t) (len * P.cellsOf e)
  | _=>false
def Y3 (W:World) (cs:List Value):Prop:=∀ a n c,Value.slice (some a) n c∈cs→0 < W.heap.size
def Got (P:Program) (W:World) (E:Env) (_:St) (ρ:aW) (cs:List Value) (K:List KV→Prop):Prop:=
 ∃ E' B' aX ks,Mt P W E' B' aX∧E.le E'∧ρ.le aX∧BD P E' aX ks cs∧Gg ks∧K ks
def Xi {H:Type} (enc:TypeId×Value→H) (P:Program) (W:World) (n:Nat):Prop:=
 ∀ t,yO P n t=true→∀ (fuel:Nat) (cs:List Value) (x:DataW H×List MemPlace) (E:Env) (B:St) (ρ:aW),DataW.trod enc P W 0 (fun _=>true) true fuel t cs=some x→Y3 W cs→Mt P W E B ρ→
  Got P W E B ρ cs fun ks=>∀ m l,lay P m t=some l→aF l.ks ks=true
section
variable {H:Type} {enc:TypeId×Value→H} {P:Program} {W:World} {E:Env} {B:St} {ρ:aW}
theorem BD.append {E:Env} {ρ:aW} {a b:List KV} {a' b' : List Value} (h:BD P E ρ a a') (k:BD P E ρ b b'):BD P E ρ (a++b) (a'++b'):=by
 obtain ⟨m,h1,h2⟩:=h
 obtain ⟨l,h3,h4⟩:=k
 exact ⟨m++l,h1.append h3,h2.append h4⟩
theorem BD.mono {E E' : Env} {ρ aX:aW} {a:List KV} {a' : List Value} (h:BD P E ρ a a') (hE:E.le E') (lg:ρ.le aX):BD P E' aX a a':=by
 obtain ⟨m,h1,h2⟩:=h
 exact ⟨m,h1.mono hE,h2.mono lg⟩
theorem BD.len {E:Env} {ρ:aW} {a:List KV} {a' : List Value} (h:BD P E ρ a a'):a'.length=a.length:=by
 obtain ⟨m,h1,h2⟩:=h
 rw [h2.length,h1.length]
theorem E4:∀ {ks:List CK} {vs:List KV},aF ks vs=true→vs.length=ks.length
 | [],[],_=>rfl
 | [],_::_,h=>by simp [aF] at h
 | _::_,[],h=>by simp [aF] at h
 | k::ks,v::vs,h=>by
  simp only [aF,Bool.and_eq_true] at h
  simp [E4 h.2]
theorem E5:∀ {ks ls:List CK} {vs us:List KV},aF ks vs=true→aF ls us=true→aF (ks++ls) (vs++us)=true
 | [],_,[],_,_,h=>h
 | [],_,_::_,_,h,_=>by simp [aF] at h
 | _::_,_,[],_,h,_=>by simp [aF] at h
 | k::ks,ls,v::vs,us,h,h'=>by
  simp only [aF,Bool.and_eq_true] at h
  simp only [List.cons_append,aF,Bool.and_eq_true]
  exact ⟨h.1,E5 h.2 h'⟩
theorem Y3.sub {W:World} {cs ds:List Value} (h:Y3 W cs) (k:∀ v∈ds,v∈cs):Y3 W ds:=fun a n c hm=>h a n c (k _ hm)
theorem Y4 {cs:List Value} {i n:Nat} : ∀ v∈(cs.drop i).take n,v∈cs:=fun _ h=>List.mem_of_mem_drop (List.mem_of_mem_take h)
theorem Vt (cs:List Value) (i m n:Nat):(cs.drop i).take m++(cs.drop (i+m)).take n=(cs.drop i).take (m+n):=by
 rw [List.take_add,List.drop_drop]
theorem Qz {n:Nat} (IH:Xi enc P W n) {fuel:Nat} {cs:List Value} (hp:Y3 W cs):∀ (fs:List Field) (off k:Nat) (E:Env) (B:St) (ρ:aW),Mt P W E B ρ→Y2 P off fs=some k→k≤cs.length→(∀ f∈fs,yO P n f.type=true)→
  (∀ f∈fs,∃ x,DataW.trod enc P W 0 (fun _=>true) true fuel f.type ((cs.drop f.offset).take (P.cellsOf f.type))=some x)→
  off≤k∧Got P W E B ρ ((cs.drop off).take (k - off)) fun ks=>∀ m l,JT (lay P m) fs off=some l→aF l ks=true
 | [],off,k,E,B,ρ,hi,ht,hk,_,_=>by
  simp [Y2] at ht; subst ht
  refine ⟨Nat.le_refl _,E,B,ρ,[],hi,Env.le_refl _,aW.le_refl _,?_,trivial,?_⟩
  ·rw [Nat.sub_self,List.take_zero]; exact ⟨[],.nil,.nil⟩
  ·intro m l h; simp [JT] at h; subst h; rfl
 | f::fs,off,k,E,B,ρ,hi,ht,hk,he,hx=>by
  unfold Y2 at ht
  cases hb:Nat.beq f.offset off with
  | false=>rw [hb] at ht; simp at ht
  | true=>
   rw [hb,cond_true] at ht
   have IE:=Nat.eq_of_beq_eq_true hb
   obtain ⟨x,Ck⟩:=hx f (by simp)
   obtain ⟨E1,B1,mI,ks1,h1,h2,h3,h4,h5,h6⟩:=IH f.type (he f (by simp)) fuel _ x E B ρ Ck (hp.sub Y4) hi
   obtain ⟨hle,E2,B2,uw,ks2,q1,q2,q3,q4,q5,q6⟩:=Qz IH hp fs (off+P.cellsOf f.type) k E1 B1 mI h1 ht hk (fun g hg=>he g (by simp [hg])) (fun g hg=>hx g (by simp [hg]))
   have hlen:ks1.length=P.cellsOf f.type:=by
    rw [← h4.len,List.length_take,List.length_drop,IE]
    omega
   refine ⟨by omega,E2,B2,uw,ks1++ks2,q1,Env.le_trans h2 q2,aW.le_trans h3 q3,?_,Cs h5 q5,?_⟩
   ·have:=(h4.mono q2 q3).append q4
    rw [IE,Vt] at this
    rw [show k - off=P.cellsOf f.type+(k - (off+P.cellsOf f.type)) by omega]
    exact this
   ·intro m l hl
    unfold JT at hl
    rw [hb,cond_true] at hl
    obtain ⟨l1,hl1,hl⟩:=Option.bind_eq_some_iff.1 hl
    obtain ⟨l2,mH,rfl⟩:=Option.map_eq_some_iff.1 hl
    have FG:=h6 m l1 hl1
    have amy:=E4 FG
    rw [← amy,hlen] at mH
    exact E5 FG (q6 m l2 mH)
theorem Vu {n:Nat} (IH:Xi enc P W n) {fuel len c:Nat} {e:TypeId} {cs:List Value} (hp:Y3 W cs) (he:yO P n e=true) (hc:P.cellsOf e=c) (hk:len * c≤cs.length) (hx:∀ i,i < len→∃ x,DataW.trod enc P W 0 (fun _=>true) true fuel e ((cs.drop (i * c)).take c)=some x) (hi:Mt P W E B ρ):∀ j,j≤len→
  Got P W E B ρ (cs.take (j * c)) fun ks=>∀ m l,lay P m e=some l→aF (dW l.ks j) ks=true
 | 0,_=>by
  refine ⟨E,B,ρ,[],hi,Env.le_refl _,aW.le_refl _,?_,trivial,fun m l _=>rfl⟩
  rw [Nat.zero_mul,List.take_zero]; exact ⟨[],.nil,.nil⟩
 | j+1,hj=>by
  obtain ⟨E1,B1,mI,ks1,h1,h2,h3,h4,h5,h6⟩:=Vu IH hp he hc hk hx hi j (by omega)
  obtain ⟨x,Ck⟩:=hx j (by omega)
  obtain ⟨E2,B2,uw,ks2,q1,q2,q3,q4,q5,q6⟩:=IH e he fuel _ x E1 B1 mI Ck (hp.sub Y4) h1
  refine ⟨E2,B2,uw,ks1++ks2,q1,Env.le_trans h2 q2,aW.le_trans h3 q3,?_,Cs h5 q5,?_⟩
  ·have:=(h4.mono q2 q3).append q4
   have e:=Vt cs 0 (j * c) c
   simp only [List.drop_zero,Nat.zero_add] at e
   rw [e] at this
   rw [show (j+1) * c=j * c+c by rw [Nat.succ_mul]]
   exact this
  ·intro m l hl
   have:dW l.ks (j+1)=dW l.ks j++l.ks:=by
    have comm:∀ n,l.ks++dW l.ks n=dW l.ks n++l.ks:=by
     intro n
     induction n with
     | zero=>simp [dW]
     | succ n ih=>simp only [dW,List.append_assoc]; rw [ih]
    rw [← comm]; rfl
   rw [this]
   exact E5 (h6 m l hl) (q6 m l hl)
theorem QA {a:Addr} {i k:Nat} {v:Value} (h:W.cell? ((a.add i).add k)=some v):W.cell? ⟨a.block,a.off+i+k,.none⟩=some v∧a.block < W.heap.size∧(i+k=0→a.spot = .none):=by
 have hb:((a.add i).add k).block=a.block:=by unfold Addr.add; split <;> split <;> rfl
 have ho:((a.add i).add k).off=a.off+i+k:=by
  unfold Addr.add
  split <;> split <;> simp_all
 have hs:((a.add i).add k).spot = .none:=by
  unfold World.cell? at h
  split at h
  ·split at h
   ·simp at h
   ·rename_i hs; simpa using hs
  ·simp at h
 have he:(a.add i).add k=⟨a.block,a.off+i+k,.none⟩:=by
  generalize (a.add i).add k=p at hb ho hs
  obtain ⟨b,o,s⟩:=p
  simp at hb ho hs
  simp [hb,ho,hs]
 refine ⟨he ▸ h,?_,fun e=>?_⟩
 ·rw [he] at h
  unfold World.cell? at h
  split at h
  ·rename_i heq
   exact (Array.getElem?_eq_some_iff.1 heq).1
  ·simp at h
 ·have h1:i=0:=by omega
  have h2:k=0:=by omega
  subst h1 h2
  simpa [Addr.add] using hs
theorem Y5 {a:Addr} {n:Nat} {cs:List Value} (h:W.cells? 0 a n=some cs):cs.length=n∧∀ (k:Nat) (v:Value),cs[k]? = some v→W.cell? (a.add k)=some v:=by
 unfold World.cells? at h
 rw [if_pos (Nat.zero_le _)] at h
 have hl:=mapM_some_length h
 simp at hl
 refine ⟨hl,fun k v hv=>?_⟩
 have hk:k < n:=by rw [← hl]; exact (List.getElem?_eq_some_iff.1 hv).1
 rw [mapM_some_get h k k (by simp [hk])]
 exact hv
theorem ahj {ks:List KV} {agg:Bool} (h:Gg ks):wfK (Jv agg ks):=by
 cases agg with
 | true=>exact h
 | false=>
  match ks,h with
  | [],_=>exact trivial
  | v::vs,h=>exact h.1
theorem Ng {E:Env} {ρ:aW} : ∀ {ks:List CK} {vs:List KV} {m:List Value},aF ks vs=true→bd P E vs m→∀ v∈m,scalar v=true
 | [],[],m,_,h,v,hv=>by rw [h.ck] at hv; simp at hv
 | [],_::_,_,h,_,_,_=>by simp [aF] at h
 | _::_,[],_,h,_,_,_=>by simp [aF] at h
 | k::ks,u::vs,m,h,hm,v,hv=>by
  simp only [aF,Bool.and_eq_true] at h
  obtain ⟨y,ys,rfl,h1,h2⟩:=hm.cons_inv
  rcases List.mem_cons.1 hv with rfl | hv
  ·refine h1.scalar ?_
   have:=h.1
   cases u <;> first | rfl | (cases k <;> simp [kindOk] at this)
  ·exact Ng (ρ:=ρ) h.2 h2 v hv
theorem Vv {n:Nat} (IH:Xi enc P W n) {fuel len c:Nat} {e:TypeId} {l:u6} {a:Addr} (he:yO P n e=true) (hl:lay P 12 e=some l) (DL:l.ks.length=c) (ha:l.agg=true∨l.ks.length=1) (hc:P.cellsOf e=c) (hc1:1≤c)
  (hx:∀ i,i < len→∃ x,(W.cells? 0 (a.add (i * c)) c).bind (DataW.trod enc P W 0 (fun _=>true) true fuel e)=some x) (hi:Mt P W E B ρ):∀ j,j≤len→
  ∃ E' B' aX es us fl,Mt P W E' B' aX∧E.le E'∧ρ.le aX∧es.length=j∧bd P E' es us∧fO l es=true∧Gg es∧fl.length=j * c∧od c 0 fl us∧
   (∀ (i:Nat) (v:Value),fl[i]? = some v→∃ v',W.cell? ⟨a.block,a.off+i,.none⟩=some v'∧VR aX v v'∧scalar v=true)∧(0 < j→a.block < W.heap.size∧a.spot = .none)
 | 0,_=>⟨E,B,ρ,[],[],[],hi,Env.le_refl _,aW.le_refl _,rfl,.nil,rfl,trivial,by simp,fun i x h=>by simp at h,fun i v h=>by simp at h,fun h=>by omega⟩
 | j+1,hj=>by
  obtain ⟨E1,B1,mI,es,us,fl,h1,h2,h3,h4,h5,h6,h7,h8,h9,sj,DP⟩:=Vv IH he hl DL ha hc hc1 hx hi j (by omega)
  obtain ⟨x,Ck⟩:=hx j (by omega)
  obtain ⟨cs,Ho,hx2⟩:=Option.bind_eq_some_iff.1 Ck
  obtain ⟨hlen,mZ⟩:=Y5 Ho
  have FF:a.block < W.heap.size:=by
   have h0:0 < cs.length:=by rw [hlen]; omega
   exact (QA (mZ 0 _ (List.getElem?_eq_getElem h0))).2.1
  obtain ⟨E2,B2,uw,ks,q1,q2,q3,⟨m,q4,q4'⟩,q5,q6⟩:=IH e he fuel cs x E1 B1 mI hx2 (fun _ _ _ _=>by omega) h1
  have hk:=q6 12 l hl
  have hml:m.length=c:=by rw [q4.length,E4 hk,DL]
  have xq:l.agg=true∨m.length=1:=by rw [hml,← DL]; exact ha
  have VW:=Ng (ρ:=ρ) hk q4
  have oj:=Yo VW xq
  have hul:us.length=j:=by rw [h5.length,h4]
  refine ⟨E2,B2,uw,es++[Jv l.agg ks],us++[mkE l.agg m],fl++m,q1,Env.le_trans h2 q2,aW.le_trans h3 q3,by simp [h4],(h5.mono q2).append (.cons (Yp q4 xq) .nil),?_,Cs h7 ⟨ahj q5,trivial⟩,?_,?_,?_,fun _=>⟨FF,?_⟩⟩
  ·have:∀ {es:List KV},fO l es=true→fO l (es++[Jv l.agg ks])=true:=by
    intro es
    induction es with
    | nil=>intro _; simp [fO,S9 hk ha]
    | cons e es ih=>
     intro h
     simp only [fO,Bool.and_eq_true] at h
     simp only [List.cons_append,fO,Bool.and_eq_true]
     exact ⟨h.1,ih h.2⟩
   exact this h6
  ·rw [List.length_append,h8,hml,Nat.succ_mul]
  ·intro i y hy
   by_cases hi:i < j
   ·rw [List.getElem?_append_left (by omega)] at hy
    obtain ⟨r1,r2⟩:=h9 i y hy
    refine ⟨r1,fun k z hz=>?_⟩
    have:=r2 k z hz
    rw [List.getElem?_append_left (List.getElem?_eq_some_iff.1 this).1]
    exact this
   ·rw [List.getElem?_append_right (by omega),hul] at hy
    have Ct:i=j:=by
     have:=(List.getElem?_eq_some_iff.1 hy).1
     simp at this
     omega
    subst Ct
    simp at hy
    subst hy
    have fq:(mkE l.agg m).cells.size=c:=by rw [← Array.length_toList,oj,hml]
    refine ⟨fq,fun k z hz=>?_⟩
    rw [← Array.getElem?_toList,oj] at hz
    rw [List.getElem?_append_right (by rw [h8]; omega),h8,show 0+i * c+k - i * c=k by omega]
    exact hz
  ·intro i v hv
   by_cases hi:i < fl.length
   ·rw [List.getElem?_append_left hi] at hv
    obtain ⟨v',r1,r2,r3⟩:=sj i v hv
    exact ⟨v',r1,r2.mono q3,r3⟩
   ·rw [List.getElem?_append_right (by omega)] at hv
    obtain ⟨v',r1,r2⟩:=q4'.get hv
    refine ⟨v',?_,r2,VW v (List.mem_of_getElem? hv)⟩
    have:=(QA (mZ _ _ r1)).1
    rw [h8] at this
    rw [h8] at hi
    rw [show a.off+i=a.off+j * c+(i - j * c) by omega]
    exact this
  ·by_cases h0:j=0
   ·subst h0
    have h0:0 < cs.length:=by rw [hlen]; omega
    exact (QA (mZ 0 _ (List.getElem?_eq_getElem h0))).2.2 (by omega)
   ·exact (DP (by omega)).2
theorem aeR:∀ n,Xi enc P W n
 | 0=>fun t ht=>by simp [yO] at ht
 | n+1=>by
  have IH:=aeR n
  intro t ht fuel cs x E B ρ hx hp hi
  have hn:∀ {m l},lay P m t=some l→∃ m',m=m' + 1:=by
   intro m l h
   cases m with
   | zero=>simp [lay] at h
   | succ m=>exact ⟨m,rfl⟩
  unfold yO at ht
  split at ht
  ·rename_i k hu
   obtain ⟨i,rfl,_,hw⟩:=DataW.trod_int hu hx
   refine ⟨E,B,ρ,[.int k i],hi,Env.le_refl _,aW.le_refl _,⟨_,.cons .mkInt .nil,.cons (by simp [VR]) .nil⟩,⟨hw,trivial⟩,fun m l h=>?_⟩
   obtain ⟨m',rfl⟩:=hn h
   simp only [lay,hu,Option.some.injEq] at h
   subst h
   simp [aF,kindOk]
  ·rename_i hu
   obtain ⟨b,rfl,_⟩:=DataW.trod_bool hu hx
   refine ⟨E,B,ρ,[.bool b],hi,Env.le_refl _,aW.le_refl _,⟨_,.cons .sh .nil,.cons (by simp [VR]) .nil⟩,⟨trivial,trivial⟩,fun m l h=>?_⟩
   obtain ⟨m',rfl⟩:=hn h
   simp only [lay,hu,Option.some.injEq] at h
   subst h
   simp [aF,kindOk]
  ·rename_i hu
   obtain ⟨s,rfl,_,hw⟩:=DataW.trod_string hu hx
   refine ⟨E,B,ρ,[.str s],hi,Env.le_refl _,aW.le_refl _,⟨_,.cons .mkStr .nil,.cons (by simp [VR]) .nil⟩,⟨hw,trivial⟩,fun m l h=>?_⟩
   obtain ⟨m',rfl⟩:=hn h
   simp only [lay,hu,Option.some.injEq] at h
   subst h
   simp [aF,kindOk]
  ·rename_i e hu
   simp only [Bool.and_eq_true] at ht
   obtain ⟨⟨vX,F4⟩,ht3⟩:=ht
   have hc1:=Nat.le_of_ble_eq_true vX
   split at ht3
   ·rename_i l hl
    simp only [Bool.and_eq_true,Bool.or_eq_true] at ht3
    have DL:=Nat.eq_of_beq_eq_true ht3.1
    have xq:l.agg=true∨l.ks.length=1:=ht3.2.imp id Nat.eq_of_beq_eq_true
    have hlF:bw P e=l:=by simp [bw,hl]
    have fq:bg P e=P.cellsOf e:=by rw [bg,hlF,DL]
    have fin:∀ {ks:List KV} {m:Nat} {l' : u6} {mk:Mk} {nn:Nat} {es:List KV} {acc:Nat→KV},mk = .any→lay P m t=some l'→ks = [.ts e mk nn es acc]→aF l'.ks ks=true:=by
     intro ks m l' mk nn es acc VX h rf
     obtain ⟨m',rfl⟩:=hn h
     simp only [lay,hu,Option.some.injEq] at h
     subst h rf VX
     simp [aF,kindOk]
    rcases DataW.trod_slice hu hx with ⟨rfl,_⟩ | ⟨a,len,cap,elems,rest,fu,_,rfl,_,_,hle,aiD,A8,hE,hR,_⟩
    ·refine ⟨E,B,ρ,[.ts e .any 0 [] ob],hi,Env.le_refl _,aW.le_refl _,⟨[.slice .none 0 0],.cons ?_ .nil,.cons (by simp [VR]) .nil⟩,⟨⟨Nat.zero_le _,trivial⟩,trivial⟩,fun m l h=>fin rfl h rfl⟩
     simp only [VK]
     exact ⟨⟨rfl,fun i h=>by omega,rfl⟩,[],.nil,.none,0,rfl,Nat.le_refl _,.inl ⟨rfl,rfl⟩,trivial⟩
    ·have hxs:∀ i,i < len→∃ x,(W.cells? 0 (a.add (i * P.cellsOf e)) (P.cellsOf e)).bind (DataW.trod enc P W 0 (fun _=>true) true fu e)=some x:=by
      intro i h
      rw [hE i h]
      exact ⟨_,List.getElem?_eq_getElem (by rw [A8]; exact h)⟩
     obtain ⟨E1,B1,mI,es,us,fl,h1,h2,h3,h4,h5,h6,h7,h8,h9,sj,DP⟩:=Vv IH F4 hl DL xq rfl hc1 hxs hi len (Nat.le_refl _)
     have u4:0 < cap→a.block < W.heap.size∧a.spot = .none:=by
      intro h0
      by_cases JP:0 < len
      ·exact DP JP
      ·have JP:len=0:=by omega
       subst JP
       obtain ⟨hr1,um⟩:=hR rfl
       have hr3:=um 0 (by omega)
       rw [List.getElem?_eq_getElem (by rw [hr1]; omega)] at hr3
       obtain ⟨b8,aiJ,_⟩:=Option.bind_eq_some_iff.1 hr3
       obtain ⟨hlen,mZ⟩:=Y5 aiJ
       have h0:0 < b8.length:=by rw [hlen]; omega
       have:=QA (mZ 0 _ (List.getElem?_eq_getElem h0))
       exact ⟨this.2.1,this.2.2 (by omega)⟩
     have hh:0 < W.heap.size:=hp a len cap (by simp)
     have hlenes:us.length=len:=by rw [h5.length,h4]
     have amz:∃ lc:aE.Loc,lc.bW=P.cellsOf e∧lc.cb < W.heap.size∧lc.ej+fl.length≤lc.yv∧(cap≠0→a=⟨lc.cb,lc.ej,.none⟩)∧lc.ej+cap * lc.bW≤lc.yv∧
       (∀ (i:Nat) (v:Value),fl[i]? = some v→∃ v',W.cell? ⟨lc.cb,lc.ej+i,.none⟩=some v'∧VR mI v v'∧scalar v=true):=by
      by_cases h0:cap=0
      ·subst h0
       have JP:len=0:=by omega
       subst JP
       refine ⟨⟨0,0,0,P.cellsOf e⟩,rfl,hh,by simp [h8],fun h=>absurd rfl h,by simp,fun i v hv=>?_⟩
       have:fl = []:=by apply List.eq_nil_of_length_eq_zero; simp [h8]
       rw [this] at hv; simp at hv
      ·obtain ⟨p1,p2⟩:=u4 (by omega)
       refine ⟨⟨a.block,a.off,a.off+cap * P.cellsOf e,P.cellsOf e⟩,rfl,p1,?_,fun _=>?_,Nat.le_refl _,sj⟩
       ·rw [h8]; exact Nat.add_le_add_left (Nat.mul_le_mul_right _ hle) _
       ·obtain ⟨b,o,s⟩:=a
        simp at p2
        simp [p2]
     obtain ⟨lc,l1,l2,l3,l4,l5,l6⟩:=amz
     obtain ⟨i1,i2,i3⟩:=h1.add l6 l2 l3
     refine ⟨_,_,_,[.ts e .any len es (r8 es)],i1,Env.le_trans h2 i2,aW.le_trans h3 i3,⟨[.slice (some ⟨B1.next,0,.none⟩) len len],.cons ?_ .nil,.cons ?_ .nil⟩,⟨⟨by omega,h7⟩,trivial⟩,fun m l h=>fin rfl h rfl⟩
     ·simp only [VK]
      refine ⟨⟨h4.symm,fun i _=>rfl,by rw [hlF]; exact h6⟩,us,h5.mono i2,some ⟨B1.next,0,.none⟩,len,rfl,Nat.le_refl _,.inr ⟨B1.next,0,⟨fl,lc.bW,false,.none⟩,rfl,by simp [Env.gx],by rw [l1,fq],?_⟩,trivial⟩
      rw [fq]
      exact h9
     ·simp only [VR]
      exact ⟨trivial,Nat.le_refl _,lc,a,cap,by simp [aW.set],hle,fun h=>by simpa using l4 h,by simpa using l5,rfl⟩
   ·simp at ht3
  ·rename_i fs hu
   simp only [Bool.and_eq_true,List.all_eq_true] at ht
   split at ht
   ·rename_i k hk
    have hkc:=Nat.eq_of_beq_eq_true ht.2
    obtain ⟨xs,fu,_,_,hlen,hxs,hf⟩:=DataW.trod_struct hu hx
    have hff:∀ f∈fs.toList,∃ x,DataW.trod enc P W 0 (fun _=>true) true fu f.type ((cs.drop f.offset).take (P.cellsOf f.type))=some x:=by
     intro f hm
     obtain ⟨i,Pu⟩:=List.getElem?_of_mem hm
     have hi2:fs[i]? = some f:=by simpa using Pu
     have bU:i < xs.length:=by rw [hxs]; exact (Array.getElem?_eq_some_iff.1 hi2).1
     exact ⟨xs[i],by rw [hf i f hi2]; exact List.getElem?_eq_getElem bU⟩
    obtain ⟨_,E1,B1,mI,ks,h1,h2,h3,h4,h5,h6⟩:=Qz IH hp fs.toList 0 k E B ρ hi hk (by rw [hkc,hlen]; exact Nat.le_refl _) ht.1 hff
    refine ⟨E1,B1,mI,ks,h1,h2,h3,?_,h5,fun m l h=>?_⟩
    ·have e:(cs.drop 0).take (k - 0)=cs:=by rw [List.drop_zero,Nat.sub_zero,hkc,← hlen,List.take_length]
     rw [e] at h4
     exact h4
    ·obtain ⟨m',rfl⟩:=hn h
     simp only [lay,hu,Option.map_eq_some_iff] at h
     obtain ⟨l',r5,rfl⟩:=h
     exact h6 m' l' r5
   ·simp at ht
  ·rename_i len e hu
   simp only [Bool.and_eq_true] at ht
   have hkc:=Nat.eq_of_beq_eq_true ht.2
   obtain ⟨xs,fu,_,_,hlen,hxs,hf⟩:=DataW.trod_array hu hx
   have hff:∀ i,i < len→∃ x,DataW.trod enc P W 0 (fun _=>true) true fu e ((cs.drop (i * P.cellsOf e)).take (P.cellsOf e))=some x:=by
    intro i h
    exact ⟨xs[i],by rw [hf i h]; exact List.getElem?_eq_getElem (by rw [hxs]; exact h)⟩
   obtain ⟨E1,B1,mI,ks,h1,h2,h3,h4,h5,h6⟩:=Vu IH hp ht.1 rfl (by rw [hlen,hkc]; exact Nat.le_refl _) hff hi len (Nat.le_refl _)
   refine ⟨E1,B1,mI,ks,h1,h2,h3,?_,h5,fun m l h=>?_⟩
   ·rw [← hkc,← hlen,List.take_length] at h4
    exact h4
   ·obtain ⟨m',rfl⟩:=hn h
    simp only [lay,hu,Option.map_eq_some_iff] at h
    obtain ⟨l',r5,rfl⟩:=h
    exact h6 m' l' r5
  ·simp at ht
end
end Go.K
end
section
namespace Go.K
open Go Go.aE Go.WideShapes
mutual
def ajz (P:Program):KV→Prop
 | .ts T _ n es acc=>iX P T n es acc∧H6 P es
 | .agg cs=>H6 P cs
 | _=>True
def H6 (P:Program):List KV→Prop
 | []=>True
 | v::vs=>ajz P v∧H6 P vs
end
mutual
theorem VK.deep {P:Program} {E:Env} : ∀ {v:KV} {u:Value},VK P E v u→ajz P v
 | .ts T m n es acc,u,h=>by
  obtain ⟨h1,us,h2,_⟩:=h.mm
  exact ⟨h1,bd.deep h2⟩
 | .agg cs,u,h=>by
  obtain ⟨l,_,h1⟩:=h.mh
  exact bd.deep (vs:=cs) h1
 | .int _ _,_,_ | .bool _,_,_ | .str _,_,_ | .jI _,_,_ | .tp ..,_,_ | .ptr ..,_,_ | .al ..,_,_ | .ap ..,_,_ | .sl ..,_,_ | .B4,_,_ | .kR,_,_ | .yC,_,_ | .map _,_,_ | .fn ..,_,_ | .CY,_,_ | .iface ..,_,_ | .CZ,_,_ | .aw,_,_=>trivial
theorem bd.deep {P:Program} {E:Env} : ∀ {vs:List KV} {us:List Value},bd P E vs us→H6 P vs
 | [],_,_=>trivial
 | v::vs,us,h=>by
  simp only [bd] at h
  obtain ⟨y,ys,_,h1,h2⟩:=h
  exact ⟨VK.deep h1,bd.deep h2⟩
end
def ox (P:Program):List TypeId→List KV→Bool
 | [],[]=>true
 | t::ts,v::vs=>dx (bw P t) v&&ox P ts vs
 | _,_=>false
theorem Vw {P:Program} : ∀ {ts:List TypeId} {amI:List KV},ox P ts amI=true→amI.length=ts.length
 | [],[],_=>rfl
 | [],_::_,h=>by simp [ox] at h
 | _::_,[],h=>by simp [ox] at h
 | t::ts,v::vs,h=>by
  simp only [ox,Bool.and_eq_true] at h
  simp [Vw h.2]
def QB (P:Program) (t:TypeId):Bool:=yO P 30 t&&(match lay P 12 t with
 | some l=>Nat.beq l.ks.length (P.cellsOf t)
 | .none=>false)
section
variable {H:Type} {enc:TypeId×Value→H} {P:Program} {W:World}
theorem acV {r:Reach} {base:Nat} {t:TypeId} {v:Value} (h:Value.okWide P W r base t v):Y3 W v.cells.toList:=by
 intro a n c hm
 have cell:∀ u,Cell.okWide P W r base u (.slice (some a) n c)→0 < W.heap.size:=by
  intro u hu
  unfold Cell.okWide at hu
  split at hu <;> try (rename_i heq; simp at heq; done)
  unfold Cell.ok at hu
  split at hu <;> try (rename_i heq; simp at heq; done)
  ·rename_i e heq
   simp at heq
   obtain ⟨rfl,rfl,rfl⟩:=heq
   obtain ⟨_,_,_,_,row,cells,hs,_⟩:=hu
   unfold World.shape? at hs
   split at hs
   ·rename_i hh
    have:=(Array.getElem?_eq_some_iff.1 hh).1
    omega
   ·simp at hs
  ·exact hu.elim
 unfold Value.okWide at h
 split at h
 ·obtain ⟨cs,rfl,_,ts,_,_,hc⟩:=h
  obtain ⟨i,hi⟩:=List.getElem?_of_mem hm
  obtain ⟨u,_,hu⟩:=hc i _ (by simpa [Value.cells] using hi)
  exact cell u hu
 ·obtain ⟨cs,rfl,_,ts,_,_,hc⟩:=h
  obtain ⟨i,hi⟩:=List.getElem?_of_mem hm
  obtain ⟨u,_,hu⟩:=hc i _ (by simpa [Value.cells] using hi)
  exact cell u hu
 ·have hv:v.cells.toList = [v]∨∃ cs,v = .agg cs:=by cases v <;> first | exact .inl rfl | exact .inr ⟨_,rfl⟩
  rcases hv with hv | ⟨cs,rfl⟩
  ·rw [hv] at hm
   simp at hm
   subst hm
   exact cell t h
  ·exfalso
   unfold Cell.okWide at h
   split at h <;> try (rename_i heq; simp at heq; done)
   unfold Cell.ok at h
   split at h <;> first | (rename_i heq; simp at heq; done) | exact h.elim
theorem ahU {E:Env} {B:St} {ρ:aW} {t:TypeId} {v:Value} {d:DataW H} {ps:List MemPlace} {r:Reach} {base:Nat} (ht:QB P t=true) (hd:DataW.Trod enc P W 0 (fun _=>true) true t v d ps) (hw:Value.okWide P W r base t v) (hi:Mt P W E B ρ) :
  ∃ E' B' aX a,Mt P W E' B' aX∧E.le E'∧ρ.le aX∧VC P E' aX a v∧dx (bw P t) a=true∧wfK a:=by
 unfold QB at ht
 simp only [Bool.and_eq_true] at ht
 obtain ⟨vX,F4⟩:=ht
 split at F4
 ·rename_i l hl
  obtain ⟨fuel,hf⟩:=hd
  obtain ⟨E1,B1,mI,ks,h1,h2,h3,⟨m,h4,h4'⟩,h5,h6⟩:=aeR 30 t vX fuel _ _ E B ρ hf (acV hw) hi
  have hk:=h6 12 l hl
  have hlF:bw P t=l:=by simp [bw,hl]
  have ahk:(l.agg=true∧∃ cs:Array Value,v = .agg cs)∨(l.agg=false∧l.ks.length=1∧v.cells.toList = [v]):=by
   unfold yO at vX
   split at vX
   ·rename_i k hu
    obtain ⟨n,rfl⟩:=okWide_int hu hw
    simp only [lay,hu,Option.some.injEq] at hl
    subst hl; exact .inr ⟨rfl,rfl,rfl⟩
   ·rename_i hu
    obtain ⟨n,rfl⟩:=okWide_bool hu hw
    simp only [lay,hu,Option.some.injEq] at hl
    subst hl; exact .inr ⟨rfl,rfl,rfl⟩
   ·rename_i hu
    obtain ⟨n,rfl⟩:=okWide_string hu hw
    simp only [lay,hu,Option.some.injEq] at hl
    subst hl; exact .inr ⟨rfl,rfl,rfl⟩
   ·rename_i e hu
    obtain ⟨a,n,c,rfl⟩:=okWide_slice hu hw
    simp only [lay,hu,Option.some.injEq] at hl
    subst hl; exact .inr ⟨rfl,rfl,rfl⟩
   ·rename_i fs hu
    simp only [lay,hu,Option.map_eq_some_iff] at hl
    obtain ⟨_,_,rfl⟩:=hl
    unfold Value.okWide at hw
    rw [hu] at hw
    obtain ⟨cs,rfl,_⟩:=hw
    exact .inl ⟨rfl,cs,rfl⟩
   ·rename_i len e hu
    simp only [lay,hu,Option.map_eq_some_iff] at hl
    obtain ⟨_,_,rfl⟩:=hl
    unfold Value.okWide at hw
    rw [hu] at hw
    obtain ⟨cs,rfl,_⟩:=hw
    exact .inl ⟨rfl,cs,rfl⟩
   ·simp at vX
  refine ⟨E1,B1,mI,Jv l.agg ks,h1,h2,h3,?_,?_,ahj h5⟩
  ·rcases ahk with ⟨ha,cs,rfl⟩ | ⟨ha,hlen,hv⟩
   ·rw [ha]
    exact ⟨.agg ⟨m⟩,.oX h4,VR.oX (l':=cs.toList) h4'⟩
   ·rw [ha]
    rw [hv] at h4'
    have hml:m.length=1:=by have:=h4'.length; simpa using this.symm
    have:=Yp (agg:=false) h4 (.inr hml)
    match m,hml,h4',this with
    | [y],_,h4',this=>
     obtain ⟨z,zs,e,q1,_⟩:=h4'.cons_inv
     simp at e
     refine ⟨y,this,?_⟩
     rw [e.1]; exact q1
  ·rw [hlF]
   exact S9 hk (ahk.imp (·.1) (·.2.1))
 ·simp at F4
theorem Y6 {r:Reach} {base:Nat} : ∀ {ts:List TypeId} {vs:List Value} {ds:List (DataW H)} {ps:List MemPlace} {E:Env} {B:St} {ρ:aW},(∀ t∈ts,QB P t=true)→DataW.TrodAll enc P W 0 (fun _=>true) true ts vs ds ps→
  (∀ (j:Nat) t v,ts[j]? = some t→vs[j]? = some v→Value.okWide P W r base t v)→Mt P W E B ρ→∃ E' B' aX amI,Mt P W E' B' aX∧E.le E'∧ρ.le aX∧BD P E' aX amI vs∧ox P ts amI=true∧Gg amI
 | [],vs,ds,ps,E,B,ρ,_,h,_,hi=>by
  obtain ⟨rfl,_,_⟩:=Go.ChangeShapes.trodAll_nil h
  exact ⟨E,B,ρ,[],hi,Env.le_refl _,aW.le_refl _,⟨[],.nil,.nil⟩,rfl,trivial⟩
 | t::ts,vs,ds,ps,E,B,ρ,ht,h,hw,hi=>by
  obtain ⟨v,vs1,d,ds1,a,b,rfl,rfl,rfl,h1,h2⟩:=Go.ChangeShapes.trodAll_cons h
  obtain ⟨E1,B1,mI,x,q1,q2,q3,⟨u,q4,q4'⟩,q5,q6⟩:=ahU (ht t (by simp)) h1 (hw 0 t v rfl rfl) hi
  obtain ⟨E2,B2,uw,xs,p1,p2,p3,⟨m,p4,p4'⟩,p5,p6⟩:=Y6 (fun t' h'=>ht t' (by simp [h'])) h2 (fun j t' v' h3 h4=>hw (j+1) t' v' (by simpa using h3) (by simpa using h4)) q1
  exact ⟨E2,B2,uw,x::xs,p1,Env.le_trans q2 p2,aW.le_trans q3 p3,⟨u::m,.cons (q4.mono p2) p4,.cons (q4'.mono p3) p4'⟩,by simp [ox,q5,p5],⟨q6,p6⟩⟩
theorem akH (hP:P.funcs.toList.all mS=true) (hm:P.follows .mixedOrders=true) {cfg:eK} (ik:qK P cfg.pc) (l8:uA P cfg) {L n:Nat} {f:FuncId} {ts:List TypeId} (hts:ts.all (QB P)=true)
  (o3:∀ amI,ox P ts amI=true→Gg amI→H6 P amI→dp P cfg L n f (normArgs P ts amI)=some (.bool true)) {args:Array Value} {ds:List (DataW H)} {ps:List MemPlace} {r:Reach} {base:Nat}
  (hd:DataW.TrodAll enc P W 0 (fun _=>true) true ts args.toList ds ps) (hw:∀ (j:Nat) t v,ts[j]? = some t→args.toList[j]? = some v→Value.okWide P W r base t v) :
  Calls P f args W fun e w'=>e = .returned (.bool true)∧RowKit.Below W.heap.size W w':=by
 obtain ⟨E,B,ρ,amI,h1,_,_,h4,h5,h6⟩:=Y6 (List.all_eq_true.1 hts) hd hw (Mt.start P W)
 have alF:H6 P amI:=by obtain ⟨m,q,_⟩:=h4; exact q.deep
 have mJ:=o3 amI h5 h6 alF
 have h4:BD P E ρ (normArgs P ts amI) args.toList:=by
  obtain ⟨m,q,q'⟩:=h4
  exact ⟨m,bd.YN rfl q (Vw h5),q'⟩
 have tZ:=s9 (R:=KV) hP hm ik l8 L n
 obtain ⟨fn,c,hf,hc,cg,hnm,mJ⟩:=Km hP mJ
 have:=HZ ik tZ hm L hf hc cg (l8.2 f fn c hf hc) mJ h4 (base:=W.heap.size) (w:=W) ⟨h1.k,h1.jr⟩
 refine this.mono ?_
 rintro e w' ⟨vs,cR,E1,A1,B1,mI,rfl,⟨m,q1,q1'⟩,q2,q3⟩
 have q3:Bool.rec (motive:=fun _=>Option KV) .none (some (C2 (vb P (rj P f) (vQ A1 vs).1))) (Nat.beq vs.length (rj P f).length)=some (.bool true):=q3
 obtain ⟨E2,_,q1⟩:=Ea q2.jr q1
 cases hb:Nat.beq vs.length (rj P f).length with
 | false=>rw [hb] at q3; exact absurd q3 (by simp)
 | true=>
  rw [hb] at q3
  have q3:some (C2 (vb P (rj P f) (vQ A1 vs).1))=some (.bool true):=q3
  simp only [Option.some.injEq] at q3
  have hv:VC P E2 mI (C2 (vb P (rj P f) (vQ A1 vs).1)) (acO cR):=Kl ⟨m,by rw [De]; exact bd.YN rfl q1 ((HP A1 vs).trans (Nat.eq_of_beq_eq_true hb)),q1'⟩
  rw [q3] at hv
  have hg:=q2.fN
  refine ⟨by rw [hv.ga],hg.kept.os,hg.kept.tape,hg.kept.output,hg.kept.size,fun k hk=>hg.kept.block k hk ?_⟩
  rintro ⟨b,o,l,ho,EM,_⟩
  rw [(h1.sP b o ho).1] at EM
  simp at EM
end
noncomputable def abT:List (Nat×(List KV→KR KV))→FuncId→Option (List KV→KR KV)
 | [],_=>.none
 | p::ps,g=>cond (Nat.beq p.1 g) (some p.2) (abT ps g)
theorem ahl {P:Program} : ∀ {ps:List (Nat×(List KV→KR KV))},(∀ p∈ps,ca P p.1 p.2)→qK P (abT ps)
 | [],_=>fun g F h=>by simp [abT] at h
 | p::ps,h=>fun g F hF=>by
  unfold abT at hF
  cases hb:Nat.beq p.1 g with
  | true=>
   rw [hb] at hF
   simp only [cond_true,Option.some.injEq] at hF
   have:=Nat.eq_of_beq_eq_true hb
   subst this hF
   exact h p (by simp)
  | false=>
   rw [hb] at hF
   exact ahl (fun q hq=>h q (List.mem_cons_of_mem _ hq)) g F hF
theorem aeS (l:u6):dx l .aw=false:=by
 show (!l.agg&&aF l.ks [.aw])=false
 cases l.ks with
 | nil=>simp [aF]
 | cons c cs=>cases c <;> simp [aF,kindOk]
theorem agd {P:Program} {t:TypeId} {v:KV} (h:dx (bw P t) (PW P t v)=true):∃ w,PW P t v=ay P (ak P au) t w:=by
 unfold PW at h ⊢
 cases hb:dx (bw P t) (gm (bw P t) v) with
 | false=>rw [hb,cond_false,aeS] at h; simp at h
 | true=>exact ⟨gm (bw P t) v,rfl⟩
theorem H7:∀ {ks:List CK} {cs:List KV},aF ks cs=true→yE ks cs=cs
 | [],[],_=>rfl
 | [],_::_,h=>by simp [aF] at h
 | _::_,[],h=>by simp [aF] at h
 | k::ks,v::vs,h=>by
  simp only [aF,Bool.and_eq_true] at h
  have e:mP k v=v:=by
   unfold mP
   split
   ·simp [kindOk] at h
   ·rename_i t t' m n es acc
    cases m <;> simp [kindOk] at h
    obtain ⟨rfl,_⟩:=h
    rw [Nat.beq_refl,cond_true]
   ·rw [h.1]; rfl
  rw [yE,e,H7 h.2]
theorem aeT {l:u6} {v:KV} (h:dx l v=true):gm l v=v:=by
 by_cases ha:∃ cs,v = .agg cs
 ·obtain ⟨cs,rfl⟩:=ha
  simp only [dx,Bool.and_eq_true] at h
  show cond (l.agg&&Nat.beq cs.length l.ks.length) (KV.agg (yE l.ks cs)) .aw=_
  rw [h.1,qb h.2,H7 h.2]
  simp
 ·have h1:(!l.agg&&aF l.ks [v])=true:=by
   cases v <;> first | exact h | exact absurd ⟨_,rfl⟩ ha | simp [dx] at h
  simp only [Bool.and_eq_true,Bool.not_eq_true'] at h1
  have e:gm l v=cond l.agg .aw (match l.ks with | [c]=>mP c v | _=>.aw):=by
   cases v <;> first | rfl | exact absurd ⟨_,rfl⟩ ha
  rw [e,h1.1,cond_false]
  match hk:l.ks,h1.2 with
  | [c],h2=>
   have:=H7 h2
   simpa [yE] using this
  | [],h2=>simp [aF] at h2
  | _::_::_,h2=>simp [aF] at h2
theorem age {P:Program} {t:TypeId} {v:KV} (h:dx (bw P t) v=true):PW P t v=ay P (ak P au) t v:=by
 unfold PW
 rw [aeT h,h,cond_true]
noncomputable def cM (P:Program):List TypeId→(Nat→KV)→Nat→List KV
 | [],_,_=>[]
 | t::ts,w,k=>ay P (ak P au) t (w k)::cM P ts w (Nat.succ k)
theorem QC {P:Program} : ∀ {ts:List TypeId} {w w' : Nat→KV} {k:Nat},(∀ i,k≤i→w i=w' i)→cM P ts w k=cM P ts w' k
 | [],_,_,_,_=>rfl
 | t::ts,w,w',k,h=>by
  rw [cM,cM,h k (Nat.le_refl _),QC fun i hi=>h i (by omega)]
theorem Y7 {P:Program} : ∀ {ts:List TypeId} {amI:List KV} (k:Nat),ox P ts (normArgs P ts amI)=true→∃ w,normArgs P ts amI=cM P ts w k
 | [],amI,k,_=>⟨fun _=>.aw,by cases amI <;> rfl⟩
 | t::ts,[],k,h=>by simp [normArgs,ox] at h
 | t::ts,v::vs,k,h=>by
  simp only [normArgs,ox,Bool.and_eq_true] at h
  obtain ⟨w,hw⟩:=agd h.1
  obtain ⟨w',hw'⟩:=Y7 (k+1) h.2
  refine ⟨fun i=>if i=k then w else w' i,?_⟩
  rw [normArgs,cM,hw,hw',if_pos rfl]
  rw [QC (w:=w') (w':=fun i=>if i=k then w else w' i) fun i hi=>by rw [if_neg (by omega)]]
theorem Y8 {P:Program} : ∀ {ts:List TypeId} {amI:List KV} (k:Nat) {w:Nat→KV},ox P ts amI=true→(∀ i,i < amI.length→w (k+i)=amI.getD i .aw)→normArgs P ts amI=cM P ts w k
 | [],[],k,_,_,_=>rfl
 | [],_::_,_,_,h,_=>by simp [ox] at h
 | _::_,[],_,_,h,_=>by simp [ox] at h
 | t::ts,v::vs,k,w,h,hw=>by
  simp only [ox,Bool.and_eq_true] at h
  rw [normArgs,cM,age h.1,Y8 (k+1) (w:=w) h.2 fun i hi=>by have:=hw (i+1) (by simp; omega); rw [show k+1+i=k+(i+1) by omega,this]; rfl]
  have:=hw 0 (by simp)
  rw [Nat.add_zero] at this
  rw [this]; rfl
noncomputable def cA (P:Program) (g:FuncId) (F:List KV→KR KV):List KV→KR KV:=fun amI=>cond (ox P (aJ P g) amI) (F amI) .no
theorem ajA {P:Program} {g:FuncId} {F:List KV→KR KV} (hP:P.funcs.toList.all mS=true) (hm:P.follows .mixedOrders=true) {cfg:eK} (ik:qK P cfg.pc) (l8:uA P cfg) {L n:Nat}
  (h:∀ w v,aZ (F (cM P (aJ P g) w 0)) v→dp P cfg L n g (cM P (aJ P g) w 0)=some v) (hy:Nat.blt g yB=true:=by rfl):ca P g (cA P g F):=
 ajg hy hP hm fun amI v _ hF=>by
  unfold cA at hF
  obtain ⟨hb,hF⟩:=aZ.cond hF
  obtain ⟨w,hw⟩:=Y7 0 hb
  rw [hw] at hF ⊢
  exact ⟨cfg,L,n,ik,l8,h w v hF⟩
noncomputable def ajB (P:Program) (d:CD) (w:KV):KV:=
 match d with
 | .k c=>ak P au (leaf c w)
 | .lit v=>v
 | .bf t=>ak P au (leaf (.slice t) w)
 | .arr t=>ak P au (leaf (.slice t) w)
 | .ref v=>v
noncomputable def E6 (P:Program):List CD→(Nat→KV)→Nat→List KV
 | [],_,_=>[]
 | d::ds,w,k=>ajB P d (w k)::E6 P ds w (Nat.succ k)
noncomputable def acW (P:Program) (d:VD) (w:Nat→KV):KV:=Bool.rec (motive:=fun _=>KV) ((E6 P d.ks w 0).headD .aw) (.agg (E6 P d.ks w 0)) d.agg
noncomputable def lU (P:Program):List (Tmp×VD)→(Nat→Nat→KV)→Nat→List KV
 | [],_,_=>[]
 | p::ps,w,k=>acW P p.2 (w k)::lU P ps w (Nat.succ k)
noncomputable def lV (P:Program):List (Tmp×List CD×Nat)→(Nat→Nat→KV)→Nat→List (List KV)
 | [],_,_=>[]
 | p::ps,w,k=>E6 P p.2.1 (w k) 0::lV P ps w (Nat.succ k)
theorem abU {P:Program} {A:ax} {d:CD} {v:KV} (h:jA d (fy P A d v)=true):∃ w,fy P A d v=ajB P d w:=by
 cases d with
 | ref u=>exact ⟨.aw,rfl⟩
 | k c=>
  have e:fy P A (.k c) v=cond (kindOk c (mP c v)) (ak P au (leaf c (mP c v))) .aw:=rfl
  cases hb:kindOk c (mP c v) with
  | true=>exact ⟨mP c v,by rw [e,hb]; rfl⟩
  | false=>
   rw [e,hb] at h
   cases c <;> simp [jA,kindOk] at h
 | lit u=>
  have e:fy P A (.lit u) v=cond (uB u v) u .aw:=rfl
  cases hb:uB u v with
  | true=>exact ⟨.aw,by rw [e,hb]; rfl⟩
  | false=>
   rw [e,hb,cond_false] at h
   have h:uB u .aw=true:=h
   cases u <;> first | (simp [uB] at h; done) | (rename_i f a b; cases f <;> cases a <;> cases b <;> simp [uB] at h)
 | bf t=>
  cases v with
  | kR=>exact ⟨.ts t .any 0 [] ob,rfl⟩
  | ts t' m n es acc=>
   cases m with
   | bf f=>
    have e:fy P A (.bf t) (.ts t' (.bf f) n es acc)=cond (Nat.beq t t') (ak P au (.ts t .any n es acc)) .aw:=rfl
    cases hb:Nat.beq t t' with
    | true=>exact ⟨.ts t .any n es acc,by rw [e,hb]; rfl⟩
    | false=>rw [e,hb] at h; simp [jA,kindOk] at h
   | _=>simp [fy,jA,kindOk] at h
  | _=>simp [fy,jA,kindOk] at h
 | arr t=>
  rcases Tn h with rfl | ⟨b,n,m,N,es,acc,rfl,_,he⟩
  ·exact ⟨.ts t .any 0 [] ob,rfl⟩
  ·exact ⟨.ts t .any N es acc,he⟩
theorem QD {P:Program} : ∀ {ds:List CD} {w w' : Nat→KV} {k:Nat},(∀ i,k≤i→w i=w' i)→E6 P ds w k=E6 P ds w' k
 | [],_,_,_,_=>rfl
 | t::ts,w,w',k,h=>by
  rw [E6,E6,h k (Nat.le_refl _),QD fun i hi=>h i (by omega)]
theorem Tr {P:Program} {A:ax} : ∀ {ds:List CD} {vs:List KV} (k:Nat),dN ds (fA P A ds vs)=true→∃ w,fA P A ds vs=E6 P ds w k
 | [],vs,k,_=>⟨fun _=>.aw,by cases vs <;> rfl⟩
 | d::ds,[],k,h=>by simp [fA,dN] at h
 | d::ds,v::vs,k,h=>by
  simp only [fA,dN,Bool.and_eq_true] at h
  obtain ⟨w,hw⟩:=abU h.1
  obtain ⟨w',hw'⟩:=Tr (k+1) h.2
  refine ⟨fun i=>if i=k then w else w' i,?_⟩
  rw [fA,E6,hw,hw',if_pos rfl]
  rw [QD (w:=w') (w':=fun i=>if i=k then w else w' i) fun i hi=>by rw [if_neg (by omega)]]
theorem ahV {P:Program} {A:ax} {d:VD} {v:KV} (h:vd d (tz P A d v)=true):∃ w,tz P A d v=acW P d w:=by
 have xq:=wK h
 rcases wL h with ⟨cs,rfl,h1,h2,h3⟩ | ⟨h0,c,h1,h2,h3,h4,h5⟩
 ·obtain ⟨w,hw⟩:=Tr 0 h3
  refine ⟨w,?_⟩
  have:d.agg=true:=by
   rcases xq with ⟨_,_,q,_⟩ | ⟨q,_⟩
   ·exact q
   ·exact absurd h2 (q _)
  rw [h2,hw,acW,this]
 ·obtain ⟨w,hw⟩:=abU h3
  refine ⟨fun _=>w,?_⟩
  have:d.agg=false:=by
   rcases xq with ⟨cs,q,_⟩ | ⟨_,q,_⟩
   ·rw [h2] at q; exact absurd q (h5 _)
   ·exact q
  rw [h2,hw,acW,this,h1]; rfl
theorem Nh {P:Program} : ∀ {ps:List (Tmp×VD)} {w w' : Nat→Nat→KV} {k:Nat},(∀ i,k≤i→w i=w' i)→lU P ps w k=lU P ps w' k
 | [],_,_,_,_=>rfl
 | t::ts,w,w',k,h=>by
  rw [lU,lU,h k (Nat.le_refl _),Nh fun i hi=>h i (by omega)]
theorem Y9 {P:Program} {t:bA} {A:ax} : ∀ {ps:List (Tmp×VD)} (k:Nat),il ps (o8 P t A ps)=true→∃ w,o8 P t A ps=lU P ps w k
 | [],k,_=>⟨fun _ _=>.aw,rfl⟩
 | p::ps,k,h=>by
  simp only [o8,il,Bool.and_eq_true] at h
  obtain ⟨w,hw⟩:=ahV h.1
  obtain ⟨w',hw'⟩:=Y9 (k+1) h.2
  refine ⟨fun i=>if i=k then w else w' i,?_⟩
  rw [o8,lU,hw,hw',if_pos rfl]
  rw [Nh (w:=w') (w':=fun i=>if i=k then w else w' i) fun i hi=>by rw [if_neg (by omega)]]
theorem Ni {P:Program} : ∀ {ps:List (Tmp×List CD×Nat)} {w w' : Nat→Nat→KV} {k:Nat},(∀ i,k≤i→w i=w' i)→lV P ps w k=lV P ps w' k
 | [],_,_,_,_=>rfl
 | t::ts,w,w',k,h=>by
  rw [lV,lV,h k (Nat.le_refl _),Ni fun i hi=>h i (by omega)]
theorem Za {P:Program} : ∀ {ps:List (Tmp×List CD×Nat)} {rs:List (List KV)} (k:Nat),rs.length=ps.length→(∀ (i:Nat) p r,ps[i]? = some p→rs[i]? = some r→dN p.2.1 r=true)→
  (∀ (i:Nat) p,ps[i]? = some p→∃ A mf,rs[i]? = some (fA P A p.2.1 mf)∧mf.length=p.2.1.length)→∃ w,rs=lV P ps w k
 | [],[],k,_,_,_=>⟨fun _ _=>.aw,rfl⟩
 | [],_::_,_,h,_,_=>by simp at h
 | _::_,[],_,h,_,_=>by simp at h
 | p::ps,r::rs,k,hl,hg,hn=>by
  obtain ⟨A,mf,h1,_⟩:=hn 0 p rfl
  simp only [List.getElem?_cons_zero,Option.some.injEq] at h1
  have h2:=hg 0 p r rfl rfl
  rw [h1] at h2
  obtain ⟨w,hw⟩:=Tr 0 h2
  obtain ⟨w',hw'⟩:=Za (ps:=ps) (rs:=rs) (k+1) (by simpa using hl) (fun i p r a b=>hg (i+1) p r (by simpa using a) (by simpa using b)) fun i p a=>by simpa using hn (i+1) p (by simpa using a)
  refine ⟨fun i=>if i=k then w else w' i,?_⟩
  rw [lV,h1,hw,if_pos rfl]
  congr 1
  rw [hw']
  exact Ni fun i hi=>by rw [if_neg (by omega)]
theorem zF.form {P:Program} {S:aQ} {vs:List KV} {rs:List (List KV)} (h:zF P S vs rs):∃ wv wr,vs=lU P S.dX wv 0∧rs=lV P S.rows wr 0:=by
 obtain ⟨t,A,ht⟩:=h.vn
 have hv:=h.v
 rw [ht] at hv
 obtain ⟨wv,hwv⟩:=Y9 0 hv
 obtain ⟨wr,hwr⟩:=Za 0 h.rA h.vP h.rn
 exact ⟨wv,wr,by rw [ht,hwv],hwr⟩
inductive aI (X:Type) where
 | fail
 | next (x:X)
 | out (e:aq) (x:X)
def aI.enc {X:Type} (ev:X→List KV) (er:X→List (List KV)):aI X→Option (aq×List KV×List (List KV))
 | .fail=>.none
 | .next x=>some (.normal,ev x,er x)
 | .out e x=>some (e,ev x,er x)
theorem aI.dn {X:Type} (ev:X→List KV) (er:X→List (List KV)) (c:Bool) (a b:aI X):aI.enc ev er (cond c a b)=cond c (aI.enc ev er a) (aI.enc ev er b):=by cases c <;> rfl
def aI.go {X:Type} (step:X→aI X):Nat→X→aI X
 | 0,_=>.fail
 | n+1,x=>match step x with
  | .fail=>.fail
  | .next x=>aI.go step n x
  | .out e x=>cond (x8 e) .fail (.out e x)
def fc:aq→aq→Bool
 | .normal,.normal=>true
 | .exit i,.exit j=>Nat.beq i j
 | .goto i,.goto j=>Nat.beq i j
 | .ret,.ret=>true
 | _,_=>false
theorem acX {a b:aq} (h:fc a b=true):a=b:=by
 cases a <;> cases b <;> simp [fc] at h <;> first | rfl | (subst h; rfl)
def aI.by {X:Type} (s:aI X) (e:aq):Bool:=
 match s with
 | .out e' _=>fc e' e
 | _=>false
def aI.st {X:Type} [Inhabited X] (s:aI X):X:=
 match s with
 | .out _ x=>x
 | _=>default
theorem aeU {X:Type} {step:X→aI X} {ev:X→List KV} {er:X→List (List KV)} {rd:List KV→List (List KV)→Option (aq×List KV×List (List KV))} (h:∀ x,rd (ev x) (er x)=aI.enc ev er (step x)) :
  ∀ (n:Nat) (x:X) (e:aq) (y:X),aI.go step n x = .out e y→xB rd n (ev x) (er x)=some (e,ev y,er y)
 | 0,x,e,y,hg=>by simp [aI.go] at hg
 | n+1,x,e,y,hg=>by
  simp only [aI.go] at hg
  have hx:=h x
  cases hs:step x with
  | fail=>rw [hs] at hg; simp at hg
  | next x'=>
   rw [hs] at hg hx
   simp only [xB,hx,aI.enc,x8,cond_true]
   exact aeU h n x' e y hg
  | out e' x'=>
   rw [hs] at hg hx
   simp only at hg
   cases hn:x8 e' with
   | true=>rw [hn] at hg; simp at hg
   | false=>
    rw [hn,cond_false] at hg
    simp only [aI.out.injEq] at hg
    obtain ⟨rfl,rfl⟩:=hg
    simp only [xB,hx,aI.enc,hn,cond_false]
def dL {X:Type} [Inhabited X] (ev:X→List KV) (er:X→List (List KV)) (s:aI X):List aq→rz
 | []=>.no
 | e::es=>.br (s.by e) (.out e (ev s.st) (er s.st)) (dL ev er s es)
theorem OL {X:Type} [Inhabited X] {ev:X→List KV} {er:X→List (List KV)} {s:aI X} : ∀ {es:List aq} {e:aq} {vs:List KV} {rs:List (List KV)},(dL ev er s es).ev=some (e,vs,rs)→∃ x,s = .out e x∧vs=ev x∧rs=er x
 | [],e,vs,rs,h=>by simp [dL,rz.ev] at h
 | e'::es,e,vs,rs,h=>by
  simp only [dL,rz.ev] at h
  cases hb:s.by e' with
  | false=>rw [hb] at h; exact OL h
  | true=>
   rw [hb,cond_true] at h
   simp only [Option.some.injEq,Prod.mk.injEq] at h
   obtain ⟨rfl,rfl,rfl⟩:=h
   cases s with
   | out e0 x=>
    have:=acX (show fc e0 e' = true from hb)
    subst this
    exact ⟨x,rfl,rfl,rfl⟩
   | fail=>simp [aI.by] at hb
   | next x=>simp [aI.by] at hb
def m6:Nat:=1000000000000
def goN {X:Type} (step:X→aI X) (x:X):aI X:=aI.go step m6 x
theorem aeV {P:Program} {l:Lp} {X:Type} [Inhabited X] {cfg:eK} {L n:Nat} (ik:qK P cfg.pc) (l8:uA P cfg) {step:X→aI X} {ev:X→List KV} {er:X→List (List KV)} {es:List aq} {pa:List KV→List (List KV)→X}
  (hF:∀ vs rs,l.F vs rs=dL ev er (goN step (pa vs rs)) es) (iM:∀ wv wr,ev (pa (lU P l.S.dX wv 0) (lV P l.S.rows wr 0))=lU P l.S.dX wv 0∧er (pa (lU P l.S.dX wv 0) (lV P l.S.rows wr 0))=lV P l.S.rows wr 0)
  (r6:∀ x,ahh l.st P cfg L n l.f l.p (fh P l.f l.p) l.S (ev x) (er x)=aI.enc ev er (step x)):l.Ok P:=
 ⟨cfg,L,n,ik,l8,fun vs rs e cR mo cg o7=>by
  obtain ⟨wv,wr,rfl,rfl⟩:=cg.form
  obtain ⟨h1,h2⟩:=iM wv wr
  rw [hF] at o7
  obtain ⟨y,hy,rfl,rfl⟩:=OL o7
  have:=aeU r6 m6 _ e y hy
  rw [h1,h2] at this
  exact ⟨m6,this⟩⟩
theorem ajC {P:Program} {c:Fc} {X:Type} [Inhabited X] {cfg:eK} {L n:Nat} (ik:qK P cfg.pc) (l8:uA P cfg) {step:X→aI X} {ev:X→List KV} {er:X→List (List KV)} {es:List aq} {pa:List KV→List (List KV)→X} (hy:Nat.blt c.g yB=true)
  (hF:∀ vs rs,c.F vs rs=dL ev er (step (pa vs rs)) es) (iM:∀ wv wr,ev (pa (lU P c.S.dX wv 0) (lV P c.S.rows wr 0))=lU P c.S.dX wv 0∧er (pa (lU P c.S.dX wv 0) (lV P c.S.rows wr 0))=lV P c.S.rows wr 0)
  (r6:∀ x y,step x = .out .ret y→EZ P cfg L n c.g c.S (ev x) (er x)=some (.ret,ev y,er y)) (J8:es = [.ret]):c.Ok P:=
 ⟨hy,cfg,L,n,ik,l8,fun vs rs e cR mo cg o7=>by
  obtain ⟨wv,wr,rfl,rfl⟩:=cg.form
  obtain ⟨h1,h2⟩:=iM wv wr
  subst J8
  rw [hF] at o7
  have he:e = .ret:=by
   simp only [dL,rz.ev] at o7
   cases hb:(step (pa (lU P c.S.dX wv 0) (lV P c.S.rows wr 0))).by aq.ret with
   | false=>rw [hb] at o7; simp at o7
   | true=>rw [hb] at o7; simp at o7; exact o7.1.symm
  subst he
  obtain ⟨y,hy,rfl,rfl⟩:=OL o7
  have:=r6 _ y hy
  rw [h1,h2] at this
  exact this⟩
theorem agf {P:Program} {c:Fc} {cfg:eK} (ik:qK P cfg.pc) (l8:uA P cfg) (hy:Nat.blt c.g yB=true) (hF:∀ vs rs,(c.F vs rs).ev=none):c.Ok P:=
 ⟨hy,cfg,9,9,ik,l8,fun vs rs e cR mo _ o7=>by rw [hF] at o7; simp at o7⟩
def Kx:Nat:=64
theorem acP {P:Program} {amI:List KV} (h:ox P [] amI=true):amI = []:=by
 cases amI with
 | nil=>rfl
 | cons a amI=>simp [ox] at h
end Go.K
end
section
namespace Go.K
open Go Go.aE
variable {P:Program} {E:Env}
end Go.K
end
section
namespace Go.K
open Go Go.aE
structure Sl (α:Type) where
 n:Nat
 get:Nat→α
instance {α:Type} [Inhabited α] : Inhabited (Sl α):=⟨⟨0,fun _=>default⟩⟩
def jf {α:Type} (T:TypeId) (k:α→KV) (s:Sl α):KV:=.ts T .any s.n ((List.range s.n).map fun i=>k (s.get i)) (fun i=>k (s.get i))
def ki {α:Type} (p:KV→α) (n:Nat) (acc:Nat→KV):Sl α:=⟨n,fun i=>p (acc i)⟩
def iQ {α:Type} (p:KV→α) (v:KV):Sl α:=ki p (lenOf v) (aiM v)
def kI (k:IntKind) (n:Int):KV:=.int k n
def kB (b:Bool):KV:=.bool b
abbrev aj (n:Int):Int:=IntKind.wrap .i64 n
abbrev w8 (n:Int):Int:=IntKind.wrap .u8 n
abbrev mL (n:Int):Int:=IntKind.wrap .u64 n
def Sl.push {α:Type} [Inhabited α] (s:Sl α) (v:α):Sl α:=⟨s.n+1,fun i=>cond (Nat.blt i s.n) (s.get i) (cond (Nat.beq i s.n) v default)⟩
def Sl.join {α:Type} (s t:Sl α):Sl α:=⟨s.n+t.n,fun i=>cond (Nat.blt i s.n) (s.get i) (t.get (i - s.n))⟩
def Sl.lit {α:Type} [Inhabited α] (l:List α):Sl α:=⟨l.length,fun i=>l.getD i default⟩
theorem Zb {α:Type} [Inhabited α] {p:KV→α} {k:α→KV} (h:∀ x,p (k x)=x) (hd:p .aw=default) (l:List α):ki p l.length (r8 (l.map k))=Sl.lit l:=by
 unfold ki Sl.lit r8
 congr 1
 funext i
 rw [List.getD_eq_getElem?_getD,List.getD_eq_getElem?_getD,List.getElem?_map]
 cases l[i]? with
 | none=>exact hd
 | some x=>exact h x
theorem Ae {α:Type} [Inhabited α] {p:KV→α} {k:α→KV} (h:∀ x,p (k x)=x) (hd:p .aw=default) (s:Sl α) (v:α):ki p (s.n+1) (fw s.n (fun i=>k (s.get i)) (r8 [k v]))=s.push v:=by
 unfold ki Sl.push
 congr 1
 funext i
 unfold fw
 cases hb:Nat.blt i s.n with
 | true=>exact h _
 | false=>
  have hi:s.n≤i:=by
   cases Nat.lt_or_ge i s.n with
   | inl h=>rw [← Nat.blt_eq,hb] at h; simp at h
   | inr h=>exact h
  rw [cond_false,cond_false]
  cases hq:Nat.beq i s.n with
  | true=>
   have:=Nat.eq_of_beq_eq_true hq
   subst this
   rw [Nat.sub_self,cond_true]
   exact h v
  | false=>
   have en:i≠s.n:=fun e=>by rw [e,Nat.beq_refl] at hq; simp at hq
   rw [cond_false]
   obtain ⟨j,hj⟩:∃ j,i - s.n=j+1:=⟨i - s.n - 1,by omega⟩
   rw [hj]
   exact hd
theorem abV {α:Type} {p:KV→α} {k:α→KV} (h:∀ x,p (k x)=x) (s t:Sl α):ki p (s.n+t.n) (fw s.n (fun i=>k (s.get i)) (fun i=>k (t.get i)))=s.join t:=by
 unfold ki Sl.join
 congr 1
 funext i
 unfold fw
 cases Nat.blt i s.n <;> exact h _
def Sl.set {α:Type} (s:Sl α) (i:Nat) (v:α):Sl α:=⟨s.n,fun j=>cond (Nat.beq j i) v (s.get j)⟩
def Sl.acY {α:Type} (s:Sl α) (o k:Nat) (t:Sl α):Sl α:=⟨s.n,fun j=>cond (Nat.blt j o) (s.get j) (cond (Nat.blt j (o+k)) (t.get (j - o)) (s.get j))⟩
theorem Zc {α:Type} {p:KV→α} {k:α→KV} (h:∀ x,p (k x)=x) (s:Sl α) (i:Nat) (v:α):ki p s.n (r9 (fun j=>k (s.get j)) i (k v))=s.set i v:=by
 unfold ki Sl.set
 congr 1
 funext j
 unfold r9
 cases Nat.beq j i <;> exact h _
theorem Zd {α:Type} {p:KV→α} {k:α→KV} (h:∀ x,p (k x)=x) (s t:Sl α) (o m:Nat):ki p s.n (kP o m (fun j=>k (s.get j)) (fun j=>k (t.get j)))=s.acY o m t:=by
 unfold ki Sl.acY
 congr 1
 funext j
 unfold kP
 cases Nat.blt j o with
 | true=>exact h _
 | false=>cases Nat.blt j (o+m) <;> exact h _
theorem aeW {α:Type} {p:KV→α} {k:α→KV} (h:∀ x,p (k x)=x) (m n n' : Nat) (acc fT:Nat→KV):ki p m (fw n (fun i=>k ((ki p n' acc).get i)) fT)=ki p m (fw n acc fT):=by
 unfold ki
 congr 1
 funext i
 unfold fw
 cases Nat.blt i n with
 | true=>exact h _
 | false=>rfl
theorem ajD {α:Type} {p:KV→α} {k:α→KV} (h:∀ x,p (k x)=x) (m n n' : Nat) (acc fT:Nat→KV):ki p m (fw n acc (fun i=>k ((ki p n' fT).get i)))=ki p m (fw n acc fT):=by
 unfold ki
 congr 1
 funext i
 unfold fw
 cases Nat.blt i n with
 | true=>rfl
 | false=>exact h _
theorem aeX {α:Type} {p:KV→α} {k:α→KV} (h:∀ x,p (k x)=x) (m n' i:Nat) (acc:Nat→KV) (v:KV):ki p m (r9 (fun j=>k ((ki p n' acc).get j)) i v)=ki p m (r9 acc i v):=by
 unfold ki
 congr 1
 funext j
 unfold r9
 cases Nat.beq j i with
 | true=>rfl
 | false=>exact h _
theorem ajE {α:Type} {p:KV→α} {k:α→KV} (h:∀ x,p (k x)=x) (n n' o m:Nat) (acc fT:Nat→KV):ki p n (kP o m (fun j=>k ((ki p n' acc).get j)) fT)=ki p n (kP o m acc fT):=by
 unfold ki
 congr 1
 funext j
 unfold kP
 cases Nat.blt j o with
 | true=>exact h _
 | false=>
  cases Nat.blt j (o+m) with
  | true=>rfl
  | false=>exact h _
theorem ajF {α:Type} {p:KV→α} {k:α→KV} (h:∀ x,p (k x)=x) (n n' o m:Nat) (acc fT:Nat→KV):ki p n (kP o m acc (fun j=>k ((ki p n' fT).get j)))=ki p n (kP o m acc fT):=by
 unfold ki
 congr 1
 funext j
 unfold kP
 cases Nat.blt j o with
 | true=>rfl
 | false=>
  cases Nat.blt j (o+m) with
  | true=>exact h _
  | false=>rfl
theorem ajG (m n n' : Nat) (acc fT:Nat→KV):ki (fun v=>intOf (v.cells.getD 0 .aw)) m (fw n (fun i=>kI .i64 ((ki (fun v=>intOf (v.cells.getD 0 .aw)) n' acc).get i)) fT)=ki (fun v=>intOf (v.cells.getD 0 .aw)) m (fw n acc fT):=aeW (k:=kI .i64) (fun _=>rfl) ..
theorem ajH (m n n' : Nat) (acc fT:Nat→KV):ki (fun v=>intOf (v.cells.getD 0 .aw)) m (fw n acc (fun i=>kI .i64 ((ki (fun v=>intOf (v.cells.getD 0 .aw)) n' fT).get i)))=ki (fun v=>intOf (v.cells.getD 0 .aw)) m (fw n acc fT):=ajD (k:=kI .i64) (fun _=>rfl) ..
theorem ajI (m n' i:Nat) (acc:Nat→KV) (v:KV):ki (fun v=>intOf (v.cells.getD 0 .aw)) m (r9 (fun j=>kI .i64 ((ki (fun v=>intOf (v.cells.getD 0 .aw)) n' acc).get j)) i v)=ki (fun v=>intOf (v.cells.getD 0 .aw)) m (r9 acc i v):=aeX (k:=kI .i64) (fun _=>rfl) ..
theorem ajJ (n n' o m:Nat) (acc fT:Nat→KV):ki (fun v=>intOf (v.cells.getD 0 .aw)) n (kP o m (fun j=>kI .i64 ((ki (fun v=>intOf (v.cells.getD 0 .aw)) n' acc).get j)) fT)=ki (fun v=>intOf (v.cells.getD 0 .aw)) n (kP o m acc fT):=ajE (k:=kI .i64) (fun _=>rfl) ..
theorem ajK (n n' o m:Nat) (acc fT:Nat→KV):ki (fun v=>intOf (v.cells.getD 0 .aw)) n (kP o m acc (fun j=>kI .i64 ((ki (fun v=>intOf (v.cells.getD 0 .aw)) n' fT).get j)))=ki (fun v=>intOf (v.cells.getD 0 .aw)) n (kP o m acc fT):=ajF (k:=kI .i64) (fun _=>rfl) ..
theorem ajL (s:Sl Int) (i:Nat) (v:Int):s.set i v=ki (fun v=>intOf (v.cells.getD 0 .aw)) s.n (r9 (fun j=>kI .i64 (s.get j)) i (kI .i64 v)):=(Zc (k:=kI .i64) (fun _=>rfl) s i v).symm
theorem ahW (s:Sl Bool) (i:Nat) (v:Bool):s.set i v=ki (fun v=>nP (v.cells.getD 0 .aw)) s.n (r9 (fun j=>kB (s.get j)) i (kB v)):=(Zc (k:=kB) (fun _=>rfl) s i v).symm
theorem agh (s t:Sl Int) (o m:Nat):s.acY o m t=ki (fun v=>intOf (v.cells.getD 0 .aw)) s.n (kP o m (fun j=>kI .i64 (s.get j)) (fun j=>kI .i64 (t.get j))):=(Zd (k:=kI .i64) (fun _=>rfl) s t o m).symm
theorem aeY (s t:Sl Bool) (o m:Nat):s.acY o m t=ki (fun v=>nP (v.cells.getD 0 .aw)) s.n (kP o m (fun j=>kB (s.get j)) (fun j=>kB (t.get j))):=(Zd (k:=kB) (fun _=>rfl) s t o m).symm
theorem ahX (s:Sl Int) (v:Int):s.push v=ki (fun v=>intOf (v.cells.getD 0 .aw)) (s.n+1) (fw s.n (fun i=>kI .i64 (s.get i)) (r8 [kI .i64 v])):=(Ae (fun _=>rfl) rfl s v).symm
theorem ahY (s t:Sl Int):s.join t=ki (fun v=>intOf (v.cells.getD 0 .aw)) (s.n+t.n) (fw s.n (fun i=>kI .i64 (s.get i)) (fun i=>kI .i64 (t.get i))):=(abV (fun _=>rfl) s t).symm
theorem Ky (l:List Int):Sl.lit l=ki (fun v=>intOf (v.cells.getD 0 .aw)) l.length (r8 (l.map (kI .i64))):=(Zb (fun _=>rfl) rfl l).symm
theorem ahZ (l:List Bool):Sl.lit l=ki (fun v=>nP (v.cells.getD 0 .aw)) l.length (r8 (l.map kB)):=(Zb (fun _=>rfl) rfl l).symm
theorem agi (s:Sl Bool) (v:Bool):s.push v=ki (fun v=>nP (v.cells.getD 0 .aw)) (s.n+1) (fw s.n (fun i=>kB (s.get i)) (r8 [kB v])):=(Ae (fun _=>rfl) rfl s v).symm
theorem agj (s t:Sl Bool):s.join t=ki (fun v=>nP (v.cells.getD 0 .aw)) (s.n+t.n) (fw s.n (fun i=>kB (s.get i)) (fun i=>kB (t.get i))):=(abV (fun _=>rfl) s t).symm
theorem ch {α β:Type} (f:α→β) (c:Bool) (a b:Option α):Option.map f (cond c a b)=cond c (Option.map f a) (Option.map f b):=by cases c <;> rfl
def ao (P:Program) (ps:List (Nat×(List KV→KR KV))):Prop:=∀ p∈ps,ca P p.1 p.2
theorem ao.nil {P:Program} : ao P []:=fun p hp=>by simp at hp
theorem ao.cons {P:Program} {g:Nat} {F:List KV→KR KV} {ps:List (Nat×(List KV→KR KV))} (h:ca P g F) (t:ao P ps):ao P ((g,F)::ps):=fun p hp=>by
 rcases List.mem_cons.1 hp with rfl | hp
 ·exact h
 ·exact t p hp
theorem ao.pc {P:Program} {ps:List (Nat×(List KV→KR KV))} (h:ao P ps):qK P (abT ps):=ahl h
def az (P:Program) (ls:List Lp):Prop:=∀ l∈ls,l.Ok P∧cC P l.f l.p=true
theorem az.nil {P:Program} : az P []:=fun p hp=>by simp at hp
theorem az.cons {P:Program} {l:Lp} {ls:List Lp} (h:l.Ok P) (h' : cC P l.f l.p=true) (t:az P ls):az P (l::ls):=fun p hp=>by
 rcases List.mem_cons.1 hp with rfl | hp
 ·exact ⟨h,h'⟩
 ·exact t p hp
def fP (P:Program) (fs:List Fc):Prop:=∀ c∈fs,c.Ok P
theorem fP.nil {P:Program} : fP P []:=fun p hp=>by simp at hp
theorem fP.cons {P:Program} {c:Fc} {fs:List Fc} (h:c.Ok P) (t:fP P fs):fP P (c::fs):=fun p hp=>by
 rcases List.mem_cons.1 hp with rfl | hp
 ·exact h
 ·exact t p hp
noncomputable def bu (P:Program) (ps:List (Nat×(List KV→KR KV))) (ls:List Lp) (mt:TypeId→Bool:=fun _=>false) (fz:Bool:=false) (eg:Bool:=false) (fs:List Fc:=[]):eK:=⟨abT ps,Y1 P ls,⟨abR P fs,mt,fz,eg⟩⟩
noncomputable def cF {R:Type} [Inhabited R] (k:R→KV) (r:List KV→Option R):List KV→KR KV:=fun amI=>.lZ (r amI).isSome (k ((r amI).getD default))
theorem aY {P:Program} {R:Type} [Inhabited R] {k:R→KV} {r:List KV→Option R} {g:FuncId} (hP:P.funcs.toList.all mS=true) (hm:P.follows .mixedOrders=true) {ps:List (Nat×(List KV→KR KV))} {ls:List Lp} (ik:ao P ps) (l8:az P ls) {L n:Nat} {mt:TypeId→Bool} {fz eg:Bool} {fs:List Fc}
  (h:∀ w,dp P (bu P ps ls mt fz eg fs) L n g (cM P (aJ P g) w 0)=(r (cM P (aJ P g) w 0)).map k) (hy:Nat.blt g yB=true:=by rfl) (BJ:fP P fs:=by exact fP.nil):ca P g (cA P g (cF k r)):=
 ajA (cfg:=bu P ps ls mt fz eg fs) hP hm ik.pc (L8 hP hm (L9 hP hm BJ) l8) (hy:=hy) fun w v hv=>by
  obtain ⟨h1,h2⟩:=aZ.lZ hv
  rw [h w]
  cases hr:r (cM P (aJ P g) w 0) with
  | none=>rw [hr] at h1; simp at h1
  | some x=>rw [hr] at h2; rw [← h2]; rfl
theorem eM {P:Program} {l:Lp} {X:Type} [Inhabited X] (hP:P.funcs.toList.all mS=true) (hm:P.follows .mixedOrders=true) {ps:List (Nat×(List KV→KR KV))} {ls:List Lp} (ik:ao P ps) (l8:az P ls) {L n:Nat} {mt:TypeId→Bool} {fz eg:Bool} {fs:List Fc} {step:X→aI X} {ev:X→List KV} {er:X→List (List KV)} {es:List aq} {pa:List KV→List (List KV)→X}
  (hF:l.F=fun vs rs=>dL ev er (goN step (pa vs rs)) es) (iM:∀ wv wr,ev (pa (lU P l.S.dX wv 0) (lV P l.S.rows wr 0))=lU P l.S.dX wv 0∧er (pa (lU P l.S.dX wv 0) (lV P l.S.rows wr 0))=lV P l.S.rows wr 0)
  (r6:∀ x,jk P (bu P ps ls mt fz eg fs) L n l.f l.p (fh P l.f l.p) l.S (ev x) (er x)=aI.enc ev er (step x)) (BJ:fP P fs:=by exact fP.nil) (hs:l.st=false:=by rfl):l.Ok P:=
 aeV (cfg:=bu P ps ls mt fz eg fs) ik.pc (L8 hP hm (L9 hP hm BJ) l8) (fun _ _=>by rw [hF]) iM (fun x=>by rw [hs]; exact r6 x)
theorem lk {P:Program} {l:Lp} {X:Type} [Inhabited X] (hP:P.funcs.toList.all mS=true) (hm:P.follows .mixedOrders=true) {ps:List (Nat×(List KV→KR KV))} {ls:List Lp} (ik:ao P ps) (l8:az P ls) {L n:Nat} {mt:TypeId→Bool} {fz eg:Bool} {fs:List Fc} {step:X→aI X} {ev:X→List KV} {er:X→List (List KV)} {es:List aq} {pa:List KV→List (List KV)→X}
  (hF:l.F=fun vs rs=>dL ev er (goN step (pa vs rs)) es) (iM:∀ wv wr,ev (pa (lU P l.S.dX wv 0) (lV P l.S.rows wr 0))=lU P l.S.dX wv 0∧er (pa (lU P l.S.dX wv 0) (lV P l.S.rows wr 0))=lV P l.S.rows wr 0)
  (r6:∀ x,py P (bu P ps ls mt fz eg fs) L n l.f l.p (fh P l.f l.p) l.S (ev x) (er x)=aI.enc ev er (step x)) (BJ:fP P fs:=by exact fP.nil) (hs:l.st=true:=by rfl):l.Ok P:=
 aeV (cfg:=bu P ps ls mt fz eg fs) ik.pc (L8 hP hm (L9 hP hm BJ) l8) (fun _ _=>by rw [hF]) iM (fun x=>by rw [hs]; exact r6 x)
theorem Bd {P:Program} {c:Fc} {X:Type} [Inhabited X] (hP:P.funcs.toList.all mS=true) (hm:P.follows .mixedOrders=true) {ps:List (Nat×(List KV→KR KV))} {ls:List Lp} (ik:ao P ps) (l8:az P ls) {L n:Nat} {mt:TypeId→Bool} {fz eg:Bool} {fs:List Fc} {step:X→aI X} {ev:X→List KV} {er:X→List (List KV)} {es:List aq} {pa:List KV→List (List KV)→X}
  (hF:c.F=fun vs rs=>dL ev er (step (pa vs rs)) es) (iM:∀ wv wr,ev (pa (lU P c.S.dX wv 0) (lV P c.S.rows wr 0))=lU P c.S.dX wv 0∧er (pa (lU P c.S.dX wv 0) (lV P c.S.rows wr 0))=lV P c.S.rows wr 0)
  (r6:∀ x,EZ P (bu P ps ls mt fz eg fs) L n c.g c.S (ev x) (er x)=aI.enc ev er (step x)) (hy:Nat.blt c.g yB=true:=by rfl) (J8:es = [.ret]:=by rfl) (BJ:fP P fs:=by exact fP.nil):c.Ok P:=
 ajC (cfg:=bu P ps ls mt fz eg fs) ik.pc (L8 hP hm (L9 hP hm BJ) l8) hy (fun _ _=>by rw [hF]) iM (fun x y h=>by rw [r6 x,h]; rfl) J8
end Go.K
end
section
namespace Go.Proofs.Ytahhdndhkgbcjaa.b
open Go.K
theorem funcs:Try.prog.funcs.toList.all aE.mS=true:=by kernel_rfl
theorem mixed:Try.prog.follows .mixedOrders=true:=by kernel_rfl
end Go.Proofs.Ytahhdndhkgbcjaa.b
end
section
namespace Go.Proofs.Ytahhdndhkgbcjaa.b
open Go.K
set_option linter.unusedVariables false
set_option linter.unusedSimpArgs false
noncomputable section
def IM:List (Nat×(List KV→KR KV)):=[]
def IP:List Lp:=[]
theorem QE:ao Try.prog IM:=ao.nil
theorem QF:az Try.prog IP:=az.nil
def dQ (a:Int) (b:Int):Option (Int×Int):=
 (cond (decide (b < (1:Int)))
 (some ((0:Int),(2:Int)))
 (cond (!(decide (b=(0:Int))))
 (cond (!(decide (b=(0:Int))))
 (cond (decide ((Int.tmod a b) < (0:Int)))
 (some ((aj ((aj (Int.tdiv a b)) - (1:Int))),(0:Int)))
 (some ((aj (Int.tdiv a b)),(0:Int))))
 none)
 none))
theorem Ts (a:Int) (b:Int):dp Try.prog (bu Try.prog IM IP (fun _=>false)) 9 9 99 [(kI .i64) a,(kI .i64) b] = (dQ a b).map (fun (r:Int×Int)=>KV.jI [(kI .i64) r.1,(kI .i64) r.2]):=by
 unfold dQ
 try simp only [ch,ahX,ahY,Ky,ajG,ajH,ajI,ajJ,ajK,agi,agj,ahZ,ajL,ahW,agh,aeY]
 kernel_rfl
def uF:List KV→KR KV:=cA Try.prog 99 (cF (fun (r:Int×Int)=>KV.jI [(kI .i64) r.1,(kI .i64) r.2]) fun vs=>dQ (intOf (vs.getD 0 .aw)) (intOf (vs.getD 1 .aw)))
theorem QG (w:Nat→KV):cM Try.prog [3,3] w 0 = [(kI .i64) (intOf (ay Try.prog (ak Try.prog au) 3 (w 0))),(kI .i64) (intOf (ay Try.prog (ak Try.prog au) 3 (w 1)))]:=by kernel_rfl
theorem tB:ca Try.prog 99 uF:=aY funcs mixed QE QF (L:=9) (n:=9) fun w=>by
 have e:aJ Try.prog 99 = [3,3]:=by kernel_rfl
 rw [e,QG]
 exact (Ts (intOf (ay Try.prog (ak Try.prog au) 3 (w 0))) (intOf (ay Try.prog (ak Try.prog au) 3 (w 1)))).trans (by kernel_rfl)
structure eE where
 x:Int
 y:Int
 z:Int
instance:Inhabited eE:=⟨⟨default,default,default⟩⟩
def amB (x:eE):List KV:=[.int .i64 x.x,.int .i64 x.y,.int .i64 x.z]
def wM (x:eE):KV:=.agg (amB x)
def amC (c:Nat→KV):eE:=⟨intOf (c 0),intOf (c 1),intOf (c 2)⟩
def yb (v:KV):eE:=amC fun k=>v.cells.getD k .aw
structure bZ where
 p:eE
 u:Int
 v:Int
instance:Inhabited bZ:=⟨⟨default,default,default⟩⟩
def akJ (x:bZ):List KV:=[.int .i64 x.p.x,.int .i64 x.p.y,.int .i64 x.p.z,.int .i64 x.u,.int .i64 x.v]
def mU (x:bZ):KV:=.agg (akJ x)
def akK (c:Nat→KV):bZ:=⟨⟨intOf (c 0),intOf (c 1),intOf (c 2)⟩,intOf (c 3),intOf (c 4)⟩
def jK (v:KV):bZ:=akK fun k=>v.cells.getD k .aw
theorem Tt (x:bZ):jK (mU x)=x:=rfl
theorem abW:jK .aw=default:=rfl
theorem aeZ (s:Sl bZ) (v:bZ):s.push v=ki jK (s.n+1) (fw s.n (fun i=>mU (s.get i)) (r8 [mU v])):=(Ae Tt abW s v).symm
theorem agk (l:List bZ):Sl.lit l=ki jK l.length (r8 (l.map mU)):=(Zb Tt abW l).symm
theorem agl (m n n' : Nat) (acc fT:Nat→KV):ki jK m (fw n (fun i=>mU ((ki jK n' acc).get i)) fT)=ki jK m (fw n acc fT):=aeW Tt ..
def Kz:List (Nat×(List KV→KR KV)):=[]
def KA:List Lp:=[]
theorem Tu:ao Try.prog Kz:=ao.nil
theorem Tv:az Try.prog KA:=az.nil
def kV (p:bZ):Option (Int):=
 (cond (decide (p.p.x < (-(32768:Int))))
 (some ((8:Int)))
 (cond (decide (p.p.x > (32768:Int)))
 (some ((8:Int)))
 (cond (decide (p.p.y < (-(32768:Int))))
 (some ((8:Int)))
 (cond (decide (p.p.y > (32768:Int)))
 (some ((8:Int)))
 (cond (decide (p.p.z < (-(32768:Int))))
 (some ((8:Int)))
 (cond (decide (p.p.z > (32768:Int)))
 (some ((8:Int)))
 (cond (decide (p.u < (0:Int)))
 (some ((8:Int)))
 (cond (decide (p.u > (255:Int)))
 (some ((8:Int)))
 (cond (decide (p.v < (0:Int)))
 (some ((8:Int)))
 (cond (decide (p.v > (255:Int)))
 (some ((8:Int)))
 (some ((0:Int)))))))))))))
theorem VY (p:bZ):dp Try.prog (bu Try.prog Kz KA (fun _=>false)) 9 9 130 [mU p] = (kV p).map (kI .i64):=by
 unfold kV
 try simp only [ch]
 kernel_rfl
def qE:List KV→KR KV:=cA Try.prog 130 (cF (kI .i64) fun vs=>kV (jK (vs.getD 0 .aw)))
theorem Tw (w:Nat→KV):cM Try.prog [180] w 0 = [mU (jK (ay Try.prog (ak Try.prog au) 180 (w 0)))]:=by kernel_rfl
theorem oQ:ca Try.prog 130 qE:=aY funcs mixed Tu Tv (L:=9) (n:=9) fun w=>by
 have e:aJ Try.prog 130 = [180]:=by kernel_rfl
 rw [e,Tw]
 exact (VY (jK (ay Try.prog (ak Try.prog au) 180 (w 0)))).trans (by kernel_rfl)
structure gg where
 low:Int
 high:Int
 t6:Bool
 t9:(Sl Int)
 t10:Int
 t11:Int
instance:Inhabited gg:=⟨⟨default,default,default,default,default,default⟩⟩
def sn (x:gg):List KV:=[.int .i64 x.low,.int .i64 x.high,.bool x.t6,jf 3 (kI .i64) x.t9,.int .i64 x.t10,.int .i64 x.t11]
def sq (x:gg):List (List KV):=[]
def Dm (vs:List KV) (rs:List (List KV)):gg:=⟨intOf (vs.getD 0 .aw),intOf (vs.getD 1 .aw),nP (vs.getD 2 .aw),iQ intOf (vs.getD 3 .aw),intOf (vs.getD 4 .aw),intOf (vs.getD 5 .aw)⟩
def Eh:aQ:=⟨[(0,⟨false,[.k (.int .i64)]⟩),(1,⟨false,[.k (.int .i64)]⟩),(6,⟨false,[.k .bool]⟩),(9,⟨false,[.k (.slice 3)]⟩),(10,⟨false,[.k (.int .i64)]⟩),(11,⟨false,[.k (.int .i64)]⟩)],[],[]⟩
def OM:=jk Try.prog (bu Try.prog [] [] (fun _=>false)) 9 9 143 26 (fh Try.prog 143 26) Eh
def jW (x:gg):aI gg:=
 (cond (decide (x.t11 < x.t10))
 (cond ((decide ((0:Int)≤x.t11))&&(decide (x.t11 < ((x.t9.n:Nat):Int))))
 (cond (decide ((x.t9.get (Int.toNat x.t11)) < x.low))
 (.out aE.aq.ret (⟨x.low,x.high,false,x.t9,x.t10,x.t11⟩:gg))
 (cond (decide ((x.t9.get (Int.toNat x.t11)) > x.high))
 (.out aE.aq.ret (⟨x.low,x.high,false,x.t9,x.t10,x.t11⟩:gg))
 (.next (⟨x.low,x.high,x.t6,x.t9,x.t10,(aj (x.t11+(1:Int)))⟩:gg))))
 .fail)
 (.out (aE.aq.exit 0) x))
theorem KB (x:gg):OM (sn x) (sq x)=aI.enc sn sq (jW x):=by
 unfold jW
 try simp only [aI.dn]
 kernel_rfl
def tC:Lp:=⟨143,26,Eh,fun vs rs=>dL sn sq (goN jW (Dm vs rs)) [aE.aq.exit 0,aE.aq.ret],false⟩
theorem OO:tC.Ok Try.prog:=eM funcs mixed ao.nil az.nil (L:=9) (n:=9) (step:=jW) (ev:=sn) (er:=sq) (pa:=Dm) rfl (fun wv wr=>⟨by kernel_rfl,by kernel_rfl⟩) KB
theorem Jx:cC Try.prog tC.f tC.p=true:=by kernel_rfl
def IQ:List (Nat×(List KV→KR KV)):=[]
def IU:List Lp:=[tC]
theorem QH:ao Try.prog IQ:=ao.nil
theorem QI:az Try.prog IU:=(az.cons OO Jx az.nil)
def vg (low:Int) (high:Int) (l:(Sl Int)):(aI gg):=(goN jW (⟨low,high,false,l,((l.n:Nat):Int),(0:Int)⟩:gg))
def nD (low:Int) (high:Int) (l:(Sl Int)):Option (Bool):=
 (cond ((vg low high l).by (aE.aq.exit 0))
 (some (true))
 (cond ((vg low high l).by aE.aq.ret)
 (some ((vg low high l).st.t6))
 none))
theorem Tx (low:Int) (high:Int) (l:(Sl Int)):dp Try.prog (bu Try.prog IQ IU (fun _=>false)) 9 9 143 [(kI .i64) low,(kI .i64) high,(jf 3 (kI .i64)) l] = (nD low high l).map kB:=by
 unfold nD
 try simp only [ch]
 kernel_rfl
def KC:List KV→KR KV:=cA Try.prog 143 (cF kB fun vs=>nD (intOf (vs.getD 0 .aw)) (intOf (vs.getD 1 .aw)) ((iQ intOf) (vs.getD 2 .aw)))
theorem QJ (w:Nat→KV):cM Try.prog [3,3,26] w 0 = [(kI .i64) (intOf (ay Try.prog (ak Try.prog au) 3 (w 0))),(kI .i64) (intOf (ay Try.prog (ak Try.prog au) 3 (w 1))),(jf 3 (kI .i64)) ((iQ intOf) (ay Try.prog (ak Try.prog au) 26 (w 2)))]:=by kernel_rfl
theorem QK:ca Try.prog 143 KC:=aY funcs mixed QH QI (L:=9) (n:=9) fun w=>by
 have e:aJ Try.prog 143 = [3,3,26]:=by kernel_rfl
 rw [e,QJ]
 exact (Tx (intOf (ay Try.prog (ak Try.prog au) 3 (w 0))) (intOf (ay Try.prog (ak Try.prog au) 3 (w 1))) ((iQ intOf) (ay Try.prog (ak Try.prog au) 26 (w 2)))).trans (by kernel_rfl)
structure fU where
 x:Int
 y:Int
 d:Int
 u:Int
 v:Int
instance:Inhabited fU:=⟨⟨default,default,default,default,default⟩⟩
def alG (x:fU):List KV:=[.int .i64 x.x,.int .i64 x.y,.int .i64 x.d,.int .i64 x.u,.int .i64 x.v]
def Ty (x:fU):KV:=.agg (alG x)
def alH (c:Nat→KV):fU:=⟨intOf (c 0),intOf (c 1),intOf (c 2),intOf (c 3),intOf (c 4)⟩
def agm (v:KV):fU:=alH fun k=>v.cells.getD k .aw
def KD:List (Nat×(List KV→KR KV)):=[(143,KC)]
def KF:List Lp:=[]
theorem Tz:ao Try.prog KD:=(ao.cons QK ao.nil)
theorem TA:az Try.prog KF:=az.nil
def w9 (s:fU):(Option Bool):=(nD (-(131072:Int)) (131072:Int) (Sl.lit [s.x,s.y]))
def xa (s:fU):(Option Bool):=(nD (1:Int) (65536:Int) (Sl.lit [s.d]))
def xb (s:fU):(Option Bool):=(nD (0:Int) (255:Int) (Sl.lit [s.u,s.v]))
def oE (s:fU):Option (Int):=
 (cond (w9 s).isSome
 (cond (!((w9 s).getD default))
 (some ((8:Int)))
 (cond (xa s).isSome
 (cond (!((xa s).getD default))
 (some ((8:Int)))
 (cond (xb s).isSome
 (cond (!((xb s).getD default))
 (some ((8:Int)))
 (some ((0:Int))))
 none))
 none))
 none)
theorem VZ (s:fU):dp Try.prog (bu Try.prog KD KF (fun _=>false)) 9 9 131 [Ty s] = (oE s).map (kI .i64):=by
 unfold oE
 try simp only [ch,w9,xa,xb,Ky]
 kernel_rfl
def Nj:List KV→KR KV:=cA Try.prog 131 (cF (kI .i64) fun vs=>oE (agm (vs.getD 0 .aw)))
theorem TB (w:Nat→KV):cM Try.prog [117] w 0 = [Ty (agm (ay Try.prog (ak Try.prog au) 117 (w 0)))]:=by kernel_rfl
theorem TC:ca Try.prog 131 Nj:=aY funcs mixed Tz TA (L:=9) (n:=9) fun w=>by
 have e:aJ Try.prog 131 = [117]:=by kernel_rfl
 rw [e,TB]
 exact (VZ (agm (ay Try.prog (ak Try.prog au) 117 (w 0)))).trans (by kernel_rfl)
structure bt where
 e0:fU
 e1:fU
 e2:fU
instance:Inhabited bt:=⟨⟨default,default,default⟩⟩
def ah0 (x:bt):List KV:=[.int .i64 x.e0.x,.int .i64 x.e0.y,.int .i64 x.e0.d,.int .i64 x.e0.u,.int .i64 x.e0.v,.int .i64 x.e1.x,.int .i64 x.e1.y,.int .i64 x.e1.d,.int .i64 x.e1.u,.int .i64 x.e1.v,.int .i64 x.e2.x,.int .i64 x.e2.y,.int .i64 x.e2.d,.int .i64 x.e2.u,.int .i64 x.e2.v]
def im (x:bt):KV:=.agg (ah0 x)
def ah1 (c:Nat→KV):bt:=⟨⟨intOf (c 0),intOf (c 1),intOf (c 2),intOf (c 3),intOf (c 4)⟩,⟨intOf (c 5),intOf (c 6),intOf (c 7),intOf (c 8),intOf (c 9)⟩,⟨intOf (c 10),intOf (c 11),intOf (c 12),intOf (c 13),intOf (c 14)⟩⟩
def gz (v:KV):bt:=ah1 fun k=>v.cells.getD k .aw
theorem ae0 (x:bt):gz (im x)=x:=rfl
theorem ae1:gz .aw=default:=rfl
theorem aaQ (s:Sl bt) (v:bt):s.push v=ki gz (s.n+1) (fw s.n (fun i=>im (s.get i)) (r8 [im v])):=(Ae ae0 ae1 s v).symm
def Nk:List (Nat×(List KV→KR KV)):=[(131,Nj)]
def Nl:List Lp:=[]
theorem V0:ao Try.prog Nk:=(ao.cons TC ao.nil)
theorem V1:az Try.prog Nl:=az.nil
def yP (t:bt):(Option Int):=(oE t.e0)
def yQ (t:bt):(Option Int):=(oE t.e1)
def yR (t:bt):(Option Int):=(oE t.e2)
def nu (t:bt):Option (Int×Int):=
 (cond (yP t).isSome
 (cond (((yP t).getD default) != (0:Int))
 (some ((0:Int),((yP t).getD default)))
 (cond (yQ t).isSome
 (cond (((yQ t).getD default) != (0:Int))
 (some ((0:Int),((yQ t).getD default)))
 (cond (yR t).isSome
 (cond (((yR t).getD default) != (0:Int))
 (some ((0:Int),((yR t).getD default)))
 (some ((aj ((aj ((aj (t.e1.x - t.e0.x)) * (aj (t.e2.y - t.e0.y)))) - (aj ((aj (t.e2.x - t.e0.x)) * (aj (t.e1.y - t.e0.y)))))),(0:Int))))
 none))
 none))
 none)
theorem Ze (t:bt):dp Try.prog (bu Try.prog Nk Nl (fun _=>false)) 9 9 115 [im t] = (nu t).map (fun (r:Int×Int)=>KV.jI [(kI .i64) r.1,(kI .i64) r.2]):=by
 unfold nu
 try simp only [ch]
 kernel_rfl
def Cu:List KV→KR KV:=cA Try.prog 115 (cF (fun (r:Int×Int)=>KV.jI [(kI .i64) r.1,(kI .i64) r.2]) fun vs=>nu (gz (vs.getD 0 .aw)))
theorem V2 (w:Nat→KV):cM Try.prog [118] w 0 = [im (gz (ay Try.prog (ak Try.prog au) 118 (w 0)))]:=by kernel_rfl
theorem BL:ca Try.prog 115 Cu:=aY funcs mixed V0 V1 (L:=9) (n:=9) fun w=>by
 have e:aJ Try.prog 115 = [118]:=by kernel_rfl
 rw [e,V2]
 exact (Ze (gz (ay Try.prog (ak Try.prog au) 118 (w 0)))).trans (by kernel_rfl)
def KG:List (Nat×(List KV→KR KV)):=[(115,Cu)]
def KH:List Lp:=[]
theorem TD:ao Try.prog KG:=(ao.cons BL ao.nil)
theorem TE:az Try.prog KH:=az.nil
def n3 (t:bt) (yS:Int):(Option (Prod Int Int)):=(nu t)
def ta (t:bt) (yS:Int):Option (Bool×Int):=
 (cond (n3 t yS).isSome
 (cond (((n3 t yS).getD default).snd != (0:Int))
 (some (false,((n3 t yS).getD default).snd))
 (cond (yS==(0:Int))
 (some ((((n3 t yS).getD default).fst != (0:Int)),(0:Int)))
 (cond (yS==(1:Int))
 (some ((decide (((n3 t yS).getD default).fst > (0:Int))),(0:Int)))
 (cond (yS==(2:Int))
 (some ((decide (((n3 t yS).getD default).fst < (0:Int))),(0:Int)))
 (some (false,(2:Int)))))))
 none)
theorem V3 (t:bt) (yS:Int):dp Try.prog (bu Try.prog KG KH (fun _=>false)) 9 9 113 [im t,(kI .u8) yS] = (ta t yS).map (fun (r:Bool×Int)=>KV.jI [kB r.1,(kI .i64) r.2]):=by
 unfold ta
 try simp only [ch]
 kernel_rfl
def E7:List KV→KR KV:=cA Try.prog 113 (cF (fun (r:Bool×Int)=>KV.jI [kB r.1,(kI .i64) r.2]) fun vs=>ta (gz (vs.getD 0 .aw)) (intOf (vs.getD 1 .aw)))
theorem TF (w:Nat→KV):cM Try.prog [118,5] w 0 = [im (gz (ay Try.prog (ak Try.prog au) 118 (w 0))),(kI .u8) (intOf (ay Try.prog (ak Try.prog au) 5 (w 1)))]:=by kernel_rfl
theorem Gh:ca Try.prog 113 E7:=aY funcs mixed TD TE (L:=9) (n:=9) fun w=>by
 have e:aJ Try.prog 113 = [118,5]:=by kernel_rfl
 rw [e,TF]
 exact (V3 (gz (ay Try.prog (ak Try.prog au) 118 (w 0))) (intOf (ay Try.prog (ak Try.prog au) 5 (w 1)))).trans (by kernel_rfl)
def KI:List (Nat×(List KV→KR KV)):=[(115,Cu)]
def KK:List Lp:=[]
theorem TG:ao Try.prog KI:=(ao.cons BL ao.nil)
theorem TH:az Try.prog KK:=az.nil
def pU (t:bt):(Option (Prod Int Int)):=(nu t)
def te (t:bt):Option (bt×Int):=
 (cond (pU t).isSome
 (cond (((pU t).getD default).snd != (0:Int))
 (some ((⟨(⟨(0:Int),(0:Int),(0:Int),(0:Int),(0:Int)⟩:fU),(⟨(0:Int),(0:Int),(0:Int),(0:Int),(0:Int)⟩:fU),(⟨(0:Int),(0:Int),(0:Int),(0:Int),(0:Int)⟩:fU)⟩:bt),((pU t).getD default).snd))
 (cond (((pU t).getD default).fst==(0:Int))
 (some ((⟨(⟨(0:Int),(0:Int),(0:Int),(0:Int),(0:Int)⟩:fU),(⟨(0:Int),(0:Int),(0:Int),(0:Int),(0:Int)⟩:fU),(⟨(0:Int),(0:Int),(0:Int),(0:Int),(0:Int)⟩:fU)⟩:bt),(6:Int)))
 (cond (decide (((pU t).getD default).fst < (0:Int)))
 (some ((⟨t.e0,t.e2,t.e1⟩:bt),(0:Int)))
 (some (t,(0:Int))))))
 none)
theorem V4 (t:bt):dp Try.prog (bu Try.prog KI KK (fun _=>false)) 9 9 114 [im t] = (te t).map (fun (r:bt×Int)=>KV.jI [im r.1,(kI .i64) r.2]):=by
 unfold te
 try simp only [ch]
 kernel_rfl
def E8:List KV→KR KV:=cA Try.prog 114 (cF (fun (r:bt×Int)=>KV.jI [im r.1,(kI .i64) r.2]) fun vs=>te (gz (vs.getD 0 .aw)))
theorem TI (w:Nat→KV):cM Try.prog [118] w 0 = [im (gz (ay Try.prog (ak Try.prog au) 118 (w 0)))]:=by kernel_rfl
theorem Gi:ca Try.prog 114 E8:=aY funcs mixed TG TH (L:=9) (n:=9) fun w=>by
 have e:aJ Try.prog 114 = [118]:=by kernel_rfl
 rw [e,TI]
 exact (V4 (gz (ay Try.prog (ak Try.prog au) 118 (w 0)))).trans (by kernel_rfl)
structure ll where
 mq:Int
 t4:Bool
 t7:(Sl Int)
 t8:Int
 t9:Int
instance:Inhabited ll:=⟨⟨default,default,default,default,default⟩⟩
def AJ (x:ll):List KV:=[.int .i64 x.mq,.bool x.t4,jf 3 (kI .i64) x.t7,.int .i64 x.t8,.int .i64 x.t9]
def AK (x:ll):List (List KV):=[]
def Nm (vs:List KV) (rs:List (List KV)):ll:=⟨intOf (vs.getD 0 .aw),nP (vs.getD 1 .aw),iQ intOf (vs.getD 2 .aw),intOf (vs.getD 3 .aw),intOf (vs.getD 4 .aw)⟩
def QL:aQ:=⟨[(0,⟨false,[.k (.int .i64)]⟩),(4,⟨false,[.k .bool]⟩),(7,⟨false,[.k (.slice 3)]⟩),(8,⟨false,[.k (.int .i64)]⟩),(9,⟨false,[.k (.int .i64)]⟩)],[],[]⟩
def aaR:=jk Try.prog (bu Try.prog [] [] (fun _=>false)) 9 9 124 26 (fh Try.prog 124 26) QL
def n4 (x:ll):aI ll:=
 (cond (decide (x.t9 < x.t8))
 (cond ((decide ((0:Int)≤x.t9))&&(decide (x.t9 < ((x.t7.n:Nat):Int))))
 (cond (decide ((x.t7.get (Int.toNat x.t9)) < (aj ((0:Int) - x.mq))))
 (.out aE.aq.ret (⟨x.mq,false,x.t7,x.t8,x.t9⟩:ll))
 (cond (decide ((x.t7.get (Int.toNat x.t9)) > x.mq))
 (.out aE.aq.ret (⟨x.mq,false,x.t7,x.t8,x.t9⟩:ll))
 (.next (⟨x.mq,x.t4,x.t7,x.t8,(aj (x.t9+(1:Int)))⟩:ll))))
 .fail)
 (.out (aE.aq.exit 0) x))
theorem V5 (x:ll):aaR (AJ x) (AK x)=aI.enc AJ AK (n4 x):=by
 unfold n4
 try simp only [aI.dn]
 kernel_rfl
def Cv:Lp:=⟨124,26,QL,fun vs rs=>dL AJ AK (goN n4 (Nm vs rs)) [aE.aq.exit 0,aE.aq.ret],false⟩
theorem aaS:Cv.Ok Try.prog:=eM funcs mixed ao.nil az.nil (L:=9) (n:=9) (step:=n4) (ev:=AJ) (er:=AK) (pa:=Nm) rfl (fun wv wr=>⟨by kernel_rfl,by kernel_rfl⟩) V5
theorem TJ:cC Try.prog Cv.f Cv.p=true:=by kernel_rfl
def Zf:List (Nat×(List KV→KR KV)):=[]
def Zg:List Lp:=[Cv]
theorem acZ:ao Try.prog Zf:=ao.nil
theorem ac0:az Try.prog Zg:=(az.cons aaS TJ az.nil)
def Ei (mq:Int) (l:(Sl Int)):(aI ll):=(goN n4 (⟨mq,false,l,((l.n:Nat):Int),(0:Int)⟩:ll))
def yc (mq:Int) (l:(Sl Int)):Option (Bool):=
 (cond ((Ei mq l).by (aE.aq.exit 0))
 (some (true))
 (cond ((Ei mq l).by aE.aq.ret)
 (some ((Ei mq l).st.t4))
 none))
theorem ae2 (mq:Int) (l:(Sl Int)):dp Try.prog (bu Try.prog Zf Zg (fun _=>false)) 9 9 124 [(kI .i64) mq,(jf 3 (kI .i64)) l] = (yc mq l).map kB:=by
 unfold yc
 try simp only [ch]
 kernel_rfl
def TK:List KV→KR KV:=cA Try.prog 124 (cF kB fun vs=>yc (intOf (vs.getD 0 .aw)) ((iQ intOf) (vs.getD 1 .aw)))
theorem ac1 (w:Nat→KV):cM Try.prog [3,26] w 0 = [(kI .i64) (intOf (ay Try.prog (ak Try.prog au) 3 (w 0))),(jf 3 (kI .i64)) ((iQ intOf) (ay Try.prog (ak Try.prog au) 26 (w 1)))]:=by kernel_rfl
theorem QM:ca Try.prog 124 TK:=aY funcs mixed acZ ac0 (L:=9) (n:=9) fun w=>by
 have e:aJ Try.prog 124 = [3,26]:=by kernel_rfl
 rw [e,ac1]
 exact (ae2 (intOf (ay Try.prog (ak Try.prog au) 3 (w 0))) ((iQ intOf) (ay Try.prog (ak Try.prog au) 26 (w 1)))).trans (by kernel_rfl)
def Nn:List (Nat×(List KV→KR KV)):=[(124,TK)]
def Np:List Lp:=[]
theorem V6:ao Try.prog Nn:=(ao.cons QM ao.nil)
theorem V7:az Try.prog Np:=az.nil
def yT (v:eE):(Option Bool):=(yc (4096:Int) (Sl.lit [v.x,v.y,v.z]))
def oy (v:eE):Option (Int):=
 (cond (yT v).isSome
 (cond (!((yT v).getD default))
 (some ((20:Int)))
 (some ((0:Int))))
 none)
theorem Zh (v:eE):dp Try.prog (bu Try.prog Nn Np (fun _=>false)) 9 9 108 [wM v] = (oy v).map (kI .i64):=by
 unfold oy
 try simp only [ch,yT,Ky]
 kernel_rfl
def vh:List KV→KR KV:=cA Try.prog 108 (cF (kI .i64) fun vs=>oy (yb (vs.getD 0 .aw)))
theorem V8 (w:Nat→KV):cM Try.prog [41] w 0 = [wM (yb (ay Try.prog (ak Try.prog au) 41 (w 0)))]:=by kernel_rfl
theorem sU:ca Try.prog 108 vh:=aY funcs mixed V6 V7 (L:=9) (n:=9) fun w=>by
 have e:aJ Try.prog 108 = [41]:=by kernel_rfl
 rw [e,V8]
 exact (Zh (yb (ay Try.prog (ak Try.prog au) 41 (w 0)))).trans (by kernel_rfl)
def Ej:List (Nat×(List KV→KR KV)):=[]
def Ek:List Lp:=[]
theorem Mu:ao Try.prog Ej:=ao.nil
theorem Mv:az Try.prog Ek:=az.nil
def dJ (n:Int) (low:Int) (high:Int):Option (Bool):=
 (cond (decide (n ≥ low))
 (some ((decide (n≤high))))
 (some (false)))
theorem OP (n:Int) (low:Int) (high:Int):dp Try.prog (bu Try.prog Ej Ek (fun _=>false)) 9 9 83 [(kI .i64) n,(kI .i64) low,(kI .i64) high] = (dJ n low high).map kB:=by
 unfold dJ
 try simp only [ch]
 kernel_rfl
def Gj:List KV→KR KV:=cA Try.prog 83 (cF kB fun vs=>dJ (intOf (vs.getD 0 .aw)) (intOf (vs.getD 1 .aw)) (intOf (vs.getD 2 .aw)))
theorem Mw (w:Nat→KV):cM Try.prog [3,3,3] w 0 = [(kI .i64) (intOf (ay Try.prog (ak Try.prog au) 3 (w 0))),(kI .i64) (intOf (ay Try.prog (ak Try.prog au) 3 (w 1))),(kI .i64) (intOf (ay Try.prog (ak Try.prog au) 3 (w 2)))]:=by kernel_rfl
theorem Mx:ca Try.prog 83 Gj:=aY funcs mixed Mu Mv (L:=9) (n:=9) fun w=>by
 have e:aJ Try.prog 83 = [3,3,3]:=by kernel_rfl
 rw [e,Mw]
 exact (OP (intOf (ay Try.prog (ak Try.prog au) 3 (w 0))) (intOf (ay Try.prog (ak Try.prog au) 3 (w 1))) (intOf (ay Try.prog (ak Try.prog au) 3 (w 2)))).trans (by kernel_rfl)
structure fj where
 e0:Int
 e1:Int
 e2:Int
instance:Inhabited fj:=⟨⟨default,default,default⟩⟩
def ajM (x:fj):List KV:=[.int .i64 x.e0,.int .i64 x.e1,.int .i64 x.e2]
def sV (x:fj):KV:=.agg (ajM x)
def ajN (c:Nat→KV):fj:=⟨intOf (c 0),intOf (c 1),intOf (c 2)⟩
def Bf (v:KV):fj:=ajN fun k=>v.cells.getD k .aw
structure gL where
 e0:fj
 e1:fj
 e2:fj
instance:Inhabited gL:=⟨⟨default,default,default⟩⟩
def ae3 (x:gL):List KV:=[.int .i64 x.e0.e0,.int .i64 x.e0.e1,.int .i64 x.e0.e2,.int .i64 x.e1.e0,.int .i64 x.e1.e1,.int .i64 x.e1.e2,.int .i64 x.e2.e0,.int .i64 x.e2.e1,.int .i64 x.e2.e2]
def yd (x:gL):KV:=.agg (ae3 x)
def ae4 (c:Nat→KV):gL:=⟨⟨intOf (c 0),intOf (c 1),intOf (c 2)⟩,⟨intOf (c 3),intOf (c 4),intOf (c 5)⟩,⟨intOf (c 6),intOf (c 7),intOf (c 8)⟩⟩
def qg (v:KV):gL:=ae4 fun k=>v.cells.getD k .aw
structure a8 where
 pos:eE
 m:gL
 TL:Int
 aL:Int
 w:Int
 h:Int
instance:Inhabited a8:=⟨⟨default,default,default,default,default,default⟩⟩
def KM (x:a8):List KV:=[.int .i64 x.pos.x,.int .i64 x.pos.y,.int .i64 x.pos.z,.int .i64 x.m.e0.e0,.int .i64 x.m.e0.e1,.int .i64 x.m.e0.e2,.int .i64 x.m.e1.e0,.int .i64 x.m.e1.e1,.int .i64 x.m.e1.e2,.int .i64 x.m.e2.e0,.int .i64 x.m.e2.e1,.int .i64 x.m.e2.e2,.int .i64 x.TL,.int .i64 x.aL,.int .i64 x.w,.int .i64 x.h]
def jB (x:a8):KV:=.agg (KM x)
def KN (c:Nat→KV):a8:=⟨⟨intOf (c 0),intOf (c 1),intOf (c 2)⟩,⟨⟨intOf (c 3),intOf (c 4),intOf (c 5)⟩,⟨intOf (c 6),intOf (c 7),intOf (c 8)⟩,⟨intOf (c 9),intOf (c 10),intOf (c 11)⟩⟩,intOf (c 12),intOf (c 13),intOf (c 14),intOf (c 15)⟩
def gn (v:KV):a8:=KN fun k=>v.cells.getD k .aw
def Gk:List (Nat×(List KV→KR KV)):=[(83,Gj),(108,vh)]
def Gl:List Lp:=[]
theorem OQ:ao Try.prog Gk:=(ao.cons Mx (ao.cons sU ao.nil))
theorem OS:az Try.prog Gl:=az.nil
def yU (c:a8):(Option Int):=(oy c.pos)
def yV (c:a8):(Option Bool):=(dJ c.TL (1:Int) (64:Int))
def yW (c:a8):(Option Bool):=(dJ c.aL (256:Int) (4096:Int))
def yX (c:a8):(Option Bool):=(dJ c.w (1:Int) (64:Int))
def yY (c:a8):(Option Bool):=(dJ c.h (1:Int) (64:Int))
def yZ (c:a8):(Option Bool):=(dJ c.m.e0.e0 (-(256:Int)) (256:Int))
def y7 (c:a8):(Option Bool):=(dJ c.m.e0.e1 (-(256:Int)) (256:Int))
def y8 (c:a8):(Option Bool):=(dJ c.m.e0.e2 (-(256:Int)) (256:Int))
def y9 (c:a8):(Option Bool):=(dJ c.m.e1.e0 (-(256:Int)) (256:Int))
def za (c:a8):(Option Bool):=(dJ c.m.e1.e1 (-(256:Int)) (256:Int))
def xC (c:a8):(Option Bool):=(dJ c.m.e1.e2 (-(256:Int)) (256:Int))
def xD (c:a8):(Option Bool):=(dJ c.m.e2.e0 (-(256:Int)) (256:Int))
def xE (c:a8):(Option Bool):=(dJ c.m.e2.e1 (-(256:Int)) (256:Int))
def xF (c:a8):(Option Bool):=(dJ c.m.e2.e2 (-(256:Int)) (256:Int))
def ln (c:a8):Option (Int):=
 (cond (yU c).isSome
 (cond (((yU c).getD default)==(0:Int))
 (cond (yV c).isSome
 (cond ((yV c).getD default)
 (cond (yW c).isSome
 (cond ((yW c).getD default)
 (cond (yX c).isSome
 (cond ((yX c).getD default)
 (cond (yY c).isSome
 (cond ((yY c).getD default)
 (cond (yZ c).isSome
 (cond ((yZ c).getD default)
 (cond (y7 c).isSome
 (cond ((y7 c).getD default)
 (cond (y8 c).isSome
 (cond ((y8 c).getD default)
 (cond (y9 c).isSome
 (cond ((y9 c).getD default)
 (cond (za c).isSome
 (cond ((za c).getD default)
 (cond (xC c).isSome
 (cond ((xC c).getD default)
 (cond (xD c).isSome
 (cond ((xD c).getD default)
 (cond (xE c).isSome
 (cond ((xE c).getD default)
 (cond (xF c).isSome
 (cond (!((xF c).getD default))
 (some ((150:Int)))
 (some ((0:Int))))
 none)
 (some ((150:Int))))
 none)
 (some ((150:Int))))
 none)
 (some ((150:Int))))
 none)
 (some ((150:Int))))
 none)
 (some ((150:Int))))
 none)
 (some ((150:Int))))
 none)
 (some ((150:Int))))
 none)
 (some ((150:Int))))
 none)
 (some ((150:Int))))
 none)
 (some ((150:Int))))
 none)
 (some ((150:Int))))
 none)
 (some ((150:Int))))
 none)
 (some ((150:Int))))
 none)
theorem QN (c:a8):dp Try.prog (bu Try.prog Gk Gl (fun _=>false)) 9 9 82 [jB c] = (ln c).map (kI .i64):=by
 unfold ln
 try simp only [ch]
 kernel_rfl
def xc:List KV→KR KV:=cA Try.prog 82 (cF (kI .i64) fun vs=>ln (gn (vs.getD 0 .aw)))
theorem OT (w:Nat→KV):cM Try.prog [53] w 0 = [jB (gn (ay Try.prog (ak Try.prog au) 53 (w 0)))]:=by kernel_rfl
theorem xG:ca Try.prog 82 xc:=aY funcs mixed OQ OS (L:=9) (n:=9) fun w=>by
 have e:aJ Try.prog 82 = [53]:=by kernel_rfl
 rw [e,OT]
 exact (QN (gn (ay Try.prog (ak Try.prog au) 53 (w 0)))).trans (by kernel_rfl)
end
end Go.Proofs.Ytahhdndhkgbcjaa.b
end
section
namespace Go.Proofs.Ytahhdndhkgbcjaa.b
open Go.K
set_option linter.unusedVariables false
set_option linter.unusedSimpArgs false
noncomputable section
def QO:List (Nat×(List KV→KR KV)):=[]
def QP:List Lp:=[]
theorem Zi:ao Try.prog QO:=ao.nil
theorem Zj:az Try.prog QP:=az.nil
def ye (m:gL):Option (Bool):=
 (cond (decide (m.e0.e0 < (-(1024:Int))))
 (some (false))
 (cond (decide (m.e0.e0 > (1024:Int)))
 (some (false))
 (cond (decide (m.e0.e1 < (-(1024:Int))))
 (some (false))
 (cond (decide (m.e0.e1 > (1024:Int)))
 (some (false))
 (cond (decide (m.e0.e2 < (-(1024:Int))))
 (some (false))
 (cond (decide (m.e0.e2 > (1024:Int)))
 (some (false))
 (cond (decide (m.e1.e0 < (-(1024:Int))))
 (some (false))
 (cond (decide (m.e1.e0 > (1024:Int)))
 (some (false))
 (cond (decide (m.e1.e1 < (-(1024:Int))))
 (some (false))
 (cond (decide (m.e1.e1 > (1024:Int)))
 (some (false))
 (cond (decide (m.e1.e2 < (-(1024:Int))))
 (some (false))
 (cond (decide (m.e1.e2 > (1024:Int)))
 (some (false))
 (cond (decide (m.e2.e0 < (-(1024:Int))))
 (some (false))
 (cond (decide (m.e2.e0 > (1024:Int)))
 (some (false))
 (cond (decide (m.e2.e1 < (-(1024:Int))))
 (some (false))
 (cond (decide (m.e2.e1 > (1024:Int)))
 (some (false))
 (cond (decide (m.e2.e2 < (-(1024:Int))))
 (some (false))
 (cond (decide (m.e2.e2 > (1024:Int)))
 (some (false))
 (some (true))))))))))))))))))))
theorem aaT (m:gL):dp Try.prog (bu Try.prog QO QP (fun _=>false)) 9 9 138 [yd m] = (ye m).map kB:=by
 unfold ye
 try simp only [ch]
 kernel_rfl
def Vx:List KV→KR KV:=cA Try.prog 138 (cF kB fun vs=>ye (qg (vs.getD 0 .aw)))
theorem Zk (w:Nat→KV):cM Try.prog [51] w 0 = [yd (qg (ay Try.prog (ak Try.prog au) 51 (w 0)))]:=by kernel_rfl
theorem Zl:ca Try.prog 138 Vx:=aY funcs mixed Zi Zj (L:=9) (n:=9) fun w=>by
 have e:aJ Try.prog 138 = [51]:=by kernel_rfl
 rw [e,Zk]
 exact (aaT (qg (ay Try.prog (ak Try.prog au) 51 (w 0)))).trans (by kernel_rfl)
def QQ:List (Nat×(List KV→KR KV)):=[]
def QR:List Lp:=[]
theorem Zm:ao Try.prog QQ:=ao.nil
theorem Zn:az Try.prog QR:=az.nil
def KO (v:eE):Option (fj):=
 (some ((⟨v.x,v.y,v.z⟩:fj)))
theorem aaU (v:eE):dp Try.prog (bu Try.prog QQ QR (fun _=>false)) 9 9 141 [wM v] = (KO v).map sV:=by
 unfold KO
 kernel_rfl
def Vy:List KV→KR KV:=cA Try.prog 141 (cF sV fun vs=>KO (yb (vs.getD 0 .aw)))
theorem Zo (w:Nat→KV):cM Try.prog [41] w 0 = [wM (yb (ay Try.prog (ak Try.prog au) 41 (w 0)))]:=by kernel_rfl
theorem Zp:ca Try.prog 141 Vy:=aY funcs mixed Zm Zn (L:=9) (n:=9) fun w=>by
 have e:aJ Try.prog 141 = [41]:=by kernel_rfl
 rw [e,Zo]
 exact (aaU (yb (ay Try.prog (ak Try.prog au) 41 (w 0)))).trans (by kernel_rfl)
def QS:List (Nat×(List KV→KR KV)):=[(99,uF)]
def QT:List Lp:=[]
theorem Zq:ao Try.prog QS:=(ao.cons tB ao.nil)
theorem Zr:az Try.prog QT:=az.nil
def E9 (m:gL) (v:fj):(Option (Prod Int Int)):=(dQ (aj ((aj ((aj ((0:Int)+(aj (m.e0.e0 * v.e0))))+(aj (m.e0.e1 * v.e1))))+(aj (m.e0.e2 * v.e2)))) (256:Int))
def Fa (m:gL) (v:fj):(Option (Prod Int Int)):=(dQ (aj ((aj ((aj ((0:Int)+(aj (m.e1.e0 * v.e0))))+(aj (m.e1.e1 * v.e1))))+(aj (m.e1.e2 * v.e2)))) (256:Int))
def Fb (m:gL) (v:fj):(Option (Prod Int Int)):=(dQ (aj ((aj ((aj ((0:Int)+(aj (m.e2.e0 * v.e0))))+(aj (m.e2.e1 * v.e1))))+(aj (m.e2.e2 * v.e2)))) (256:Int))
def yf (m:gL) (v:fj):Option (fj):=
 (cond (E9 m v).isSome
 (cond (Fa m v).isSome
 (cond (Fb m v).isSome
 (some ((⟨((E9 m v).getD default).fst,((Fa m v).getD default).fst,((Fb m v).getD default).fst⟩:fj)))
 none)
 none)
 none)
theorem aaV (m:gL) (v:fj):dp Try.prog (bu Try.prog QS QT (fun _=>false)) 9 9 140 [yd m,sV v] = (yf m v).map sV:=by
 unfold yf
 try simp only [ch]
 kernel_rfl
def Vz:List KV→KR KV:=cA Try.prog 140 (cF sV fun vs=>yf (qg (vs.getD 0 .aw)) (Bf (vs.getD 1 .aw)))
theorem Zs (w:Nat→KV):cM Try.prog [51,50] w 0 = [yd (qg (ay Try.prog (ak Try.prog au) 51 (w 0))),sV (Bf (ay Try.prog (ak Try.prog au) 50 (w 1)))]:=by kernel_rfl
theorem Zt:ca Try.prog 140 Vz:=aY funcs mixed Zq Zr (L:=9) (n:=9) fun w=>by
 have e:aJ Try.prog 140 = [51,50]:=by kernel_rfl
 rw [e,Zs]
 exact (aaV (qg (ay Try.prog (ak Try.prog au) 51 (w 0))) (Bf (ay Try.prog (ak Try.prog au) 50 (w 1)))).trans (by kernel_rfl)
def Nq:List (Nat×(List KV→KR KV)):=[]
def Nr:List Lp:=[]
theorem V9:ao Try.prog Nq:=ao.nil
theorem Wa:az Try.prog Nr:=az.nil
def H8 (l:fj):Option (eE):=
 (some ((⟨l.e0,l.e1,l.e2⟩:eE)))
theorem Zu (l:fj):dp Try.prog (bu Try.prog Nq Nr (fun _=>false)) 9 9 139 [sV l] = (H8 l).map wM:=by
 unfold H8
 kernel_rfl
def QU:List KV→KR KV:=cA Try.prog 139 (cF wM fun vs=>H8 (Bf (vs.getD 0 .aw)))
theorem Wb (w:Nat→KV):cM Try.prog [50] w 0 = [sV (Bf (ay Try.prog (ak Try.prog au) 50 (w 0)))]:=by kernel_rfl
theorem Wc:ca Try.prog 139 QU:=aY funcs mixed V9 Wa (L:=9) (n:=9) fun w=>by
 have e:aJ Try.prog 139 = [50]:=by kernel_rfl
 rw [e,Wb]
 exact (Zu (Bf (ay Try.prog (ak Try.prog au) 50 (w 0)))).trans (by kernel_rfl)
def QV:List (Nat×(List KV→KR KV)):=[(139,QU),(140,Vz),(141,Vy),(124,TK),(138,Vx)]
def QW:List Lp:=[]
theorem Zv:ao Try.prog QV:=(ao.cons Wc (ao.cons Zt (ao.cons Zp (ao.cons QM (ao.cons Zl ao.nil)))))
theorem Zw:az Try.prog QW:=az.nil
def Fe (m:gL) (v:eE):(Option Bool):=(ye m)
def AL (m:gL) (v:eE):(Option Bool):=(yc (32768:Int) (Sl.lit [v.x,v.y,v.z]))
def wN (m:gL) (v:eE):(Option fj):=(yf m (⟨v.x,v.y,v.z⟩:fj))
def yg (m:gL) (v:eE):Option (eE×Int):=
 (cond (Fe m v).isSome
 (cond (!((Fe m v).getD default))
 (some ((⟨(0:Int),(0:Int),(0:Int)⟩:eE),(2:Int)))
 (cond (AL m v).isSome
 (cond (!((AL m v).getD default))
 (some ((⟨(0:Int),(0:Int),(0:Int)⟩:eE),(2:Int)))
 (cond (wN m v).isSome
 (some ((⟨((wN m v).getD default).e0,((wN m v).getD default).e1,((wN m v).getD default).e2⟩:eE),(0:Int)))
 none))
 none))
 none)
theorem aaW (m:gL) (v:eE):dp Try.prog (bu Try.prog QV QW (fun _=>false)) 9 9 127 [yd m,wM v] = (yg m v).map (fun (r:eE×Int)=>KV.jI [wM r.1,(kI .i64) r.2]):=by
 unfold yg
 try simp only [ch,AL,Ky]
 kernel_rfl
def VA:List KV→KR KV:=cA Try.prog 127 (cF (fun (r:eE×Int)=>KV.jI [wM r.1,(kI .i64) r.2]) fun vs=>yg (qg (vs.getD 0 .aw)) (yb (vs.getD 1 .aw)))
theorem Zx (w:Nat→KV):cM Try.prog [51,41] w 0 = [yd (qg (ay Try.prog (ak Try.prog au) 51 (w 0))),wM (yb (ay Try.prog (ak Try.prog au) 41 (w 1)))]:=by kernel_rfl
theorem Zy:ca Try.prog 127 VA:=aY funcs mixed Zv Zw (L:=9) (n:=9) fun w=>by
 have e:aJ Try.prog 127 = [51,41]:=by kernel_rfl
 rw [e,Zx]
 exact (aaW (qg (ay Try.prog (ak Try.prog au) 51 (w 0))) (yb (ay Try.prog (ak Try.prog au) 41 (w 1)))).trans (by kernel_rfl)
def IV:List (Nat×(List KV→KR KV)):=[(127,VA),(108,vh),(82,xc)]
def IW:List Lp:=[]
theorem QX:ao Try.prog IV:=(ao.cons Zy (ao.cons sU (ao.cons xG ao.nil)))
theorem QY:az Try.prog IW:=az.nil
def vi (c:a8) (v:eE):(Option Int):=(ln c)
def vj (c:a8) (v:eE):(Option Int):=(oy v)
def vk (c:a8) (v:eE):(Option (Prod eE Int)):=(yg c.m (⟨(aj (v.x - c.pos.x)),(aj (v.y - c.pos.y)),(aj (v.z - c.pos.z))⟩:eE))
def nE (c:a8) (v:eE):Option (eE×Int):=
 (cond (vi c v).isSome
 (cond (((vi c v).getD default) != (0:Int))
 (some ((⟨(0:Int),(0:Int),(0:Int)⟩:eE),((vi c v).getD default)))
 (cond (vj c v).isSome
 (cond (((vj c v).getD default) != (0:Int))
 (some ((⟨(0:Int),(0:Int),(0:Int)⟩:eE),((vj c v).getD default)))
 (cond (vk c v).isSome
 (some (((vk c v).getD default).fst,((vk c v).getD default).snd))
 none))
 none))
 none)
theorem TM (c:a8) (v:eE):dp Try.prog (bu Try.prog IV IW (fun _=>false)) 9 9 110 [jB c,wM v] = (nE c v).map (fun (r:eE×Int)=>KV.jI [wM r.1,(kI .i64) r.2]):=by
 unfold nE
 try simp only [ch]
 kernel_rfl
def Dn:List KV→KR KV:=cA Try.prog 110 (cF (fun (r:eE×Int)=>KV.jI [wM r.1,(kI .i64) r.2]) fun vs=>nE (gn (vs.getD 0 .aw)) (yb (vs.getD 1 .aw)))
theorem QZ (w:Nat→KV):cM Try.prog [53,41] w 0 = [jB (gn (ay Try.prog (ak Try.prog au) 53 (w 0))),wM (yb (ay Try.prog (ak Try.prog au) 41 (w 1)))]:=by kernel_rfl
theorem El:ca Try.prog 110 Dn:=aY funcs mixed QX QY (L:=9) (n:=9) fun w=>by
 have e:aJ Try.prog 110 = [53,41]:=by kernel_rfl
 rw [e,QZ]
 exact (TM (gn (ay Try.prog (ak Try.prog au) 53 (w 0))) (yb (ay Try.prog (ak Try.prog au) 41 (w 1)))).trans (by kernel_rfl)
structure gN where
 t4:Int
 t14:(Sl bZ)
 t15:Int
 t16:Int
instance:Inhabited gN:=⟨⟨default,default,default,default⟩⟩
def tD (x:gN):List KV:=[.int .i64 x.t4,jf 180 mU x.t14,.int .i64 x.t15,.int .i64 x.t16]
def tE (x:gN):List (List KV):=[]
def Em (vs:List KV) (rs:List (List KV)):gN:=⟨intOf (vs.getD 0 .aw),iQ jK (vs.getD 1 .aw),intOf (vs.getD 2 .aw),intOf (vs.getD 3 .aw)⟩
def Gm:aQ:=⟨[(4,⟨false,[.k (.int .i64)]⟩),(14,⟨false,[.k (.slice 180)]⟩),(15,⟨false,[.k (.int .i64)]⟩),(16,⟨false,[.k (.int .i64)]⟩)],[],[]⟩
def Q0:=jk Try.prog (bu Try.prog [(130,qE)] [] (fun _=>false)) 9 9 128 58 (fh Try.prog 128 58) Gm
def ss (x:gN):(Option Int):=(kV (x.t14.get (Int.toNat x.t16)))
def kE (x:gN):aI gN:=
 (cond (decide (x.t16 < x.t15))
 (cond ((decide ((0:Int)≤x.t16))&&(decide (x.t16 < ((x.t14.n:Nat):Int))))
 (cond (ss x).isSome
 (cond (((ss x).getD default) != (0:Int))
 (.out aE.aq.ret (⟨((ss x).getD default),x.t14,x.t15,x.t16⟩:gN))
 (.next (⟨x.t4,x.t14,x.t15,(aj (x.t16+(1:Int)))⟩:gN)))
 .fail)
 .fail)
 (.out (aE.aq.exit 0) x))
theorem Mz (x:gN):Q0 (tD x) (tE x)=aI.enc tD tE (kE x):=by
 unfold kE
 try simp only [aI.dn]
 kernel_rfl
def vl:Lp:=⟨128,58,Gm,fun vs rs=>dL tD tE (goN kE (Em vs rs)) [aE.aq.exit 0,aE.aq.ret],false⟩
theorem Q5:vl.Ok Try.prog:=eM funcs mixed (ao.cons oQ ao.nil) az.nil (L:=9) (n:=9) (step:=kE) (ev:=tD) (er:=tE) (pa:=Em) rfl (fun wv wr=>⟨by kernel_rfl,by kernel_rfl⟩) Mz
theorem KP:cC Try.prog vl.f vl.p=true:=by kernel_rfl
def KQ:List (Nat×(List KV→KR KV)):=[(130,qE)]
def KS:List Lp:=[vl]
theorem TN:ao Try.prog KQ:=(ao.cons oQ ao.nil)
theorem TP:az Try.prog KS:=(az.cons Q5 KP az.nil)
def xd (aL:Int) (l:(Sl bZ)):(aI gN):=(goN kE (⟨(0:Int),l,((l.n:Nat):Int),(0:Int)⟩:gN))
def tf (aL:Int) (l:(Sl bZ)):Option (Int):=
 (cond (decide (aL < (256:Int)))
 (some ((2:Int)))
 (cond (decide (aL > (4096:Int)))
 (some ((2:Int)))
 (cond ((xd aL l).by (aE.aq.exit 0))
 (some ((0:Int)))
 (cond ((xd aL l).by aE.aq.ret)
 (some ((xd aL l).st.t4))
 none))))
theorem Wd (aL:Int) (l:(Sl bZ)):dp Try.prog (bu Try.prog KQ KS (fun _=>false)) 9 9 128 [(kI .i64) aL,(jf 180 mU) l] = (tf aL l).map (kI .i64):=by
 unfold tf
 try simp only [ch]
 kernel_rfl
def Ns:List KV→KR KV:=cA Try.prog 128 (cF (kI .i64) fun vs=>tf (intOf (vs.getD 0 .aw)) ((iQ jK) (vs.getD 1 .aw)))
theorem TQ (w:Nat→KV):cM Try.prog [3,204] w 0 = [(kI .i64) (intOf (ay Try.prog (ak Try.prog au) 3 (w 0))),(jf 180 mU) ((iQ jK) (ay Try.prog (ak Try.prog au) 204 (w 1)))]:=by kernel_rfl
theorem TR:ca Try.prog 128 Ns:=aY funcs mixed TN TP (L:=9) (n:=9) fun w=>by
 have e:aJ Try.prog 128 = [3,204]:=by kernel_rfl
 rw [e,TQ]
 exact (Wd (intOf (ay Try.prog (ak Try.prog au) 3 (w 0))) ((iQ jK) (ay Try.prog (ak Try.prog au) 204 (w 1)))).trans (by kernel_rfl)
structure Q6 where
 e0:Int
 e1:Int
 e2:Int
 e3:Int
instance:Inhabited Q6:=⟨⟨default,default,default,default⟩⟩
def ajO (x:Q6):List KV:=[.int .i64 x.e0,.int .i64 x.e1,.int .i64 x.e2,.int .i64 x.e3]
def ae5 (x:Q6):KV:=.agg (ajO x)
def IX:List (Nat×(List KV→KR KV)):=[]
def IY:List Lp:=[]
theorem Q7:ao Try.prog IX:=ao.nil
theorem Q8:az Try.prog IY:=az.nil
def Dp (p:bZ):Option (Q6):=
 (some ((⟨p.p.x,p.p.y,p.u,p.v⟩:Q6)))
theorem TS (p:bZ):dp Try.prog (bu Try.prog IX IY (fun _=>false)) 9 9 142 [mU p] = (Dp p).map ae5:=by
 unfold Dp
 kernel_rfl
def KT:List KV→KR KV:=cA Try.prog 142 (cF ae5 fun vs=>Dp (jK (vs.getD 0 .aw)))
theorem Q9 (w:Nat→KV):cM Try.prog [180] w 0 = [mU (jK (ay Try.prog (ak Try.prog au) 180 (w 0)))]:=by kernel_rfl
theorem Ra:ca Try.prog 142 KT:=aY funcs mixed Q7 Q8 (L:=9) (n:=9) fun w=>by
 have e:aJ Try.prog 142 = [180]:=by kernel_rfl
 rw [e,Q9]
 exact (TS (jK (ay Try.prog (ak Try.prog au) 180 (w 0)))).trans (by kernel_rfl)
def Rb:List (Nat×(List KV→KR KV)):=[(99,uF),(142,KT),(128,Ns)]
def Rc:List Lp:=[]
theorem Zz:ao Try.prog Rb:=(ao.cons tB (ao.cons Ra (ao.cons TR ao.nil)))
theorem ZA:az Try.prog Rc:=az.nil
def wO (aL:Int) (a:bZ) (b:bZ):(Option Int):=(tf aL (Sl.lit [a,b]))
def Ff (aL:Int) (a:bZ) (b:bZ):(Option (Prod Int Int)):=(dQ (aj ((aj (b.p.x - a.p.x)) * (aj (aL - a.p.z)))) (aj (b.p.z - a.p.z)))
def Fg (aL:Int) (a:bZ) (b:bZ):(Option (Prod Int Int)):=(dQ (aj ((aj (b.p.y - a.p.y)) * (aj (aL - a.p.z)))) (aj (b.p.z - a.p.z)))
def Fh (aL:Int) (a:bZ) (b:bZ):(Option (Prod Int Int)):=(dQ (aj ((aj (b.u - a.u)) * (aj (aL - a.p.z)))) (aj (b.p.z - a.p.z)))
def Fi (aL:Int) (a:bZ) (b:bZ):(Option (Prod Int Int)):=(dQ (aj ((aj (b.v - a.v)) * (aj (aL - a.p.z)))) (aj (b.p.z - a.p.z)))
def eN (aL:Int) (a:bZ) (b:bZ):Option (bZ×Int):=
 (cond (wO aL a b).isSome
 (cond (((wO aL a b).getD default) != (0:Int))
 (some ((⟨(⟨(0:Int),(0:Int),(0:Int)⟩:eE),(0:Int),(0:Int)⟩:bZ),((wO aL a b).getD default)))
 (cond (decide (a.p.z ≥ aL))
 (some ((⟨(⟨(0:Int),(0:Int),(0:Int)⟩:eE),(0:Int),(0:Int)⟩:bZ),(6:Int)))
 (cond (decide (b.p.z < aL))
 (some ((⟨(⟨(0:Int),(0:Int),(0:Int)⟩:eE),(0:Int),(0:Int)⟩:bZ),(6:Int)))
 (cond (Ff aL a b).isSome
 (cond (Fg aL a b).isSome
 (cond (Fh aL a b).isSome
 (cond (Fi aL a b).isSome
 (some ((⟨(⟨(aj (a.p.x+((Ff aL a b).getD default).fst)),(aj (a.p.y+((Fg aL a b).getD default).fst)),aL⟩:eE),(aj (a.u+((Fh aL a b).getD default).fst)),(aj (a.v+((Fi aL a b).getD default).fst))⟩:bZ),(0:Int)))
 none)
 none)
 none)
 none))))
 none)
theorem aaX (aL:Int) (a:bZ) (b:bZ):dp Try.prog (bu Try.prog Rb Rc (fun _=>false)) 9 9 129 [(kI .i64) aL,mU a,mU b] = (eN aL a b).map (fun (r:bZ×Int)=>KV.jI [mU r.1,(kI .i64) r.2]):=by
 unfold eN
 try simp only [ch,wO,agk]
 kernel_rfl
def En:List KV→KR KV:=cA Try.prog 129 (cF (fun (r:bZ×Int)=>KV.jI [mU r.1,(kI .i64) r.2]) fun vs=>eN (intOf (vs.getD 0 .aw)) (jK (vs.getD 1 .aw)) (jK (vs.getD 2 .aw)))
theorem ZB (w:Nat→KV):cM Try.prog [3,180,180] w 0 = [(kI .i64) (intOf (ay Try.prog (ak Try.prog au) 3 (w 0))),mU (jK (ay Try.prog (ak Try.prog au) 180 (w 1))),mU (jK (ay Try.prog (ak Try.prog au) 180 (w 2)))]:=by kernel_rfl
theorem Dq:ca Try.prog 129 En:=aY funcs mixed Zz ZA (L:=9) (n:=9) fun w=>by
 have e:aJ Try.prog 129 = [3,180,180]:=by kernel_rfl
 rw [e,ZB]
 exact (aaX (intOf (ay Try.prog (ak Try.prog au) 3 (w 0))) (jK (ay Try.prog (ak Try.prog au) 180 (w 1))) (jK (ay Try.prog (ak Try.prog au) 180 (w 2)))).trans (by kernel_rfl)
def IZ:List (Nat×(List KV→KR KV)):=[(115,Cu)]
def I0:List Lp:=[]
theorem Rd:ao Try.prog IZ:=(ao.cons BL ao.nil)
theorem Re:az Try.prog I0:=az.nil
def oS (t:bt):(Option (Prod Int Int)):=(nu t)
def rB (t:bt):Option (Int):=
 (cond (oS t).isSome
 (cond (((oS t).getD default).snd==(0:Int))
 (cond (decide (((oS t).getD default).fst≤(0:Int)))
 (some ((6:Int)))
 (some (((oS t).getD default).snd)))
 (some (((oS t).getD default).snd)))
 none)
theorem TT (t:bt):dp Try.prog (bu Try.prog IZ I0 (fun _=>false)) 9 9 86 [im t] = (rB t).map (kI .i64):=by
 unfold rB
 try simp only [ch]
 kernel_rfl
def KU:List KV→KR KV:=cA Try.prog 86 (cF (kI .i64) fun vs=>rB (gz (vs.getD 0 .aw)))
theorem Rf (w:Nat→KV):cM Try.prog [118] w 0 = [im (gz (ay Try.prog (ak Try.prog au) 118 (w 0)))]:=by kernel_rfl
theorem Rg:ca Try.prog 86 KU:=aY funcs mixed Rd Re (L:=9) (n:=9) fun w=>by
 have e:aJ Try.prog 86 = [118]:=by kernel_rfl
 rw [e,Rf]
 exact (TT (gz (ay Try.prog (ak Try.prog au) 118 (w 0)))).trans (by kernel_rfl)
def I1:List (Nat×(List KV→KR KV)):=[]
def I2:List Lp:=[]
theorem Rh:ao Try.prog I1:=ao.nil
theorem Ri:az Try.prog I2:=az.nil
def rC (x:Int) (y:Int):Option (Bool):=
 (cond (decide ((min x y) ≥ (0:Int)))
 (some ((decide ((max x y) < (64:Int)))))
 (some (false)))
theorem TU (x:Int) (y:Int):dp Try.prog (bu Try.prog I1 I2 (fun _=>false)) 9 9 87 [(kI .i64) x,(kI .i64) y] = (rC x y).map kB:=by
 unfold rC
 try simp only [ch]
 kernel_rfl
def KW:List KV→KR KV:=cA Try.prog 87 (cF kB fun vs=>rC (intOf (vs.getD 0 .aw)) (intOf (vs.getD 1 .aw)))
theorem Rj (w:Nat→KV):cM Try.prog [3,3] w 0 = [(kI .i64) (intOf (ay Try.prog (ak Try.prog au) 3 (w 0))),(kI .i64) (intOf (ay Try.prog (ak Try.prog au) 3 (w 1)))]:=by kernel_rfl
theorem Rl:ca Try.prog 87 KW:=aY funcs mixed Rh Ri (L:=9) (n:=9) fun w=>by
 have e:aJ Try.prog 87 = [3,3]:=by kernel_rfl
 rw [e,Rj]
 exact (TU (intOf (ay Try.prog (ak Try.prog au) 3 (w 0))) (intOf (ay Try.prog (ak Try.prog au) 3 (w 1)))).trans (by kernel_rfl)
def Gn:List (Nat×(List KV→KR KV)):=[]
def Gp:List Lp:=[]
theorem OU:ao Try.prog Gn:=ao.nil
theorem OV:az Try.prog Gp:=az.nil
def sW (n:Int):Option (Int):=
 (some ((aj ((aj ((8:Int) * n))+(4:Int)))))
theorem Rm (n:Int):dp Try.prog (bu Try.prog Gn Gp (fun _=>false)) 9 9 120 [(kI .i64) n] = (sW n).map (kI .i64):=by
 unfold sW
 kernel_rfl
def I3:List KV→KR KV:=cA Try.prog 120 (cF (kI .i64) fun vs=>sW (intOf (vs.getD 0 .aw)))
theorem OW (w:Nat→KV):cM Try.prog [3] w 0 = [(kI .i64) (intOf (ay Try.prog (ak Try.prog au) 3 (w 0)))]:=by kernel_rfl
theorem OX:ca Try.prog 120 I3:=aY funcs mixed OU OV (L:=9) (n:=9) fun w=>by
 have e:aJ Try.prog 120 = [3]:=by kernel_rfl
 rw [e,OW]
 exact (Rm (intOf (ay Try.prog (ak Try.prog au) 3 (w 0)))).trans (by kernel_rfl)
def I4:List (Nat×(List KV→KR KV)):=[(120,I3),(87,KW),(86,KU)]
def I5:List Lp:=[]
theorem Rn:ao Try.prog I4:=(ao.cons OX (ao.cons Rl (ao.cons Rg ao.nil)))
theorem Ro:az Try.prog I5:=az.nil
def vm (t:bt) (x:Int) (y:Int):(Option Int):=(rB t)
def Af (t:bt) (x:Int) (y:Int):(Option Bool):=(rC x y)
def vo (t:bt) (x:Int) (y:Int):(Option Int):=(sW y)
def vp (t:bt) (x:Int) (y:Int):(Option Int):=(sW x)
def mr (t:bt) (x:Int) (y:Int):Option (fj×Int):=
 (cond (vm t x y).isSome
 (cond (((vm t x y).getD default) != (0:Int))
 (some ((⟨(0:Int),(0:Int),(0:Int)⟩:fj),((vm t x y).getD default)))
 (cond (Af t x y).isSome
 (cond (!((Af t x y).getD default))
 (some ((⟨(0:Int),(0:Int),(0:Int)⟩:fj),(2:Int)))
 (some ((⟨(aj ((aj ((aj (t.e2.x - t.e1.x)) * (aj (((vo t x y).getD default) - t.e1.y)))) - (aj ((aj (((vp t x y).getD default) - t.e1.x)) * (aj (t.e2.y - t.e1.y)))))),(aj ((aj ((aj (t.e0.x - t.e2.x)) * (aj (((vo t x y).getD default) - t.e2.y)))) - (aj ((aj (((vp t x y).getD default) - t.e2.x)) * (aj (t.e0.y - t.e2.y)))))),(aj ((aj ((aj (t.e1.x - t.e0.x)) * (aj (((vo t x y).getD default) - t.e0.y)))) - (aj ((aj (((vp t x y).getD default) - t.e0.x)) * (aj (t.e1.y - t.e0.y))))))⟩:fj),(0:Int))))
 none))
 none)
theorem TV (t:bt) (x:Int) (y:Int):dp Try.prog (bu Try.prog I4 I5 (fun _=>false)) 9 9 98 [im t,(kI .i64) x,(kI .i64) y] = (mr t x y).map (fun (r:fj×Int)=>KV.jI [sV r.1,(kI .i64) r.2]):=by
 unfold mr
 try simp only [ch]
 kernel_rfl
def Dr:List KV→KR KV:=cA Try.prog 98 (cF (fun (r:fj×Int)=>KV.jI [sV r.1,(kI .i64) r.2]) fun vs=>mr (gz (vs.getD 0 .aw)) (intOf (vs.getD 1 .aw)) (intOf (vs.getD 2 .aw)))
theorem Rp (w:Nat→KV):cM Try.prog [118,3,3] w 0 = [im (gz (ay Try.prog (ak Try.prog au) 118 (w 0))),(kI .i64) (intOf (ay Try.prog (ak Try.prog au) 3 (w 1))),(kI .i64) (intOf (ay Try.prog (ak Try.prog au) 3 (w 2)))]:=by kernel_rfl
theorem Eo:ca Try.prog 98 Dr:=aY funcs mixed Rn Ro (L:=9) (n:=9) fun w=>by
 have e:aJ Try.prog 98 = [118,3,3]:=by kernel_rfl
 rw [e,Rp]
 exact (TV (gz (ay Try.prog (ak Try.prog au) 118 (w 0))) (intOf (ay Try.prog (ak Try.prog au) 3 (w 1))) (intOf (ay Try.prog (ak Try.prog au) 3 (w 2)))).trans (by kernel_rfl)
def Gq:List (Nat×(List KV→KR KV)):=[(98,Dr)]
def Gr:List Lp:=[]
theorem OY:ao Try.prog Gq:=(ao.cons Eo ao.nil)
theorem OZ:az Try.prog Gr:=az.nil
def ai (t:bt) (x:Int) (y:Int):(Option (Prod fj Int)):=(mr t x y)
def pV (t:bt) (x:Int) (y:Int):Option (Bool×Int):=
 (cond (ai t x y).isSome
 (cond (((ai t x y).getD default).snd != (0:Int))
 (some (false,((ai t x y).getD default).snd))
 (cond (decide (t.e2.y < t.e1.y))
 (cond (decide (((ai t x y).getD default).fst.e0 < (0:Int)))
 (some (false,(0:Int)))
 (cond (((ai t x y).getD default).fst.e0==(0:Int))
 (cond (decide (t.e0.y < t.e2.y))
 (cond (decide (((ai t x y).getD default).fst.e1 < (0:Int)))
 (some (false,(0:Int)))
 (cond (((ai t x y).getD default).fst.e1==(0:Int))
 (cond (decide (t.e1.y < t.e0.y))
 (cond (decide (((ai t x y).getD default).fst.e2 < (0:Int)))
 (some (false,(0:Int)))
 (cond (((ai t x y).getD default).fst.e2==(0:Int))
 (some (true,(0:Int)))
 (some (true,(0:Int)))))
 (cond (t.e1.y==t.e0.y)
 (cond (decide (((ai t x y).getD default).fst.e2 < (0:Int)))
 (some (false,(0:Int)))
 (cond (((ai t x y).getD default).fst.e2==(0:Int))
 (cond (!(decide (t.e1.x > t.e0.x)))
 (some (false,(0:Int)))
 (some (true,(0:Int))))
 (some (true,(0:Int)))))
 (cond (decide (((ai t x y).getD default).fst.e2 < (0:Int)))
 (some (false,(0:Int)))
 (cond (((ai t x y).getD default).fst.e2==(0:Int))
 (some (false,(0:Int)))
 (some (true,(0:Int)))))))
 (cond (decide (t.e1.y < t.e0.y))
 (cond (decide (((ai t x y).getD default).fst.e2 < (0:Int)))
 (some (false,(0:Int)))
 (cond (((ai t x y).getD default).fst.e2==(0:Int))
 (some (true,(0:Int)))
 (some (true,(0:Int)))))
 (cond (t.e1.y==t.e0.y)
 (cond (decide (((ai t x y).getD default).fst.e2 < (0:Int)))
 (some (false,(0:Int)))
 (cond (((ai t x y).getD default).fst.e2==(0:Int))
 (cond (!(decide (t.e1.x > t.e0.x)))
 (some (false,(0:Int)))
 (some (true,(0:Int))))
 (some (true,(0:Int)))))
 (cond (decide (((ai t x y).getD default).fst.e2 < (0:Int)))
 (some (false,(0:Int)))
 (cond (((ai t x y).getD default).fst.e2==(0:Int))
 (some (false,(0:Int)))
 (some (true,(0:Int)))))))))
 (cond (t.e0.y==t.e2.y)
 (cond (decide (((ai t x y).getD default).fst.e1 < (0:Int)))
 (some (false,(0:Int)))
 (cond (((ai t x y).getD default).fst.e1==(0:Int))
 (cond (!(decide (t.e0.x > t.e2.x)))
 (some (false,(0:Int)))
 (cond (decide (t.e1.y < t.e0.y))
 (cond (decide (((ai t x y).getD default).fst.e2 < (0:Int)))
 (some (false,(0:Int)))
 (cond (((ai t x y).getD default).fst.e2==(0:Int))
 (some (true,(0:Int)))
 (some (true,(0:Int)))))
 (cond (t.e1.y==t.e0.y)
 (cond (decide (((ai t x y).getD default).fst.e2 < (0:Int)))
 (some (false,(0:Int)))
 (cond (((ai t x y).getD default).fst.e2==(0:Int))
 (cond (!(decide (t.e1.x > t.e0.x)))
 (some (false,(0:Int)))
 (some (true,(0:Int))))
 (some (true,(0:Int)))))
 (cond (decide (((ai t x y).getD default).fst.e2 < (0:Int)))
 (some (false,(0:Int)))
 (cond (((ai t x y).getD default).fst.e2==(0:Int))
 (some (false,(0:Int)))
 (some (true,(0:Int))))))))
 (cond (decide (t.e1.y < t.e0.y))
 (cond (decide (((ai t x y).getD default).fst.e2 < (0:Int)))
 (some (false,(0:Int)))
 (cond (((ai t x y).getD default).fst.e2==(0:Int))
 (some (true,(0:Int)))
 (some (true,(0:Int)))))
 (cond (t.e1.y==t.e0.y)
 (cond (decide (((ai t x y).getD default).fst.e2 < (0:Int)))
 (some (false,(0:Int)))
 (cond (((ai t x y).getD default).fst.e2==(0:Int))
 (cond (!(decide (t.e1.x > t.e0.x)))
 (some (false,(0:Int)))
 (some (true,(0:Int))))
 (some (true,(0:Int)))))
 (cond (decide (((ai t x y).getD default).fst.e2 < (0:Int)))
 (some (false,(0:Int)))
 (cond (((ai t x y).getD default).fst.e2==(0:Int))
 (some (false,(0:Int)))
 (some (true,(0:Int)))))))))
 (cond (decide (((ai t x y).getD default).fst.e1 < (0:Int)))
 (some (false,(0:Int)))
 (cond (((ai t x y).getD default).fst.e1==(0:Int))
 (some (false,(0:Int)))
 (cond (decide (t.e1.y < t.e0.y))
 (cond (decide (((ai t x y).getD default).fst.e2 < (0:Int)))
 (some (false,(0:Int)))
 (cond (((ai t x y).getD default).fst.e2==(0:Int))
 (some (true,(0:Int)))
 (some (true,(0:Int)))))
 (cond (t.e1.y==t.e0.y)
 (cond (decide (((ai t x y).getD default).fst.e2 < (0:Int)))
 (some (false,(0:Int)))
 (cond (((ai t x y).getD default).fst.e2==(0:Int))
 (cond (!(decide (t.e1.x > t.e0.x)))
 (some (false,(0:Int)))
 (some (true,(0:Int))))
 (some (true,(0:Int)))))
 (cond (decide (((ai t x y).getD default).fst.e2 < (0:Int)))
 (some (false,(0:Int)))
 (cond (((ai t x y).getD default).fst.e2==(0:Int))
 (some (false,(0:Int)))
 (some (true,(0:Int)))))))))))
 (cond (decide (t.e0.y < t.e2.y))
 (cond (decide (((ai t x y).getD default).fst.e1 < (0:Int)))
 (some (false,(0:Int)))
 (cond (((ai t x y).getD default).fst.e1==(0:Int))
 (cond (decide (t.e1.y < t.e0.y))
 (cond (decide (((ai t x y).getD default).fst.e2 < (0:Int)))
 (some (false,(0:Int)))
 (cond (((ai t x y).getD default).fst.e2==(0:Int))
 (some (true,(0:Int)))
 (some (true,(0:Int)))))
 (cond (t.e1.y==t.e0.y)
 (cond (decide (((ai t x y).getD default).fst.e2 < (0:Int)))
 (some (false,(0:Int)))
 (cond (((ai t x y).getD default).fst.e2==(0:Int))
 (cond (!(decide (t.e1.x > t.e0.x)))
 (some (false,(0:Int)))
 (some (true,(0:Int))))
 (some (true,(0:Int)))))
 (cond (decide (((ai t x y).getD default).fst.e2 < (0:Int)))
 (some (false,(0:Int)))
 (cond (((ai t x y).getD default).fst.e2==(0:Int))
 (some (false,(0:Int)))
 (some (true,(0:Int)))))))
 (cond (decide (t.e1.y < t.e0.y))
 (cond (decide (((ai t x y).getD default).fst.e2 < (0:Int)))
 (some (false,(0:Int)))
 (cond (((ai t x y).getD default).fst.e2==(0:Int))
 (some (true,(0:Int)))
 (some (true,(0:Int)))))
 (cond (t.e1.y==t.e0.y)
 (cond (decide (((ai t x y).getD default).fst.e2 < (0:Int)))
 (some (false,(0:Int)))
 (cond (((ai t x y).getD default).fst.e2==(0:Int))
 (cond (!(decide (t.e1.x > t.e0.x)))
 (some (false,(0:Int)))
 (some (true,(0:Int))))
 (some (true,(0:Int)))))
 (cond (decide (((ai t x y).getD default).fst.e2 < (0:Int)))
 (some (false,(0:Int)))
 (cond (((ai t x y).getD default).fst.e2==(0:Int))
 (some (false,(0:Int)))
 (some (true,(0:Int)))))))))
 (cond (t.e0.y==t.e2.y)
 (cond (decide (((ai t x y).getD default).fst.e1 < (0:Int)))
 (some (false,(0:Int)))
 (cond (((ai t x y).getD default).fst.e1==(0:Int))
 (cond (!(decide (t.e0.x > t.e2.x)))
 (some (false,(0:Int)))
 (cond (decide (t.e1.y < t.e0.y))
 (cond (decide (((ai t x y).getD default).fst.e2 < (0:Int)))
 (some (false,(0:Int)))
 (cond (((ai t x y).getD default).fst.e2==(0:Int))
 (some (true,(0:Int)))
 (some (true,(0:Int)))))
 (cond (t.e1.y==t.e0.y)
 (cond (decide (((ai t x y).getD default).fst.e2 < (0:Int)))
 (some (false,(0:Int)))
 (cond (((ai t x y).getD default).fst.e2==(0:Int))
 (cond (!(decide (t.e1.x > t.e0.x)))
 (some (false,(0:Int)))
 (some (true,(0:Int))))
 (some (true,(0:Int)))))
 (cond (decide (((ai t x y).getD default).fst.e2 < (0:Int)))
 (some (false,(0:Int)))
 (cond (((ai t x y).getD default).fst.e2==(0:Int))
 (some (false,(0:Int)))
 (some (true,(0:Int))))))))
 (cond (decide (t.e1.y < t.e0.y))
 (cond (decide (((ai t x y).getD default).fst.e2 < (0:Int)))
 (some (false,(0:Int)))
 (cond (((ai t x y).getD default).fst.e2==(0:Int))
 (some (true,(0:Int)))
 (some (true,(0:Int)))))
 (cond (t.e1.y==t.e0.y)
 (cond (decide (((ai t x y).getD default).fst.e2 < (0:Int)))
 (some (false,(0:Int)))
 (cond (((ai t x y).getD default).fst.e2==(0:Int))
 (cond (!(decide (t.e1.x > t.e0.x)))
 (some (false,(0:Int)))
 (some (true,(0:Int))))
 (some (true,(0:Int)))))
 (cond (decide (((ai t x y).getD default).fst.e2 < (0:Int)))
 (some (false,(0:Int)))
 (cond (((ai t x y).getD default).fst.e2==(0:Int))
 (some (false,(0:Int)))
 (some (true,(0:Int)))))))))
 (cond (decide (((ai t x y).getD default).fst.e1 < (0:Int)))
 (some (false,(0:Int)))
 (cond (((ai t x y).getD default).fst.e1==(0:Int))
 (some (false,(0:Int)))
 (cond (decide (t.e1.y < t.e0.y))
 (cond (decide (((ai t x y).getD default).fst.e2 < (0:Int)))
 (some (false,(0:Int)))
 (cond (((ai t x y).getD default).fst.e2==(0:Int))
 (some (true,(0:Int)))
 (some (true,(0:Int)))))
 (cond (t.e1.y==t.e0.y)
 (cond (decide (((ai t x y).getD default).fst.e2 < (0:Int)))
 (some (false,(0:Int)))
 (cond (((ai t x y).getD default).fst.e2==(0:Int))
 (cond (!(decide (t.e1.x > t.e0.x)))
 (some (false,(0:Int)))
 (some (true,(0:Int))))
 (some (true,(0:Int)))))
 (cond (decide (((ai t x y).getD default).fst.e2 < (0:Int)))
 (some (false,(0:Int)))
 (cond (((ai t x y).getD default).fst.e2==(0:Int))
 (some (false,(0:Int)))
 (some (true,(0:Int)))))))))))))
 (cond (t.e2.y==t.e1.y)
 (cond (decide (((ai t x y).getD default).fst.e0 < (0:Int)))
 (some (false,(0:Int)))
 (cond (((ai t x y).getD default).fst.e0==(0:Int))
 (cond (!(decide (t.e2.x > t.e1.x)))
 (some (false,(0:Int)))
 (cond (decide (t.e0.y < t.e2.y))
 (cond (decide (((ai t x y).getD default).fst.e1 < (0:Int)))
 (some (false,(0:Int)))
 (cond (((ai t x y).getD default).fst.e1==(0:Int))
 (cond (decide (t.e1.y < t.e0.y))
 (cond (decide (((ai t x y).getD default).fst.e2 < (0:Int)))
 (some (false,(0:Int)))
 (cond (((ai t x y).getD default).fst.e2==(0:Int))
 (some (true,(0:Int)))
 (some (true,(0:Int)))))
 (cond (t.e1.y==t.e0.y)
 (cond (decide (((ai t x y).getD default).fst.e2 < (0:Int)))
 (some (false,(0:Int)))
 (cond (((ai t x y).getD default).fst.e2==(0:Int))
 (cond (!(decide (t.e1.x > t.e0.x)))
 (some (false,(0:Int)))
 (some (true,(0:Int))))
 (some (true,(0:Int)))))
 (cond (decide (((ai t x y).getD default).fst.e2 < (0:Int)))
 (some (false,(0:Int)))
 (cond (((ai t x y).getD default).fst.e2==(0:Int))
 (some (false,(0:Int)))
 (some (true,(0:Int)))))))
 (cond (decide (t.e1.y < t.e0.y))
 (cond (decide (((ai t x y).getD default).fst.e2 < (0:Int)))
 (some (false,(0:Int)))
 (cond (((ai t x y).getD default).fst.e2==(0:Int))
 (some (true,(0:Int)))
 (some (true,(0:Int)))))
 (cond (t.e1.y==t.e0.y)
 (cond (decide (((ai t x y).getD default).fst.e2 < (0:Int)))
 (some (false,(0:Int)))
 (cond (((ai t x y).getD default).fst.e2==(0:Int))
 (cond (!(decide (t.e1.x > t.e0.x)))
 (some (false,(0:Int)))
 (some (true,(0:Int))))
 (some (true,(0:Int)))))
 (cond (decide (((ai t x y).getD default).fst.e2 < (0:Int)))
 (some (false,(0:Int)))
 (cond (((ai t x y).getD default).fst.e2==(0:Int))
 (some (false,(0:Int)))
 (some (true,(0:Int)))))))))
 (cond (t.e0.y==t.e2.y)
 (cond (decide (((ai t x y).getD default).fst.e1 < (0:Int)))
 (some (false,(0:Int)))
 (cond (((ai t x y).getD default).fst.e1==(0:Int))
 (cond (!(decide (t.e0.x > t.e2.x)))
 (some (false,(0:Int)))
 (cond (decide (t.e1.y < t.e0.y))
 (cond (decide (((ai t x y).getD default).fst.e2 < (0:Int)))
 (some (false,(0:Int)))
 (cond (((ai t x y).getD default).fst.e2==(0:Int))
 (some (true,(0:Int)))
 (some (true,(0:Int)))))
 (cond (t.e1.y==t.e0.y)
 (cond (decide (((ai t x y).getD default).fst.e2 < (0:Int)))
 (some (false,(0:Int)))
 (cond (((ai t x y).getD default).fst.e2==(0:Int))
 (cond (!(decide (t.e1.x > t.e0.x)))
 (some (false,(0:Int)))
 (some (true,(0:Int))))
 (some (true,(0:Int)))))
 (cond (decide (((ai t x y).getD default).fst.e2 < (0:Int)))
 (some (false,(0:Int)))
 (cond (((ai t x y).getD default).fst.e2==(0:Int))
 (some (false,(0:Int)))
 (some (true,(0:Int))))))))
 (cond (decide (t.e1.y < t.e0.y))
 (cond (decide (((ai t x y).getD default).fst.e2 < (0:Int)))
 (some (false,(0:Int)))
 (cond (((ai t x y).getD default).fst.e2==(0:Int))
 (some (true,(0:Int)))
 (some (true,(0:Int)))))
 (cond (t.e1.y==t.e0.y)
 (cond (decide (((ai t x y).getD default).fst.e2 < (0:Int)))
 (some (false,(0:Int)))
 (cond (((ai t x y).getD default).fst.e2==(0:Int))
 (cond (!(decide (t.e1.x > t.e0.x)))
 (some (false,(0:Int)))
 (some (true,(0:Int))))
 (some (true,(0:Int)))))
 (cond (decide (((ai t x y).getD default).fst.e2 < (0:Int)))
 (some (false,(0:Int)))
 (cond (((ai t x y).getD default).fst.e2==(0:Int))
 (some (false,(0:Int)))
 (some (true,(0:Int)))))))))
 (cond (decide (((ai t x y).getD default).fst.e1 < (0:Int)))
 (some (false,(0:Int)))
 (cond (((ai t x y).getD default).fst.e1==(0:Int))
 (some (false,(0:Int)))
 (cond (decide (t.e1.y < t.e0.y))
 (cond (decide (((ai t x y).getD default).fst.e2 < (0:Int)))
 (some (false,(0:Int)))
 (cond (((ai t x y).getD default).fst.e2==(0:Int))
 (some (true,(0:Int)))
 (some (true,(0:Int)))))
 (cond (t.e1.y==t.e0.y)
 (cond (decide (((ai t x y).getD default).fst.e2 < (0:Int)))
 (some (false,(0:Int)))
 (cond (((ai t x y).getD default).fst.e2==(0:Int))
 (cond (!(decide (t.e1.x > t.e0.x)))
 (some (false,(0:Int)))
 (some (true,(0:Int))))
 (some (true,(0:Int)))))
 (cond (decide (((ai t x y).getD default).fst.e2 < (0:Int)))
 (some (false,(0:Int)))
 (cond (((ai t x y).getD default).fst.e2==(0:Int))
 (some (false,(0:Int)))
 (some (true,(0:Int))))))))))))
 (cond (decide (t.e0.y < t.e2.y))
 (cond (decide (((ai t x y).getD default).fst.e1 < (0:Int)))
 (some (false,(0:Int)))
 (cond (((ai t x y).getD default).fst.e1==(0:Int))
 (cond (decide (t.e1.y < t.e0.y))
 (cond (decide (((ai t x y).getD default).fst.e2 < (0:Int)))
 (some (false,(0:Int)))
 (cond (((ai t x y).getD default).fst.e2==(0:Int))
 (some (true,(0:Int)))
 (some (true,(0:Int)))))
 (cond (t.e1.y==t.e0.y)
 (cond (decide (((ai t x y).getD default).fst.e2 < (0:Int)))
 (some (false,(0:Int)))
 (cond (((ai t x y).getD default).fst.e2==(0:Int))
 (cond (!(decide (t.e1.x > t.e0.x)))
 (some (false,(0:Int)))
 (some (true,(0:Int))))
 (some (true,(0:Int)))))
 (cond (decide (((ai t x y).getD default).fst.e2 < (0:Int)))
 (some (false,(0:Int)))
 (cond (((ai t x y).getD default).fst.e2==(0:Int))
 (some (false,(0:Int)))
 (some (true,(0:Int)))))))
 (cond (decide (t.e1.y < t.e0.y))
 (cond (decide (((ai t x y).getD default).fst.e2 < (0:Int)))
 (some (false,(0:Int)))
 (cond (((ai t x y).getD default).fst.e2==(0:Int))
 (some (true,(0:Int)))
 (some (true,(0:Int)))))
 (cond (t.e1.y==t.e0.y)
 (cond (decide (((ai t x y).getD default).fst.e2 < (0:Int)))
 (some (false,(0:Int)))
 (cond (((ai t x y).getD default).fst.e2==(0:Int))
 (cond (!(decide (t.e1.x > t.e0.x)))
 (some (false,(0:Int)))
 (some (true,(0:Int))))
 (some (true,(0:Int)))))
 (cond (decide (((ai t x y).getD default).fst.e2 < (0:Int)))
 (some (false,(0:Int)))
 (cond (((ai t x y).getD default).fst.e2==(0:Int))
 (some (false,(0:Int)))
 (some (true,(0:Int)))))))))
 (cond (t.e0.y==t.e2.y)
 (cond (decide (((ai t x y).getD default).fst.e1 < (0:Int)))
 (some (false,(0:Int)))
 (cond (((ai t x y).getD default).fst.e1==(0:Int))
 (cond (!(decide (t.e0.x > t.e2.x)))
 (some (false,(0:Int)))
 (cond (decide (t.e1.y < t.e0.y))
 (cond (decide (((ai t x y).getD default).fst.e2 < (0:Int)))
 (some (false,(0:Int)))
 (cond (((ai t x y).getD default).fst.e2==(0:Int))
 (some (true,(0:Int)))
 (some (true,(0:Int)))))
 (cond (t.e1.y==t.e0.y)
 (cond (decide (((ai t x y).getD default).fst.e2 < (0:Int)))
 (some (false,(0:Int)))
 (cond (((ai t x y).getD default).fst.e2==(0:Int))
 (cond (!(decide (t.e1.x > t.e0.x)))
 (some (false,(0:Int)))
 (some (true,(0:Int))))
 (some (true,(0:Int)))))
 (cond (decide (((ai t x y).getD default).fst.e2 < (0:Int)))
 (some (false,(0:Int)))
 (cond (((ai t x y).getD default).fst.e2==(0:Int))
 (some (false,(0:Int)))
 (some (true,(0:Int))))))))
 (cond (decide (t.e1.y < t.e0.y))
 (cond (decide (((ai t x y).getD default).fst.e2 < (0:Int)))
 (some (false,(0:Int)))
 (cond (((ai t x y).getD default).fst.e2==(0:Int))
 (some (true,(0:Int)))
 (some (true,(0:Int)))))
 (cond (t.e1.y==t.e0.y)
 (cond (decide (((ai t x y).getD default).fst.e2 < (0:Int)))
 (some (false,(0:Int)))
 (cond (((ai t x y).getD default).fst.e2==(0:Int))
 (cond (!(decide (t.e1.x > t.e0.x)))
 (some (false,(0:Int)))
 (some (true,(0:Int))))
 (some (true,(0:Int)))))
 (cond (decide (((ai t x y).getD default).fst.e2 < (0:Int)))
 (some (false,(0:Int)))
 (cond (((ai t x y).getD default).fst.e2==(0:Int))
 (some (false,(0:Int)))
 (some (true,(0:Int)))))))))
 (cond (decide (((ai t x y).getD default).fst.e1 < (0:Int)))
 (some (false,(0:Int)))
 (cond (((ai t x y).getD default).fst.e1==(0:Int))
 (some (false,(0:Int)))
 (cond (decide (t.e1.y < t.e0.y))
 (cond (decide (((ai t x y).getD default).fst.e2 < (0:Int)))
 (some (false,(0:Int)))
 (cond (((ai t x y).getD default).fst.e2==(0:Int))
 (some (true,(0:Int)))
 (some (true,(0:Int)))))
 (cond (t.e1.y==t.e0.y)
 (cond (decide (((ai t x y).getD default).fst.e2 < (0:Int)))
 (some (false,(0:Int)))
 (cond (((ai t x y).getD default).fst.e2==(0:Int))
 (cond (!(decide (t.e1.x > t.e0.x)))
 (some (false,(0:Int)))
 (some (true,(0:Int))))
 (some (true,(0:Int)))))
 (cond (decide (((ai t x y).getD default).fst.e2 < (0:Int)))
 (some (false,(0:Int)))
 (cond (((ai t x y).getD default).fst.e2==(0:Int))
 (some (false,(0:Int)))
 (some (true,(0:Int)))))))))))))
 (cond (decide (((ai t x y).getD default).fst.e0 < (0:Int)))
 (some (false,(0:Int)))
 (cond (((ai t x y).getD default).fst.e0==(0:Int))
 (some (false,(0:Int)))
 (cond (decide (t.e0.y < t.e2.y))
 (cond (decide (((ai t x y).getD default).fst.e1 < (0:Int)))
 (some (false,(0:Int)))
 (cond (((ai t x y).getD default).fst.e1==(0:Int))
 (cond (decide (t.e1.y < t.e0.y))
 (cond (decide (((ai t x y).getD default).fst.e2 < (0:Int)))
 (some (false,(0:Int)))
 (cond (((ai t x y).getD default).fst.e2==(0:Int))
 (some (true,(0:Int)))
 (some (true,(0:Int)))))
 (cond (t.e1.y==t.e0.y)
 (cond (decide (((ai t x y).getD default).fst.e2 < (0:Int)))
 (some (false,(0:Int)))
 (cond (((ai t x y).getD default).fst.e2==(0:Int))
 (cond (!(decide (t.e1.x > t.e0.x)))
 (some (false,(0:Int)))
 (some (true,(0:Int))))
 (some (true,(0:Int)))))
 (cond (decide (((ai t x y).getD default).fst.e2 < (0:Int)))
 (some (false,(0:Int)))
 (cond (((ai t x y).getD default).fst.e2==(0:Int))
 (some (false,(0:Int)))
 (some (true,(0:Int)))))))
 (cond (decide (t.e1.y < t.e0.y))
 (cond (decide (((ai t x y).getD default).fst.e2 < (0:Int)))
 (some (false,(0:Int)))
 (cond (((ai t x y).getD default).fst.e2==(0:Int))
 (some (true,(0:Int)))
 (some (true,(0:Int)))))
 (cond (t.e1.y==t.e0.y)
 (cond (decide (((ai t x y).getD default).fst.e2 < (0:Int)))
 (some (false,(0:Int)))
 (cond (((ai t x y).getD default).fst.e2==(0:Int))
 (cond (!(decide (t.e1.x > t.e0.x)))
 (some (false,(0:Int)))
 (some (true,(0:Int))))
 (some (true,(0:Int)))))
 (cond (decide (((ai t x y).getD default).fst.e2 < (0:Int)))
 (some (false,(0:Int)))
 (cond (((ai t x y).getD default).fst.e2==(0:Int))
 (some (false,(0:Int)))
 (some (true,(0:Int)))))))))
 (cond (t.e0.y==t.e2.y)
 (cond (decide (((ai t x y).getD default).fst.e1 < (0:Int)))
 (some (false,(0:Int)))
 (cond (((ai t x y).getD default).fst.e1==(0:Int))
 (cond (!(decide (t.e0.x > t.e2.x)))
 (some (false,(0:Int)))
 (cond (decide (t.e1.y < t.e0.y))
 (cond (decide (((ai t x y).getD default).fst.e2 < (0:Int)))
 (some (false,(0:Int)))
 (cond (((ai t x y).getD default).fst.e2==(0:Int))
 (some (true,(0:Int)))
 (some (true,(0:Int)))))
 (cond (t.e1.y==t.e0.y)
 (cond (decide (((ai t x y).getD default).fst.e2 < (0:Int)))
 (some (false,(0:Int)))
 (cond (((ai t x y).getD default).fst.e2==(0:Int))
 (cond (!(decide (t.e1.x > t.e0.x)))
 (some (false,(0:Int)))
 (some (true,(0:Int))))
 (some (true,(0:Int)))))
 (cond (decide (((ai t x y).getD default).fst.e2 < (0:Int)))
 (some (false,(0:Int)))
 (cond (((ai t x y).getD default).fst.e2==(0:Int))
 (some (false,(0:Int)))
 (some (true,(0:Int))))))))
 (cond (decide (t.e1.y < t.e0.y))
 (cond (decide (((ai t x y).getD default).fst.e2 < (0:Int)))
 (some (false,(0:Int)))
 (cond (((ai t x y).getD default).fst.e2==(0:Int))
 (some (true,(0:Int)))
 (some (true,(0:Int)))))
 (cond (t.e1.y==t.e0.y)
 (cond (decide (((ai t x y).getD default).fst.e2 < (0:Int)))
 (some (false,(0:Int)))
 (cond (((ai t x y).getD default).fst.e2==(0:Int))
 (cond (!(decide (t.e1.x > t.e0.x)))
 (some (false,(0:Int)))
 (some (true,(0:Int))))
 (some (true,(0:Int)))))
 (cond (decide (((ai t x y).getD default).fst.e2 < (0:Int)))
 (some (false,(0:Int)))
 (cond (((ai t x y).getD default).fst.e2==(0:Int))
 (some (false,(0:Int)))
 (some (true,(0:Int)))))))))
 (cond (decide (((ai t x y).getD default).fst.e1 < (0:Int)))
 (some (false,(0:Int)))
 (cond (((ai t x y).getD default).fst.e1==(0:Int))
 (some (false,(0:Int)))
 (cond (decide (t.e1.y < t.e0.y))
 (cond (decide (((ai t x y).getD default).fst.e2 < (0:Int)))
 (some (false,(0:Int)))
 (cond (((ai t x y).getD default).fst.e2==(0:Int))
 (some (true,(0:Int)))
 (some (true,(0:Int)))))
 (cond (t.e1.y==t.e0.y)
 (cond (decide (((ai t x y).getD default).fst.e2 < (0:Int)))
 (some (false,(0:Int)))
 (cond (((ai t x y).getD default).fst.e2==(0:Int))
 (cond (!(decide (t.e1.x > t.e0.x)))
 (some (false,(0:Int)))
 (some (true,(0:Int))))
 (some (true,(0:Int)))))
 (cond (decide (((ai t x y).getD default).fst.e2 < (0:Int)))
 (some (false,(0:Int)))
 (cond (((ai t x y).getD default).fst.e2==(0:Int))
 (some (false,(0:Int)))
 (some (true,(0:Int))))))))))))))))
 none)
theorem Rq (t:bt) (x:Int) (y:Int):dp Try.prog (bu Try.prog Gq Gr (fun _=>false)) 9 9 97 [im t,(kI .i64) x,(kI .i64) y] = (pV t x y).map (fun (r:Bool×Int)=>KV.jI [kB r.1,(kI .i64) r.2]):=by
 unfold pV
 try simp only [ch]
 kernel_rfl
def I6:List KV→KR KV:=cA Try.prog 97 (cF (fun (r:Bool×Int)=>KV.jI [kB r.1,(kI .i64) r.2]) fun vs=>pV (gz (vs.getD 0 .aw)) (intOf (vs.getD 1 .aw)) (intOf (vs.getD 2 .aw)))
theorem O0 (w:Nat→KV):cM Try.prog [118,3,3] w 0 = [im (gz (ay Try.prog (ak Try.prog au) 118 (w 0))),(kI .i64) (intOf (ay Try.prog (ak Try.prog au) 3 (w 1))),(kI .i64) (intOf (ay Try.prog (ak Try.prog au) 3 (w 2)))]:=by kernel_rfl
theorem O1:ca Try.prog 97 I6:=aY funcs mixed OY OZ (L:=9) (n:=9) fun w=>by
 have e:aJ Try.prog 97 = [118,3,3]:=by kernel_rfl
 rw [e,O0]
 exact (Rq (gz (ay Try.prog (ak Try.prog au) 118 (w 0))) (intOf (ay Try.prog (ak Try.prog au) 3 (w 1))) (intOf (ay Try.prog (ak Try.prog au) 3 (w 2)))).trans (by kernel_rfl)
def Rr:List (Nat×(List KV→KR KV)):=[(99,uF),(98,Dr),(97,I6)]
def Rs:List Lp:=[]
theorem ZC:ao Try.prog Rr:=(ao.cons tB (ao.cons Eo (ao.cons O1 ao.nil)))
theorem ZD:az Try.prog Rs:=az.nil
def tg (t:bt) (x:Int) (y:Int):(Option (Prod Bool Int)):=(pV t x y)
def dD (t:bt) (x:Int) (y:Int):(Option (Prod fj Int)):=(mr t x y)
def AO (t:bt) (x:Int) (y:Int):(Option (Prod Int Int)):=(dQ (aj ((aj ((aj ((0:Int)+(aj ((aj (((dD t x y).getD default).fst.e0 * t.e0.d)) * (1:Int)))))+(aj ((aj (((dD t x y).getD default).fst.e1 * t.e1.d)) * (1:Int)))))+(aj ((aj (((dD t x y).getD default).fst.e2 * t.e2.d)) * (1:Int))))) (aj ((aj ((aj ((0:Int)+((dD t x y).getD default).fst.e0))+((dD t x y).getD default).fst.e1))+((dD t x y).getD default).fst.e2)))
def wP (t:bt) (x:Int) (y:Int):(Option (Prod Int Int)):=(dQ (aj ((aj ((aj ((0:Int)+(aj ((aj (((dD t x y).getD default).fst.e0 * t.e0.d)) * t.e0.u))))+(aj ((aj (((dD t x y).getD default).fst.e1 * t.e1.d)) * t.e1.u))))+(aj ((aj (((dD t x y).getD default).fst.e2 * t.e2.d)) * t.e2.u)))) (aj ((aj ((aj ((0:Int)+(aj ((aj (((dD t x y).getD default).fst.e0 * t.e0.d)) * (1:Int)))))+(aj ((aj (((dD t x y).getD default).fst.e1 * t.e1.d)) * (1:Int)))))+(aj ((aj (((dD t x y).getD default).fst.e2 * t.e2.d)) * (1:Int))))))
def wQ (t:bt) (x:Int) (y:Int):(Option (Prod Int Int)):=(dQ (aj ((aj ((aj ((0:Int)+(aj ((aj (((dD t x y).getD default).fst.e0 * t.e0.d)) * t.e0.v))))+(aj ((aj (((dD t x y).getD default).fst.e1 * t.e1.d)) * t.e1.v))))+(aj ((aj (((dD t x y).getD default).fst.e2 * t.e2.d)) * t.e2.v)))) (aj ((aj ((aj ((0:Int)+(aj ((aj (((dD t x y).getD default).fst.e0 * t.e0.d)) * (1:Int)))))+(aj ((aj (((dD t x y).getD default).fst.e1 * t.e1.d)) * (1:Int)))))+(aj ((aj (((dD t x y).getD default).fst.e2 * t.e2.d)) * (1:Int))))))
def mM (t:bt) (x:Int) (y:Int):Option (fU×Int):=
 (cond (tg t x y).isSome
 (cond (((tg t x y).getD default).snd != (0:Int))
 (some ((⟨(0:Int),(0:Int),(0:Int),(0:Int),(0:Int)⟩:fU),((tg t x y).getD default).snd))
 (cond (!((tg t x y).getD default).fst)
 (some ((⟨(0:Int),(0:Int),(0:Int),(0:Int),(0:Int)⟩:fU),(6:Int)))
 (cond (dD t x y).isSome
 (cond (((dD t x y).getD default).snd != (0:Int))
 (some ((⟨(0:Int),(0:Int),(0:Int),(0:Int),(0:Int)⟩:fU),((dD t x y).getD default).snd))
 (cond (AO t x y).isSome
 (cond (wP t x y).isSome
 (cond (wQ t x y).isSome
 (some ((⟨(aj ((aj ((8:Int) * x))+(4:Int))),(aj ((aj ((8:Int) * y))+(4:Int))),((AO t x y).getD default).fst,((wP t x y).getD default).fst,((wQ t x y).getD default).fst⟩:fU),(0:Int)))
 none)
 none)
 none))
 none)))
 none)
theorem aaY (t:bt) (x:Int) (y:Int):dp Try.prog (bu Try.prog Rr Rs (fun _=>false)) 9 9 66 [im t,(kI .i64) x,(kI .i64) y] = (mM t x y).map (fun (r:fU×Int)=>KV.jI [Ty r.1,(kI .i64) r.2]):=by
 unfold mM
 try simp only [ch]
 kernel_rfl
def rW:List KV→KR KV:=cA Try.prog 66 (cF (fun (r:fU×Int)=>KV.jI [Ty r.1,(kI .i64) r.2]) fun vs=>mM (gz (vs.getD 0 .aw)) (intOf (vs.getD 1 .aw)) (intOf (vs.getD 2 .aw)))
theorem ZE (w:Nat→KV):cM Try.prog [118,3,3] w 0 = [im (gz (ay Try.prog (ak Try.prog au) 118 (w 0))),(kI .i64) (intOf (ay Try.prog (ak Try.prog au) 3 (w 1))),(kI .i64) (intOf (ay Try.prog (ak Try.prog au) 3 (w 2)))]:=by kernel_rfl
theorem o9:ca Try.prog 66 rW:=aY funcs mixed ZC ZD (L:=9) (n:=9) fun w=>by
 have e:aJ Try.prog 66 = [118,3,3]:=by kernel_rfl
 rw [e,ZE]
 exact (aaY (gz (ay Try.prog (ak Try.prog au) 118 (w 0))) (intOf (ay Try.prog (ak Try.prog au) 3 (w 1))) (intOf (ay Try.prog (ak Try.prog au) 3 (w 2)))).trans (by kernel_rfl)
end
end Go.Proofs.Ytahhdndhkgbcjaa.b
end
section
namespace Go.Proofs.Ytahhdndhkgbcjaa.b
open Go.K
set_option linter.unusedVariables false
set_option linter.unusedSimpArgs false
noncomputable section
structure dK where
 e0:bZ
 e1:bZ
 e2:bZ
instance:Inhabited dK:=⟨⟨default,default,default⟩⟩
def ZF (x:dK):List KV:=[.int .i64 x.e0.p.x,.int .i64 x.e0.p.y,.int .i64 x.e0.p.z,.int .i64 x.e0.u,.int .i64 x.e0.v,.int .i64 x.e1.p.x,.int .i64 x.e1.p.y,.int .i64 x.e1.p.z,.int .i64 x.e1.u,.int .i64 x.e1.v,.int .i64 x.e2.p.x,.int .i64 x.e2.p.y,.int .i64 x.e2.p.z,.int .i64 x.e2.u,.int .i64 x.e2.v]
def pb (x:dK):KV:=.agg (ZF x)
def ZG (c:Nat→KV):dK:=⟨⟨⟨intOf (c 0),intOf (c 1),intOf (c 2)⟩,intOf (c 3),intOf (c 4)⟩,⟨⟨intOf (c 5),intOf (c 6),intOf (c 7)⟩,intOf (c 8),intOf (c 9)⟩,⟨⟨intOf (c 10),intOf (c 11),intOf (c 12)⟩,intOf (c 13),intOf (c 14)⟩⟩
def qF (v:KV):dK:=ZG fun k=>v.cells.getD k .aw
theorem ac2 (x:dK):qF (pb x)=x:=rfl
theorem ac3:qF .aw=default:=rfl
theorem ZH (s:Sl dK) (v:dK):s.push v=ki qF (s.n+1) (fw s.n (fun i=>pb (s.get i)) (r8 [pb v])):=(Ae ac2 ac3 s v).symm
structure aA where
 aL:Int
 out:(Sl dK)
 l:(Sl bZ)
 t22:dK
 t23:Int
 t:dK
instance:Inhabited aA:=⟨⟨default,default,default,default,default,default⟩⟩
def tF (x:aA):List KV:=[.int .i64 x.aL,jf 181 pb x.out,jf 180 mU x.l,pb x.t22,.int .i64 x.t23]
def tG (x:aA):List (List KV):=[ZF x.t]
def Ep (vs:List KV) (rs:List (List KV)):aA:=⟨intOf (vs.getD 0 .aw),iQ qF (vs.getD 1 .aw),iQ jK (vs.getD 2 .aw),qF (vs.getD 3 .aw),intOf (vs.getD 4 .aw),ZG (fun k=>(rs.getD 0 []).getD k .aw)⟩
def Gs:aQ:=⟨[(0,⟨false,[.k (.int .i64)]⟩),(4,⟨false,[.bf 181]⟩),(7,⟨false,[.bf 180]⟩),(22,⟨true,[.k (.int .i64),.k (.int .i64),.k (.int .i64),.k (.int .i64),.k (.int .i64),.k (.int .i64),.k (.int .i64),.k (.int .i64),.k (.int .i64),.k (.int .i64),.k (.int .i64),.k (.int .i64),.k (.int .i64),.k (.int .i64),.k (.int .i64)]⟩),(23,⟨false,[.k (.int .i64)]⟩)],[(3,[.k (.int .i64),.k (.int .i64),.k (.int .i64),.k (.int .i64),.k (.int .i64),.k (.int .i64),.k (.int .i64),.k (.int .i64),.k (.int .i64),.k (.int .i64),.k (.int .i64),.k (.int .i64),.k (.int .i64),.k (.int .i64),.k (.int .i64)],5)],[(3,0,0)]⟩
def Rt:=jk Try.prog (bu Try.prog [(129,En),(130,qE)] [] (fun _=>false) false true) 9 9 111 122 (fh Try.prog 111 122) Gs
def xH (x:aA):(Option (Prod bZ Int)):=(eN x.aL x.t.e0 x.t22.e0)
def xI (x:aA):(Option (Prod bZ Int)):=(eN x.aL x.t22.e0 x.t.e0)
def xJ (x:aA):(Option (Prod bZ Int)):=(eN x.aL x.t.e1 x.t22.e0)
def xK (x:aA):(Option (Prod bZ Int)):=(eN x.aL x.t22.e0 x.t.e1)
def xL (x:aA):(Option (Prod bZ Int)):=(eN x.aL x.t.e2 x.t22.e0)
def xM (x:aA):(Option (Prod bZ Int)):=(eN x.aL x.t22.e0 x.t.e2)
def xN (x:aA):(Option (Prod bZ Int)):=(eN x.aL x.t.e0 x.t22.e1)
def xO (x:aA):(Option (Prod bZ Int)):=(eN x.aL x.t22.e1 x.t.e0)
def xP (x:aA):(Option (Prod bZ Int)):=(eN x.aL x.t.e1 x.t22.e1)
def xQ (x:aA):(Option (Prod bZ Int)):=(eN x.aL x.t22.e1 x.t.e1)
def v7 (x:aA):(Option (Prod bZ Int)):=(eN x.aL x.t.e2 x.t22.e1)
def v8 (x:aA):(Option (Prod bZ Int)):=(eN x.aL x.t22.e1 x.t.e2)
def v9 (x:aA):(Option (Prod bZ Int)):=(eN x.aL x.t.e0 x.t22.e2)
def wa (x:aA):(Option (Prod bZ Int)):=(eN x.aL x.t22.e2 x.t.e0)
def wb (x:aA):(Option (Prod bZ Int)):=(eN x.aL x.t.e1 x.t22.e2)
def wc (x:aA):(Option (Prod bZ Int)):=(eN x.aL x.t22.e2 x.t.e1)
def wg (x:aA):(Option (Prod bZ Int)):=(eN x.aL x.t.e2 x.t22.e2)
def wh (x:aA):(Option (Prod bZ Int)):=(eN x.aL x.t22.e2 x.t.e2)
def ia (x:aA):aI aA:=
 (cond (decide (x.t23 < (3:Int)))
 (cond (decide (x.t23=(0:Int)))
 (cond (decide ((Int.tmod (aj (x.t23+(1:Int))) (3:Int))=(0:Int)))
 (cond (decide (x.t22.e0.p.z ≥ x.aL))
 (cond (decide (x.t.e0.p.z ≥ x.aL))
 (cond ((av x.l.n x.l.n)&&(fI 40 x.l.n 1))
 (cond (cond (av (x.l.n+1) (x.l.n+1)) (av x.out.n x.out.n) false)
 (.next (⟨x.aL,x.out,(x.l.push x.t22.e0),x.t22,(aj (x.t23+(1:Int))),x.t⟩:aA))
 .fail)
 .fail)
 (cond ((av x.l.n x.l.n)&&(fI 40 x.l.n 1))
 (cond (xH x).isSome
 (cond ((av (x.l.n+1) (x.l.n+1))&&(fI 40 (x.l.n+1) 1))
 (cond (cond (av ((x.l.n+1)+1) ((x.l.n+1)+1)) (av x.out.n x.out.n) false)
 (.next (⟨x.aL,x.out,((x.l.push x.t22.e0).push ((xH x).getD default).fst),x.t22,(aj (x.t23+(1:Int))),x.t⟩:aA))
 .fail)
 .fail)
 .fail)
 .fail))
 (cond (decide (x.t.e0.p.z ≥ x.aL))
 (cond (xI x).isSome
 (cond ((av x.l.n x.l.n)&&(fI 40 x.l.n 1))
 (cond (cond (av (x.l.n+1) (x.l.n+1)) (av x.out.n x.out.n) false)
 (.next (⟨x.aL,x.out,(x.l.push ((xI x).getD default).fst),x.t22,(aj (x.t23+(1:Int))),x.t⟩:aA))
 .fail)
 .fail)
 .fail)
 (cond (cond (av x.l.n x.l.n) (av x.out.n x.out.n) false)
 (.next (⟨x.aL,x.out,x.l,x.t22,(aj (x.t23+(1:Int))),x.t⟩:aA))
 .fail)))
 (cond (decide ((Int.tmod (aj (x.t23+(1:Int))) (3:Int))=(1:Int)))
 (cond (decide (x.t22.e0.p.z ≥ x.aL))
 (cond (decide (x.t.e1.p.z ≥ x.aL))
 (cond ((av x.l.n x.l.n)&&(fI 40 x.l.n 1))
 (cond (cond (av (x.l.n+1) (x.l.n+1)) (av x.out.n x.out.n) false)
 (.next (⟨x.aL,x.out,(x.l.push x.t22.e0),x.t22,(aj (x.t23+(1:Int))),x.t⟩:aA))
 .fail)
 .fail)
 (cond ((av x.l.n x.l.n)&&(fI 40 x.l.n 1))
 (cond (xJ x).isSome
 (cond ((av (x.l.n+1) (x.l.n+1))&&(fI 40 (x.l.n+1) 1))
 (cond (cond (av ((x.l.n+1)+1) ((x.l.n+1)+1)) (av x.out.n x.out.n) false)
 (.next (⟨x.aL,x.out,((x.l.push x.t22.e0).push ((xJ x).getD default).fst),x.t22,(aj (x.t23+(1:Int))),x.t⟩:aA))
 .fail)
 .fail)
 .fail)
 .fail))
 (cond (decide (x.t.e1.p.z ≥ x.aL))
 (cond (xK x).isSome
 (cond ((av x.l.n x.l.n)&&(fI 40 x.l.n 1))
 (cond (cond (av (x.l.n+1) (x.l.n+1)) (av x.out.n x.out.n) false)
 (.next (⟨x.aL,x.out,(x.l.push ((xK x).getD default).fst),x.t22,(aj (x.t23+(1:Int))),x.t⟩:aA))
 .fail)
 .fail)
 .fail)
 (cond (cond (av x.l.n x.l.n) (av x.out.n x.out.n) false)
 (.next (⟨x.aL,x.out,x.l,x.t22,(aj (x.t23+(1:Int))),x.t⟩:aA))
 .fail)))
 (cond (decide ((Int.tmod (aj (x.t23+(1:Int))) (3:Int))=(2:Int)))
 (cond (decide (x.t22.e0.p.z ≥ x.aL))
 (cond (decide (x.t.e2.p.z ≥ x.aL))
 (cond ((av x.l.n x.l.n)&&(fI 40 x.l.n 1))
 (cond (cond (av (x.l.n+1) (x.l.n+1)) (av x.out.n x.out.n) false)
 (.next (⟨x.aL,x.out,(x.l.push x.t22.e0),x.t22,(aj (x.t23+(1:Int))),x.t⟩:aA))
 .fail)
 .fail)
 (cond ((av x.l.n x.l.n)&&(fI 40 x.l.n 1))
 (cond (xL x).isSome
 (cond ((av (x.l.n+1) (x.l.n+1))&&(fI 40 (x.l.n+1) 1))
 (cond (cond (av ((x.l.n+1)+1) ((x.l.n+1)+1)) (av x.out.n x.out.n) false)
 (.next (⟨x.aL,x.out,((x.l.push x.t22.e0).push ((xL x).getD default).fst),x.t22,(aj (x.t23+(1:Int))),x.t⟩:aA))
 .fail)
 .fail)
 .fail)
 .fail))
 (cond (decide (x.t.e2.p.z ≥ x.aL))
 (cond (xM x).isSome
 (cond ((av x.l.n x.l.n)&&(fI 40 x.l.n 1))
 (cond (cond (av (x.l.n+1) (x.l.n+1)) (av x.out.n x.out.n) false)
 (.next (⟨x.aL,x.out,(x.l.push ((xM x).getD default).fst),x.t22,(aj (x.t23+(1:Int))),x.t⟩:aA))
 .fail)
 .fail)
 .fail)
 (cond (cond (av x.l.n x.l.n) (av x.out.n x.out.n) false)
 (.next (⟨x.aL,x.out,x.l,x.t22,(aj (x.t23+(1:Int))),x.t⟩:aA))
 .fail)))
 .fail)))
 (cond (decide (x.t23=(1:Int)))
 (cond (decide ((Int.tmod (aj (x.t23+(1:Int))) (3:Int))=(0:Int)))
 (cond (decide (x.t22.e1.p.z ≥ x.aL))
 (cond (decide (x.t.e0.p.z ≥ x.aL))
 (cond ((av x.l.n x.l.n)&&(fI 40 x.l.n 1))
 (cond (cond (av (x.l.n+1) (x.l.n+1)) (av x.out.n x.out.n) false)
 (.next (⟨x.aL,x.out,(x.l.push x.t22.e1),x.t22,(aj (x.t23+(1:Int))),x.t⟩:aA))
 .fail)
 .fail)
 (cond ((av x.l.n x.l.n)&&(fI 40 x.l.n 1))
 (cond (xN x).isSome
 (cond ((av (x.l.n+1) (x.l.n+1))&&(fI 40 (x.l.n+1) 1))
 (cond (cond (av ((x.l.n+1)+1) ((x.l.n+1)+1)) (av x.out.n x.out.n) false)
 (.next (⟨x.aL,x.out,((x.l.push x.t22.e1).push ((xN x).getD default).fst),x.t22,(aj (x.t23+(1:Int))),x.t⟩:aA))
 .fail)
 .fail)
 .fail)
 .fail))
 (cond (decide (x.t.e0.p.z ≥ x.aL))
 (cond (xO x).isSome
 (cond ((av x.l.n x.l.n)&&(fI 40 x.l.n 1))
 (cond (cond (av (x.l.n+1) (x.l.n+1)) (av x.out.n x.out.n) false)
 (.next (⟨x.aL,x.out,(x.l.push ((xO x).getD default).fst),x.t22,(aj (x.t23+(1:Int))),x.t⟩:aA))
 .fail)
 .fail)
 .fail)
 (cond (cond (av x.l.n x.l.n) (av x.out.n x.out.n) false)
 (.next (⟨x.aL,x.out,x.l,x.t22,(aj (x.t23+(1:Int))),x.t⟩:aA))
 .fail)))
 (cond (decide ((Int.tmod (aj (x.t23+(1:Int))) (3:Int))=(1:Int)))
 (cond (decide (x.t22.e1.p.z ≥ x.aL))
 (cond (decide (x.t.e1.p.z ≥ x.aL))
 (cond ((av x.l.n x.l.n)&&(fI 40 x.l.n 1))
 (cond (cond (av (x.l.n+1) (x.l.n+1)) (av x.out.n x.out.n) false)
 (.next (⟨x.aL,x.out,(x.l.push x.t22.e1),x.t22,(aj (x.t23+(1:Int))),x.t⟩:aA))
 .fail)
 .fail)
 (cond ((av x.l.n x.l.n)&&(fI 40 x.l.n 1))
 (cond (xP x).isSome
 (cond ((av (x.l.n+1) (x.l.n+1))&&(fI 40 (x.l.n+1) 1))
 (cond (cond (av ((x.l.n+1)+1) ((x.l.n+1)+1)) (av x.out.n x.out.n) false)
 (.next (⟨x.aL,x.out,((x.l.push x.t22.e1).push ((xP x).getD default).fst),x.t22,(aj (x.t23+(1:Int))),x.t⟩:aA))
 .fail)
 .fail)
 .fail)
 .fail))
 (cond (decide (x.t.e1.p.z ≥ x.aL))
 (cond (xQ x).isSome
 (cond ((av x.l.n x.l.n)&&(fI 40 x.l.n 1))
 (cond (cond (av (x.l.n+1) (x.l.n+1)) (av x.out.n x.out.n) false)
 (.next (⟨x.aL,x.out,(x.l.push ((xQ x).getD default).fst),x.t22,(aj (x.t23+(1:Int))),x.t⟩:aA))
 .fail)
 .fail)
 .fail)
 (cond (cond (av x.l.n x.l.n) (av x.out.n x.out.n) false)
 (.next (⟨x.aL,x.out,x.l,x.t22,(aj (x.t23+(1:Int))),x.t⟩:aA))
 .fail)))
 (cond (decide ((Int.tmod (aj (x.t23+(1:Int))) (3:Int))=(2:Int)))
 (cond (decide (x.t22.e1.p.z ≥ x.aL))
 (cond (decide (x.t.e2.p.z ≥ x.aL))
 (cond ((av x.l.n x.l.n)&&(fI 40 x.l.n 1))
 (cond (cond (av (x.l.n+1) (x.l.n+1)) (av x.out.n x.out.n) false)
 (.next (⟨x.aL,x.out,(x.l.push x.t22.e1),x.t22,(aj (x.t23+(1:Int))),x.t⟩:aA))
 .fail)
 .fail)
 (cond ((av x.l.n x.l.n)&&(fI 40 x.l.n 1))
 (cond (v7 x).isSome
 (cond ((av (x.l.n+1) (x.l.n+1))&&(fI 40 (x.l.n+1) 1))
 (cond (cond (av ((x.l.n+1)+1) ((x.l.n+1)+1)) (av x.out.n x.out.n) false)
 (.next (⟨x.aL,x.out,((x.l.push x.t22.e1).push ((v7 x).getD default).fst),x.t22,(aj (x.t23+(1:Int))),x.t⟩:aA))
 .fail)
 .fail)
 .fail)
 .fail))
 (cond (decide (x.t.e2.p.z ≥ x.aL))
 (cond (v8 x).isSome
 (cond ((av x.l.n x.l.n)&&(fI 40 x.l.n 1))
 (cond (cond (av (x.l.n+1) (x.l.n+1)) (av x.out.n x.out.n) false)
 (.next (⟨x.aL,x.out,(x.l.push ((v8 x).getD default).fst),x.t22,(aj (x.t23+(1:Int))),x.t⟩:aA))
 .fail)
 .fail)
 .fail)
 (cond (cond (av x.l.n x.l.n) (av x.out.n x.out.n) false)
 (.next (⟨x.aL,x.out,x.l,x.t22,(aj (x.t23+(1:Int))),x.t⟩:aA))
 .fail)))
 .fail)))
 (cond (decide (x.t23=(2:Int)))
 (cond (decide ((Int.tmod (aj (x.t23+(1:Int))) (3:Int))=(0:Int)))
 (cond (decide (x.t22.e2.p.z ≥ x.aL))
 (cond (decide (x.t.e0.p.z ≥ x.aL))
 (cond ((av x.l.n x.l.n)&&(fI 40 x.l.n 1))
 (cond (cond (av (x.l.n+1) (x.l.n+1)) (av x.out.n x.out.n) false)
 (.next (⟨x.aL,x.out,(x.l.push x.t22.e2),x.t22,(aj (x.t23+(1:Int))),x.t⟩:aA))
 .fail)
 .fail)
 (cond ((av x.l.n x.l.n)&&(fI 40 x.l.n 1))
 (cond (v9 x).isSome
 (cond ((av (x.l.n+1) (x.l.n+1))&&(fI 40 (x.l.n+1) 1))
 (cond (cond (av ((x.l.n+1)+1) ((x.l.n+1)+1)) (av x.out.n x.out.n) false)
 (.next (⟨x.aL,x.out,((x.l.push x.t22.e2).push ((v9 x).getD default).fst),x.t22,(aj (x.t23+(1:Int))),x.t⟩:aA))
 .fail)
 .fail)
 .fail)
 .fail))
 (cond (decide (x.t.e0.p.z ≥ x.aL))
 (cond (wa x).isSome
 (cond ((av x.l.n x.l.n)&&(fI 40 x.l.n 1))
 (cond (cond (av (x.l.n+1) (x.l.n+1)) (av x.out.n x.out.n) false)
 (.next (⟨x.aL,x.out,(x.l.push ((wa x).getD default).fst),x.t22,(aj (x.t23+(1:Int))),x.t⟩:aA))
 .fail)
 .fail)
 .fail)
 (cond (cond (av x.l.n x.l.n) (av x.out.n x.out.n) false)
 (.next (⟨x.aL,x.out,x.l,x.t22,(aj (x.t23+(1:Int))),x.t⟩:aA))
 .fail)))
 (cond (decide ((Int.tmod (aj (x.t23+(1:Int))) (3:Int))=(1:Int)))
 (cond (decide (x.t22.e2.p.z ≥ x.aL))
 (cond (decide (x.t.e1.p.z ≥ x.aL))
 (cond ((av x.l.n x.l.n)&&(fI 40 x.l.n 1))
 (cond (cond (av (x.l.n+1) (x.l.n+1)) (av x.out.n x.out.n) false)
 (.next (⟨x.aL,x.out,(x.l.push x.t22.e2),x.t22,(aj (x.t23+(1:Int))),x.t⟩:aA))
 .fail)
 .fail)
 (cond ((av x.l.n x.l.n)&&(fI 40 x.l.n 1))
 (cond (wb x).isSome
 (cond ((av (x.l.n+1) (x.l.n+1))&&(fI 40 (x.l.n+1) 1))
 (cond (cond (av ((x.l.n+1)+1) ((x.l.n+1)+1)) (av x.out.n x.out.n) false)
 (.next (⟨x.aL,x.out,((x.l.push x.t22.e2).push ((wb x).getD default).fst),x.t22,(aj (x.t23+(1:Int))),x.t⟩:aA))
 .fail)
 .fail)
 .fail)
 .fail))
 (cond (decide (x.t.e1.p.z ≥ x.aL))
 (cond (wc x).isSome
 (cond ((av x.l.n x.l.n)&&(fI 40 x.l.n 1))
 (cond (cond (av (x.l.n+1) (x.l.n+1)) (av x.out.n x.out.n) false)
 (.next (⟨x.aL,x.out,(x.l.push ((wc x).getD default).fst),x.t22,(aj (x.t23+(1:Int))),x.t⟩:aA))
 .fail)
 .fail)
 .fail)
 (cond (cond (av x.l.n x.l.n) (av x.out.n x.out.n) false)
 (.next (⟨x.aL,x.out,x.l,x.t22,(aj (x.t23+(1:Int))),x.t⟩:aA))
 .fail)))
 (cond (decide ((Int.tmod (aj (x.t23+(1:Int))) (3:Int))=(2:Int)))
 (cond (decide (x.t22.e2.p.z ≥ x.aL))
 (cond (decide (x.t.e2.p.z ≥ x.aL))
 (cond ((av x.l.n x.l.n)&&(fI 40 x.l.n 1))
 (cond (cond (av (x.l.n+1) (x.l.n+1)) (av x.out.n x.out.n) false)
 (.next (⟨x.aL,x.out,(x.l.push x.t22.e2),x.t22,(aj (x.t23+(1:Int))),x.t⟩:aA))
 .fail)
 .fail)
 (cond ((av x.l.n x.l.n)&&(fI 40 x.l.n 1))
 (cond (wg x).isSome
 (cond ((av (x.l.n+1) (x.l.n+1))&&(fI 40 (x.l.n+1) 1))
 (cond (cond (av ((x.l.n+1)+1) ((x.l.n+1)+1)) (av x.out.n x.out.n) false)
 (.next (⟨x.aL,x.out,((x.l.push x.t22.e2).push ((wg x).getD default).fst),x.t22,(aj (x.t23+(1:Int))),x.t⟩:aA))
 .fail)
 .fail)
 .fail)
 .fail))
 (cond (decide (x.t.e2.p.z ≥ x.aL))
 (cond (wh x).isSome
 (cond ((av x.l.n x.l.n)&&(fI 40 x.l.n 1))
 (cond (cond (av (x.l.n+1) (x.l.n+1)) (av x.out.n x.out.n) false)
 (.next (⟨x.aL,x.out,(x.l.push ((wh x).getD default).fst),x.t22,(aj (x.t23+(1:Int))),x.t⟩:aA))
 .fail)
 .fail)
 .fail)
 (cond (cond (av x.l.n x.l.n) (av x.out.n x.out.n) false)
 (.next (⟨x.aL,x.out,x.l,x.t22,(aj (x.t23+(1:Int))),x.t⟩:aA))
 .fail)))
 .fail)))
 .fail)))
 (cond (cond (av x.l.n x.l.n) (av x.out.n x.out.n) false)
 (.out (aE.aq.exit 0) x)
 .fail))
theorem MA (x:aA):Rt (tF x) (tG x)=aI.enc tF tG (ia x):=by
 unfold ia
 try simp only [aI.dn,aeZ,agl]
 kernel_rfl
def rD:Lp:=⟨111,122,Gs,fun vs rs=>dL tF tG (goN ia (Ep vs rs)) [aE.aq.exit 0],false⟩
theorem Er:rD.Ok Try.prog:=eM funcs mixed (ao.cons Dq (ao.cons oQ ao.nil)) az.nil (L:=9) (n:=9) (step:=ia) (ev:=tF) (er:=tG) (pa:=Ep) rfl (fun wv wr=>⟨by kernel_rfl,by kernel_rfl⟩) MA
theorem Bg:cC Try.prog rD.f rD.p=true:=by kernel_rfl
structure iq where
 out:(Sl dK)
 l:(Sl bZ)
 i:Int
instance:Inhabited iq:=⟨⟨default,default,default⟩⟩
def tH (x:iq):List KV:=[jf 181 pb x.out,jf 180 mU x.l,.int .i64 x.i]
def tI (x:iq):List (List KV):=[]
def Es (vs:List KV) (rs:List (List KV)):iq:=⟨iQ qF (vs.getD 0 .aw),iQ jK (vs.getD 1 .aw),intOf (vs.getD 2 .aw)⟩
def Gt:aQ:=⟨[(4,⟨false,[.bf 181]⟩),(7,⟨false,[.bf 180]⟩),(15,⟨false,[.k (.int .i64)]⟩)],[],[]⟩
def Ru:=jk Try.prog (bu Try.prog [(129,En),(130,qE)] [rD] (fun _=>false) false true) 9 9 111 250 (fh Try.prog 111 250) Gt
def kF (x:iq):aI iq:=
 (cond (decide (x.i < ((x.l.n:Nat):Int)))
 (cond (decide ((0:Int) < ((x.l.n:Nat):Int)))
 (cond ((decide ((0:Int)≤(aj (x.i - (1:Int)))))&&(decide ((aj (x.i - (1:Int))) < ((x.l.n:Nat):Int))))
 (cond ((decide ((0:Int)≤x.i))&&(decide (x.i < ((x.l.n:Nat):Int))))
 (cond ((av x.out.n x.out.n)&&(fI 120 x.out.n 1))
 (cond (cond (av x.l.n x.l.n) (av (x.out.n+1) (x.out.n+1)) false)
 (.next (⟨(x.out.push (⟨(x.l.get 0),(x.l.get (Int.toNat (aj (x.i - (1:Int))))),(x.l.get (Int.toNat x.i))⟩:dK)),x.l,(aj (x.i+(1:Int)))⟩:iq))
 .fail)
 .fail)
 .fail)
 .fail)
 .fail)
 (cond (cond (av x.l.n x.l.n) (av x.out.n x.out.n) false)
 (.out (aE.aq.exit 2) x)
 .fail))
theorem MB (x:iq):Ru (tH x) (tI x)=aI.enc tH tI (kF x):=by
 unfold kF
 try simp only [aI.dn,ZH]
 kernel_rfl
def vq:Lp:=⟨111,250,Gt,fun vs rs=>dL tH tI (goN kF (Es vs rs)) [aE.aq.exit 2],false⟩
theorem Rv:vq.Ok Try.prog:=eM funcs mixed (ao.cons Dq (ao.cons oQ ao.nil)) (az.cons Er Bg az.nil) (L:=9) (n:=9) (step:=kF) (ev:=tH) (er:=tI) (pa:=Es) rfl (fun wv wr=>⟨by kernel_rfl,by kernel_rfl⟩) MB
theorem KX:cC Try.prog vq.f vq.p=true:=by kernel_rfl
def Nt:List (Nat×(List KV→KR KV)):=[(129,En),(130,qE)]
def Nu:List Lp:=[rD,vq]
theorem Wf:ao Try.prog Nt:=(ao.cons Dq (ao.cons oQ ao.nil))
theorem Wg:az Try.prog Nu:=(az.cons Er Bg (az.cons Rv KX az.nil))
def uG (aL:Int) (t:dK):(Option Int):=(kV t.e0)
def cK (aL:Int) (t:dK):(aI aA):=(goN ia (⟨aL,(⟨0,(fun i=>(⟨(⟨(⟨(0:Int),(0:Int),(0:Int)⟩:eE),(0:Int),(0:Int)⟩:bZ),(⟨(⟨(0:Int),(0:Int),(0:Int)⟩:eE),(0:Int),(0:Int)⟩:bZ),(⟨(⟨(0:Int),(0:Int),(0:Int)⟩:eE),(0:Int),(0:Int)⟩:bZ)⟩:dK))⟩:Sl _),(⟨0,(fun i=>(⟨(⟨(0:Int),(0:Int),(0:Int)⟩:eE),(0:Int),(0:Int)⟩:bZ))⟩:Sl _),t,(0:Int),t⟩:aA))
def ir (aL:Int) (t:dK):(aI iq):=(goN kF (⟨(cK aL t).st.out,(cK aL t).st.l,(2:Int)⟩:iq))
def uH (aL:Int) (t:dK):(Option Int):=(kV t.e1)
def uI (aL:Int) (t:dK):(Option Int):=(kV t.e2)
def vr (aL:Int) (t:dK):Option ((Sl dK)×Int):=
 (cond (decide (aL < (256:Int)))
 (some ((⟨0,(fun i=>(⟨(⟨(⟨(0:Int),(0:Int),(0:Int)⟩:eE),(0:Int),(0:Int)⟩:bZ),(⟨(⟨(0:Int),(0:Int),(0:Int)⟩:eE),(0:Int),(0:Int)⟩:bZ),(⟨(⟨(0:Int),(0:Int),(0:Int)⟩:eE),(0:Int),(0:Int)⟩:bZ)⟩:dK))⟩:Sl _),(2:Int)))
 (cond (decide (aL > (4096:Int)))
 (some ((⟨0,(fun i=>(⟨(⟨(⟨(0:Int),(0:Int),(0:Int)⟩:eE),(0:Int),(0:Int)⟩:bZ),(⟨(⟨(0:Int),(0:Int),(0:Int)⟩:eE),(0:Int),(0:Int)⟩:bZ),(⟨(⟨(0:Int),(0:Int),(0:Int)⟩:eE),(0:Int),(0:Int)⟩:bZ)⟩:dK))⟩:Sl _),(2:Int)))
 (cond (uG aL t).isSome
 (cond (((uG aL t).getD default) != (0:Int))
 (cond (((uG aL t).getD default) != (0:Int))
 (some ((⟨0,(fun i=>(⟨(⟨(⟨(0:Int),(0:Int),(0:Int)⟩:eE),(0:Int),(0:Int)⟩:bZ),(⟨(⟨(0:Int),(0:Int),(0:Int)⟩:eE),(0:Int),(0:Int)⟩:bZ),(⟨(⟨(0:Int),(0:Int),(0:Int)⟩:eE),(0:Int),(0:Int)⟩:bZ)⟩:dK))⟩:Sl _),((uG aL t).getD default)))
 (cond ((cK aL t).by (aE.aq.exit 0))
 (cond (cond (av (cK aL t).st.l.n (cK aL t).st.l.n) (av (cK aL t).st.out.n (cK aL t).st.out.n) false)
 (cond ((ir aL t).by (aE.aq.exit 2))
 (some ((ir aL t).st.out,(0:Int)))
 none)
 none)
 none))
 (cond (uH aL t).isSome
 (cond (((uH aL t).getD default) != (0:Int))
 (cond (((uH aL t).getD default) != (0:Int))
 (some ((⟨0,(fun i=>(⟨(⟨(⟨(0:Int),(0:Int),(0:Int)⟩:eE),(0:Int),(0:Int)⟩:bZ),(⟨(⟨(0:Int),(0:Int),(0:Int)⟩:eE),(0:Int),(0:Int)⟩:bZ),(⟨(⟨(0:Int),(0:Int),(0:Int)⟩:eE),(0:Int),(0:Int)⟩:bZ)⟩:dK))⟩:Sl _),((uH aL t).getD default)))
 (cond ((cK aL t).by (aE.aq.exit 0))
 (cond (cond (av (cK aL t).st.l.n (cK aL t).st.l.n) (av (cK aL t).st.out.n (cK aL t).st.out.n) false)
 (cond ((ir aL t).by (aE.aq.exit 2))
 (some ((ir aL t).st.out,(0:Int)))
 none)
 none)
 none))
 (cond (uI aL t).isSome
 (cond (((uI aL t).getD default) != (0:Int))
 (cond (((uI aL t).getD default) != (0:Int))
 (some ((⟨0,(fun i=>(⟨(⟨(⟨(0:Int),(0:Int),(0:Int)⟩:eE),(0:Int),(0:Int)⟩:bZ),(⟨(⟨(0:Int),(0:Int),(0:Int)⟩:eE),(0:Int),(0:Int)⟩:bZ),(⟨(⟨(0:Int),(0:Int),(0:Int)⟩:eE),(0:Int),(0:Int)⟩:bZ)⟩:dK))⟩:Sl _),((uI aL t).getD default)))
 (cond ((cK aL t).by (aE.aq.exit 0))
 (cond (cond (av (cK aL t).st.l.n (cK aL t).st.l.n) (av (cK aL t).st.out.n (cK aL t).st.out.n) false)
 (cond ((ir aL t).by (aE.aq.exit 2))
 (some ((ir aL t).st.out,(0:Int)))
 none)
 none)
 none))
 (cond ((cK aL t).by (aE.aq.exit 0))
 (cond (cond (av (cK aL t).st.l.n (cK aL t).st.l.n) (av (cK aL t).st.out.n (cK aL t).st.out.n) false)
 (cond ((ir aL t).by (aE.aq.exit 2))
 (some ((ir aL t).st.out,(0:Int)))
 none)
 none)
 none))
 none))
 none))
 none)))
theorem ZI (aL:Int) (t:dK):dp Try.prog (bu Try.prog Nt Nu (fun _=>false) false true) 9 9 111 [(kI .i64) aL,pb t] = (vr aL t).map (fun (r:(Sl dK)×Int)=>KV.jI [(jf 181 pb) r.1,(kI .i64) r.2]):=by
 unfold vr
 try simp only [ch]
 kernel_rfl
def H9:List KV→KR KV:=cA Try.prog 111 (cF (fun (r:(Sl dK)×Int)=>KV.jI [(jf 181 pb) r.1,(kI .i64) r.2]) fun vs=>vr (intOf (vs.getD 0 .aw)) (qF (vs.getD 1 .aw)))
theorem Wh (w:Nat→KV):cM Try.prog [3,181] w 0 = [(kI .i64) (intOf (ay Try.prog (ak Try.prog au) 3 (w 0))),pb (qF (ay Try.prog (ak Try.prog au) 181 (w 1)))]:=by kernel_rfl
theorem I7:ca Try.prog 111 H9:=aY funcs mixed Wf Wg (L:=9) (n:=9) fun w=>by
 have e:aJ Try.prog 111 = [3,181]:=by kernel_rfl
 rw [e,Wh]
 exact (ZI (intOf (ay Try.prog (ak Try.prog au) 3 (w 0))) (qF (ay Try.prog (ak Try.prog au) 181 (w 1)))).trans (by kernel_rfl)
end
end Go.Proofs.Ytahhdndhkgbcjaa.b
end
