/- Part of the proof of ImageWins: a machine that runs the program's code over open terms, shown to be the model's, and the plain models of its functions. No conditions. -/
import Derived.Test.YtahhdndhkgbcjaaGp
import Derived.OpenShut
import Derived.ChangeArms
import Derived.WideShapes
import Derived.Below
import Derived.KernelRfl
import Derived.Test.YtahhdndhkgbcjaaProg
section
namespace Go.K
open Go Go.aG
mutual
def wfK:KV→Prop
 | .int k n=>(Lit.int k n).wf=true
 | .str s=>s.size≤maxLen
 | .ts _ _ n es _=>n≤maxLen∧Gi es
 | .agg cs=>Gi cs
 | _=>True
def Gi:List KV→Prop
 | []=>True
 | v::vs=>wfK v∧Gi vs
end
theorem Cs:∀ {a b:List KV},Gi a→Gi b→Gi (a++b)
 | [],_,_,h=>h
 | x::a,b,h,k=>by
  simp only [Gi] at h
  exact ⟨h.1,Cs h.2 k⟩
structure Mv (P:Program) (W:World) (E:Env) (B:St) (ρ:aW):Prop where
 jv:ud ρ B W.heap.size W
 k:fI P E .empty B
 κ:∀ b,E.κ b=none
 sQ:∀ b o,B.get b=some o→o.fp=false∧o.l8=none
 α:∀ b,E.α b=none
def Env.none:Env:=⟨fun _=>.none,fun _=>.none,fun _=>.none,fun _=>.none⟩
theorem HH.empty {P:Program} {E:Env} {B:St} (qf:∀ b,E.α b=none):HH P E .empty B:=by
 have hn:∀ b o,¬ az.empty.get b=some o:=fun b o hb=>by simp [az.empty,az.get] at hb
 exact ⟨fun b v hb=>(hn b _ hb).elim,fun b v hb=>(hn b _ hb).elim,fun x ⟨b,v,_,_,hb,_⟩=>(hn b _ hb).elim,fun b c v u x L N L' N' hb=>(hn b _ hb).elim,fun b c v u x y L N L' N' cs e own g k b8 e' o7 k' hb=>(hn b _ hb).elim,fun b x _=>qf b,fun b p e=>by rw [qf b] at e; simp at e,fun b x L N e=>by rw [qf b] at e; simp at e,fun b v x L N cs e own g k hb=>(hn b _ hb).elim,fun b v hb=>(hn b _ hb).elim⟩
theorem Mv.start (P:Program) (W:World):Mv P W .none .empty (CT []):=by
 refine ⟨ud.empty W,⟨?_,?_,?_,?_,?_,?_,?_,?_,?_,?_,?_,?_,?_,?_,.empty fun _=>rfl⟩,fun _=>rfl,fun b o h=>by simp [St.get,St.empty] at h,fun _=>rfl⟩
 ·intro b cs bU h; simp [az.empty,az.get] at h
 ·intro b cs bU h; simp [az.empty,az.get] at h
 ·intro b r h; simp [Env.none] at h
 ·intro b r h; simp [Env.none] at h
 ·intro b c r h; simp [Env.none] at h
 ·intro b c r _ _ _ _ _ _ h; simp [Env.none] at h
 ·intro b r h; simp [Env.none] at h
 ·intro b r h; simp [Env.none] at h
 ·intro b o h; simp [az.empty,az.get] at h
 ·intro b r h; simp [Env.none] at h
 ·intro b r h; simp [Env.none] at h
 ·intro b r h; simp [Env.none] at h
 ·intro g _; simp [St.members,St.empty]
 ·intro g x h; simp [St.members,St.empty] at h
theorem Mv.add {P:Program} {W:World} {E:Env} {B:St} {ρ:aW} (h:Mv P W E B ρ) {cs:List Value} {l:aG.Loc}
  (hc:∀ (i:Nat) (v:Value),cs[i]? = some v→∃ v',W.cell? ⟨l.cb,l.eh+i,.none⟩=some v'∧VR ρ v v'∧scalar v=true) (hl:l.cb < W.heap.size) (hf:l.eh+cs.length≤l.yo) :
  Mv P W (E.gA B.next ⟨cs,l.bU,false,.none⟩) (B.new (.row cs l.bU false .none)) (ρ.set B.next l)∧E.le (E.gA B.next ⟨cs,l.bU,false,.none⟩)∧ρ.le (ρ.set B.next l):=by
 have hle:E.le (E.gA B.next ⟨cs,l.bU,false,.none⟩):=⟨fun _ _ e=>e,fun _ _ e=>e,fun b r e=>by
  have:=h.k.m9 b r e
  simp only [Env.gA]; rw [if_neg (by omega)]; exact e,fun _ _ e=>e⟩
 have lg:=h.jv.Hq l
 have mQ:∀ b o,(B.new (.row cs l.bU false .none)).get b=some o→(b=B.next∧o = .row cs l.bU false .none)∨(b≠B.next∧B.get b=some o):=by
  intro b o hb
  rw [St.dt] at hb
  split at hb
  ·rename_i e; simp at hb; exact .inl ⟨e,hb.symm⟩
  ·rename_i e; exact .inr ⟨e,hb⟩
 have ab8:∀ b o,(B.new (.row cs l.bU false .none)).get b=some o→o.fp=false∧o.l8 = .none:=by
  intro b o hb
  rcases mQ b o hb with ⟨_,rfl⟩ | ⟨_,hb⟩
  ·exact ⟨rfl,rfl⟩
  ·exact h.sQ b o hb
 refine ⟨⟨⟨⟨?_,?_,?_,?_,?_,?_⟩,?_,h.jv.size,h.jv.IP.mono lg⟩,?_,h.κ,ab8,h.α⟩,hle,lg⟩
 ·intro b ma bU own bQ hb
  rcases mQ b _ hb with ⟨rfl,e⟩ | ⟨dT,hb⟩
  ·simp only [dh.row.injEq] at e
   obtain ⟨rfl,rfl,rfl,rfl⟩:=e
   refine ⟨l,by simp [aW.set],⟨fun i v hi=>?_,fun _=>hl,fun e=>by simp at e,fun e=>by simp at e,hf,fun e=>by simp at e,rfl,hl,fun e=>by simp at e⟩⟩
   obtain ⟨v',h1,h2,h3⟩:=hc i v hi
   exact ⟨v',h1,h2.mono lg,h3⟩
  ·obtain ⟨l',h1,h2⟩:=h.jv.rel.row b ma bU own bQ hb
   exact ⟨l',lg _ _ h1,⟨fun i v hi=>by obtain ⟨v',q1,q2,q3⟩:=h2.cells i v hi; exact ⟨v',q1,q2.mono lg,q3⟩,h2.sQ,h2.fp,h2.there,h2.fits,h2.ends,h2.bU,h2.nZ,h2.mark⟩⟩
 ·intro b es hb
  have:=(ab8 b _ hb).1
  simp [dh.fp] at this
 ·intro b s pos hb
  have:=(ab8 b _ hb).1
  simp [dh.fp] at this
 ·intro b st e t ps a c hb
  have:=(ab8 b _ hb).1
  simp [dh.fp] at this
 ·intro b1 b2 o1 o2 l1 l2 _ h1 _ h3
  have:=(ab8 b1 _ h1).1
  rw [h3] at this; simp at this
 ·intro b o bb f hb hk
  have:=(ab8 b _ hb).2
  rw [hk] at this; simp at this
 ·intro b l' hb
  rw [St.cq]
  simp only [aW.set] at hb
  split at hb
  ·omega
  ·have:=h.jv.lD b l' hb; omega
 ·refine ⟨?_,?_,?_,?_,?_,?_,?_,?_,?_,?_,?_,?_,?_,?_,.empty h.α⟩
  ·intro b cs bU h; simp [az.empty,az.get] at h
  ·intro b cs bU h; simp [az.empty,az.get] at h
  ·intro b r hb
   simp only [Env.gA] at hb
   split at hb
   ·rename_i e
    simp at hb
    subst hb e
    simp
   ·have:=h.k.m9 b r hb
    rw [St.dt,if_neg (by omega)]
    exact h.k.z b r hb
  ·intro b x hb; have hb:E.κ b=some x:=hb; rw [h.κ b] at hb; simp at hb
  ·exact h.k.inj
  ·exact h.k.jM
  ·exact h.k.lD
  ·exact h.k.mW
  ·exact h.k.live
  ·intro b x hb; have:=h.k.gY b x hb; rw [St.cq]; omega
  ·intro b r hb
   simp only [Env.gA] at hb
   rw [St.cq]
   split at hb
   ·omega
   ·have:=h.k.m9 b r hb; omega
  ·intro b g hb; have:=h.k.kc b g hb; rw [St.cq]; omega
  ·intro g hg; rw [St.cq] at hg; rw [St.la]; exact h.k.fresh g (by omega)
  ·intro g x hx; rw [St.la] at hx; rw [St.cq]; have:=h.k.mem g x hx; omega
def Zl (P:Program):Nat→List Field→Option Nat
 | off,[]=>some off
 | off,f::fs=>cond (Nat.beq f.offset off) (Zl P (off+P.cellsOf f.type) fs) .none
def yJ (P:Program):Nat→TypeId→Bool
 | 0,_=>false
 | n+1,t=>match P.underlying t with
  | some (.int _) | some .bool | some .string=>true
  | some (.slice e)=>Nat.ble 1 (P.cellsOf e)&&yJ P n e&&(match lay P 12 e with
   | some l=>Nat.beq l.ks.length (P.cellsOf e)&&(l.agg||Nat.beq l.ks.length 1)
   | .none=>false)
  | some (.struct fs)=>fs.toList.all (fun f=>yJ P n f.type)&&(match Zl P 0 fs.toList with
   | some k=>Nat.beq k (P.cellsOf t)
   | .none=>false)
  | some (.array len e)=>yJ P n e&&Nat.beq (P.cellsOf t) (len * P.cellsOf e)
  | _=>false
def Zm (W:World) (cs:List Value):Prop:=∀ a n c,Value.slice (some a) n c∈cs→0 < W.heap.size
def Got (P:Program) (W:World) (E:Env) (_:St) (ρ:aW) (cs:List Value) (K:List KV→Prop):Prop:=
 ∃ E' B' aY ks,Mv P W E' B' aY∧E.le E'∧ρ.le aY∧BH P E' aY ks cs∧Gi ks∧K ks
def Xz {H:Type} (enc:TypeId×Value→H) (P:Program) (W:World) (n:Nat):Prop:=
 ∀ t,yJ P n t=true→∀ (fuel:Nat) (cs:List Value) (x:DataW H×List MemPlace) (E:Env) (B:St) (ρ:aW),DataW.trod enc P W 0 (fun _=>true) true fuel t cs=some x→Zm W cs→Mv P W E B ρ→
  Got P W E B ρ cs fun ks=>∀ m l,lay P m t=some l→aH l.ks ks=true
section
variable {H:Type} {enc:TypeId×Value→H} {P:Program} {W:World} {E:Env} {B:St} {ρ:aW}
theorem BH.append {E:Env} {ρ:aW} {a b:List KV} {a' b' : List Value} (h:BH P E ρ a a') (k:BH P E ρ b b'):BH P E ρ (a++b) (a'++b'):=by
 obtain ⟨m,h1,h2⟩:=h
 obtain ⟨l,h3,h4⟩:=k
 exact ⟨m++l,h1.append h3,h2.append h4⟩
theorem BH.mono {E E' : Env} {ρ aY:aW} {a:List KV} {a' : List Value} (h:BH P E ρ a a') (hE:E.le E') (lg:ρ.le aY):BH P E' aY a a':=by
 obtain ⟨m,h1,h2⟩:=h
 exact ⟨m,h1.mono hE,h2.mono lg⟩
theorem BH.len {E:Env} {ρ:aW} {a:List KV} {a' : List Value} (h:BH P E ρ a a'):a'.length=a.length:=by
 obtain ⟨m,h1,h2⟩:=h
 rw [h2.length,h1.length]
theorem EY:∀ {ks:List CK} {vs:List KV},aH ks vs=true→vs.length=ks.length
 | [],[],_=>rfl
 | [],_::_,h=>by simp [aH] at h
 | _::_,[],h=>by simp [aH] at h
 | k::ks,v::vs,h=>by
  simp only [aH,Bool.and_eq_true] at h
  simp [EY h.2]
theorem EZ:∀ {ks ls:List CK} {vs us:List KV},aH ks vs=true→aH ls us=true→aH (ks++ls) (vs++us)=true
 | [],_,[],_,_,h=>h
 | [],_,_::_,_,h,_=>by simp [aH] at h
 | _::_,_,[],_,h,_=>by simp [aH] at h
 | k::ks,ls,v::vs,us,h,h'=>by
  simp only [aH,Bool.and_eq_true] at h
  simp only [List.cons_append,aH,Bool.and_eq_true]
  exact ⟨h.1,EZ h.2 h'⟩
theorem Zm.sub {W:World} {cs ds:List Value} (h:Zm W cs) (k:∀ v∈ds,v∈cs):Zm W ds:=fun a n c hm=>h a n c (k _ hm)
theorem Zn {cs:List Value} {i n:Nat} : ∀ v∈(cs.drop i).take n,v∈cs:=fun _ h=>List.mem_of_mem_drop (List.mem_of_mem_take h)
theorem VN (cs:List Value) (i m n:Nat):(cs.drop i).take m++(cs.drop (i+m)).take n=(cs.drop i).take (m+n):=by
 rw [List.take_add,List.drop_drop]
theorem QK {n:Nat} (IH:Xz enc P W n) {fuel:Nat} {cs:List Value} (hp:Zm W cs):∀ (fs:List Field) (off k:Nat) (E:Env) (B:St) (ρ:aW),Mv P W E B ρ→Zl P off fs=some k→k≤cs.length→(∀ f∈fs,yJ P n f.type=true)→
  (∀ f∈fs,∃ x,DataW.trod enc P W 0 (fun _=>true) true fuel f.type ((cs.drop f.offset).take (P.cellsOf f.type))=some x)→
  off≤k∧Got P W E B ρ ((cs.drop off).take (k - off)) fun ks=>∀ m l,J6 (lay P m) fs off=some l→aH l ks=true
 | [],off,k,E,B,ρ,hi,ht,hk,_,_=>by
  simp [Zl] at ht; subst ht
  refine ⟨Nat.le_refl _,E,B,ρ,[],hi,Env.le_refl _,aW.le_refl _,?_,trivial,?_⟩
  ·rw [Nat.sub_self,List.take_zero]; exact ⟨[],.nil,.nil⟩
  ·intro m l h; simp [J6] at h; subst h; rfl
 | f::fs,off,k,E,B,ρ,hi,ht,hk,he,hx=>by
  unfold Zl at ht
  cases hb:Nat.beq f.offset off with
  | false=>rw [hb] at ht; simp at ht
  | true=>
   rw [hb,cond_true] at ht
   have IU:=Nat.eq_of_beq_eq_true hb
   obtain ⟨x,Ck⟩:=hx f (by simp)
   obtain ⟨E1,B1,mC,ks1,h1,h2,h3,h4,h5,h6⟩:=IH f.type (he f (by simp)) fuel _ x E B ρ Ck (hp.sub Zn) hi
   obtain ⟨hle,E2,B2,um,ks2,q1,q2,q3,q4,q5,q6⟩:=QK IH hp fs (off+P.cellsOf f.type) k E1 B1 mC h1 ht hk (fun g hg=>he g (by simp [hg])) (fun g hg=>hx g (by simp [hg]))
   have hlen:ks1.length=P.cellsOf f.type:=by
    rw [← h4.len,List.length_take,List.length_drop,IU]
    omega
   refine ⟨by omega,E2,B2,um,ks1++ks2,q1,Env.le_trans h2 q2,aW.le_trans h3 q3,?_,Cs h5 q5,?_⟩
   ·have:=(h4.mono q2 q3).append q4
    rw [IU,VN] at this
    rw [show k - off=P.cellsOf f.type+(k - (off+P.cellsOf f.type)) by omega]
    exact this
   ·intro m l hl
    unfold J6 at hl
    rw [hb,cond_true] at hl
    obtain ⟨l1,hl1,hl⟩:=Option.bind_eq_some_iff.1 hl
    obtain ⟨l2,mB,rfl⟩:=Option.map_eq_some_iff.1 hl
    have FJ:=h6 m l1 hl1
    have amS:=EY FJ
    rw [← amS,hlen] at mB
    exact EZ FJ (q6 m l2 mB)
theorem VO {n:Nat} (IH:Xz enc P W n) {fuel len c:Nat} {e:TypeId} {cs:List Value} (hp:Zm W cs) (he:yJ P n e=true) (hc:P.cellsOf e=c) (hk:len * c≤cs.length) (hx:∀ i,i < len→∃ x,DataW.trod enc P W 0 (fun _=>true) true fuel e ((cs.drop (i * c)).take c)=some x) (hi:Mv P W E B ρ):∀ j,j≤len→
  Got P W E B ρ (cs.take (j * c)) fun ks=>∀ m l,lay P m e=some l→aH (dV l.ks j) ks=true
 | 0,_=>by
  refine ⟨E,B,ρ,[],hi,Env.le_refl _,aW.le_refl _,?_,trivial,fun m l _=>rfl⟩
  rw [Nat.zero_mul,List.take_zero]; exact ⟨[],.nil,.nil⟩
 | j+1,hj=>by
  obtain ⟨E1,B1,mC,ks1,h1,h2,h3,h4,h5,h6⟩:=VO IH hp he hc hk hx hi j (by omega)
  obtain ⟨x,Ck⟩:=hx j (by omega)
  obtain ⟨E2,B2,um,ks2,q1,q2,q3,q4,q5,q6⟩:=IH e he fuel _ x E1 B1 mC Ck (hp.sub Zn) h1
  refine ⟨E2,B2,um,ks1++ks2,q1,Env.le_trans h2 q2,aW.le_trans h3 q3,?_,Cs h5 q5,?_⟩
  ·have:=(h4.mono q2 q3).append q4
   have e:=VN cs 0 (j * c) c
   simp only [List.drop_zero,Nat.zero_add] at e
   rw [e] at this
   rw [show (j+1) * c=j * c+c by rw [Nat.succ_mul]]
   exact this
  ·intro m l hl
   have:dV l.ks (j+1)=dV l.ks j++l.ks:=by
    have comm:∀ n,l.ks++dV l.ks n=dV l.ks n++l.ks:=by
     intro n
     induction n with
     | zero=>simp [dV]
     | succ n ih=>simp only [dV,List.append_assoc]; rw [ih]
    rw [← comm]; rfl
   rw [this]
   exact EZ (h6 m l hl) (q6 m l hl)
theorem QL {a:Addr} {i k:Nat} {v:Value} (h:W.cell? ((a.add i).add k)=some v):W.cell? ⟨a.block,a.off+i+k,.none⟩=some v∧a.block < W.heap.size∧(i+k=0→a.spot = .none):=by
 have hb:((a.add i).add k).block=a.block:=by unfold Addr.add; split <;> split <;> rfl
 have ho:((a.add i).add k).off=a.off+i+k:=by
  unfold Addr.add
  split <;> split <;> simp_all
 have hs:((a.add i).add k).spot = .none:=by
  unfold World.cell? at h
  split at h
  ·split at h
   ·simp at h
   ·rename_i hs; simpa using hs
  ·simp at h
 have he:(a.add i).add k=⟨a.block,a.off+i+k,.none⟩:=by
  generalize (a.add i).add k=p at hb ho hs
  obtain ⟨b,o,s⟩:=p
  simp at hb ho hs
  simp [hb,ho,hs]
 refine ⟨he ▸ h,?_,fun e=>?_⟩
 ·rw [he] at h
  unfold World.cell? at h
  split at h
  ·rename_i heq
   exact (Array.getElem?_eq_some_iff.1 heq).1
  ·simp at h
 ·have h1:i=0:=by omega
  have h2:k=0:=by omega
  subst h1 h2
  simpa [Addr.add] using hs
theorem Zo {a:Addr} {n:Nat} {cs:List Value} (h:W.cells? 0 a n=some cs):cs.length=n∧∀ (k:Nat) (v:Value),cs[k]? = some v→W.cell? (a.add k)=some v:=by
 unfold World.cells? at h
 rw [if_pos (Nat.zero_le _)] at h
 have hl:=mapM_some_length h
 simp at hl
 refine ⟨hl,fun k v hv=>?_⟩
 have hk:k < n:=by rw [← hl]; exact (List.getElem?_eq_some_iff.1 hv).1
 rw [mapM_some_get h k k (by simp [hk])]
 exact hv
theorem ahI {ks:List KV} {agg:Bool} (h:Gi ks):wfK (JJ agg ks):=by
 cases agg with
 | true=>exact h
 | false=>
  match ks,h with
  | [],_=>exact trivial
  | v::vs,h=>exact h.1
theorem Nn {E:Env} {ρ:aW} : ∀ {ks:List CK} {vs:List KV} {m:List Value},aH ks vs=true→bf P E vs m→∀ v∈m,scalar v=true
 | [],[],m,_,h,v,hv=>by rw [h.ck] at hv; simp at hv
 | [],_::_,_,h,_,_,_=>by simp [aH] at h
 | _::_,[],_,h,_,_,_=>by simp [aH] at h
 | k::ks,u::vs,m,h,hm,v,hv=>by
  simp only [aH,Bool.and_eq_true] at h
  obtain ⟨y,ys,rfl,h1,h2⟩:=hm.cons_inv
  rcases List.mem_cons.1 hv with rfl | hv
  ·refine h1.scalar ?_
   have:=h.1
   cases u <;> first | rfl | (cases k <;> simp [kindOk] at this)
  ·exact Nn (ρ:=ρ) h.2 h2 v hv
theorem VP {n:Nat} (IH:Xz enc P W n) {fuel len c:Nat} {e:TypeId} {l:uU} {a:Addr} (he:yJ P n e=true) (hl:lay P 12 e=some l) (DG:l.ks.length=c) (ha:l.agg=true∨l.ks.length=1) (hc:P.cellsOf e=c) (hc1:1≤c)
  (hx:∀ i,i < len→∃ x,(W.cells? 0 (a.add (i * c)) c).bind (DataW.trod enc P W 0 (fun _=>true) true fuel e)=some x) (hi:Mv P W E B ρ):∀ j,j≤len→
  ∃ E' B' aY es us fl,Mv P W E' B' aY∧E.le E'∧ρ.le aY∧es.length=j∧bf P E' es us∧fM l es=true∧Gi es∧fl.length=j * c∧n6 c 0 fl us∧
   (∀ (i:Nat) (v:Value),fl[i]? = some v→∃ v',W.cell? ⟨a.block,a.off+i,.none⟩=some v'∧VR aY v v'∧scalar v=true)∧(0 < j→a.block < W.heap.size∧a.spot = .none)
 | 0,_=>⟨E,B,ρ,[],[],[],hi,Env.le_refl _,aW.le_refl _,rfl,.nil,rfl,trivial,by simp,fun i x h=>by simp at h,fun i v h=>by simp at h,fun h=>by omega⟩
 | j+1,hj=>by
  obtain ⟨E1,B1,mC,es,us,fl,h1,h2,h3,h4,h5,h6,h7,h8,h9,sn,DJ⟩:=VP IH he hl DG ha hc hc1 hx hi j (by omega)
  obtain ⟨x,Ck⟩:=hx j (by omega)
  obtain ⟨cs,Hs,hx2⟩:=Option.bind_eq_some_iff.1 Ck
  obtain ⟨hlen,mQ⟩:=Zo Hs
  have FH:a.block < W.heap.size:=by
   have h0:0 < cs.length:=by rw [hlen]; omega
   exact (QL (mQ 0 _ (List.getElem?_eq_getElem h0))).2.1
  obtain ⟨E2,B2,um,ks,q1,q2,q3,⟨m,q4,q4'⟩,q5,q6⟩:=IH e he fuel cs x E1 B1 mC hx2 (fun _ _ _ _=>by omega) h1
  have hk:=q6 12 l hl
  have hml:m.length=c:=by rw [q4.length,EY hk,DG]
  have xj:l.agg=true∨m.length=1:=by rw [hml,← DG]; exact ha
  have Wa:=Nn (ρ:=ρ) hk q4
  have od:=YH Wa xj
  have hul:us.length=j:=by rw [h5.length,h4]
  refine ⟨E2,B2,um,es++[JJ l.agg ks],us++[mkE l.agg m],fl++m,q1,Env.le_trans h2 q2,aW.le_trans h3 q3,by simp [h4],(h5.mono q2).append (.cons (YI q4 xj) .nil),?_,Cs h7 ⟨ahI q5,trivial⟩,?_,?_,?_,fun _=>⟨FH,?_⟩⟩
  ·have:∀ {es:List KV},fM l es=true→fM l (es++[JJ l.agg ks])=true:=by
    intro es
    induction es with
    | nil=>intro _; simp [fM,Tr hk ha]
    | cons e es ih=>
     intro h
     simp only [fM,Bool.and_eq_true] at h
     simp only [List.cons_append,fM,Bool.and_eq_true]
     exact ⟨h.1,ih h.2⟩
   exact this h6
  ·rw [List.length_append,h8,hml,Nat.succ_mul]
  ·intro i y hy
   by_cases hi:i < j
   ·rw [List.getElem?_append_left (by omega)] at hy
    obtain ⟨r1,r2⟩:=h9 i y hy
    refine ⟨r1,fun k z hz=>?_⟩
    have:=r2 k z hz
    rw [List.getElem?_append_left (List.getElem?_eq_some_iff.1 this).1]
    exact this
   ·rw [List.getElem?_append_right (by omega),hul] at hy
    have OU:i=j:=by
     have:=(List.getElem?_eq_some_iff.1 hy).1
     simp at this
     omega
    subst OU
    simp at hy
    subst hy
    have fo:(mkE l.agg m).cells.size=c:=by rw [← Array.length_toList,od,hml]
    refine ⟨fo,fun k z hz=>?_⟩
    rw [← Array.getElem?_toList,od] at hz
    rw [List.getElem?_append_right (by rw [h8]; omega),h8,show 0+i * c+k - i * c=k by omega]
    exact hz
  ·intro i v hv
   by_cases hi:i < fl.length
   ·rw [List.getElem?_append_left hi] at hv
    obtain ⟨v',r1,r2,r3⟩:=sn i v hv
    exact ⟨v',r1,r2.mono q3,r3⟩
   ·rw [List.getElem?_append_right (by omega)] at hv
    obtain ⟨v',r1,r2⟩:=q4'.get hv
    refine ⟨v',?_,r2,Wa v (List.mem_of_getElem? hv)⟩
    have:=(QL (mQ _ _ r1)).1
    rw [h8] at this
    rw [h8] at hi
    rw [show a.off+i=a.off+j * c+(i - j * c) by omega]
    exact this
  ·by_cases h0:j=0
   ·subst h0
    have h0:0 < cs.length:=by rw [hlen]; omega
    exact (QL (mQ 0 _ (List.getElem?_eq_getElem h0))).2.2 (by omega)
   ·exact (DJ (by omega)).2
theorem afd:∀ n,Xz enc P W n
 | 0=>fun t ht=>by simp [yJ] at ht
 | n+1=>by
  have IH:=afd n
  intro t ht fuel cs x E B ρ hx hp hi
  have hn:∀ {m l},lay P m t=some l→∃ m',m=m' + 1:=by
   intro m l h
   cases m with
   | zero=>simp [lay] at h
   | succ m=>exact ⟨m,rfl⟩
  unfold yJ at ht
  split at ht
  ·rename_i k hu
   obtain ⟨i,rfl,_,hw⟩:=DataW.trod_int hu hx
   refine ⟨E,B,ρ,[.int k i],hi,Env.le_refl _,aW.le_refl _,⟨_,.cons .mkInt .nil,.cons (by simp [VR]) .nil⟩,⟨hw,trivial⟩,fun m l h=>?_⟩
   obtain ⟨m',rfl⟩:=hn h
   simp only [lay,hu,Option.some.injEq] at h
   subst h
   simp [aH,kindOk]
  ·rename_i hu
   obtain ⟨b,rfl,_⟩:=DataW.trod_bool hu hx
   refine ⟨E,B,ρ,[.bool b],hi,Env.le_refl _,aW.le_refl _,⟨_,.cons .sk .nil,.cons (by simp [VR]) .nil⟩,⟨trivial,trivial⟩,fun m l h=>?_⟩
   obtain ⟨m',rfl⟩:=hn h
   simp only [lay,hu,Option.some.injEq] at h
   subst h
   simp [aH,kindOk]
  ·rename_i hu
   obtain ⟨s,rfl,_,hw⟩:=DataW.trod_string hu hx
   refine ⟨E,B,ρ,[.str s],hi,Env.le_refl _,aW.le_refl _,⟨_,.cons .mkStr .nil,.cons (by simp [VR]) .nil⟩,⟨hw,trivial⟩,fun m l h=>?_⟩
   obtain ⟨m',rfl⟩:=hn h
   simp only [lay,hu,Option.some.injEq] at h
   subst h
   simp [aH,kindOk]
  ·rename_i e hu
   simp only [Bool.and_eq_true] at ht
   obtain ⟨⟨vR,F6⟩,ht3⟩:=ht
   have hc1:=Nat.le_of_ble_eq_true vR
   split at ht3
   ·rename_i l hl
    simp only [Bool.and_eq_true,Bool.or_eq_true] at ht3
    have DG:=Nat.eq_of_beq_eq_true ht3.1
    have xj:l.agg=true∨l.ks.length=1:=ht3.2.imp id Nat.eq_of_beq_eq_true
    have hlF:bu P e=l:=by simp [bu,hl]
    have fo:bg P e=P.cellsOf e:=by rw [bg,hlF,DG]
    have fin:∀ {ks:List KV} {m:Nat} {l' : uU} {mk:Mk} {nn:Nat} {es:List KV} {acc:Nat→KV},mk = .any→lay P m t=some l'→ks = [.ts e mk nn es acc]→aH l'.ks ks=true:=by
     intro ks m l' mk nn es acc Wb h rm
     obtain ⟨m',rfl⟩:=hn h
     simp only [lay,hu,Option.some.injEq] at h
     subst h rm Wb
     simp [aH,kindOk]
    rcases DataW.trod_slice hu hx with ⟨rfl,_⟩ | ⟨a,len,cap,elems,rest,fu,_,rfl,_,_,hle,aiX,Ba,hE,hR,_⟩
    ·refine ⟨E,B,ρ,[.ts e .any 0 [] n5],hi,Env.le_refl _,aW.le_refl _,⟨[.slice .none 0 0],.cons ?_ .nil,.cons (by simp [VR]) .nil⟩,⟨⟨Nat.zero_le _,trivial⟩,trivial⟩,fun m l h=>fin rfl h rfl⟩
     simp only [VK]
     exact ⟨⟨rfl,fun i h=>by omega,rfl⟩,[],.nil,.none,0,rfl,Nat.le_refl _,.inl ⟨rfl,rfl⟩,trivial⟩
    ·have hxs:∀ i,i < len→∃ x,(W.cells? 0 (a.add (i * P.cellsOf e)) (P.cellsOf e)).bind (DataW.trod enc P W 0 (fun _=>true) true fu e)=some x:=by
      intro i h
      rw [hE i h]
      exact ⟨_,List.getElem?_eq_getElem (by rw [Ba]; exact h)⟩
     obtain ⟨E1,B1,mC,es,us,fl,h1,h2,h3,h4,h5,h6,h7,h8,h9,sn,DJ⟩:=VP IH F6 hl DG xj rfl hc1 hxs hi len (Nat.le_refl _)
     have uR:0 < cap→a.block < W.heap.size∧a.spot = .none:=by
      intro h0
      by_cases J2:0 < len
      ·exact DJ J2
      ·have J2:len=0:=by omega
       subst J2
       obtain ⟨hr1,uf⟩:=hR rfl
       have hr3:=uf 0 (by omega)
       rw [List.getElem?_eq_getElem (by rw [hr1]; omega)] at hr3
       obtain ⟨b8,ai3,_⟩:=Option.bind_eq_some_iff.1 hr3
       obtain ⟨hlen,mQ⟩:=Zo ai3
       have h0:0 < b8.length:=by rw [hlen]; omega
       have:=QL (mQ 0 _ (List.getElem?_eq_getElem h0))
       exact ⟨this.2.1,this.2.2 (by omega)⟩
     have hh:0 < W.heap.size:=hp a len cap (by simp)
     have hlenes:us.length=len:=by rw [h5.length,h4]
     have amT:∃ lc:aG.Loc,lc.bU=P.cellsOf e∧lc.cb < W.heap.size∧lc.eh+fl.length≤lc.yo∧(cap≠0→a=⟨lc.cb,lc.eh,.none⟩)∧lc.eh+cap * lc.bU≤lc.yo∧
       (∀ (i:Nat) (v:Value),fl[i]? = some v→∃ v',W.cell? ⟨lc.cb,lc.eh+i,.none⟩=some v'∧VR mC v v'∧scalar v=true):=by
      by_cases h0:cap=0
      ·subst h0
       have J2:len=0:=by omega
       subst J2
       refine ⟨⟨0,0,0,P.cellsOf e⟩,rfl,hh,by simp [h8],fun h=>absurd rfl h,by simp,fun i v hv=>?_⟩
       have:fl = []:=by apply List.eq_nil_of_length_eq_zero; simp [h8]
       rw [this] at hv; simp at hv
      ·obtain ⟨p1,p2⟩:=uR (by omega)
       refine ⟨⟨a.block,a.off,a.off+cap * P.cellsOf e,P.cellsOf e⟩,rfl,p1,?_,fun _=>?_,Nat.le_refl _,sn⟩
       ·rw [h8]; exact Nat.add_le_add_left (Nat.mul_le_mul_right _ hle) _
       ·obtain ⟨b,o,s⟩:=a
        simp at p2
        simp [p2]
     obtain ⟨lc,l1,l2,l3,l4,l5,l6⟩:=amT
     obtain ⟨i1,i2,i3⟩:=h1.add l6 l2 l3
     refine ⟨_,_,_,[.ts e .any len es (qV es)],i1,Env.le_trans h2 i2,aW.le_trans h3 i3,⟨[.slice (some ⟨B1.next,0,.none⟩) len len],.cons ?_ .nil,.cons ?_ .nil⟩,⟨⟨by omega,h7⟩,trivial⟩,fun m l h=>fin rfl h rfl⟩
     ·simp only [VK]
      refine ⟨⟨h4.symm,fun i _=>rfl,by rw [hlF]; exact h6⟩,us,h5.mono i2,some ⟨B1.next,0,.none⟩,len,rfl,Nat.le_refl _,.inr ⟨B1.next,0,⟨fl,lc.bU,false,.none⟩,rfl,by simp [Env.gA],by rw [l1,fo],?_⟩,trivial⟩
      rw [fo]
      exact h9
     ·simp only [VR]
      exact ⟨trivial,Nat.le_refl _,lc,a,cap,by simp [aW.set],hle,fun h=>by simpa using l4 h,by simpa using l5,rfl⟩
   ·simp at ht3
  ·rename_i fs hu
   simp only [Bool.and_eq_true,List.all_eq_true] at ht
   split at ht
   ·rename_i k hk
    have hkc:=Nat.eq_of_beq_eq_true ht.2
    obtain ⟨xs,fu,_,_,hlen,hxs,hf⟩:=DataW.trod_struct hu hx
    have hff:∀ f∈fs.toList,∃ x,DataW.trod enc P W 0 (fun _=>true) true fu f.type ((cs.drop f.offset).take (P.cellsOf f.type))=some x:=by
     intro f hm
     obtain ⟨i,PE⟩:=List.getElem?_of_mem hm
     have hi2:fs[i]? = some f:=by simpa using PE
     have bX:i < xs.length:=by rw [hxs]; exact (Array.getElem?_eq_some_iff.1 hi2).1
     exact ⟨xs[i],by rw [hf i f hi2]; exact List.getElem?_eq_getElem bX⟩
    obtain ⟨_,E1,B1,mC,ks,h1,h2,h3,h4,h5,h6⟩:=QK IH hp fs.toList 0 k E B ρ hi hk (by rw [hkc,hlen]; exact Nat.le_refl _) ht.1 hff
    refine ⟨E1,B1,mC,ks,h1,h2,h3,?_,h5,fun m l h=>?_⟩
    ·have e:(cs.drop 0).take (k - 0)=cs:=by rw [List.drop_zero,Nat.sub_zero,hkc,← hlen,List.take_length]
     rw [e] at h4
     exact h4
    ·obtain ⟨m',rfl⟩:=hn h
     simp only [lay,hu,Option.map_eq_some_iff] at h
     obtain ⟨l',r9,rfl⟩:=h
     exact h6 m' l' r9
   ·simp at ht
  ·rename_i len e hu
   simp only [Bool.and_eq_true] at ht
   have hkc:=Nat.eq_of_beq_eq_true ht.2
   obtain ⟨xs,fu,_,_,hlen,hxs,hf⟩:=DataW.trod_array hu hx
   have hff:∀ i,i < len→∃ x,DataW.trod enc P W 0 (fun _=>true) true fu e ((cs.drop (i * P.cellsOf e)).take (P.cellsOf e))=some x:=by
    intro i h
    exact ⟨xs[i],by rw [hf i h]; exact List.getElem?_eq_getElem (by rw [hxs]; exact h)⟩
   obtain ⟨E1,B1,mC,ks,h1,h2,h3,h4,h5,h6⟩:=VO IH hp ht.1 rfl (by rw [hlen,hkc]; exact Nat.le_refl _) hff hi len (Nat.le_refl _)
   refine ⟨E1,B1,mC,ks,h1,h2,h3,?_,h5,fun m l h=>?_⟩
   ·rw [← hkc,← hlen,List.take_length] at h4
    exact h4
   ·obtain ⟨m',rfl⟩:=hn h
    simp only [lay,hu,Option.map_eq_some_iff] at h
    obtain ⟨l',r9,rfl⟩:=h
    exact h6 m' l' r9
  ·simp at ht
end
end Go.K
end
section
namespace Go.K
open Go Go.aG Go.WideShapes
mutual
def ajT (P:Program):KV→Prop
 | .ts T _ n es acc=>je P T n es acc∧Ia P es
 | .agg cs=>Ia P cs
 | _=>True
def Ia (P:Program):List KV→Prop
 | []=>True
 | v::vs=>ajT P v∧Ia P vs
end
mutual
theorem VK.deep {P:Program} {E:Env} : ∀ {v:KV} {u:Value},VK P E v u→ajT P v
 | .ts T m n es acc,u,h=>by
  obtain ⟨h1,us,h2,_⟩:=h.mi
  exact ⟨h1,bf.deep h2⟩
 | .agg cs,u,h=>by
  obtain ⟨l,_,h1⟩:=h.mc
  exact bf.deep (vs:=cs) h1
 | .int _ _,_,_ | .bool _,_,_ | .str _,_,_ | .jE _,_,_ | .tp ..,_,_ | .ptr ..,_,_ | .al ..,_,_ | .ap ..,_,_ | .sl ..,_,_ | .BZ,_,_ | .kQ,_,_ | .yv,_,_ | .map _,_,_ | .fn ..,_,_ | .CU,_,_ | .iface ..,_,_ | .CV,_,_ | .ax,_,_=>trivial
theorem bf.deep {P:Program} {E:Env} : ∀ {vs:List KV} {us:List Value},bf P E vs us→Ia P vs
 | [],_,_=>trivial
 | v::vs,us,h=>by
  simp only [bf] at h
  obtain ⟨y,ys,_,h1,h2⟩:=h
  exact ⟨VK.deep h1,bf.deep h2⟩
end
def ot (P:Program):List TypeId→List KV→Bool
 | [],[]=>true
 | t::ts,v::vs=>dw (bu P t) v&&ot P ts vs
 | _,_=>false
theorem VQ {P:Program} : ∀ {ts:List TypeId} {am2:List KV},ot P ts am2=true→am2.length=ts.length
 | [],[],_=>rfl
 | [],_::_,h=>by simp [ot] at h
 | _::_,[],h=>by simp [ot] at h
 | t::ts,v::vs,h=>by
  simp only [ot,Bool.and_eq_true] at h
  simp [VQ h.2]
def QM (P:Program) (t:TypeId):Bool:=yJ P 30 t&&(match lay P 12 t with
 | some l=>Nat.beq l.ks.length (P.cellsOf t)
 | .none=>false)
section
variable {H:Type} {enc:TypeId×Value→H} {P:Program} {W:World}
theorem adi {r:Reach} {base:Nat} {t:TypeId} {v:Value} (h:Value.okWide P W r base t v):Zm W v.cells.toList:=by
 intro a n c hm
 have cell:∀ u,Cell.okWide P W r base u (.slice (some a) n c)→0 < W.heap.size:=by
  intro u hu
  unfold Cell.okWide at hu
  split at hu <;> try (rename_i heq; simp at heq; done)
  unfold Cell.ok at hu
  split at hu <;> try (rename_i heq; simp at heq; done)
  ·rename_i e heq
   simp at heq
   obtain ⟨rfl,rfl,rfl⟩:=heq
   obtain ⟨_,_,_,_,row,cells,hs,_⟩:=hu
   unfold World.shape? at hs
   split at hs
   ·rename_i hh
    have:=(Array.getElem?_eq_some_iff.1 hh).1
    omega
   ·simp at hs
  ·exact hu.elim
 unfold Value.okWide at h
 split at h
 ·obtain ⟨cs,rfl,_,ts,_,_,hc⟩:=h
  obtain ⟨i,hi⟩:=List.getElem?_of_mem hm
  obtain ⟨u,_,hu⟩:=hc i _ (by simpa [Value.cells] using hi)
  exact cell u hu
 ·obtain ⟨cs,rfl,_,ts,_,_,hc⟩:=h
  obtain ⟨i,hi⟩:=List.getElem?_of_mem hm
  obtain ⟨u,_,hu⟩:=hc i _ (by simpa [Value.cells] using hi)
  exact cell u hu
 ·have hv:v.cells.toList = [v]∨∃ cs,v = .agg cs:=by cases v <;> first | exact .inl rfl | exact .inr ⟨_,rfl⟩
  rcases hv with hv | ⟨cs,rfl⟩
  ·rw [hv] at hm
   simp at hm
   subst hm
   exact cell t h
  ·exfalso
   unfold Cell.okWide at h
   split at h <;> try (rename_i heq; simp at heq; done)
   unfold Cell.ok at h
   split at h <;> first | (rename_i heq; simp at heq; done) | exact h.elim
theorem aij {E:Env} {B:St} {ρ:aW} {t:TypeId} {v:Value} {d:DataW H} {ps:List MemPlace} {r:Reach} {base:Nat} (ht:QM P t=true) (hd:DataW.Trod enc P W 0 (fun _=>true) true t v d ps) (hw:Value.okWide P W r base t v) (hi:Mv P W E B ρ) :
  ∃ E' B' aY a,Mv P W E' B' aY∧E.le E'∧ρ.le aY∧VC P E' aY a v∧dw (bu P t) a=true∧wfK a:=by
 unfold QM at ht
 simp only [Bool.and_eq_true] at ht
 obtain ⟨vR,F6⟩:=ht
 split at F6
 ·rename_i l hl
  obtain ⟨fuel,hf⟩:=hd
  obtain ⟨E1,B1,mC,ks,h1,h2,h3,⟨m,h4,h4'⟩,h5,h6⟩:=afd 30 t vR fuel _ _ E B ρ hf (adi hw) hi
  have hk:=h6 12 l hl
  have hlF:bu P t=l:=by simp [bu,hl]
  have ahJ:(l.agg=true∧∃ cs:Array Value,v = .agg cs)∨(l.agg=false∧l.ks.length=1∧v.cells.toList = [v]):=by
   unfold yJ at vR
   split at vR
   ·rename_i k hu
    obtain ⟨n,rfl⟩:=okWide_int hu hw
    simp only [lay,hu,Option.some.injEq] at hl
    subst hl; exact .inr ⟨rfl,rfl,rfl⟩
   ·rename_i hu
    obtain ⟨n,rfl⟩:=okWide_bool hu hw
    simp only [lay,hu,Option.some.injEq] at hl
    subst hl; exact .inr ⟨rfl,rfl,rfl⟩
   ·rename_i hu
    obtain ⟨n,rfl⟩:=okWide_string hu hw
    simp only [lay,hu,Option.some.injEq] at hl
    subst hl; exact .inr ⟨rfl,rfl,rfl⟩
   ·rename_i e hu
    obtain ⟨a,n,c,rfl⟩:=okWide_slice hu hw
    simp only [lay,hu,Option.some.injEq] at hl
    subst hl; exact .inr ⟨rfl,rfl,rfl⟩
   ·rename_i fs hu
    simp only [lay,hu,Option.map_eq_some_iff] at hl
    obtain ⟨_,_,rfl⟩:=hl
    unfold Value.okWide at hw
    rw [hu] at hw
    obtain ⟨cs,rfl,_⟩:=hw
    exact .inl ⟨rfl,cs,rfl⟩
   ·rename_i len e hu
    simp only [lay,hu,Option.map_eq_some_iff] at hl
    obtain ⟨_,_,rfl⟩:=hl
    unfold Value.okWide at hw
    rw [hu] at hw
    obtain ⟨cs,rfl,_⟩:=hw
    exact .inl ⟨rfl,cs,rfl⟩
   ·simp at vR
  refine ⟨E1,B1,mC,JJ l.agg ks,h1,h2,h3,?_,?_,ahI h5⟩
  ·rcases ahJ with ⟨ha,cs,rfl⟩ | ⟨ha,hlen,hv⟩
   ·rw [ha]
    exact ⟨.agg ⟨m⟩,.oY h4,VR.oY (l':=cs.toList) h4'⟩
   ·rw [ha]
    rw [hv] at h4'
    have hml:m.length=1:=by have:=h4'.length; simpa using this.symm
    have:=YI (agg:=false) h4 (.inr hml)
    match m,hml,h4',this with
    | [y],_,h4',this=>
     obtain ⟨z,zs,e,q1,_⟩:=h4'.cons_inv
     simp at e
     refine ⟨y,this,?_⟩
     rw [e.1]; exact q1
  ·rw [hlF]
   exact Tr hk (ahJ.imp (·.1) (·.2.1))
 ·simp at F6
theorem Zp {r:Reach} {base:Nat} : ∀ {ts:List TypeId} {vs:List Value} {ds:List (DataW H)} {ps:List MemPlace} {E:Env} {B:St} {ρ:aW},(∀ t∈ts,QM P t=true)→DataW.TrodAll enc P W 0 (fun _=>true) true ts vs ds ps→
  (∀ (j:Nat) t v,ts[j]? = some t→vs[j]? = some v→Value.okWide P W r base t v)→Mv P W E B ρ→∃ E' B' aY am2,Mv P W E' B' aY∧E.le E'∧ρ.le aY∧BH P E' aY am2 vs∧ot P ts am2=true∧Gi am2
 | [],vs,ds,ps,E,B,ρ,_,h,_,hi=>by
  obtain ⟨rfl,_,_⟩:=Go.ChangeShapes.trodAll_nil h
  exact ⟨E,B,ρ,[],hi,Env.le_refl _,aW.le_refl _,⟨[],.nil,.nil⟩,rfl,trivial⟩
 | t::ts,vs,ds,ps,E,B,ρ,ht,h,hw,hi=>by
  obtain ⟨v,vs1,d,ds1,a,b,rfl,rfl,rfl,h1,h2⟩:=Go.ChangeShapes.trodAll_cons h
  obtain ⟨E1,B1,mC,x,q1,q2,q3,⟨u,q4,q4'⟩,q5,q6⟩:=aij (ht t (by simp)) h1 (hw 0 t v rfl rfl) hi
  obtain ⟨E2,B2,um,xs,p1,p2,p3,⟨m,p4,p4'⟩,p5,p6⟩:=Zp (fun t' h'=>ht t' (by simp [h'])) h2 (fun j t' v' h3 h4=>hw (j+1) t' v' (by simpa using h3) (by simpa using h4)) q1
  exact ⟨E2,B2,um,x::xs,p1,Env.le_trans q2 p2,aW.le_trans q3 p3,⟨u::m,.cons (q4.mono p2) p4,.cons (q4'.mono p3) p4'⟩,by simp [ot,q5,p5],⟨q6,p6⟩⟩
theorem ak1 (hP:P.funcs.toList.all mM=true) (hm:P.follows .mixedOrders=true) {cfg:eN} (iu:qN P cfg.pc) (lY:uu P cfg) {L n:Nat} {f:FuncId} {ts:List TypeId} (hts:ts.all (QM P)=true)
  (o4:∀ am2,ot P ts am2=true→Gi am2→Ia P am2→dn P cfg L n f (normArgs P ts am2)=some (.bool true)) {args:Array Value} {ds:List (DataW H)} {ps:List MemPlace} {r:Reach} {base:Nat}
  (hd:DataW.TrodAll enc P W 0 (fun _=>true) true ts args.toList ds ps) (hw:∀ (j:Nat) t v,ts[j]? = some t→args.toList[j]? = some v→Value.okWide P W r base t v) :
  Calls P f args W fun e w'=>e = .returned (.bool true)∧RowKit.Below W.heap.size W w':=by
 obtain ⟨E,B,ρ,am2,h1,_,_,h4,h5,h6⟩:=Zp (List.all_eq_true.1 hts) hd hw (Mv.start P W)
 have alZ:Ia P am2:=by obtain ⟨m,q,_⟩:=h4; exact q.deep
 have mD:=o4 am2 h5 h6 alZ
 have h4:BH P E ρ (normArgs P ts am2) args.toList:=by
  obtain ⟨m,q,q'⟩:=h4
  exact ⟨m,bf.Y6 rfl q (VQ h5),q'⟩
 have tT:=s9 (R:=KV) hP hm iu lY L n
 obtain ⟨fn,c,hf,hc,ch,hnm,mD⟩:=Kz hP mD
 have:=H4 iu tT hm L hf hc ch (lY.2 f fn c hf hc) mD h4 (base:=W.heap.size) (w:=W) ⟨h1.k,h1.jv⟩
 refine this.mono ?_
 rintro e w' ⟨vs,cT,E1,A1,B1,mC,rfl,⟨m,q1,q1'⟩,q2,q3⟩
 have q3:Bool.rec (motive:=fun _=>Option KV) .none (some (CY (uZ P (ru P f) (vL A1 vs).1))) (Nat.beq vs.length (ru P f).length)=some (.bool true):=q3
 obtain ⟨E2,_,q1⟩:=D4 q2.jv q1
 cases hb:Nat.beq vs.length (ru P f).length with
 | false=>rw [hb] at q3; exact absurd q3 (by simp)
 | true=>
  rw [hb] at q3
  have q3:some (CY (uZ P (ru P f) (vL A1 vs).1))=some (.bool true):=q3
  simp only [Option.some.injEq] at q3
  have hv:VC P E2 mC (CY (uZ P (ru P f) (vL A1 vs).1)) (ac9 cT):=Ky ⟨m,by rw [Da]; exact bf.Y6 rfl q1 ((HT A1 vs).trans (Nat.eq_of_beq_eq_true hb)),q1'⟩
  rw [q3] at hv
  have hg:=q2.fL
  refine ⟨by rw [hv.gd],hg.kept.os,hg.kept.tape,hg.kept.output,hg.kept.size,fun k hk=>hg.kept.block k hk ?_⟩
  rintro ⟨b,o,l,ho,EK,_⟩
  rw [(h1.sQ b o ho).1] at EK
  simp at EK
end
noncomputable def ab9:List (Nat×(List KV→KR KV))→FuncId→Option (List KV→KR KV)
 | [],_=>.none
 | p::ps,g=>cond (Nat.beq p.1 g) (some p.2) (ab9 ps g)
theorem ahK {P:Program} : ∀ {ps:List (Nat×(List KV→KR KV))},(∀ p∈ps,b9 P p.1 p.2)→qN P (ab9 ps)
 | [],_=>fun g F h=>by simp [ab9] at h
 | p::ps,h=>fun g F hF=>by
  unfold ab9 at hF
  cases hb:Nat.beq p.1 g with
  | true=>
   rw [hb] at hF
   simp only [cond_true,Option.some.injEq] at hF
   have:=Nat.eq_of_beq_eq_true hb
   subst this hF
   exact h p (by simp)
  | false=>
   rw [hb] at hF
   exact ahK (fun q hq=>h q (List.mem_cons_of_mem _ hq)) g F hF
theorem afe (l:uU):dw l .ax=false:=by
 show (!l.agg&&aH l.ks [.ax])=false
 cases l.ks with
 | nil=>simp [aH]
 | cons c cs=>cases c <;> simp [aH,kindOk]
theorem agE {P:Program} {t:TypeId} {v:KV} (h:dw (bu P t) (Qg P t v)=true):∃ w,Qg P t v=ay P (ao P av) t w:=by
 unfold Qg at h ⊢
 cases hb:dw (bu P t) (gp (bu P t) v) with
 | false=>rw [hb,cond_false,afe] at h; simp at h
 | true=>exact ⟨gp (bu P t) v,rfl⟩
theorem Ib:∀ {ks:List CK} {cs:List KV},aH ks cs=true→yx ks cs=cs
 | [],[],_=>rfl
 | [],_::_,h=>by simp [aH] at h
 | _::_,[],h=>by simp [aH] at h
 | k::ks,v::vs,h=>by
  simp only [aH,Bool.and_eq_true] at h
  have e:mJ k v=v:=by
   unfold mJ
   split
   ·simp [kindOk] at h
   ·rename_i t t' m n es acc
    cases m <;> simp [kindOk] at h
    obtain ⟨rfl,_⟩:=h
    rw [Nat.beq_refl,cond_true]
   ·rw [h.1]; rfl
  rw [yx,e,Ib h.2]
theorem aff {l:uU} {v:KV} (h:dw l v=true):gp l v=v:=by
 by_cases ha:∃ cs,v = .agg cs
 ·obtain ⟨cs,rfl⟩:=ha
  simp only [dw,Bool.and_eq_true] at h
  show cond (l.agg&&Nat.beq cs.length l.ks.length) (KV.agg (yx l.ks cs)) .ax=_
  rw [h.1,qg h.2,Ib h.2]
  simp
 ·have h1:(!l.agg&&aH l.ks [v])=true:=by
   cases v <;> first | exact h | exact absurd ⟨_,rfl⟩ ha | simp [dw] at h
  simp only [Bool.and_eq_true,Bool.not_eq_true'] at h1
  have e:gp l v=cond l.agg .ax (match l.ks with | [c]=>mJ c v | _=>.ax):=by
   cases v <;> first | rfl | exact absurd ⟨_,rfl⟩ ha
  rw [e,h1.1,cond_false]
  match hk:l.ks,h1.2 with
  | [c],h2=>
   have:=Ib h2
   simpa [yx] using this
  | [],h2=>simp [aH] at h2
  | _::_::_,h2=>simp [aH] at h2
theorem agF {P:Program} {t:TypeId} {v:KV} (h:dw (bu P t) v=true):Qg P t v=ay P (ao P av) t v:=by
 unfold Qg
 rw [aff h,h,cond_true]
noncomputable def cM (P:Program):List TypeId→(Nat→KV)→Nat→List KV
 | [],_,_=>[]
 | t::ts,w,k=>ay P (ao P av) t (w k)::cM P ts w (Nat.succ k)
theorem QN {P:Program} : ∀ {ts:List TypeId} {w w' : Nat→KV} {k:Nat},(∀ i,k≤i→w i=w' i)→cM P ts w k=cM P ts w' k
 | [],_,_,_,_=>rfl
 | t::ts,w,w',k,h=>by
  rw [cM,cM,h k (Nat.le_refl _),QN fun i hi=>h i (by omega)]
theorem Zq {P:Program} : ∀ {ts:List TypeId} {am2:List KV} (k:Nat),ot P ts (normArgs P ts am2)=true→∃ w,normArgs P ts am2=cM P ts w k
 | [],am2,k,_=>⟨fun _=>.ax,by cases am2 <;> rfl⟩
 | t::ts,[],k,h=>by simp [normArgs,ot] at h
 | t::ts,v::vs,k,h=>by
  simp only [normArgs,ot,Bool.and_eq_true] at h
  obtain ⟨w,hw⟩:=agE h.1
  obtain ⟨w',hw'⟩:=Zq (k+1) h.2
  refine ⟨fun i=>if i=k then w else w' i,?_⟩
  rw [normArgs,cM,hw,hw',if_pos rfl]
  rw [QN (w:=w') (w':=fun i=>if i=k then w else w' i) fun i hi=>by rw [if_neg (by omega)]]
theorem Zr {P:Program} : ∀ {ts:List TypeId} {am2:List KV} (k:Nat) {w:Nat→KV},ot P ts am2=true→(∀ i,i < am2.length→w (k+i)=am2.getD i .ax)→normArgs P ts am2=cM P ts w k
 | [],[],k,_,_,_=>rfl
 | [],_::_,_,_,h,_=>by simp [ot] at h
 | _::_,[],_,_,h,_=>by simp [ot] at h
 | t::ts,v::vs,k,w,h,hw=>by
  simp only [ot,Bool.and_eq_true] at h
  rw [normArgs,cM,agF h.1,Zr (k+1) (w:=w) h.2 fun i hi=>by have:=hw (i+1) (by simp; omega); rw [show k+1+i=k+(i+1) by omega,this]; rfl]
  have:=hw 0 (by simp)
  rw [Nat.add_zero] at this
  rw [this]; rfl
noncomputable def cr (P:Program) (g:FuncId) (F:List KV→KR KV):List KV→KR KV:=fun am2=>cond (ot P (aK P g) am2) (F am2) .no
theorem ajU {P:Program} {g:FuncId} {F:List KV→KR KV} (hP:P.funcs.toList.all mM=true) (hm:P.follows .mixedOrders=true) {cfg:eN} (iu:qN P cfg.pc) (lY:uu P cfg) {L n:Nat}
  (h:∀ w v,a5 (F (cM P (aK P g) w 0)) v→dn P cfg L n g (cM P (aK P g) w 0)=some v) (hy:Nat.blt g yB=true:=by rfl):b9 P g (cr P g F):=
 ajA hy hP hm fun am2 v _ hF=>by
  unfold cr at hF
  obtain ⟨hb,hF⟩:=a5.cond hF
  obtain ⟨w,hw⟩:=Zq 0 hb
  rw [hw] at hF ⊢
  exact ⟨cfg,L,n,iu,lY,h w v hF⟩
noncomputable def ajV (P:Program) (d:CD) (w:KV):KV:=
 match d with
 | .k c=>ao P av (leaf c w)
 | .lit v=>v
 | .bb t=>ao P av (leaf (.slice t) w)
 | .arr t=>ao P av (leaf (.slice t) w)
 | .ref v=>v
noncomputable def E4 (P:Program):List CD→(Nat→KV)→Nat→List KV
 | [],_,_=>[]
 | d::ds,w,k=>ajV P d (w k)::E4 P ds w (Nat.succ k)
noncomputable def adj (P:Program) (d:VD) (w:Nat→KV):KV:=Bool.rec (motive:=fun _=>KV) ((E4 P d.ks w 0).headD .ax) (.agg (E4 P d.ks w 0)) d.agg
noncomputable def lR (P:Program):List (Tmp×VD)→(Nat→Nat→KV)→Nat→List KV
 | [],_,_=>[]
 | p::ps,w,k=>adj P p.2 (w k)::lR P ps w (Nat.succ k)
noncomputable def lT (P:Program):List (Tmp×List CD×Nat)→(Nat→Nat→KV)→Nat→List (List KV)
 | [],_,_=>[]
 | p::ps,w,k=>E4 P p.2.1 (w k) 0::lT P ps w (Nat.succ k)
theorem aca {P:Program} {A:az} {d:CD} {v:KV} (h:jF d (fq P A d v)=true):∃ w,fq P A d v=ajV P d w:=by
 cases d with
 | ref u=>exact ⟨.ax,rfl⟩
 | k c=>
  have e:fq P A (.k c) v=cond (kindOk c (mJ c v)) (ao P av (leaf c (mJ c v))) .ax:=rfl
  cases hb:kindOk c (mJ c v) with
  | true=>exact ⟨mJ c v,by rw [e,hb]; rfl⟩
  | false=>
   rw [e,hb] at h
   cases c <;> simp [jF,kindOk] at h
 | lit u=>
  have e:fq P A (.lit u) v=cond (uv u v) u .ax:=rfl
  cases hb:uv u v with
  | true=>exact ⟨.ax,by rw [e,hb]; rfl⟩
  | false=>
   rw [e,hb,cond_false] at h
   have h:uv u .ax=true:=h
   cases u <;> first | (simp [uv] at h; done) | (rename_i f a b; cases f <;> cases a <;> cases b <;> simp [uv] at h)
 | bb t=>
  cases v with
  | kQ=>exact ⟨.ts t .any 0 [] n5,rfl⟩
  | ts t' m n es acc=>
   cases m with
   | bb f=>
    have e:fq P A (.bb t) (.ts t' (.bb f) n es acc)=cond (Nat.beq t t') (ao P av (.ts t .any n es acc)) .ax:=rfl
    cases hb:Nat.beq t t' with
    | true=>exact ⟨.ts t .any n es acc,by rw [e,hb]; rfl⟩
    | false=>rw [e,hb] at h; simp [jF,kindOk] at h
   | _=>simp [fq,jF,kindOk] at h
  | _=>simp [fq,jF,kindOk] at h
 | arr t=>
  rcases TD h with rfl | ⟨b,n,m,N,es,acc,rfl,_,he⟩
  ·exact ⟨.ts t .any 0 [] n5,rfl⟩
  ·exact ⟨.ts t .any N es acc,he⟩
theorem QO {P:Program} : ∀ {ds:List CD} {w w' : Nat→KV} {k:Nat},(∀ i,k≤i→w i=w' i)→E4 P ds w k=E4 P ds w' k
 | [],_,_,_,_=>rfl
 | t::ts,w,w',k,h=>by
  rw [E4,E4,h k (Nat.le_refl _),QO fun i hi=>h i (by omega)]
theorem TG {P:Program} {A:az} : ∀ {ds:List CD} {vs:List KV} (k:Nat),dL ds (fv P A ds vs)=true→∃ w,fv P A ds vs=E4 P ds w k
 | [],vs,k,_=>⟨fun _=>.ax,by cases vs <;> rfl⟩
 | d::ds,[],k,h=>by simp [fv,dL] at h
 | d::ds,v::vs,k,h=>by
  simp only [fv,dL,Bool.and_eq_true] at h
  obtain ⟨w,hw⟩:=aca h.1
  obtain ⟨w',hw'⟩:=TG (k+1) h.2
  refine ⟨fun i=>if i=k then w else w' i,?_⟩
  rw [fv,E4,hw,hw',if_pos rfl]
  rw [QO (w:=w') (w':=fun i=>if i=k then w else w' i) fun i hi=>by rw [if_neg (by omega)]]
theorem aik {P:Program} {A:az} {d:VD} {v:KV} (h:u4 d (tu P A d v)=true):∃ w,tu P A d v=adj P d w:=by
 have xj:=wF h
 rcases wG h with ⟨cs,rfl,h1,h2,h3⟩ | ⟨h0,c,h1,h2,h3,h4,h5⟩
 ·obtain ⟨w,hw⟩:=TG 0 h3
  refine ⟨w,?_⟩
  have:d.agg=true:=by
   rcases xj with ⟨_,_,q,_⟩ | ⟨q,_⟩
   ·exact q
   ·exact absurd h2 (q _)
  rw [h2,hw,adj,this]
 ·obtain ⟨w,hw⟩:=aca h3
  refine ⟨fun _=>w,?_⟩
  have:d.agg=false:=by
   rcases xj with ⟨cs,q,_⟩ | ⟨_,q,_⟩
   ·rw [h2] at q; exact absurd q (h5 _)
   ·exact q
  rw [h2,hw,adj,this,h1]; rfl
theorem Np {P:Program} : ∀ {ps:List (Tmp×VD)} {w w' : Nat→Nat→KV} {k:Nat},(∀ i,k≤i→w i=w' i)→lR P ps w k=lR P ps w' k
 | [],_,_,_,_=>rfl
 | t::ts,w,w',k,h=>by
  rw [lR,lR,h k (Nat.le_refl _),Np fun i hi=>h i (by omega)]
theorem Zs {P:Program} {t:bA} {A:az} : ∀ {ps:List (Tmp×VD)} (k:Nat),iv ps (o9 P t A ps)=true→∃ w,o9 P t A ps=lR P ps w k
 | [],k,_=>⟨fun _ _=>.ax,rfl⟩
 | p::ps,k,h=>by
  simp only [o9,iv,Bool.and_eq_true] at h
  obtain ⟨w,hw⟩:=aik h.1
  obtain ⟨w',hw'⟩:=Zs (k+1) h.2
  refine ⟨fun i=>if i=k then w else w' i,?_⟩
  rw [o9,lR,hw,hw',if_pos rfl]
  rw [Np (w:=w') (w':=fun i=>if i=k then w else w' i) fun i hi=>by rw [if_neg (by omega)]]
theorem Nq {P:Program} : ∀ {ps:List (Tmp×List CD×Nat)} {w w' : Nat→Nat→KV} {k:Nat},(∀ i,k≤i→w i=w' i)→lT P ps w k=lT P ps w' k
 | [],_,_,_,_=>rfl
 | t::ts,w,w',k,h=>by
  rw [lT,lT,h k (Nat.le_refl _),Nq fun i hi=>h i (by omega)]
theorem Zt {P:Program} : ∀ {ps:List (Tmp×List CD×Nat)} {rs:List (List KV)} (k:Nat),rs.length=ps.length→(∀ (i:Nat) p r,ps[i]? = some p→rs[i]? = some r→dL p.2.1 r=true)→
  (∀ (i:Nat) p,ps[i]? = some p→∃ A ma,rs[i]? = some (fv P A p.2.1 ma)∧ma.length=p.2.1.length)→∃ w,rs=lT P ps w k
 | [],[],k,_,_,_=>⟨fun _ _=>.ax,rfl⟩
 | [],_::_,_,h,_,_=>by simp at h
 | _::_,[],_,h,_,_=>by simp at h
 | p::ps,r::rs,k,hl,hg,hn=>by
  obtain ⟨A,ma,h1,_⟩:=hn 0 p rfl
  simp only [List.getElem?_cons_zero,Option.some.injEq] at h1
  have h2:=hg 0 p r rfl rfl
  rw [h1] at h2
  obtain ⟨w,hw⟩:=TG 0 h2
  obtain ⟨w',hw'⟩:=Zt (ps:=ps) (rs:=rs) (k+1) (by simpa using hl) (fun i p r a b=>hg (i+1) p r (by simpa using a) (by simpa using b)) fun i p a=>by simpa using hn (i+1) p (by simpa using a)
  refine ⟨fun i=>if i=k then w else w' i,?_⟩
  rw [lT,h1,hw,if_pos rfl]
  congr 1
  rw [hw']
  exact Nq fun i hi=>by rw [if_neg (by omega)]
theorem zF.form {P:Program} {S:aQ} {vs:List KV} {rs:List (List KV)} (h:zF P S vs rs):∃ wv wr,vs=lR P S.dW wv 0∧rs=lT P S.rows wr 0:=by
 obtain ⟨t,A,ht⟩:=h.vn
 have hv:=h.v
 rw [ht] at hv
 obtain ⟨wv,hwv⟩:=Zs 0 hv
 obtain ⟨wr,hwr⟩:=Zt 0 h.rF h.vK h.rn
 exact ⟨wv,wr,by rw [ht,hwv],hwr⟩
inductive aJ (X:Type) where
 | fail
 | next (x:X)
 | out (e:aw) (x:X)
def aJ.enc {X:Type} (ev:X→List KV) (er:X→List (List KV)):aJ X→Option (aw×List KV×List (List KV))
 | .fail=>.none
 | .next x=>some (.normal,ev x,er x)
 | .out e x=>some (e,ev x,er x)
theorem aJ.dg {X:Type} (ev:X→List KV) (er:X→List (List KV)) (c:Bool) (a b:aJ X):aJ.enc ev er (cond c a b)=cond c (aJ.enc ev er a) (aJ.enc ev er b):=by cases c <;> rfl
def aJ.go {X:Type} (step:X→aJ X):Nat→X→aJ X
 | 0,_=>.fail
 | n+1,x=>match step x with
  | .fail=>.fail
  | .next x=>aJ.go step n x
  | .out e x=>cond (x1 e) .fail (.out e x)
def fR:aw→aw→Bool
 | .normal,.normal=>true
 | .exit i,.exit j=>Nat.beq i j
 | .goto i,.goto j=>Nat.beq i j
 | .ret,.ret=>true
 | _,_=>false
theorem adk {a b:aw} (h:fR a b=true):a=b:=by
 cases a <;> cases b <;> simp [fR] at h <;> first | rfl | (subst h; rfl)
def aJ.by {X:Type} (s:aJ X) (e:aw):Bool:=
 match s with
 | .out e' _=>fR e' e
 | _=>false
def aJ.st {X:Type} [Inhabited X] (s:aJ X):X:=
 match s with
 | .out _ x=>x
 | _=>default
theorem afg {X:Type} {step:X→aJ X} {ev:X→List KV} {er:X→List (List KV)} {rd:List KV→List (List KV)→Option (aw×List KV×List (List KV))} (h:∀ x,rd (ev x) (er x)=aJ.enc ev er (step x)) :
  ∀ (n:Nat) (x:X) (e:aw) (y:X),aJ.go step n x = .out e y→xu rd n (ev x) (er x)=some (e,ev y,er y)
 | 0,x,e,y,hg=>by simp [aJ.go] at hg
 | n+1,x,e,y,hg=>by
  simp only [aJ.go] at hg
  have hx:=h x
  cases hs:step x with
  | fail=>rw [hs] at hg; simp at hg
  | next x'=>
   rw [hs] at hg hx
   simp only [xu,hx,aJ.enc,x1,cond_true]
   exact afg h n x' e y hg
  | out e' x'=>
   rw [hs] at hg hx
   simp only at hg
   cases hn:x1 e' with
   | true=>rw [hn] at hg; simp at hg
   | false=>
    rw [hn,cond_false] at hg
    simp only [aJ.out.injEq] at hg
    obtain ⟨rfl,rfl⟩:=hg
    simp only [xu,hx,aJ.enc,hn,cond_false]
def dD {X:Type} [Inhabited X] (ev:X→List KV) (er:X→List (List KV)) (s:aJ X):List aw→rE
 | []=>.no
 | e::es=>.br (s.by e) (.out e (ev s.st) (er s.st)) (dD ev er s es)
theorem OV {X:Type} [Inhabited X] {ev:X→List KV} {er:X→List (List KV)} {s:aJ X} : ∀ {es:List aw} {e:aw} {vs:List KV} {rs:List (List KV)},(dD ev er s es).ev=some (e,vs,rs)→∃ x,s = .out e x∧vs=ev x∧rs=er x
 | [],e,vs,rs,h=>by simp [dD,rE.ev] at h
 | e'::es,e,vs,rs,h=>by
  simp only [dD,rE.ev] at h
  cases hb:s.by e' with
  | false=>rw [hb] at h; exact OV h
  | true=>
   rw [hb,cond_true] at h
   simp only [Option.some.injEq,Prod.mk.injEq] at h
   obtain ⟨rfl,rfl,rfl⟩:=h
   cases s with
   | out e0 x=>
    have:=adk (show fR e0 e' = true from hb)
    subst this
    exact ⟨x,rfl,rfl,rfl⟩
   | fail=>simp [aJ.by] at hb
   | next x=>simp [aJ.by] at hb
def mm:Nat:=1000000000000
def goN {X:Type} (step:X→aJ X) (x:X):aJ X:=aJ.go step mm x
theorem afh {P:Program} {l:Lp} {X:Type} [Inhabited X] {cfg:eN} {L n:Nat} (iu:qN P cfg.pc) (lY:uu P cfg) {step:X→aJ X} {ev:X→List KV} {er:X→List (List KV)} {es:List aw} {pa:List KV→List (List KV)→X}
  (hF:∀ vs rs,l.F vs rs=dD ev er (goN step (pa vs rs)) es) (iX:∀ wv wr,ev (pa (lR P l.S.dW wv 0) (lT P l.S.rows wr 0))=lR P l.S.dW wv 0∧er (pa (lR P l.S.dW wv 0) (lT P l.S.rows wr 0))=lT P l.S.rows wr 0)
  (sa:∀ x,ahG l.st P cfg L n l.f l.p (eX P l.f l.p) l.S (ev x) (er x)=aJ.enc ev er (step x)):l.Ok P:=
 ⟨cfg,L,n,iu,lY,fun vs rs e cT ml ch o8=>by
  obtain ⟨wv,wr,rfl,rfl⟩:=ch.form
  obtain ⟨h1,h2⟩:=iX wv wr
  rw [hF] at o8
  obtain ⟨y,hy,rfl,rfl⟩:=OV o8
  have:=afg sa mm _ e y hy
  rw [h1,h2] at this
  exact ⟨mm,this⟩⟩
theorem ajW {P:Program} {c:Fc} {X:Type} [Inhabited X] {cfg:eN} {L n:Nat} (iu:qN P cfg.pc) (lY:uu P cfg) {step:X→aJ X} {ev:X→List KV} {er:X→List (List KV)} {es:List aw} {pa:List KV→List (List KV)→X} (hy:Nat.blt c.g yB=true)
  (hF:∀ vs rs,c.F vs rs=dD ev er (step (pa vs rs)) es) (iX:∀ wv wr,ev (pa (lR P c.S.dW wv 0) (lT P c.S.rows wr 0))=lR P c.S.dW wv 0∧er (pa (lR P c.S.dW wv 0) (lT P c.S.rows wr 0))=lT P c.S.rows wr 0)
  (sa:∀ x y,step x = .out .ret y→EX P cfg L n c.g c.S (ev x) (er x)=some (.ret,ev y,er y)) (Kl:es = [.ret]):c.Ok P:=
 ⟨hy,cfg,L,n,iu,lY,fun vs rs e cT ml ch o8=>by
  obtain ⟨wv,wr,rfl,rfl⟩:=ch.form
  obtain ⟨h1,h2⟩:=iX wv wr
  subst Kl
  rw [hF] at o8
  have he:e = .ret:=by
   simp only [dD,rE.ev] at o8
   cases hb:(step (pa (lR P c.S.dW wv 0) (lT P c.S.rows wr 0))).by aw.ret with
   | false=>rw [hb] at o8; simp at o8
   | true=>rw [hb] at o8; simp at o8; exact o8.1.symm
  subst he
  obtain ⟨y,hy,rfl,rfl⟩:=OV o8
  have:=sa _ y hy
  rw [h1,h2] at this
  exact this⟩
theorem agG {P:Program} {c:Fc} {cfg:eN} (iu:qN P cfg.pc) (lY:uu P cfg) (hy:Nat.blt c.g yB=true) (hF:∀ vs rs,(c.F vs rs).ev=none):c.Ok P:=
 ⟨hy,cfg,9,9,iu,lY,fun vs rs e cT ml _ o8=>by rw [hF] at o8; simp at o8⟩
def KM:Nat:=64
theorem ada {P:Program} {am2:List KV} (h:ot P [] am2=true):am2 = []:=by
 cases am2 with
 | nil=>rfl
 | cons a am2=>simp [ot] at h
end Go.K
end
section
namespace Go.K
open Go Go.aG
variable {P:Program} {E:Env}
end Go.K
end
section
namespace Go.K
open Go Go.aG
structure Sl (α:Type) where
 n:Nat
 get:Nat→α
instance {α:Type} [Inhabited α] : Inhabited (Sl α):=⟨⟨0,fun _=>default⟩⟩
def iU {α:Type} (T:TypeId) (k:α→KV) (s:Sl α):KV:=.ts T .any s.n ((List.range s.n).map fun i=>k (s.get i)) (fun i=>k (s.get i))
def ka {α:Type} (p:KV→α) (n:Nat) (acc:Nat→KV):Sl α:=⟨n,fun i=>p (acc i)⟩
def iw {α:Type} (p:KV→α) (v:KV):Sl α:=ka p (lenOf v) (ai6 v)
def kI (k:IntKind) (n:Int):KV:=.int k n
def kB (b:Bool):KV:=.bool b
abbrev ak (n:Int):Int:=IntKind.wrap .i64 n
abbrev w8 (n:Int):Int:=IntKind.wrap .u8 n
abbrev mG (n:Int):Int:=IntKind.wrap .u64 n
def Sl.push {α:Type} [Inhabited α] (s:Sl α) (v:α):Sl α:=⟨s.n+1,fun i=>cond (Nat.blt i s.n) (s.get i) (cond (Nat.beq i s.n) v default)⟩
def Sl.join {α:Type} (s t:Sl α):Sl α:=⟨s.n+t.n,fun i=>cond (Nat.blt i s.n) (s.get i) (t.get (i - s.n))⟩
def Sl.lit {α:Type} [Inhabited α] (l:List α):Sl α:=⟨l.length,fun i=>l.getD i default⟩
theorem Zu {α:Type} [Inhabited α] {p:KV→α} {k:α→KV} (h:∀ x,p (k x)=x) (hd:p .ax=default) (l:List α):ka p l.length (qV (l.map k))=Sl.lit l:=by
 unfold ka Sl.lit qV
 congr 1
 funext i
 rw [List.getD_eq_getElem?_getD,List.getD_eq_getElem?_getD,List.getElem?_map]
 cases l[i]? with
 | none=>exact hd
 | some x=>exact h x
theorem x5 {α:Type} [Inhabited α] {p:KV→α} {k:α→KV} (h:∀ x,p (k x)=x) (hd:p .ax=default) (s:Sl α) (v:α):ka p (s.n+1) (fa s.n (fun i=>k (s.get i)) (qV [k v]))=s.push v:=by
 unfold ka Sl.push
 congr 1
 funext i
 unfold fa
 cases hb:Nat.blt i s.n with
 | true=>exact h _
 | false=>
  have hi:s.n≤i:=by
   cases Nat.lt_or_ge i s.n with
   | inl h=>rw [← Nat.blt_eq,hb] at h; simp at h
   | inr h=>exact h
  rw [cond_false,cond_false]
  cases hq:Nat.beq i s.n with
  | true=>
   have:=Nat.eq_of_beq_eq_true hq
   subst this
   rw [Nat.sub_self,cond_true]
   exact h v
  | false=>
   have dT:i≠s.n:=fun e=>by rw [e,Nat.beq_refl] at hq; simp at hq
   rw [cond_false]
   obtain ⟨j,hj⟩:∃ j,i - s.n=j+1:=⟨i - s.n - 1,by omega⟩
   rw [hj]
   exact hd
theorem acb {α:Type} {p:KV→α} {k:α→KV} (h:∀ x,p (k x)=x) (s t:Sl α):ka p (s.n+t.n) (fa s.n (fun i=>k (s.get i)) (fun i=>k (t.get i)))=s.join t:=by
 unfold ka Sl.join
 congr 1
 funext i
 unfold fa
 cases Nat.blt i s.n <;> exact h _
def Sl.set {α:Type} (s:Sl α) (i:Nat) (v:α):Sl α:=⟨s.n,fun j=>cond (Nat.beq j i) v (s.get j)⟩
def Sl.adl {α:Type} (s:Sl α) (o k:Nat) (t:Sl α):Sl α:=⟨s.n,fun j=>cond (Nat.blt j o) (s.get j) (cond (Nat.blt j (o+k)) (t.get (j - o)) (s.get j))⟩
theorem Zv {α:Type} {p:KV→α} {k:α→KV} (h:∀ x,p (k x)=x) (s:Sl α) (i:Nat) (v:α):ka p s.n (sf (fun j=>k (s.get j)) i (k v))=s.set i v:=by
 unfold ka Sl.set
 congr 1
 funext j
 unfold sf
 cases Nat.beq j i <;> exact h _
theorem Zw {α:Type} {p:KV→α} {k:α→KV} (h:∀ x,p (k x)=x) (s t:Sl α) (o m:Nat):ka p s.n (kO o m (fun j=>k (s.get j)) (fun j=>k (t.get j)))=s.adl o m t:=by
 unfold ka Sl.adl
 congr 1
 funext j
 unfold kO
 cases Nat.blt j o with
 | true=>exact h _
 | false=>cases Nat.blt j (o+m) <;> exact h _
theorem afi {α:Type} {p:KV→α} {k:α→KV} (h:∀ x,p (k x)=x) (m n n' : Nat) (acc fT:Nat→KV):ka p m (fa n (fun i=>k ((ka p n' acc).get i)) fT)=ka p m (fa n acc fT):=by
 unfold ka
 congr 1
 funext i
 unfold fa
 cases Nat.blt i n with
 | true=>exact h _
 | false=>rfl
theorem ajX {α:Type} {p:KV→α} {k:α→KV} (h:∀ x,p (k x)=x) (m n n' : Nat) (acc fT:Nat→KV):ka p m (fa n acc (fun i=>k ((ka p n' fT).get i)))=ka p m (fa n acc fT):=by
 unfold ka
 congr 1
 funext i
 unfold fa
 cases Nat.blt i n with
 | true=>rfl
 | false=>exact h _
theorem afj {α:Type} {p:KV→α} {k:α→KV} (h:∀ x,p (k x)=x) (m n' i:Nat) (acc:Nat→KV) (v:KV):ka p m (sf (fun j=>k ((ka p n' acc).get j)) i v)=ka p m (sf acc i v):=by
 unfold ka
 congr 1
 funext j
 unfold sf
 cases Nat.beq j i with
 | true=>rfl
 | false=>exact h _
theorem ajY {α:Type} {p:KV→α} {k:α→KV} (h:∀ x,p (k x)=x) (n n' o m:Nat) (acc fT:Nat→KV):ka p n (kO o m (fun j=>k ((ka p n' acc).get j)) fT)=ka p n (kO o m acc fT):=by
 unfold ka
 congr 1
 funext j
 unfold kO
 cases Nat.blt j o with
 | true=>exact h _
 | false=>
  cases Nat.blt j (o+m) with
  | true=>rfl
  | false=>exact h _
theorem ajZ {α:Type} {p:KV→α} {k:α→KV} (h:∀ x,p (k x)=x) (n n' o m:Nat) (acc fT:Nat→KV):ka p n (kO o m acc (fun j=>k ((ka p n' fT).get j)))=ka p n (kO o m acc fT):=by
 unfold ka
 congr 1
 funext j
 unfold kO
 cases Nat.blt j o with
 | true=>rfl
 | false=>
  cases Nat.blt j (o+m) with
  | true=>exact h _
  | false=>rfl
theorem aj0 (m n n' : Nat) (acc fT:Nat→KV):ka (fun v=>intOf (v.cells.getD 0 .ax)) m (fa n (fun i=>kI .i64 ((ka (fun v=>intOf (v.cells.getD 0 .ax)) n' acc).get i)) fT)=ka (fun v=>intOf (v.cells.getD 0 .ax)) m (fa n acc fT):=afi (k:=kI .i64) (fun _=>rfl) ..
theorem aj1 (m n n' : Nat) (acc fT:Nat→KV):ka (fun v=>intOf (v.cells.getD 0 .ax)) m (fa n acc (fun i=>kI .i64 ((ka (fun v=>intOf (v.cells.getD 0 .ax)) n' fT).get i)))=ka (fun v=>intOf (v.cells.getD 0 .ax)) m (fa n acc fT):=ajX (k:=kI .i64) (fun _=>rfl) ..
theorem aj2 (m n' i:Nat) (acc:Nat→KV) (v:KV):ka (fun v=>intOf (v.cells.getD 0 .ax)) m (sf (fun j=>kI .i64 ((ka (fun v=>intOf (v.cells.getD 0 .ax)) n' acc).get j)) i v)=ka (fun v=>intOf (v.cells.getD 0 .ax)) m (sf acc i v):=afj (k:=kI .i64) (fun _=>rfl) ..
theorem aj3 (n n' o m:Nat) (acc fT:Nat→KV):ka (fun v=>intOf (v.cells.getD 0 .ax)) n (kO o m (fun j=>kI .i64 ((ka (fun v=>intOf (v.cells.getD 0 .ax)) n' acc).get j)) fT)=ka (fun v=>intOf (v.cells.getD 0 .ax)) n (kO o m acc fT):=ajY (k:=kI .i64) (fun _=>rfl) ..
theorem aj4 (n n' o m:Nat) (acc fT:Nat→KV):ka (fun v=>intOf (v.cells.getD 0 .ax)) n (kO o m acc (fun j=>kI .i64 ((ka (fun v=>intOf (v.cells.getD 0 .ax)) n' fT).get j)))=ka (fun v=>intOf (v.cells.getD 0 .ax)) n (kO o m acc fT):=ajZ (k:=kI .i64) (fun _=>rfl) ..
theorem aj5 (s:Sl Int) (i:Nat) (v:Int):s.set i v=ka (fun v=>intOf (v.cells.getD 0 .ax)) s.n (sf (fun j=>kI .i64 (s.get j)) i (kI .i64 v)):=(Zv (k:=kI .i64) (fun _=>rfl) s i v).symm
theorem ail (s:Sl Bool) (i:Nat) (v:Bool):s.set i v=ka (fun v=>og (v.cells.getD 0 .ax)) s.n (sf (fun j=>kB (s.get j)) i (kB v)):=(Zv (k:=kB) (fun _=>rfl) s i v).symm
theorem agH (s t:Sl Int) (o m:Nat):s.adl o m t=ka (fun v=>intOf (v.cells.getD 0 .ax)) s.n (kO o m (fun j=>kI .i64 (s.get j)) (fun j=>kI .i64 (t.get j))):=(Zw (k:=kI .i64) (fun _=>rfl) s t o m).symm
theorem afk (s t:Sl Bool) (o m:Nat):s.adl o m t=ka (fun v=>og (v.cells.getD 0 .ax)) s.n (kO o m (fun j=>kB (s.get j)) (fun j=>kB (t.get j))):=(Zw (k:=kB) (fun _=>rfl) s t o m).symm
theorem acd (s:Sl Int) (v:Int):s.push v=ka (fun v=>intOf (v.cells.getD 0 .ax)) (s.n+1) (fa s.n (fun i=>kI .i64 (s.get i)) (qV [kI .i64 v])):=(x5 (fun _=>rfl) rfl s v).symm
theorem aim (s t:Sl Int):s.join t=ka (fun v=>intOf (v.cells.getD 0 .ax)) (s.n+t.n) (fa s.n (fun i=>kI .i64 (s.get i)) (fun i=>kI .i64 (t.get i))):=(acb (fun _=>rfl) s t).symm
theorem KN (l:List Int):Sl.lit l=ka (fun v=>intOf (v.cells.getD 0 .ax)) l.length (qV (l.map (kI .i64))):=(Zu (fun _=>rfl) rfl l).symm
theorem ain (l:List Bool):Sl.lit l=ka (fun v=>og (v.cells.getD 0 .ax)) l.length (qV (l.map kB)):=(Zu (fun _=>rfl) rfl l).symm
theorem agI (s:Sl Bool) (v:Bool):s.push v=ka (fun v=>og (v.cells.getD 0 .ax)) (s.n+1) (fa s.n (fun i=>kB (s.get i)) (qV [kB v])):=(x5 (fun _=>rfl) rfl s v).symm
theorem agJ (s t:Sl Bool):s.join t=ka (fun v=>og (v.cells.getD 0 .ax)) (s.n+t.n) (fa s.n (fun i=>kB (s.get i)) (fun i=>kB (t.get i))):=(acb (fun _=>rfl) s t).symm
theorem b7 {α β:Type} (f:α→β) (c:Bool) (a b:Option α):Option.map f (cond c a b)=cond c (Option.map f a) (Option.map f b):=by cases c <;> rfl
def aq (P:Program) (ps:List (Nat×(List KV→KR KV))):Prop:=∀ p∈ps,b9 P p.1 p.2
theorem aq.nil {P:Program} : aq P []:=fun p hp=>by simp at hp
theorem aq.cons {P:Program} {g:Nat} {F:List KV→KR KV} {ps:List (Nat×(List KV→KR KV))} (h:b9 P g F) (t:aq P ps):aq P ((g,F)::ps):=fun p hp=>by
 rcases List.mem_cons.1 hp with rfl | hp
 ·exact h
 ·exact t p hp
theorem aq.pc {P:Program} {ps:List (Nat×(List KV→KR KV))} (h:aq P ps):qN P (ab9 ps):=ahK h
def aA (P:Program) (ls:List Lp):Prop:=∀ l∈ls,l.Ok P∧cz P l.f l.p=true
theorem aA.nil {P:Program} : aA P []:=fun p hp=>by simp at hp
theorem aA.cons {P:Program} {l:Lp} {ls:List Lp} (h:l.Ok P) (h' : cz P l.f l.p=true) (t:aA P ls):aA P (l::ls):=fun p hp=>by
 rcases List.mem_cons.1 hp with rfl | hp
 ·exact ⟨h,h'⟩
 ·exact t p hp
def fN (P:Program) (fs:List Fc):Prop:=∀ c∈fs,c.Ok P
theorem fN.nil {P:Program} : fN P []:=fun p hp=>by simp at hp
theorem fN.cons {P:Program} {c:Fc} {fs:List Fc} (h:c.Ok P) (t:fN P fs):fN P (c::fs):=fun p hp=>by
 rcases List.mem_cons.1 hp with rfl | hp
 ·exact h
 ·exact t p hp
noncomputable def bp (P:Program) (ps:List (Nat×(List KV→KR KV))) (ls:List Lp) (mt:TypeId→Bool:=fun _=>false) (fz:Bool:=false) (eg:Bool:=false) (fs:List Fc:=[]):eN:=⟨ab9 ps,Zk P ls,⟨ab7 P fs,mt,fz,eg⟩⟩
noncomputable def cD {R:Type} [Inhabited R] (k:R→KV) (r:List KV→Option R):List KV→KR KV:=fun am2=>.lV (r am2).isSome (k ((r am2).getD default))
theorem aX {P:Program} {R:Type} [Inhabited R] {k:R→KV} {r:List KV→Option R} {g:FuncId} (hP:P.funcs.toList.all mM=true) (hm:P.follows .mixedOrders=true) {ps:List (Nat×(List KV→KR KV))} {ls:List Lp} (iu:aq P ps) (lY:aA P ls) {L n:Nat} {mt:TypeId→Bool} {fz eg:Bool} {fs:List Fc}
  (h:∀ w,dn P (bp P ps ls mt fz eg fs) L n g (cM P (aK P g) w 0)=(r (cM P (aK P g) w 0)).map k) (hy:Nat.blt g yB=true:=by rfl) (BN:fN P fs:=by exact fN.nil):b9 P g (cr P g (cD k r)):=
 ajU (cfg:=bp P ps ls mt fz eg fs) hP hm iu.pc (L9 hP hm (Ma hP hm BN) lY) (hy:=hy) fun w v hv=>by
  obtain ⟨h1,h2⟩:=a5.lV hv
  rw [h w]
  cases hr:r (cM P (aK P g) w 0) with
  | none=>rw [hr] at h1; simp at h1
  | some x=>rw [hr] at h2; rw [← h2]; rfl
theorem eF {P:Program} {l:Lp} {X:Type} [Inhabited X] (hP:P.funcs.toList.all mM=true) (hm:P.follows .mixedOrders=true) {ps:List (Nat×(List KV→KR KV))} {ls:List Lp} (iu:aq P ps) (lY:aA P ls) {L n:Nat} {mt:TypeId→Bool} {fz eg:Bool} {fs:List Fc} {step:X→aJ X} {ev:X→List KV} {er:X→List (List KV)} {es:List aw} {pa:List KV→List (List KV)→X}
  (hF:l.F=fun vs rs=>dD ev er (goN step (pa vs rs)) es) (iX:∀ wv wr,ev (pa (lR P l.S.dW wv 0) (lT P l.S.rows wr 0))=lR P l.S.dW wv 0∧er (pa (lR P l.S.dW wv 0) (lT P l.S.rows wr 0))=lT P l.S.rows wr 0)
  (sa:∀ x,jf P (bp P ps ls mt fz eg fs) L n l.f l.p (eX P l.f l.p) l.S (ev x) (er x)=aJ.enc ev er (step x)) (BN:fN P fs:=by exact fN.nil) (hs:l.st=false:=by rfl):l.Ok P:=
 afh (cfg:=bp P ps ls mt fz eg fs) iu.pc (L9 hP hm (Ma hP hm BN) lY) (fun _ _=>by rw [hF]) iX (fun x=>by rw [hs]; exact sa x)
theorem lk {P:Program} {l:Lp} {X:Type} [Inhabited X] (hP:P.funcs.toList.all mM=true) (hm:P.follows .mixedOrders=true) {ps:List (Nat×(List KV→KR KV))} {ls:List Lp} (iu:aq P ps) (lY:aA P ls) {L n:Nat} {mt:TypeId→Bool} {fz eg:Bool} {fs:List Fc} {step:X→aJ X} {ev:X→List KV} {er:X→List (List KV)} {es:List aw} {pa:List KV→List (List KV)→X}
  (hF:l.F=fun vs rs=>dD ev er (goN step (pa vs rs)) es) (iX:∀ wv wr,ev (pa (lR P l.S.dW wv 0) (lT P l.S.rows wr 0))=lR P l.S.dW wv 0∧er (pa (lR P l.S.dW wv 0) (lT P l.S.rows wr 0))=lT P l.S.rows wr 0)
  (sa:∀ x,pB P (bp P ps ls mt fz eg fs) L n l.f l.p (eX P l.f l.p) l.S (ev x) (er x)=aJ.enc ev er (step x)) (BN:fN P fs:=by exact fN.nil) (hs:l.st=true:=by rfl):l.Ok P:=
 afh (cfg:=bp P ps ls mt fz eg fs) iu.pc (L9 hP hm (Ma hP hm BN) lY) (fun _ _=>by rw [hF]) iX (fun x=>by rw [hs]; exact sa x)
theorem Bg {P:Program} {c:Fc} {X:Type} [Inhabited X] (hP:P.funcs.toList.all mM=true) (hm:P.follows .mixedOrders=true) {ps:List (Nat×(List KV→KR KV))} {ls:List Lp} (iu:aq P ps) (lY:aA P ls) {L n:Nat} {mt:TypeId→Bool} {fz eg:Bool} {fs:List Fc} {step:X→aJ X} {ev:X→List KV} {er:X→List (List KV)} {es:List aw} {pa:List KV→List (List KV)→X}
  (hF:c.F=fun vs rs=>dD ev er (step (pa vs rs)) es) (iX:∀ wv wr,ev (pa (lR P c.S.dW wv 0) (lT P c.S.rows wr 0))=lR P c.S.dW wv 0∧er (pa (lR P c.S.dW wv 0) (lT P c.S.rows wr 0))=lT P c.S.rows wr 0)
  (sa:∀ x,EX P (bp P ps ls mt fz eg fs) L n c.g c.S (ev x) (er x)=aJ.enc ev er (step x)) (hy:Nat.blt c.g yB=true:=by rfl) (Kl:es = [.ret]:=by rfl) (BN:fN P fs:=by exact fN.nil):c.Ok P:=
 ajW (cfg:=bp P ps ls mt fz eg fs) iu.pc (L9 hP hm (Ma hP hm BN) lY) hy (fun _ _=>by rw [hF]) iX (fun x y h=>by rw [sa x,h]; rfl) Kl
end Go.K
end
section
namespace Go.Proofs.Ytahhdndhkgbcjaa.b
open Go.K
theorem funcs:Try.prog.funcs.toList.all aG.mM=true:=by kernel_rfl
theorem mixed:Try.prog.follows .mixedOrders=true:=by kernel_rfl
end Go.Proofs.Ytahhdndhkgbcjaa.b
end
section
namespace Go.Proofs.Ytahhdndhkgbcjaa.b
open Go.K
set_option linter.unusedVariables false
set_option linter.unusedSimpArgs false
noncomputable section
def I0:List (Nat×(List KV→KR KV)):=[]
def I1:List Lp:=[]
theorem QP:aq Try.prog I0:=aq.nil
theorem QQ:aA Try.prog I1:=aA.nil
def eH (a:Int) (b:Int):Option (Int×Int):=
 (cond (decide (b < (1:Int)))
 (some ((0:Int),(2:Int)))
 (cond (!(decide (b=(0:Int))))
 (cond (!(decide (b=(0:Int))))
 (cond (decide ((Int.tmod a b) < (0:Int)))
 (some ((ak ((ak (Int.tdiv a b)) - (1:Int))),(0:Int)))
 (some ((ak (Int.tdiv a b)),(0:Int))))
 none)
 none))
theorem TH (a:Int) (b:Int):dn Try.prog (bp Try.prog I0 I1 (fun _=>false)) 9 9 99 [(kI .i64) a,(kI .i64) b] = (eH a b).map (fun (r:Int×Int)=>KV.jE [(kI .i64) r.1,(kI .i64) r.2]):=by
 unfold eH
 try simp only [b7,acd,aim,KN,aj0,aj1,aj2,aj3,aj4,agI,agJ,ain,aj5,ail,agH,afk]
 kernel_rfl
def uz:List KV→KR KV:=cr Try.prog 99 (cD (fun (r:Int×Int)=>KV.jE [(kI .i64) r.1,(kI .i64) r.2]) fun vs=>eH (intOf (vs.getD 0 .ax)) (intOf (vs.getD 1 .ax)))
theorem QR (w:Nat→KV):cM Try.prog [3,3] w 0 = [(kI .i64) (intOf (ay Try.prog (ao Try.prog av) 3 (w 0))),(kI .i64) (intOf (ay Try.prog (ao Try.prog av) 3 (w 1)))]:=by kernel_rfl
theorem tw:b9 Try.prog 99 uz:=aX funcs mixed QP QQ (L:=9) (n:=9) fun w=>by
 have e:aK Try.prog 99 = [3,3]:=by kernel_rfl
 rw [e,QR]
 exact (TH (intOf (ay Try.prog (ao Try.prog av) 3 (w 0))) (intOf (ay Try.prog (ao Try.prog av) 3 (w 1)))).trans (by kernel_rfl)
structure eB where
 x:Int
 y:Int
 z:Int
instance:Inhabited eB:=⟨⟨default,default,default⟩⟩
def amV (x:eB):List KV:=[.int .i64 x.x,.int .i64 x.y,.int .i64 x.z]
def wH (x:eB):KV:=.agg (amV x)
def amW (c:Nat→KV):eB:=⟨intOf (c 0),intOf (c 1),intOf (c 2)⟩
def x6 (v:KV):eB:=amW fun k=>v.cells.getD k .ax
structure bW where
 p:eB
 u:Int
 v:Int
instance:Inhabited bW:=⟨⟨default,default,default⟩⟩
def ak3 (x:bW):List KV:=[.int .i64 x.p.x,.int .i64 x.p.y,.int .i64 x.p.z,.int .i64 x.u,.int .i64 x.v]
def mO (x:bW):KV:=.agg (ak3 x)
def ak4 (c:Nat→KV):bW:=⟨⟨intOf (c 0),intOf (c 1),intOf (c 2)⟩,intOf (c 3),intOf (c 4)⟩
def jN (v:KV):bW:=ak4 fun k=>v.cells.getD k .ax
theorem TI (x:bW):jN (mO x)=x:=rfl
theorem ace:jN .ax=default:=rfl
theorem afl (s:Sl bW) (v:bW):s.push v=ka jN (s.n+1) (fa s.n (fun i=>mO (s.get i)) (qV [mO v])):=(x5 TI ace s v).symm
theorem agK (l:List bW):Sl.lit l=ka jN l.length (qV (l.map mO)):=(Zu TI ace l).symm
theorem agL (m n n' : Nat) (acc fT:Nat→KV):ka jN m (fa n (fun i=>mO ((ka jN n' acc).get i)) fT)=ka jN m (fa n acc fT):=afi TI ..
def KO:List (Nat×(List KV→KR KV)):=[]
def KP:List Lp:=[]
theorem TJ:aq Try.prog KO:=aq.nil
theorem TK:aA Try.prog KP:=aA.nil
def kU (p:bW):Option (Int):=
 (cond (decide (p.p.x < (-(32768:Int))))
 (some ((8:Int)))
 (cond (decide (p.p.x > (32768:Int)))
 (some ((8:Int)))
 (cond (decide (p.p.y < (-(32768:Int))))
 (some ((8:Int)))
 (cond (decide (p.p.y > (32768:Int)))
 (some ((8:Int)))
 (cond (decide (p.p.z < (-(32768:Int))))
 (some ((8:Int)))
 (cond (decide (p.p.z > (32768:Int)))
 (some ((8:Int)))
 (cond (decide (p.u < (0:Int)))
 (some ((8:Int)))
 (cond (decide (p.u > (255:Int)))
 (some ((8:Int)))
 (cond (decide (p.v < (0:Int)))
 (some ((8:Int)))
 (cond (decide (p.v > (255:Int)))
 (some ((8:Int)))
 (some ((0:Int)))))))))))))
theorem Wc (p:bW):dn Try.prog (bp Try.prog KO KP (fun _=>false)) 9 9 130 [mO p] = (kU p).map (kI .i64):=by
 unfold kU
 try simp only [b7]
 kernel_rfl
def qI:List KV→KR KV:=cr Try.prog 130 (cD (kI .i64) fun vs=>kU (jN (vs.getD 0 .ax)))
theorem TL (w:Nat→KV):cM Try.prog [180] w 0 = [mO (jN (ay Try.prog (ao Try.prog av) 180 (w 0)))]:=by kernel_rfl
theorem oS:b9 Try.prog 130 qI:=aX funcs mixed TJ TK (L:=9) (n:=9) fun w=>by
 have e:aK Try.prog 130 = [180]:=by kernel_rfl
 rw [e,TL]
 exact (Wc (jN (ay Try.prog (ao Try.prog av) 180 (w 0)))).trans (by kernel_rfl)
structure gi where
 low:Int
 high:Int
 t6:Bool
 t9:(Sl Int)
 t10:Int
 t11:Int
instance:Inhabited gi:=⟨⟨default,default,default,default,default,default⟩⟩
def su (x:gi):List KV:=[.int .i64 x.low,.int .i64 x.high,.bool x.t6,iU 3 (kI .i64) x.t9,.int .i64 x.t10,.int .i64 x.t11]
def sv (x:gi):List (List KV):=[]
def Di (vs:List KV) (rs:List (List KV)):gi:=⟨intOf (vs.getD 0 .ax),intOf (vs.getD 1 .ax),og (vs.getD 2 .ax),iw intOf (vs.getD 3 .ax),intOf (vs.getD 4 .ax),intOf (vs.getD 5 .ax)⟩
def Eb:aQ:=⟨[(0,⟨false,[.k (.int .i64)]⟩),(1,⟨false,[.k (.int .i64)]⟩),(6,⟨false,[.k .bool]⟩),(9,⟨false,[.k (.slice 3)]⟩),(10,⟨false,[.k (.int .i64)]⟩),(11,⟨false,[.k (.int .i64)]⟩)],[],[]⟩
def OW:=jf Try.prog (bp Try.prog [] [] (fun _=>false)) 9 9 143 26 (eX Try.prog 143 26) Eb
def jY (x:gi):aJ gi:=
 (cond (decide (x.t11 < x.t10))
 (cond ((decide ((0:Int)≤x.t11))&&(decide (x.t11 < ((x.t9.n:Nat):Int))))
 (cond (decide ((x.t9.get (Int.toNat x.t11)) < x.low))
 (.out aG.aw.ret (⟨x.low,x.high,false,x.t9,x.t10,x.t11⟩:gi))
 (cond (decide ((x.t9.get (Int.toNat x.t11)) > x.high))
 (.out aG.aw.ret (⟨x.low,x.high,false,x.t9,x.t10,x.t11⟩:gi))
 (.next (⟨x.low,x.high,x.t6,x.t9,x.t10,(ak (x.t11+(1:Int)))⟩:gi))))
 .fail)
 (.out (aG.aw.exit 0) x))
theorem KQ (x:gi):OW (su x) (sv x)=aJ.enc su sv (jY x):=by
 unfold jY
 try simp only [aJ.dg]
 kernel_rfl
def tz:Lp:=⟨143,26,Eb,fun vs rs=>dD su sv (goN jY (Di vs rs)) [aG.aw.exit 0,aG.aw.ret],false⟩
theorem OX:tz.Ok Try.prog:=eF funcs mixed aq.nil aA.nil (L:=9) (n:=9) (step:=jY) (ev:=su) (er:=sv) (pa:=Di) rfl (fun wv wr=>⟨by kernel_rfl,by kernel_rfl⟩) KQ
theorem JL:cz Try.prog tz.f tz.p=true:=by kernel_rfl
def I2:List (Nat×(List KV→KR KV)):=[]
def I3:List Lp:=[tz]
theorem QS:aq Try.prog I2:=aq.nil
theorem QT:aA Try.prog I3:=(aA.cons OX JL aA.nil)
def u7 (low:Int) (high:Int) (l:(Sl Int)):(aJ gi):=(goN jY (⟨low,high,false,l,((l.n:Nat):Int),(0:Int)⟩:gi))
def nv (low:Int) (high:Int) (l:(Sl Int)):Option (Bool):=
 (cond ((u7 low high l).by (aG.aw.exit 0))
 (some (true))
 (cond ((u7 low high l).by aG.aw.ret)
 (some ((u7 low high l).st.t6))
 none))
theorem TM (low:Int) (high:Int) (l:(Sl Int)):dn Try.prog (bp Try.prog I2 I3 (fun _=>false)) 9 9 143 [(kI .i64) low,(kI .i64) high,(iU 3 (kI .i64)) l] = (nv low high l).map kB:=by
 unfold nv
 try simp only [b7]
 kernel_rfl
def KS:List KV→KR KV:=cr Try.prog 143 (cD kB fun vs=>nv (intOf (vs.getD 0 .ax)) (intOf (vs.getD 1 .ax)) ((iw intOf) (vs.getD 2 .ax)))
theorem QU (w:Nat→KV):cM Try.prog [3,3,26] w 0 = [(kI .i64) (intOf (ay Try.prog (ao Try.prog av) 3 (w 0))),(kI .i64) (intOf (ay Try.prog (ao Try.prog av) 3 (w 1))),(iU 3 (kI .i64)) ((iw intOf) (ay Try.prog (ao Try.prog av) 26 (w 2)))]:=by kernel_rfl
theorem QV:b9 Try.prog 143 KS:=aX funcs mixed QS QT (L:=9) (n:=9) fun w=>by
 have e:aK Try.prog 143 = [3,3,26]:=by kernel_rfl
 rw [e,QU]
 exact (TM (intOf (ay Try.prog (ao Try.prog av) 3 (w 0))) (intOf (ay Try.prog (ao Try.prog av) 3 (w 1))) ((iw intOf) (ay Try.prog (ao Try.prog av) 26 (w 2)))).trans (by kernel_rfl)
structure fY where
 x:Int
 y:Int
 d:Int
 u:Int
 v:Int
instance:Inhabited fY:=⟨⟨default,default,default,default,default⟩⟩
def al0 (x:fY):List KV:=[.int .i64 x.x,.int .i64 x.y,.int .i64 x.d,.int .i64 x.u,.int .i64 x.v]
def TN (x:fY):KV:=.agg (al0 x)
def al1 (c:Nat→KV):fY:=⟨intOf (c 0),intOf (c 1),intOf (c 2),intOf (c 3),intOf (c 4)⟩
def agM (v:KV):fY:=al1 fun k=>v.cells.getD k .ax
def KT:List (Nat×(List KV→KR KV)):=[(143,KS)]
def KU:List Lp:=[]
theorem TP:aq Try.prog KT:=(aq.cons QV aq.nil)
theorem TQ:aA Try.prog KU:=aA.nil
def wX (s:fY):(Option Bool):=(nv (-(131072:Int)) (131072:Int) (Sl.lit [s.x,s.y]))
def wY (s:fY):(Option Bool):=(nv (1:Int) (65536:Int) (Sl.lit [s.d]))
def wZ (s:fY):(Option Bool):=(nv (0:Int) (255:Int) (Sl.lit [s.u,s.v]))
def oD (s:fY):Option (Int):=
 (cond (wX s).isSome
 (cond (!((wX s).getD default))
 (some ((8:Int)))
 (cond (wY s).isSome
 (cond (!((wY s).getD default))
 (some ((8:Int)))
 (cond (wZ s).isSome
 (cond (!((wZ s).getD default))
 (some ((8:Int)))
 (some ((0:Int))))
 none))
 none))
 none)
theorem Wd (s:fY):dn Try.prog (bp Try.prog KT KU (fun _=>false)) 9 9 131 [TN s] = (oD s).map (kI .i64):=by
 unfold oD
 try simp only [b7,wX,wY,wZ,KN]
 kernel_rfl
def Nr:List KV→KR KV:=cr Try.prog 131 (cD (kI .i64) fun vs=>oD (agM (vs.getD 0 .ax)))
theorem TR (w:Nat→KV):cM Try.prog [117] w 0 = [TN (agM (ay Try.prog (ao Try.prog av) 117 (w 0)))]:=by kernel_rfl
theorem TS:b9 Try.prog 131 Nr:=aX funcs mixed TP TQ (L:=9) (n:=9) fun w=>by
 have e:aK Try.prog 131 = [117]:=by kernel_rfl
 rw [e,TR]
 exact (Wd (agM (ay Try.prog (ao Try.prog av) 117 (w 0)))).trans (by kernel_rfl)
structure bt where
 e0:fY
 e1:fY
 e2:fY
instance:Inhabited bt:=⟨⟨default,default,default⟩⟩
def aio (x:bt):List KV:=[.int .i64 x.e0.x,.int .i64 x.e0.y,.int .i64 x.e0.d,.int .i64 x.e0.u,.int .i64 x.e0.v,.int .i64 x.e1.x,.int .i64 x.e1.y,.int .i64 x.e1.d,.int .i64 x.e1.u,.int .i64 x.e1.v,.int .i64 x.e2.x,.int .i64 x.e2.y,.int .i64 x.e2.d,.int .i64 x.e2.u,.int .i64 x.e2.v]
def iy (x:bt):KV:=.agg (aio x)
def aip (c:Nat→KV):bt:=⟨⟨intOf (c 0),intOf (c 1),intOf (c 2),intOf (c 3),intOf (c 4)⟩,⟨intOf (c 5),intOf (c 6),intOf (c 7),intOf (c 8),intOf (c 9)⟩,⟨intOf (c 10),intOf (c 11),intOf (c 12),intOf (c 13),intOf (c 14)⟩⟩
def gC (v:KV):bt:=aip fun k=>v.cells.getD k .ax
theorem afm (x:bt):gC (iy x)=x:=rfl
theorem afn:gC .ax=default:=rfl
theorem aa7 (s:Sl bt) (v:bt):s.push v=ka gC (s.n+1) (fa s.n (fun i=>iy (s.get i)) (qV [iy v])):=(x5 afm afn s v).symm
def Ns:List (Nat×(List KV→KR KV)):=[(131,Nr)]
def Nt:List Lp:=[]
theorem Wf:aq Try.prog Ns:=(aq.cons TS aq.nil)
theorem Wg:aA Try.prog Nt:=aA.nil
def yK (t:bt):(Option Int):=(oD t.e0)
def yL (t:bt):(Option Int):=(oD t.e1)
def yM (t:bt):(Option Int):=(oD t.e2)
def nj (t:bt):Option (Int×Int):=
 (cond (yK t).isSome
 (cond (((yK t).getD default) != (0:Int))
 (some ((0:Int),((yK t).getD default)))
 (cond (yL t).isSome
 (cond (((yL t).getD default) != (0:Int))
 (some ((0:Int),((yL t).getD default)))
 (cond (yM t).isSome
 (cond (((yM t).getD default) != (0:Int))
 (some ((0:Int),((yM t).getD default)))
 (some ((ak ((ak ((ak (t.e1.x - t.e0.x)) * (ak (t.e2.y - t.e0.y)))) - (ak ((ak (t.e2.x - t.e0.x)) * (ak (t.e1.y - t.e0.y)))))),(0:Int))))
 none))
 none))
 none)
theorem Zx (t:bt):dn Try.prog (bp Try.prog Ns Nt (fun _=>false)) 9 9 115 [iy t] = (nj t).map (fun (r:Int×Int)=>KV.jE [(kI .i64) r.1,(kI .i64) r.2]):=by
 unfold nj
 try simp only [b7]
 kernel_rfl
def Ct:List KV→KR KV:=cr Try.prog 115 (cD (fun (r:Int×Int)=>KV.jE [(kI .i64) r.1,(kI .i64) r.2]) fun vs=>nj (gC (vs.getD 0 .ax)))
theorem Wh (w:Nat→KV):cM Try.prog [118] w 0 = [iy (gC (ay Try.prog (ao Try.prog av) 118 (w 0)))]:=by kernel_rfl
theorem BO:b9 Try.prog 115 Ct:=aX funcs mixed Wf Wg (L:=9) (n:=9) fun w=>by
 have e:aK Try.prog 115 = [118]:=by kernel_rfl
 rw [e,Wh]
 exact (Zx (gC (ay Try.prog (ao Try.prog av) 118 (w 0)))).trans (by kernel_rfl)
def KW:List (Nat×(List KV→KR KV)):=[(115,Ct)]
def KX:List Lp:=[]
theorem TT:aq Try.prog KW:=(aq.cons BO aq.nil)
theorem TU:aA Try.prog KX:=aA.nil
def nT (t:bt) (yN:Int):(Option (Prod Int Int)):=(nj t)
def ta (t:bt) (yN:Int):Option (Bool×Int):=
 (cond (nT t yN).isSome
 (cond (((nT t yN).getD default).snd != (0:Int))
 (some (false,((nT t yN).getD default).snd))
 (cond (yN==(0:Int))
 (some ((((nT t yN).getD default).fst != (0:Int)),(0:Int)))
 (cond (yN==(1:Int))
 (some ((decide (((nT t yN).getD default).fst > (0:Int))),(0:Int)))
 (cond (yN==(2:Int))
 (some ((decide (((nT t yN).getD default).fst < (0:Int))),(0:Int)))
 (some (false,(2:Int)))))))
 none)
theorem Wi (t:bt) (yN:Int):dn Try.prog (bp Try.prog KW KX (fun _=>false)) 9 9 113 [iy t,(kI .u8) yN] = (ta t yN).map (fun (r:Bool×Int)=>KV.jE [kB r.1,(kI .i64) r.2]):=by
 unfold ta
 try simp only [b7]
 kernel_rfl
def E5:List KV→KR KV:=cr Try.prog 113 (cD (fun (r:Bool×Int)=>KV.jE [kB r.1,(kI .i64) r.2]) fun vs=>ta (gC (vs.getD 0 .ax)) (intOf (vs.getD 1 .ax)))
theorem TV (w:Nat→KV):cM Try.prog [118,5] w 0 = [iy (gC (ay Try.prog (ao Try.prog av) 118 (w 0))),(kI .u8) (intOf (ay Try.prog (ao Try.prog av) 5 (w 1)))]:=by kernel_rfl
theorem Gj:b9 Try.prog 113 E5:=aX funcs mixed TT TU (L:=9) (n:=9) fun w=>by
 have e:aK Try.prog 113 = [118,5]:=by kernel_rfl
 rw [e,TV]
 exact (Wi (gC (ay Try.prog (ao Try.prog av) 118 (w 0))) (intOf (ay Try.prog (ao Try.prog av) 5 (w 1)))).trans (by kernel_rfl)
def KY:List (Nat×(List KV→KR KV)):=[(115,Ct)]
def KZ:List Lp:=[]
theorem TW:aq Try.prog KY:=(aq.cons BO aq.nil)
theorem TX:aA Try.prog KZ:=aA.nil
def pZ (t:bt):(Option (Prod Int Int)):=(nj t)
def te (t:bt):Option (bt×Int):=
 (cond (pZ t).isSome
 (cond (((pZ t).getD default).snd != (0:Int))
 (some ((⟨(⟨(0:Int),(0:Int),(0:Int),(0:Int),(0:Int)⟩:fY),(⟨(0:Int),(0:Int),(0:Int),(0:Int),(0:Int)⟩:fY),(⟨(0:Int),(0:Int),(0:Int),(0:Int),(0:Int)⟩:fY)⟩:bt),((pZ t).getD default).snd))
 (cond (((pZ t).getD default).fst==(0:Int))
 (some ((⟨(⟨(0:Int),(0:Int),(0:Int),(0:Int),(0:Int)⟩:fY),(⟨(0:Int),(0:Int),(0:Int),(0:Int),(0:Int)⟩:fY),(⟨(0:Int),(0:Int),(0:Int),(0:Int),(0:Int)⟩:fY)⟩:bt),(6:Int)))
 (cond (decide (((pZ t).getD default).fst < (0:Int)))
 (some ((⟨t.e0,t.e2,t.e1⟩:bt),(0:Int)))
 (some (t,(0:Int))))))
 none)
theorem Wj (t:bt):dn Try.prog (bp Try.prog KY KZ (fun _=>false)) 9 9 114 [iy t] = (te t).map (fun (r:bt×Int)=>KV.jE [iy r.1,(kI .i64) r.2]):=by
 unfold te
 try simp only [b7]
 kernel_rfl
def E6:List KV→KR KV:=cr Try.prog 114 (cD (fun (r:bt×Int)=>KV.jE [iy r.1,(kI .i64) r.2]) fun vs=>te (gC (vs.getD 0 .ax)))
theorem TY (w:Nat→KV):cM Try.prog [118] w 0 = [iy (gC (ay Try.prog (ao Try.prog av) 118 (w 0)))]:=by kernel_rfl
theorem Gk:b9 Try.prog 114 E6:=aX funcs mixed TW TX (L:=9) (n:=9) fun w=>by
 have e:aK Try.prog 114 = [118]:=by kernel_rfl
 rw [e,TY]
 exact (Wj (gC (ay Try.prog (ao Try.prog av) 118 (w 0)))).trans (by kernel_rfl)
structure ll where
 mn:Int
 t4:Bool
 t7:(Sl Int)
 t8:Int
 t9:Int
instance:Inhabited ll:=⟨⟨default,default,default,default,default⟩⟩
def AO (x:ll):List KV:=[.int .i64 x.mn,.bool x.t4,iU 3 (kI .i64) x.t7,.int .i64 x.t8,.int .i64 x.t9]
def AP (x:ll):List (List KV):=[]
def Nu (vs:List KV) (rs:List (List KV)):ll:=⟨intOf (vs.getD 0 .ax),og (vs.getD 1 .ax),iw intOf (vs.getD 2 .ax),intOf (vs.getD 3 .ax),intOf (vs.getD 4 .ax)⟩
def QW:aQ:=⟨[(0,⟨false,[.k (.int .i64)]⟩),(4,⟨false,[.k .bool]⟩),(7,⟨false,[.k (.slice 3)]⟩),(8,⟨false,[.k (.int .i64)]⟩),(9,⟨false,[.k (.int .i64)]⟩)],[],[]⟩
def aa8:=jf Try.prog (bp Try.prog [] [] (fun _=>false)) 9 9 124 26 (eX Try.prog 124 26) QW
def nU (x:ll):aJ ll:=
 (cond (decide (x.t9 < x.t8))
 (cond ((decide ((0:Int)≤x.t9))&&(decide (x.t9 < ((x.t7.n:Nat):Int))))
 (cond (decide ((x.t7.get (Int.toNat x.t9)) < (ak ((0:Int) - x.mn))))
 (.out aG.aw.ret (⟨x.mn,false,x.t7,x.t8,x.t9⟩:ll))
 (cond (decide ((x.t7.get (Int.toNat x.t9)) > x.mn))
 (.out aG.aw.ret (⟨x.mn,false,x.t7,x.t8,x.t9⟩:ll))
 (.next (⟨x.mn,x.t4,x.t7,x.t8,(ak (x.t9+(1:Int)))⟩:ll))))
 .fail)
 (.out (aG.aw.exit 0) x))
theorem Wk (x:ll):aa8 (AO x) (AP x)=aJ.enc AO AP (nU x):=by
 unfold nU
 try simp only [aJ.dg]
 kernel_rfl
def Cu:Lp:=⟨124,26,QW,fun vs rs=>dD AO AP (goN nU (Nu vs rs)) [aG.aw.exit 0,aG.aw.ret],false⟩
theorem aa9:Cu.Ok Try.prog:=eF funcs mixed aq.nil aA.nil (L:=9) (n:=9) (step:=nU) (ev:=AO) (er:=AP) (pa:=Nu) rfl (fun wv wr=>⟨by kernel_rfl,by kernel_rfl⟩) Wk
theorem TZ:cz Try.prog Cu.f Cu.p=true:=by kernel_rfl
def Zy:List (Nat×(List KV→KR KV)):=[]
def Zz:List Lp:=[Cu]
theorem adm:aq Try.prog Zy:=aq.nil
theorem adn:aA Try.prog Zz:=(aA.cons aa9 TZ aA.nil)
def Ec (mn:Int) (l:(Sl Int)):(aJ ll):=(goN nU (⟨mn,false,l,((l.n:Nat):Int),(0:Int)⟩:ll))
def x7 (mn:Int) (l:(Sl Int)):Option (Bool):=
 (cond ((Ec mn l).by (aG.aw.exit 0))
 (some (true))
 (cond ((Ec mn l).by aG.aw.ret)
 (some ((Ec mn l).st.t4))
 none))
theorem afo (mn:Int) (l:(Sl Int)):dn Try.prog (bp Try.prog Zy Zz (fun _=>false)) 9 9 124 [(kI .i64) mn,(iU 3 (kI .i64)) l] = (x7 mn l).map kB:=by
 unfold x7
 try simp only [b7]
 kernel_rfl
def T9:List KV→KR KV:=cr Try.prog 124 (cD kB fun vs=>x7 (intOf (vs.getD 0 .ax)) ((iw intOf) (vs.getD 1 .ax)))
theorem ado (w:Nat→KV):cM Try.prog [3,26] w 0 = [(kI .i64) (intOf (ay Try.prog (ao Try.prog av) 3 (w 0))),(iU 3 (kI .i64)) ((iw intOf) (ay Try.prog (ao Try.prog av) 26 (w 1)))]:=by kernel_rfl
theorem QX:b9 Try.prog 124 T9:=aX funcs mixed adm adn (L:=9) (n:=9) fun w=>by
 have e:aK Try.prog 124 = [3,26]:=by kernel_rfl
 rw [e,ado]
 exact (afo (intOf (ay Try.prog (ao Try.prog av) 3 (w 0))) ((iw intOf) (ay Try.prog (ao Try.prog av) 26 (w 1)))).trans (by kernel_rfl)
def Nv:List (Nat×(List KV→KR KV)):=[(124,T9)]
def Nw:List Lp:=[]
theorem Wl:aq Try.prog Nv:=(aq.cons QX aq.nil)
theorem Wm:aA Try.prog Nw:=aA.nil
def yO (v:eB):(Option Bool):=(x7 (4096:Int) (Sl.lit [v.x,v.y,v.z]))
def ou (v:eB):Option (Int):=
 (cond (yO v).isSome
 (cond (!((yO v).getD default))
 (some ((20:Int)))
 (some ((0:Int))))
 none)
theorem ZA (v:eB):dn Try.prog (bp Try.prog Nv Nw (fun _=>false)) 9 9 108 [wH v] = (ou v).map (kI .i64):=by
 unfold ou
 try simp only [b7,yO,KN]
 kernel_rfl
def u9:List KV→KR KV:=cr Try.prog 108 (cD (kI .i64) fun vs=>ou (x6 (vs.getD 0 .ax)))
theorem Wn (w:Nat→KV):cM Try.prog [41] w 0 = [wH (x6 (ay Try.prog (ao Try.prog av) 41 (w 0)))]:=by kernel_rfl
theorem sV:b9 Try.prog 108 u9:=aX funcs mixed Wl Wm (L:=9) (n:=9) fun w=>by
 have e:aK Try.prog 108 = [41]:=by kernel_rfl
 rw [e,Wn]
 exact (ZA (x6 (ay Try.prog (ao Try.prog av) 41 (w 0)))).trans (by kernel_rfl)
def Ed:List (Nat×(List KV→KR KV)):=[]
def Ee:List Lp:=[]
theorem Mw:aq Try.prog Ed:=aq.nil
theorem Mx:aA Try.prog Ee:=aA.nil
def dI (n:Int) (low:Int) (high:Int):Option (Bool):=
 (cond (decide (n ≥ low))
 (some ((decide (n≤high))))
 (some (false)))
theorem OY (n:Int) (low:Int) (high:Int):dn Try.prog (bp Try.prog Ed Ee (fun _=>false)) 9 9 83 [(kI .i64) n,(kI .i64) low,(kI .i64) high] = (dI n low high).map kB:=by
 unfold dI
 try simp only [b7]
 kernel_rfl
def Gl:List KV→KR KV:=cr Try.prog 83 (cD kB fun vs=>dI (intOf (vs.getD 0 .ax)) (intOf (vs.getD 1 .ax)) (intOf (vs.getD 2 .ax)))
theorem Mz (w:Nat→KV):cM Try.prog [3,3,3] w 0 = [(kI .i64) (intOf (ay Try.prog (ao Try.prog av) 3 (w 0))),(kI .i64) (intOf (ay Try.prog (ao Try.prog av) 3 (w 1))),(kI .i64) (intOf (ay Try.prog (ao Try.prog av) 3 (w 2)))]:=by kernel_rfl
theorem MA:b9 Try.prog 83 Gl:=aX funcs mixed Mw Mx (L:=9) (n:=9) fun w=>by
 have e:aK Try.prog 83 = [3,3,3]:=by kernel_rfl
 rw [e,Mz]
 exact (OY (intOf (ay Try.prog (ao Try.prog av) 3 (w 0))) (intOf (ay Try.prog (ao Try.prog av) 3 (w 1))) (intOf (ay Try.prog (ao Try.prog av) 3 (w 2)))).trans (by kernel_rfl)
structure fg where
 e0:Int
 e1:Int
 e2:Int
instance:Inhabited fg:=⟨⟨default,default,default⟩⟩
def aj6 (x:fg):List KV:=[.int .i64 x.e0,.int .i64 x.e1,.int .i64 x.e2]
def sW (x:fg):KV:=.agg (aj6 x)
def aj7 (c:Nat→KV):fg:=⟨intOf (c 0),intOf (c 1),intOf (c 2)⟩
def Bh (v:KV):fg:=aj7 fun k=>v.cells.getD k .ax
structure gP where
 e0:fg
 e1:fg
 e2:fg
instance:Inhabited gP:=⟨⟨default,default,default⟩⟩
def afp (x:gP):List KV:=[.int .i64 x.e0.e0,.int .i64 x.e0.e1,.int .i64 x.e0.e2,.int .i64 x.e1.e0,.int .i64 x.e1.e1,.int .i64 x.e1.e2,.int .i64 x.e2.e0,.int .i64 x.e2.e1,.int .i64 x.e2.e2]
def x8 (x:gP):KV:=.agg (afp x)
def afq (c:Nat→KV):gP:=⟨⟨intOf (c 0),intOf (c 1),intOf (c 2)⟩,⟨intOf (c 3),intOf (c 4),intOf (c 5)⟩,⟨intOf (c 6),intOf (c 7),intOf (c 8)⟩⟩
def ql (v:KV):gP:=afq fun k=>v.cells.getD k .ax
structure aU where
 pos:eB
 m:gP
 Ua:Int
 aL:Int
 w:Int
 h:Int
instance:Inhabited aU:=⟨⟨default,default,default,default,default,default⟩⟩
def Bi (x:aU):List KV:=[.int .i64 x.pos.x,.int .i64 x.pos.y,.int .i64 x.pos.z,.int .i64 x.m.e0.e0,.int .i64 x.m.e0.e1,.int .i64 x.m.e0.e2,.int .i64 x.m.e1.e0,.int .i64 x.m.e1.e1,.int .i64 x.m.e1.e2,.int .i64 x.m.e2.e0,.int .i64 x.m.e2.e1,.int .i64 x.m.e2.e2,.int .i64 x.Ua,.int .i64 x.aL,.int .i64 x.w,.int .i64 x.h]
def iZ (x:aU):KV:=.agg (Bi x)
def Bj (c:Nat→KV):aU:=⟨⟨intOf (c 0),intOf (c 1),intOf (c 2)⟩,⟨⟨intOf (c 3),intOf (c 4),intOf (c 5)⟩,⟨intOf (c 6),intOf (c 7),intOf (c 8)⟩,⟨intOf (c 9),intOf (c 10),intOf (c 11)⟩⟩,intOf (c 12),intOf (c 13),intOf (c 14),intOf (c 15)⟩
def fw (v:KV):aU:=Bj fun k=>v.cells.getD k .ax
def Gm:List (Nat×(List KV→KR KV)):=[(83,Gl),(108,u9)]
def Gn:List Lp:=[]
theorem OZ:aq Try.prog Gm:=(aq.cons MA (aq.cons sV aq.nil))
theorem O0:aA Try.prog Gn:=aA.nil
def yP (c:aU):(Option Int):=(ou c.pos)
def yQ (c:aU):(Option Bool):=(dI c.Ua (1:Int) (64:Int))
def yR (c:aU):(Option Bool):=(dI c.aL (256:Int) (4096:Int))
def yS (c:aU):(Option Bool):=(dI c.w (1:Int) (64:Int))
def yT (c:aU):(Option Bool):=(dI c.h (1:Int) (64:Int))
def yU (c:aU):(Option Bool):=(dI c.m.e0.e0 (-(256:Int)) (256:Int))
def yV (c:aU):(Option Bool):=(dI c.m.e0.e1 (-(256:Int)) (256:Int))
def yW (c:aU):(Option Bool):=(dI c.m.e0.e2 (-(256:Int)) (256:Int))
def yX (c:aU):(Option Bool):=(dI c.m.e1.e0 (-(256:Int)) (256:Int))
def yY (c:aU):(Option Bool):=(dI c.m.e1.e1 (-(256:Int)) (256:Int))
def xv (c:aU):(Option Bool):=(dI c.m.e1.e2 (-(256:Int)) (256:Int))
def xw (c:aU):(Option Bool):=(dI c.m.e2.e0 (-(256:Int)) (256:Int))
def xx (c:aU):(Option Bool):=(dI c.m.e2.e1 (-(256:Int)) (256:Int))
def xy (c:aU):(Option Bool):=(dI c.m.e2.e2 (-(256:Int)) (256:Int))
def ln (c:aU):Option (Int):=
 (cond (yP c).isSome
 (cond (((yP c).getD default)==(0:Int))
 (cond (yQ c).isSome
 (cond ((yQ c).getD default)
 (cond (yR c).isSome
 (cond ((yR c).getD default)
 (cond (yS c).isSome
 (cond ((yS c).getD default)
 (cond (yT c).isSome
 (cond ((yT c).getD default)
 (cond (yU c).isSome
 (cond ((yU c).getD default)
 (cond (yV c).isSome
 (cond ((yV c).getD default)
 (cond (yW c).isSome
 (cond ((yW c).getD default)
 (cond (yX c).isSome
 (cond ((yX c).getD default)
 (cond (yY c).isSome
 (cond ((yY c).getD default)
 (cond (xv c).isSome
 (cond ((xv c).getD default)
 (cond (xw c).isSome
 (cond ((xw c).getD default)
 (cond (xx c).isSome
 (cond ((xx c).getD default)
 (cond (xy c).isSome
 (cond (!((xy c).getD default))
 (some ((150:Int)))
 (some ((0:Int))))
 none)
 (some ((150:Int))))
 none)
 (some ((150:Int))))
 none)
 (some ((150:Int))))
 none)
 (some ((150:Int))))
 none)
 (some ((150:Int))))
 none)
 (some ((150:Int))))
 none)
 (some ((150:Int))))
 none)
 (some ((150:Int))))
 none)
 (some ((150:Int))))
 none)
 (some ((150:Int))))
 none)
 (some ((150:Int))))
 none)
 (some ((150:Int))))
 none)
 (some ((150:Int))))
 none)
theorem QY (c:aU):dn Try.prog (bp Try.prog Gm Gn (fun _=>false)) 9 9 82 [iZ c] = (ln c).map (kI .i64):=by
 unfold ln
 try simp only [b7]
 kernel_rfl
def w4:List KV→KR KV:=cr Try.prog 82 (cD (kI .i64) fun vs=>ln (fw (vs.getD 0 .ax)))
theorem O1 (w:Nat→KV):cM Try.prog [53] w 0 = [iZ (fw (ay Try.prog (ao Try.prog av) 53 (w 0)))]:=by kernel_rfl
theorem xz:b9 Try.prog 82 w4:=aX funcs mixed OZ O0 (L:=9) (n:=9) fun w=>by
 have e:aK Try.prog 82 = [53]:=by kernel_rfl
 rw [e,O1]
 exact (QY (fw (ay Try.prog (ao Try.prog av) 53 (w 0)))).trans (by kernel_rfl)
end
end Go.Proofs.Ytahhdndhkgbcjaa.b
end
section
namespace Go.Proofs.Ytahhdndhkgbcjaa.b
open Go.K
set_option linter.unusedVariables false
set_option linter.unusedSimpArgs false
noncomputable section
def QZ:List (Nat×(List KV→KR KV)):=[]
def Q0:List Lp:=[]
theorem ZB:aq Try.prog QZ:=aq.nil
theorem ZC:aA Try.prog Q0:=aA.nil
def x9 (m:gP):Option (Bool):=
 (cond (decide (m.e0.e0 < (-(1024:Int))))
 (some (false))
 (cond (decide (m.e0.e0 > (1024:Int)))
 (some (false))
 (cond (decide (m.e0.e1 < (-(1024:Int))))
 (some (false))
 (cond (decide (m.e0.e1 > (1024:Int)))
 (some (false))
 (cond (decide (m.e0.e2 < (-(1024:Int))))
 (some (false))
 (cond (decide (m.e0.e2 > (1024:Int)))
 (some (false))
 (cond (decide (m.e1.e0 < (-(1024:Int))))
 (some (false))
 (cond (decide (m.e1.e0 > (1024:Int)))
 (some (false))
 (cond (decide (m.e1.e1 < (-(1024:Int))))
 (some (false))
 (cond (decide (m.e1.e1 > (1024:Int)))
 (some (false))
 (cond (decide (m.e1.e2 < (-(1024:Int))))
 (some (false))
 (cond (decide (m.e1.e2 > (1024:Int)))
 (some (false))
 (cond (decide (m.e2.e0 < (-(1024:Int))))
 (some (false))
 (cond (decide (m.e2.e0 > (1024:Int)))
 (some (false))
 (cond (decide (m.e2.e1 < (-(1024:Int))))
 (some (false))
 (cond (decide (m.e2.e1 > (1024:Int)))
 (some (false))
 (cond (decide (m.e2.e2 < (-(1024:Int))))
 (some (false))
 (cond (decide (m.e2.e2 > (1024:Int)))
 (some (false))
 (some (true))))))))))))))))))))
theorem aba (m:gP):dn Try.prog (bp Try.prog QZ Q0 (fun _=>false)) 9 9 138 [x8 m] = (x9 m).map kB:=by
 unfold x9
 try simp only [b7]
 kernel_rfl
def VS:List KV→KR KV:=cr Try.prog 138 (cD kB fun vs=>x9 (ql (vs.getD 0 .ax)))
theorem ZD (w:Nat→KV):cM Try.prog [51] w 0 = [x8 (ql (ay Try.prog (ao Try.prog av) 51 (w 0)))]:=by kernel_rfl
theorem ZE:b9 Try.prog 138 VS:=aX funcs mixed ZB ZC (L:=9) (n:=9) fun w=>by
 have e:aK Try.prog 138 = [51]:=by kernel_rfl
 rw [e,ZD]
 exact (aba (ql (ay Try.prog (ao Try.prog av) 51 (w 0)))).trans (by kernel_rfl)
def Q5:List (Nat×(List KV→KR KV)):=[]
def Q6:List Lp:=[]
theorem ZF:aq Try.prog Q5:=aq.nil
theorem ZG:aA Try.prog Q6:=aA.nil
def K0 (v:eB):Option (fg):=
 (some ((⟨v.x,v.y,v.z⟩:fg)))
theorem abb (v:eB):dn Try.prog (bp Try.prog Q5 Q6 (fun _=>false)) 9 9 141 [wH v] = (K0 v).map sW:=by
 unfold K0
 kernel_rfl
def VT:List KV→KR KV:=cr Try.prog 141 (cD sW fun vs=>K0 (x6 (vs.getD 0 .ax)))
theorem ZH (w:Nat→KV):cM Try.prog [41] w 0 = [wH (x6 (ay Try.prog (ao Try.prog av) 41 (w 0)))]:=by kernel_rfl
theorem ZI:b9 Try.prog 141 VT:=aX funcs mixed ZF ZG (L:=9) (n:=9) fun w=>by
 have e:aK Try.prog 141 = [41]:=by kernel_rfl
 rw [e,ZH]
 exact (abb (x6 (ay Try.prog (ao Try.prog av) 41 (w 0)))).trans (by kernel_rfl)
def Q7:List (Nat×(List KV→KR KV)):=[(99,uz)]
def Q8:List Lp:=[]
theorem ZJ:aq Try.prog Q7:=(aq.cons tw aq.nil)
theorem ZK:aA Try.prog Q8:=aA.nil
def E7 (m:gP) (v:fg):(Option (Prod Int Int)):=(eH (ak ((ak ((ak ((0:Int)+(ak (m.e0.e0 * v.e0))))+(ak (m.e0.e1 * v.e1))))+(ak (m.e0.e2 * v.e2)))) (256:Int))
def E8 (m:gP) (v:fg):(Option (Prod Int Int)):=(eH (ak ((ak ((ak ((0:Int)+(ak (m.e1.e0 * v.e0))))+(ak (m.e1.e1 * v.e1))))+(ak (m.e1.e2 * v.e2)))) (256:Int))
def E9 (m:gP) (v:fg):(Option (Prod Int Int)):=(eH (ak ((ak ((ak ((0:Int)+(ak (m.e2.e0 * v.e0))))+(ak (m.e2.e1 * v.e1))))+(ak (m.e2.e2 * v.e2)))) (256:Int))
def ya (m:gP) (v:fg):Option (fg):=
 (cond (E7 m v).isSome
 (cond (E8 m v).isSome
 (cond (E9 m v).isSome
 (some ((⟨((E7 m v).getD default).fst,((E8 m v).getD default).fst,((E9 m v).getD default).fst⟩:fg)))
 none)
 none)
 none)
theorem abc (m:gP) (v:fg):dn Try.prog (bp Try.prog Q7 Q8 (fun _=>false)) 9 9 140 [x8 m,sW v] = (ya m v).map sW:=by
 unfold ya
 try simp only [b7]
 kernel_rfl
def VU:List KV→KR KV:=cr Try.prog 140 (cD sW fun vs=>ya (ql (vs.getD 0 .ax)) (Bh (vs.getD 1 .ax)))
theorem ZL (w:Nat→KV):cM Try.prog [51,50] w 0 = [x8 (ql (ay Try.prog (ao Try.prog av) 51 (w 0))),sW (Bh (ay Try.prog (ao Try.prog av) 50 (w 1)))]:=by kernel_rfl
theorem ZM:b9 Try.prog 140 VU:=aX funcs mixed ZJ ZK (L:=9) (n:=9) fun w=>by
 have e:aK Try.prog 140 = [51,50]:=by kernel_rfl
 rw [e,ZL]
 exact (abc (ql (ay Try.prog (ao Try.prog av) 51 (w 0))) (Bh (ay Try.prog (ao Try.prog av) 50 (w 1)))).trans (by kernel_rfl)
def Nx:List (Nat×(List KV→KR KV)):=[]
def Ny:List Lp:=[]
theorem Wo:aq Try.prog Nx:=aq.nil
theorem Wp:aA Try.prog Ny:=aA.nil
def Ic (l:fg):Option (eB):=
 (some ((⟨l.e0,l.e1,l.e2⟩:eB)))
theorem ZN (l:fg):dn Try.prog (bp Try.prog Nx Ny (fun _=>false)) 9 9 139 [sW l] = (Ic l).map wH:=by
 unfold Ic
 kernel_rfl
def Q9:List KV→KR KV:=cr Try.prog 139 (cD wH fun vs=>Ic (Bh (vs.getD 0 .ax)))
theorem Wq (w:Nat→KV):cM Try.prog [50] w 0 = [sW (Bh (ay Try.prog (ao Try.prog av) 50 (w 0)))]:=by kernel_rfl
theorem Wr:b9 Try.prog 139 Q9:=aX funcs mixed Wo Wp (L:=9) (n:=9) fun w=>by
 have e:aK Try.prog 139 = [50]:=by kernel_rfl
 rw [e,Wq]
 exact (ZN (Bh (ay Try.prog (ao Try.prog av) 50 (w 0)))).trans (by kernel_rfl)
def Ra:List (Nat×(List KV→KR KV)):=[(139,Q9),(140,VU),(141,VT),(124,T9),(138,VS)]
def Rb:List Lp:=[]
theorem ZO:aq Try.prog Ra:=(aq.cons Wr (aq.cons ZM (aq.cons ZI (aq.cons QX (aq.cons ZE aq.nil)))))
theorem ZP:aA Try.prog Rb:=aA.nil
def Fa (m:gP) (v:eB):(Option Bool):=(x9 m)
def AQ (m:gP) (v:eB):(Option Bool):=(x7 (32768:Int) (Sl.lit [v.x,v.y,v.z]))
def wI (m:gP) (v:eB):(Option fg):=(ya m (⟨v.x,v.y,v.z⟩:fg))
def yb (m:gP) (v:eB):Option (eB×Int):=
 (cond (Fa m v).isSome
 (cond (!((Fa m v).getD default))
 (some ((⟨(0:Int),(0:Int),(0:Int)⟩:eB),(2:Int)))
 (cond (AQ m v).isSome
 (cond (!((AQ m v).getD default))
 (some ((⟨(0:Int),(0:Int),(0:Int)⟩:eB),(2:Int)))
 (cond (wI m v).isSome
 (some ((⟨((wI m v).getD default).e0,((wI m v).getD default).e1,((wI m v).getD default).e2⟩:eB),(0:Int)))
 none))
 none))
 none)
theorem abd (m:gP) (v:eB):dn Try.prog (bp Try.prog Ra Rb (fun _=>false)) 9 9 127 [x8 m,wH v] = (yb m v).map (fun (r:eB×Int)=>KV.jE [wH r.1,(kI .i64) r.2]):=by
 unfold yb
 try simp only [b7,AQ,KN]
 kernel_rfl
def VV:List KV→KR KV:=cr Try.prog 127 (cD (fun (r:eB×Int)=>KV.jE [wH r.1,(kI .i64) r.2]) fun vs=>yb (ql (vs.getD 0 .ax)) (x6 (vs.getD 1 .ax)))
theorem ZQ (w:Nat→KV):cM Try.prog [51,41] w 0 = [x8 (ql (ay Try.prog (ao Try.prog av) 51 (w 0))),wH (x6 (ay Try.prog (ao Try.prog av) 41 (w 1)))]:=by kernel_rfl
theorem ZR:b9 Try.prog 127 VV:=aX funcs mixed ZO ZP (L:=9) (n:=9) fun w=>by
 have e:aK Try.prog 127 = [51,41]:=by kernel_rfl
 rw [e,ZQ]
 exact (abd (ql (ay Try.prog (ao Try.prog av) 51 (w 0))) (x6 (ay Try.prog (ao Try.prog av) 41 (w 1)))).trans (by kernel_rfl)
def I4:List (Nat×(List KV→KR KV)):=[(127,VV),(108,u9),(82,w4)]
def I5:List Lp:=[]
theorem Rc:aq Try.prog I4:=(aq.cons ZR (aq.cons sV (aq.cons xz aq.nil)))
theorem Rd:aA Try.prog I5:=aA.nil
def va (c:aU) (v:eB):(Option Int):=(ln c)
def vb (c:aU) (v:eB):(Option Int):=(ou v)
def vc (c:aU) (v:eB):(Option (Prod eB Int)):=(yb c.m (⟨(ak (v.x - c.pos.x)),(ak (v.y - c.pos.y)),(ak (v.z - c.pos.z))⟩:eB))
def nw (c:aU) (v:eB):Option (eB×Int):=
 (cond (va c v).isSome
 (cond (((va c v).getD default) != (0:Int))
 (some ((⟨(0:Int),(0:Int),(0:Int)⟩:eB),((va c v).getD default)))
 (cond (vb c v).isSome
 (cond (((vb c v).getD default) != (0:Int))
 (some ((⟨(0:Int),(0:Int),(0:Int)⟩:eB),((vb c v).getD default)))
 (cond (vc c v).isSome
 (some (((vc c v).getD default).fst,((vc c v).getD default).snd))
 none))
 none))
 none)
theorem Ub (c:aU) (v:eB):dn Try.prog (bp Try.prog I4 I5 (fun _=>false)) 9 9 110 [iZ c,wH v] = (nw c v).map (fun (r:eB×Int)=>KV.jE [wH r.1,(kI .i64) r.2]):=by
 unfold nw
 try simp only [b7]
 kernel_rfl
def Dj:List KV→KR KV:=cr Try.prog 110 (cD (fun (r:eB×Int)=>KV.jE [wH r.1,(kI .i64) r.2]) fun vs=>nw (fw (vs.getD 0 .ax)) (x6 (vs.getD 1 .ax)))
theorem Re (w:Nat→KV):cM Try.prog [53,41] w 0 = [iZ (fw (ay Try.prog (ao Try.prog av) 53 (w 0))),wH (x6 (ay Try.prog (ao Try.prog av) 41 (w 1)))]:=by kernel_rfl
theorem Ef:b9 Try.prog 110 Dj:=aX funcs mixed Rc Rd (L:=9) (n:=9) fun w=>by
 have e:aK Try.prog 110 = [53,41]:=by kernel_rfl
 rw [e,Re]
 exact (Ub (fw (ay Try.prog (ao Try.prog av) 53 (w 0))) (x6 (ay Try.prog (ao Try.prog av) 41 (w 1)))).trans (by kernel_rfl)
structure gR where
 t4:Int
 t14:(Sl bW)
 t15:Int
 t16:Int
instance:Inhabited gR:=⟨⟨default,default,default,default⟩⟩
def tA (x:gR):List KV:=[.int .i64 x.t4,iU 180 mO x.t14,.int .i64 x.t15,.int .i64 x.t16]
def tB (x:gR):List (List KV):=[]
def Eg (vs:List KV) (rs:List (List KV)):gR:=⟨intOf (vs.getD 0 .ax),iw jN (vs.getD 1 .ax),intOf (vs.getD 2 .ax),intOf (vs.getD 3 .ax)⟩
def Gp:aQ:=⟨[(4,⟨false,[.k (.int .i64)]⟩),(14,⟨false,[.k (.slice 180)]⟩),(15,⟨false,[.k (.int .i64)]⟩),(16,⟨false,[.k (.int .i64)]⟩)],[],[]⟩
def Rf:=jf Try.prog (bp Try.prog [(130,qI)] [] (fun _=>false)) 9 9 128 58 (eX Try.prog 128 58) Gp
def sA (x:gR):(Option Int):=(kU (x.t14.get (Int.toNat x.t16)))
def kD (x:gR):aJ gR:=
 (cond (decide (x.t16 < x.t15))
 (cond ((decide ((0:Int)≤x.t16))&&(decide (x.t16 < ((x.t14.n:Nat):Int))))
 (cond (sA x).isSome
 (cond (((sA x).getD default) != (0:Int))
 (.out aG.aw.ret (⟨((sA x).getD default),x.t14,x.t15,x.t16⟩:gR))
 (.next (⟨x.t4,x.t14,x.t15,(ak (x.t16+(1:Int)))⟩:gR)))
 .fail)
 .fail)
 (.out (aG.aw.exit 0) x))
theorem MB (x:gR):Rf (tA x) (tB x)=aJ.enc tA tB (kD x):=by
 unfold kD
 try simp only [aJ.dg]
 kernel_rfl
def vd:Lp:=⟨128,58,Gp,fun vs rs=>dD tA tB (goN kD (Eg vs rs)) [aG.aw.exit 0,aG.aw.ret],false⟩
theorem Rg:vd.Ok Try.prog:=eF funcs mixed (aq.cons oS aq.nil) aA.nil (L:=9) (n:=9) (step:=kD) (ev:=tA) (er:=tB) (pa:=Eg) rfl (fun wv wr=>⟨by kernel_rfl,by kernel_rfl⟩) MB
theorem K1:cz Try.prog vd.f vd.p=true:=by kernel_rfl
def K2:List (Nat×(List KV→KR KV)):=[(130,qI)]
def K3:List Lp:=[vd]
theorem Uc:aq Try.prog K2:=(aq.cons oS aq.nil)
theorem Ud:aA Try.prog K3:=(aA.cons Rg K1 aA.nil)
def w5 (aL:Int) (l:(Sl bW)):(aJ gR):=(goN kD (⟨(0:Int),l,((l.n:Nat):Int),(0:Int)⟩:gR))
def tf (aL:Int) (l:(Sl bW)):Option (Int):=
 (cond (decide (aL < (256:Int)))
 (some ((2:Int)))
 (cond (decide (aL > (4096:Int)))
 (some ((2:Int)))
 (cond ((w5 aL l).by (aG.aw.exit 0))
 (some ((0:Int)))
 (cond ((w5 aL l).by aG.aw.ret)
 (some ((w5 aL l).st.t4))
 none))))
theorem Ws (aL:Int) (l:(Sl bW)):dn Try.prog (bp Try.prog K2 K3 (fun _=>false)) 9 9 128 [(kI .i64) aL,(iU 180 mO) l] = (tf aL l).map (kI .i64):=by
 unfold tf
 try simp only [b7]
 kernel_rfl
def Nz:List KV→KR KV:=cr Try.prog 128 (cD (kI .i64) fun vs=>tf (intOf (vs.getD 0 .ax)) ((iw jN) (vs.getD 1 .ax)))
theorem Ue (w:Nat→KV):cM Try.prog [3,204] w 0 = [(kI .i64) (intOf (ay Try.prog (ao Try.prog av) 3 (w 0))),(iU 180 mO) ((iw jN) (ay Try.prog (ao Try.prog av) 204 (w 1)))]:=by kernel_rfl
theorem Uf:b9 Try.prog 128 Nz:=aX funcs mixed Uc Ud (L:=9) (n:=9) fun w=>by
 have e:aK Try.prog 128 = [3,204]:=by kernel_rfl
 rw [e,Ue]
 exact (Ws (intOf (ay Try.prog (ao Try.prog av) 3 (w 0))) ((iw jN) (ay Try.prog (ao Try.prog av) 204 (w 1)))).trans (by kernel_rfl)
structure Rh where
 e0:Int
 e1:Int
 e2:Int
 e3:Int
instance:Inhabited Rh:=⟨⟨default,default,default,default⟩⟩
def aj8 (x:Rh):List KV:=[.int .i64 x.e0,.int .i64 x.e1,.int .i64 x.e2,.int .i64 x.e3]
def afr (x:Rh):KV:=.agg (aj8 x)
def I6:List (Nat×(List KV→KR KV)):=[]
def I7:List Lp:=[]
theorem Ri:aq Try.prog I6:=aq.nil
theorem Rj:aA Try.prog I7:=aA.nil
def Dk (p:bW):Option (Rh):=
 (some ((⟨p.p.x,p.p.y,p.u,p.v⟩:Rh)))
theorem Ug (p:bW):dn Try.prog (bp Try.prog I6 I7 (fun _=>false)) 9 9 142 [mO p] = (Dk p).map afr:=by
 unfold Dk
 kernel_rfl
def K4:List KV→KR KV:=cr Try.prog 142 (cD afr fun vs=>Dk (jN (vs.getD 0 .ax)))
theorem Rl (w:Nat→KV):cM Try.prog [180] w 0 = [mO (jN (ay Try.prog (ao Try.prog av) 180 (w 0)))]:=by kernel_rfl
theorem Rm:b9 Try.prog 142 K4:=aX funcs mixed Ri Rj (L:=9) (n:=9) fun w=>by
 have e:aK Try.prog 142 = [180]:=by kernel_rfl
 rw [e,Rl]
 exact (Ug (jN (ay Try.prog (ao Try.prog av) 180 (w 0)))).trans (by kernel_rfl)
def Rn:List (Nat×(List KV→KR KV)):=[(99,uz),(142,K4),(128,Nz)]
def Ro:List Lp:=[]
theorem ZS:aq Try.prog Rn:=(aq.cons tw (aq.cons Rm (aq.cons Uf aq.nil)))
theorem ZT:aA Try.prog Ro:=aA.nil
def wJ (aL:Int) (a:bW) (b:bW):(Option Int):=(tf aL (Sl.lit [a,b]))
def Fb (aL:Int) (a:bW) (b:bW):(Option (Prod Int Int)):=(eH (ak ((ak (b.p.x - a.p.x)) * (ak (aL - a.p.z)))) (ak (b.p.z - a.p.z)))
def Fe (aL:Int) (a:bW) (b:bW):(Option (Prod Int Int)):=(eH (ak ((ak (b.p.y - a.p.y)) * (ak (aL - a.p.z)))) (ak (b.p.z - a.p.z)))
def Ff (aL:Int) (a:bW) (b:bW):(Option (Prod Int Int)):=(eH (ak ((ak (b.u - a.u)) * (ak (aL - a.p.z)))) (ak (b.p.z - a.p.z)))
def Fg (aL:Int) (a:bW) (b:bW):(Option (Prod Int Int)):=(eH (ak ((ak (b.v - a.v)) * (ak (aL - a.p.z)))) (ak (b.p.z - a.p.z)))
def eJ (aL:Int) (a:bW) (b:bW):Option (bW×Int):=
 (cond (wJ aL a b).isSome
 (cond (((wJ aL a b).getD default) != (0:Int))
 (some ((⟨(⟨(0:Int),(0:Int),(0:Int)⟩:eB),(0:Int),(0:Int)⟩:bW),((wJ aL a b).getD default)))
 (cond (decide (a.p.z ≥ aL))
 (some ((⟨(⟨(0:Int),(0:Int),(0:Int)⟩:eB),(0:Int),(0:Int)⟩:bW),(6:Int)))
 (cond (decide (b.p.z < aL))
 (some ((⟨(⟨(0:Int),(0:Int),(0:Int)⟩:eB),(0:Int),(0:Int)⟩:bW),(6:Int)))
 (cond (Fb aL a b).isSome
 (cond (Fe aL a b).isSome
 (cond (Ff aL a b).isSome
 (cond (Fg aL a b).isSome
 (some ((⟨(⟨(ak (a.p.x+((Fb aL a b).getD default).fst)),(ak (a.p.y+((Fe aL a b).getD default).fst)),aL⟩:eB),(ak (a.u+((Ff aL a b).getD default).fst)),(ak (a.v+((Fg aL a b).getD default).fst))⟩:bW),(0:Int)))
 none)
 none)
 none)
 none))))
 none)
theorem abe (aL:Int) (a:bW) (b:bW):dn Try.prog (bp Try.prog Rn Ro (fun _=>false)) 9 9 129 [(kI .i64) aL,mO a,mO b] = (eJ aL a b).map (fun (r:bW×Int)=>KV.jE [mO r.1,(kI .i64) r.2]):=by
 unfold eJ
 try simp only [b7,wJ,agK]
 kernel_rfl
def Eh:List KV→KR KV:=cr Try.prog 129 (cD (fun (r:bW×Int)=>KV.jE [mO r.1,(kI .i64) r.2]) fun vs=>eJ (intOf (vs.getD 0 .ax)) (jN (vs.getD 1 .ax)) (jN (vs.getD 2 .ax)))
theorem ZU (w:Nat→KV):cM Try.prog [3,180,180] w 0 = [(kI .i64) (intOf (ay Try.prog (ao Try.prog av) 3 (w 0))),mO (jN (ay Try.prog (ao Try.prog av) 180 (w 1))),mO (jN (ay Try.prog (ao Try.prog av) 180 (w 2)))]:=by kernel_rfl
theorem Dl:b9 Try.prog 129 Eh:=aX funcs mixed ZS ZT (L:=9) (n:=9) fun w=>by
 have e:aK Try.prog 129 = [3,180,180]:=by kernel_rfl
 rw [e,ZU]
 exact (abe (intOf (ay Try.prog (ao Try.prog av) 3 (w 0))) (jN (ay Try.prog (ao Try.prog av) 180 (w 1))) (jN (ay Try.prog (ao Try.prog av) 180 (w 2)))).trans (by kernel_rfl)
def I8:List (Nat×(List KV→KR KV)):=[(115,Ct)]
def I9:List Lp:=[]
theorem Rp:aq Try.prog I8:=(aq.cons BO aq.nil)
theorem Rq:aA Try.prog I9:=aA.nil
def oT (t:bt):(Option (Prod Int Int)):=(nj t)
def rG (t:bt):Option (Int):=
 (cond (oT t).isSome
 (cond (((oT t).getD default).snd==(0:Int))
 (cond (decide (((oT t).getD default).fst≤(0:Int)))
 (some ((6:Int)))
 (some (((oT t).getD default).snd)))
 (some (((oT t).getD default).snd)))
 none)
theorem Uh (t:bt):dn Try.prog (bp Try.prog I8 I9 (fun _=>false)) 9 9 86 [iy t] = (rG t).map (kI .i64):=by
 unfold rG
 try simp only [b7]
 kernel_rfl
def K5:List KV→KR KV:=cr Try.prog 86 (cD (kI .i64) fun vs=>rG (gC (vs.getD 0 .ax)))
theorem Rr (w:Nat→KV):cM Try.prog [118] w 0 = [iy (gC (ay Try.prog (ao Try.prog av) 118 (w 0)))]:=by kernel_rfl
theorem Rs:b9 Try.prog 86 K5:=aX funcs mixed Rp Rq (L:=9) (n:=9) fun w=>by
 have e:aK Try.prog 86 = [118]:=by kernel_rfl
 rw [e,Rr]
 exact (Uh (gC (ay Try.prog (ao Try.prog av) 118 (w 0)))).trans (by kernel_rfl)
def Ja:List (Nat×(List KV→KR KV)):=[]
def Jb:List Lp:=[]
theorem Rt:aq Try.prog Ja:=aq.nil
theorem Ru:aA Try.prog Jb:=aA.nil
def rH (x:Int) (y:Int):Option (Bool):=
 (cond (decide ((min x y) ≥ (0:Int)))
 (some ((decide ((max x y) < (64:Int)))))
 (some (false)))
theorem Ui (x:Int) (y:Int):dn Try.prog (bp Try.prog Ja Jb (fun _=>false)) 9 9 87 [(kI .i64) x,(kI .i64) y] = (rH x y).map kB:=by
 unfold rH
 try simp only [b7]
 kernel_rfl
def K6:List KV→KR KV:=cr Try.prog 87 (cD kB fun vs=>rH (intOf (vs.getD 0 .ax)) (intOf (vs.getD 1 .ax)))
theorem Rv (w:Nat→KV):cM Try.prog [3,3] w 0 = [(kI .i64) (intOf (ay Try.prog (ao Try.prog av) 3 (w 0))),(kI .i64) (intOf (ay Try.prog (ao Try.prog av) 3 (w 1)))]:=by kernel_rfl
theorem Rw:b9 Try.prog 87 K6:=aX funcs mixed Rt Ru (L:=9) (n:=9) fun w=>by
 have e:aK Try.prog 87 = [3,3]:=by kernel_rfl
 rw [e,Rv]
 exact (Ui (intOf (ay Try.prog (ao Try.prog av) 3 (w 0))) (intOf (ay Try.prog (ao Try.prog av) 3 (w 1)))).trans (by kernel_rfl)
def Gq:List (Nat×(List KV→KR KV)):=[]
def Gr:List Lp:=[]
theorem O2:aq Try.prog Gq:=aq.nil
theorem O3:aA Try.prog Gr:=aA.nil
def sX (n:Int):Option (Int):=
 (some ((ak ((ak ((8:Int) * n))+(4:Int)))))
theorem Rx (n:Int):dn Try.prog (bp Try.prog Gq Gr (fun _=>false)) 9 9 120 [(kI .i64) n] = (sX n).map (kI .i64):=by
 unfold sX
 kernel_rfl
def Jc:List KV→KR KV:=cr Try.prog 120 (cD (kI .i64) fun vs=>sX (intOf (vs.getD 0 .ax)))
theorem O4 (w:Nat→KV):cM Try.prog [3] w 0 = [(kI .i64) (intOf (ay Try.prog (ao Try.prog av) 3 (w 0)))]:=by kernel_rfl
theorem O5:b9 Try.prog 120 Jc:=aX funcs mixed O2 O3 (L:=9) (n:=9) fun w=>by
 have e:aK Try.prog 120 = [3]:=by kernel_rfl
 rw [e,O4]
 exact (Rx (intOf (ay Try.prog (ao Try.prog av) 3 (w 0)))).trans (by kernel_rfl)
def Jd:List (Nat×(List KV→KR KV)):=[(120,Jc),(87,K6),(86,K5)]
def Je:List Lp:=[]
theorem Ry:aq Try.prog Jd:=(aq.cons O5 (aq.cons Rw (aq.cons Rs aq.nil)))
theorem Rz:aA Try.prog Je:=aA.nil
def ve (t:bt) (x:Int) (y:Int):(Option Int):=(rG t)
def Ah (t:bt) (x:Int) (y:Int):(Option Bool):=(rH x y)
def vf (t:bt) (x:Int) (y:Int):(Option Int):=(sX y)
def vg (t:bt) (x:Int) (y:Int):(Option Int):=(sX x)
def mo (t:bt) (x:Int) (y:Int):Option (fg×Int):=
 (cond (ve t x y).isSome
 (cond (((ve t x y).getD default) != (0:Int))
 (some ((⟨(0:Int),(0:Int),(0:Int)⟩:fg),((ve t x y).getD default)))
 (cond (Ah t x y).isSome
 (cond (!((Ah t x y).getD default))
 (some ((⟨(0:Int),(0:Int),(0:Int)⟩:fg),(2:Int)))
 (some ((⟨(ak ((ak ((ak (t.e2.x - t.e1.x)) * (ak (((vf t x y).getD default) - t.e1.y)))) - (ak ((ak (((vg t x y).getD default) - t.e1.x)) * (ak (t.e2.y - t.e1.y)))))),(ak ((ak ((ak (t.e0.x - t.e2.x)) * (ak (((vf t x y).getD default) - t.e2.y)))) - (ak ((ak (((vg t x y).getD default) - t.e2.x)) * (ak (t.e0.y - t.e2.y)))))),(ak ((ak ((ak (t.e1.x - t.e0.x)) * (ak (((vf t x y).getD default) - t.e0.y)))) - (ak ((ak (((vg t x y).getD default) - t.e0.x)) * (ak (t.e1.y - t.e0.y))))))⟩:fg),(0:Int))))
 none))
 none)
theorem Uj (t:bt) (x:Int) (y:Int):dn Try.prog (bp Try.prog Jd Je (fun _=>false)) 9 9 98 [iy t,(kI .i64) x,(kI .i64) y] = (mo t x y).map (fun (r:fg×Int)=>KV.jE [sW r.1,(kI .i64) r.2]):=by
 unfold mo
 try simp only [b7]
 kernel_rfl
def Dm:List KV→KR KV:=cr Try.prog 98 (cD (fun (r:fg×Int)=>KV.jE [sW r.1,(kI .i64) r.2]) fun vs=>mo (gC (vs.getD 0 .ax)) (intOf (vs.getD 1 .ax)) (intOf (vs.getD 2 .ax)))
theorem RA (w:Nat→KV):cM Try.prog [118,3,3] w 0 = [iy (gC (ay Try.prog (ao Try.prog av) 118 (w 0))),(kI .i64) (intOf (ay Try.prog (ao Try.prog av) 3 (w 1))),(kI .i64) (intOf (ay Try.prog (ao Try.prog av) 3 (w 2)))]:=by kernel_rfl
theorem Ei:b9 Try.prog 98 Dm:=aX funcs mixed Ry Rz (L:=9) (n:=9) fun w=>by
 have e:aK Try.prog 98 = [118,3,3]:=by kernel_rfl
 rw [e,RA]
 exact (Uj (gC (ay Try.prog (ao Try.prog av) 118 (w 0))) (intOf (ay Try.prog (ao Try.prog av) 3 (w 1))) (intOf (ay Try.prog (ao Try.prog av) 3 (w 2)))).trans (by kernel_rfl)
def Gs:List (Nat×(List KV→KR KV)):=[(98,Dm)]
def Gt:List Lp:=[]
theorem O6:aq Try.prog Gs:=(aq.cons Ei aq.nil)
theorem O7:aA Try.prog Gt:=aA.nil
def aj (t:bt) (x:Int) (y:Int):(Option (Prod fg Int)):=(mo t x y)
def p0 (t:bt) (x:Int) (y:Int):Option (Bool×Int):=
 (cond (aj t x y).isSome
 (cond (((aj t x y).getD default).snd != (0:Int))
 (some (false,((aj t x y).getD default).snd))
 (cond (decide (t.e2.y < t.e1.y))
 (cond (decide (((aj t x y).getD default).fst.e0 < (0:Int)))
 (some (false,(0:Int)))
 (cond (((aj t x y).getD default).fst.e0==(0:Int))
 (cond (decide (t.e0.y < t.e2.y))
 (cond (decide (((aj t x y).getD default).fst.e1 < (0:Int)))
 (some (false,(0:Int)))
 (cond (((aj t x y).getD default).fst.e1==(0:Int))
 (cond (decide (t.e1.y < t.e0.y))
 (cond (decide (((aj t x y).getD default).fst.e2 < (0:Int)))
 (some (false,(0:Int)))
 (cond (((aj t x y).getD default).fst.e2==(0:Int))
 (some (true,(0:Int)))
 (some (true,(0:Int)))))
 (cond (t.e1.y==t.e0.y)
 (cond (decide (((aj t x y).getD default).fst.e2 < (0:Int)))
 (some (false,(0:Int)))
 (cond (((aj t x y).getD default).fst.e2==(0:Int))
 (cond (!(decide (t.e1.x > t.e0.x)))
 (some (false,(0:Int)))
 (some (true,(0:Int))))
 (some (true,(0:Int)))))
 (cond (decide (((aj t x y).getD default).fst.e2 < (0:Int)))
 (some (false,(0:Int)))
 (cond (((aj t x y).getD default).fst.e2==(0:Int))
 (some (false,(0:Int)))
 (some (true,(0:Int)))))))
 (cond (decide (t.e1.y < t.e0.y))
 (cond (decide (((aj t x y).getD default).fst.e2 < (0:Int)))
 (some (false,(0:Int)))
 (cond (((aj t x y).getD default).fst.e2==(0:Int))
 (some (true,(0:Int)))
 (some (true,(0:Int)))))
 (cond (t.e1.y==t.e0.y)
 (cond (decide (((aj t x y).getD default).fst.e2 < (0:Int)))
 (some (false,(0:Int)))
 (cond (((aj t x y).getD default).fst.e2==(0:Int))
 (cond (!(decide (t.e1.x > t.e0.x)))
 (some (false,(0:Int)))
 (some (true,(0:Int))))
 (some (true,(0:Int)))))
 (cond (decide (((aj t x y).getD default).fst.e2 < (0:Int)))
 (some (false,(0:Int)))
 (cond (((aj t x y).getD default).fst.e2==(0:Int))
 (some (false,(0:Int)))
 (some (true,(0:Int)))))))))
 (cond (t.e0.y==t.e2.y)
 (cond (decide (((aj t x y).getD default).fst.e1 < (0:Int)))
 (some (false,(0:Int)))
 (cond (((aj t x y).getD default).fst.e1==(0:Int))
 (cond (!(decide (t.e0.x > t.e2.x)))
 (some (false,(0:Int)))
 (cond (decide (t.e1.y < t.e0.y))
 (cond (decide (((aj t x y).getD default).fst.e2 < (0:Int)))
 (some (false,(0:Int)))
 (cond (((aj t x y).getD default).fst.e2==(0:Int))
 (some (true,(0:Int)))
 (some (true,(0:Int)))))
 (cond (t.e1.y==t.e0.y)
 (cond (decide (((aj t x y).getD default).fst.e2 < (0:Int)))
 (some (false,(0:Int)))
 (cond (((aj t x y).getD default).fst.e2==(0:Int))
 (cond (!(decide (t.e1.x > t.e0.x)))
 (some (false,(0:Int)))
 (some (true,(0:Int))))
 (some (true,(0:Int)))))
 (cond (decide (((aj t x y).getD default).fst.e2 < (0:Int)))
 (some (false,(0:Int)))
 (cond (((aj t x y).getD default).fst.e2==(0:Int))
 (some (false,(0:Int)))
 (some (true,(0:Int))))))))
 (cond (decide (t.e1.y < t.e0.y))
 (cond (decide (((aj t x y).getD default).fst.e2 < (0:Int)))
 (some (false,(0:Int)))
 (cond (((aj t x y).getD default).fst.e2==(0:Int))
 (some (true,(0:Int)))
 (some (true,(0:Int)))))
 (cond (t.e1.y==t.e0.y)
 (cond (decide (((aj t x y).getD default).fst.e2 < (0:Int)))
 (some (false,(0:Int)))
 (cond (((aj t x y).getD default).fst.e2==(0:Int))
 (cond (!(decide (t.e1.x > t.e0.x)))
 (some (false,(0:Int)))
 (some (true,(0:Int))))
 (some (true,(0:Int)))))
 (cond (decide (((aj t x y).getD default).fst.e2 < (0:Int)))
 (some (false,(0:Int)))
 (cond (((aj t x y).getD default).fst.e2==(0:Int))
 (some (false,(0:Int)))
 (some (true,(0:Int)))))))))
 (cond (decide (((aj t x y).getD default).fst.e1 < (0:Int)))
 (some (false,(0:Int)))
 (cond (((aj t x y).getD default).fst.e1==(0:Int))
 (some (false,(0:Int)))
 (cond (decide (t.e1.y < t.e0.y))
 (cond (decide (((aj t x y).getD default).fst.e2 < (0:Int)))
 (some (false,(0:Int)))
 (cond (((aj t x y).getD default).fst.e2==(0:Int))
 (some (true,(0:Int)))
 (some (true,(0:Int)))))
 (cond (t.e1.y==t.e0.y)
 (cond (decide (((aj t x y).getD default).fst.e2 < (0:Int)))
 (some (false,(0:Int)))
 (cond (((aj t x y).getD default).fst.e2==(0:Int))
 (cond (!(decide (t.e1.x > t.e0.x)))
 (some (false,(0:Int)))
 (some (true,(0:Int))))
 (some (true,(0:Int)))))
 (cond (decide (((aj t x y).getD default).fst.e2 < (0:Int)))
 (some (false,(0:Int)))
 (cond (((aj t x y).getD default).fst.e2==(0:Int))
 (some (false,(0:Int)))
 (some (true,(0:Int)))))))))))
 (cond (decide (t.e0.y < t.e2.y))
 (cond (decide (((aj t x y).getD default).fst.e1 < (0:Int)))
 (some (false,(0:Int)))
 (cond (((aj t x y).getD default).fst.e1==(0:Int))
 (cond (decide (t.e1.y < t.e0.y))
 (cond (decide (((aj t x y).getD default).fst.e2 < (0:Int)))
 (some (false,(0:Int)))
 (cond (((aj t x y).getD default).fst.e2==(0:Int))
 (some (true,(0:Int)))
 (some (true,(0:Int)))))
 (cond (t.e1.y==t.e0.y)
 (cond (decide (((aj t x y).getD default).fst.e2 < (0:Int)))
 (some (false,(0:Int)))
 (cond (((aj t x y).getD default).fst.e2==(0:Int))
 (cond (!(decide (t.e1.x > t.e0.x)))
 (some (false,(0:Int)))
 (some (true,(0:Int))))
 (some (true,(0:Int)))))
 (cond (decide (((aj t x y).getD default).fst.e2 < (0:Int)))
 (some (false,(0:Int)))
 (cond (((aj t x y).getD default).fst.e2==(0:Int))
 (some (false,(0:Int)))
 (some (true,(0:Int)))))))
 (cond (decide (t.e1.y < t.e0.y))
 (cond (decide (((aj t x y).getD default).fst.e2 < (0:Int)))
 (some (false,(0:Int)))
 (cond (((aj t x y).getD default).fst.e2==(0:Int))
 (some (true,(0:Int)))
 (some (true,(0:Int)))))
 (cond (t.e1.y==t.e0.y)
 (cond (decide (((aj t x y).getD default).fst.e2 < (0:Int)))
 (some (false,(0:Int)))
 (cond (((aj t x y).getD default).fst.e2==(0:Int))
 (cond (!(decide (t.e1.x > t.e0.x)))
 (some (false,(0:Int)))
 (some (true,(0:Int))))
 (some (true,(0:Int)))))
 (cond (decide (((aj t x y).getD default).fst.e2 < (0:Int)))
 (some (false,(0:Int)))
 (cond (((aj t x y).getD default).fst.e2==(0:Int))
 (some (false,(0:Int)))
 (some (true,(0:Int)))))))))
 (cond (t.e0.y==t.e2.y)
 (cond (decide (((aj t x y).getD default).fst.e1 < (0:Int)))
 (some (false,(0:Int)))
 (cond (((aj t x y).getD default).fst.e1==(0:Int))
 (cond (!(decide (t.e0.x > t.e2.x)))
 (some (false,(0:Int)))
 (cond (decide (t.e1.y < t.e0.y))
 (cond (decide (((aj t x y).getD default).fst.e2 < (0:Int)))
 (some (false,(0:Int)))
 (cond (((aj t x y).getD default).fst.e2==(0:Int))
 (some (true,(0:Int)))
 (some (true,(0:Int)))))
 (cond (t.e1.y==t.e0.y)
 (cond (decide (((aj t x y).getD default).fst.e2 < (0:Int)))
 (some (false,(0:Int)))
 (cond (((aj t x y).getD default).fst.e2==(0:Int))
 (cond (!(decide (t.e1.x > t.e0.x)))
 (some (false,(0:Int)))
 (some (true,(0:Int))))
 (some (true,(0:Int)))))
 (cond (decide (((aj t x y).getD default).fst.e2 < (0:Int)))
 (some (false,(0:Int)))
 (cond (((aj t x y).getD default).fst.e2==(0:Int))
 (some (false,(0:Int)))
 (some (true,(0:Int))))))))
 (cond (decide (t.e1.y < t.e0.y))
 (cond (decide (((aj t x y).getD default).fst.e2 < (0:Int)))
 (some (false,(0:Int)))
 (cond (((aj t x y).getD default).fst.e2==(0:Int))
 (some (true,(0:Int)))
 (some (true,(0:Int)))))
 (cond (t.e1.y==t.e0.y)
 (cond (decide (((aj t x y).getD default).fst.e2 < (0:Int)))
 (some (false,(0:Int)))
 (cond (((aj t x y).getD default).fst.e2==(0:Int))
 (cond (!(decide (t.e1.x > t.e0.x)))
 (some (false,(0:Int)))
 (some (true,(0:Int))))
 (some (true,(0:Int)))))
 (cond (decide (((aj t x y).getD default).fst.e2 < (0:Int)))
 (some (false,(0:Int)))
 (cond (((aj t x y).getD default).fst.e2==(0:Int))
 (some (false,(0:Int)))
 (some (true,(0:Int)))))))))
 (cond (decide (((aj t x y).getD default).fst.e1 < (0:Int)))
 (some (false,(0:Int)))
 (cond (((aj t x y).getD default).fst.e1==(0:Int))
 (some (false,(0:Int)))
 (cond (decide (t.e1.y < t.e0.y))
 (cond (decide (((aj t x y).getD default).fst.e2 < (0:Int)))
 (some (false,(0:Int)))
 (cond (((aj t x y).getD default).fst.e2==(0:Int))
 (some (true,(0:Int)))
 (some (true,(0:Int)))))
 (cond (t.e1.y==t.e0.y)
 (cond (decide (((aj t x y).getD default).fst.e2 < (0:Int)))
 (some (false,(0:Int)))
 (cond (((aj t x y).getD default).fst.e2==(0:Int))
 (cond (!(decide (t.e1.x > t.e0.x)))
 (some (false,(0:Int)))
 (some (true,(0:Int))))
 (some (true,(0:Int)))))
 (cond (decide (((aj t x y).getD default).fst.e2 < (0:Int)))
 (some (false,(0:Int)))
 (cond (((aj t x y).getD default).fst.e2==(0:Int))
 (some (false,(0:Int)))
 (some (true,(0:Int)))))))))))))
 (cond (t.e2.y==t.e1.y)
 (cond (decide (((aj t x y).getD default).fst.e0 < (0:Int)))
 (some (false,(0:Int)))
 (cond (((aj t x y).getD default).fst.e0==(0:Int))
 (cond (!(decide (t.e2.x > t.e1.x)))
 (some (false,(0:Int)))
 (cond (decide (t.e0.y < t.e2.y))
 (cond (decide (((aj t x y).getD default).fst.e1 < (0:Int)))
 (some (false,(0:Int)))
 (cond (((aj t x y).getD default).fst.e1==(0:Int))
 (cond (decide (t.e1.y < t.e0.y))
 (cond (decide (((aj t x y).getD default).fst.e2 < (0:Int)))
 (some (false,(0:Int)))
 (cond (((aj t x y).getD default).fst.e2==(0:Int))
 (some (true,(0:Int)))
 (some (true,(0:Int)))))
 (cond (t.e1.y==t.e0.y)
 (cond (decide (((aj t x y).getD default).fst.e2 < (0:Int)))
 (some (false,(0:Int)))
 (cond (((aj t x y).getD default).fst.e2==(0:Int))
 (cond (!(decide (t.e1.x > t.e0.x)))
 (some (false,(0:Int)))
 (some (true,(0:Int))))
 (some (true,(0:Int)))))
 (cond (decide (((aj t x y).getD default).fst.e2 < (0:Int)))
 (some (false,(0:Int)))
 (cond (((aj t x y).getD default).fst.e2==(0:Int))
 (some (false,(0:Int)))
 (some (true,(0:Int)))))))
 (cond (decide (t.e1.y < t.e0.y))
 (cond (decide (((aj t x y).getD default).fst.e2 < (0:Int)))
 (some (false,(0:Int)))
 (cond (((aj t x y).getD default).fst.e2==(0:Int))
 (some (true,(0:Int)))
 (some (true,(0:Int)))))
 (cond (t.e1.y==t.e0.y)
 (cond (decide (((aj t x y).getD default).fst.e2 < (0:Int)))
 (some (false,(0:Int)))
 (cond (((aj t x y).getD default).fst.e2==(0:Int))
 (cond (!(decide (t.e1.x > t.e0.x)))
 (some (false,(0:Int)))
 (some (true,(0:Int))))
 (some (true,(0:Int)))))
 (cond (decide (((aj t x y).getD default).fst.e2 < (0:Int)))
 (some (false,(0:Int)))
 (cond (((aj t x y).getD default).fst.e2==(0:Int))
 (some (false,(0:Int)))
 (some (true,(0:Int)))))))))
 (cond (t.e0.y==t.e2.y)
 (cond (decide (((aj t x y).getD default).fst.e1 < (0:Int)))
 (some (false,(0:Int)))
 (cond (((aj t x y).getD default).fst.e1==(0:Int))
 (cond (!(decide (t.e0.x > t.e2.x)))
 (some (false,(0:Int)))
 (cond (decide (t.e1.y < t.e0.y))
 (cond (decide (((aj t x y).getD default).fst.e2 < (0:Int)))
 (some (false,(0:Int)))
 (cond (((aj t x y).getD default).fst.e2==(0:Int))
 (some (true,(0:Int)))
 (some (true,(0:Int)))))
 (cond (t.e1.y==t.e0.y)
 (cond (decide (((aj t x y).getD default).fst.e2 < (0:Int)))
 (some (false,(0:Int)))
 (cond (((aj t x y).getD default).fst.e2==(0:Int))
 (cond (!(decide (t.e1.x > t.e0.x)))
 (some (false,(0:Int)))
 (some (true,(0:Int))))
 (some (true,(0:Int)))))
 (cond (decide (((aj t x y).getD default).fst.e2 < (0:Int)))
 (some (false,(0:Int)))
 (cond (((aj t x y).getD default).fst.e2==(0:Int))
 (some (false,(0:Int)))
 (some (true,(0:Int))))))))
 (cond (decide (t.e1.y < t.e0.y))
 (cond (decide (((aj t x y).getD default).fst.e2 < (0:Int)))
 (some (false,(0:Int)))
 (cond (((aj t x y).getD default).fst.e2==(0:Int))
 (some (true,(0:Int)))
 (some (true,(0:Int)))))
 (cond (t.e1.y==t.e0.y)
 (cond (decide (((aj t x y).getD default).fst.e2 < (0:Int)))
 (some (false,(0:Int)))
 (cond (((aj t x y).getD default).fst.e2==(0:Int))
 (cond (!(decide (t.e1.x > t.e0.x)))
 (some (false,(0:Int)))
 (some (true,(0:Int))))
 (some (true,(0:Int)))))
 (cond (decide (((aj t x y).getD default).fst.e2 < (0:Int)))
 (some (false,(0:Int)))
 (cond (((aj t x y).getD default).fst.e2==(0:Int))
 (some (false,(0:Int)))
 (some (true,(0:Int)))))))))
 (cond (decide (((aj t x y).getD default).fst.e1 < (0:Int)))
 (some (false,(0:Int)))
 (cond (((aj t x y).getD default).fst.e1==(0:Int))
 (some (false,(0:Int)))
 (cond (decide (t.e1.y < t.e0.y))
 (cond (decide (((aj t x y).getD default).fst.e2 < (0:Int)))
 (some (false,(0:Int)))
 (cond (((aj t x y).getD default).fst.e2==(0:Int))
 (some (true,(0:Int)))
 (some (true,(0:Int)))))
 (cond (t.e1.y==t.e0.y)
 (cond (decide (((aj t x y).getD default).fst.e2 < (0:Int)))
 (some (false,(0:Int)))
 (cond (((aj t x y).getD default).fst.e2==(0:Int))
 (cond (!(decide (t.e1.x > t.e0.x)))
 (some (false,(0:Int)))
 (some (true,(0:Int))))
 (some (true,(0:Int)))))
 (cond (decide (((aj t x y).getD default).fst.e2 < (0:Int)))
 (some (false,(0:Int)))
 (cond (((aj t x y).getD default).fst.e2==(0:Int))
 (some (false,(0:Int)))
 (some (true,(0:Int))))))))))))
 (cond (decide (t.e0.y < t.e2.y))
 (cond (decide (((aj t x y).getD default).fst.e1 < (0:Int)))
 (some (false,(0:Int)))
 (cond (((aj t x y).getD default).fst.e1==(0:Int))
 (cond (decide (t.e1.y < t.e0.y))
 (cond (decide (((aj t x y).getD default).fst.e2 < (0:Int)))
 (some (false,(0:Int)))
 (cond (((aj t x y).getD default).fst.e2==(0:Int))
 (some (true,(0:Int)))
 (some (true,(0:Int)))))
 (cond (t.e1.y==t.e0.y)
 (cond (decide (((aj t x y).getD default).fst.e2 < (0:Int)))
 (some (false,(0:Int)))
 (cond (((aj t x y).getD default).fst.e2==(0:Int))
 (cond (!(decide (t.e1.x > t.e0.x)))
 (some (false,(0:Int)))
 (some (true,(0:Int))))
 (some (true,(0:Int)))))
 (cond (decide (((aj t x y).getD default).fst.e2 < (0:Int)))
 (some (false,(0:Int)))
 (cond (((aj t x y).getD default).fst.e2==(0:Int))
 (some (false,(0:Int)))
 (some (true,(0:Int)))))))
 (cond (decide (t.e1.y < t.e0.y))
 (cond (decide (((aj t x y).getD default).fst.e2 < (0:Int)))
 (some (false,(0:Int)))
 (cond (((aj t x y).getD default).fst.e2==(0:Int))
 (some (true,(0:Int)))
 (some (true,(0:Int)))))
 (cond (t.e1.y==t.e0.y)
 (cond (decide (((aj t x y).getD default).fst.e2 < (0:Int)))
 (some (false,(0:Int)))
 (cond (((aj t x y).getD default).fst.e2==(0:Int))
 (cond (!(decide (t.e1.x > t.e0.x)))
 (some (false,(0:Int)))
 (some (true,(0:Int))))
 (some (true,(0:Int)))))
 (cond (decide (((aj t x y).getD default).fst.e2 < (0:Int)))
 (some (false,(0:Int)))
 (cond (((aj t x y).getD default).fst.e2==(0:Int))
 (some (false,(0:Int)))
 (some (true,(0:Int)))))))))
 (cond (t.e0.y==t.e2.y)
 (cond (decide (((aj t x y).getD default).fst.e1 < (0:Int)))
 (some (false,(0:Int)))
 (cond (((aj t x y).getD default).fst.e1==(0:Int))
 (cond (!(decide (t.e0.x > t.e2.x)))
 (some (false,(0:Int)))
 (cond (decide (t.e1.y < t.e0.y))
 (cond (decide (((aj t x y).getD default).fst.e2 < (0:Int)))
 (some (false,(0:Int)))
 (cond (((aj t x y).getD default).fst.e2==(0:Int))
 (some (true,(0:Int)))
 (some (true,(0:Int)))))
 (cond (t.e1.y==t.e0.y)
 (cond (decide (((aj t x y).getD default).fst.e2 < (0:Int)))
 (some (false,(0:Int)))
 (cond (((aj t x y).getD default).fst.e2==(0:Int))
 (cond (!(decide (t.e1.x > t.e0.x)))
 (some (false,(0:Int)))
 (some (true,(0:Int))))
 (some (true,(0:Int)))))
 (cond (decide (((aj t x y).getD default).fst.e2 < (0:Int)))
 (some (false,(0:Int)))
 (cond (((aj t x y).getD default).fst.e2==(0:Int))
 (some (false,(0:Int)))
 (some (true,(0:Int))))))))
 (cond (decide (t.e1.y < t.e0.y))
 (cond (decide (((aj t x y).getD default).fst.e2 < (0:Int)))
 (some (false,(0:Int)))
 (cond (((aj t x y).getD default).fst.e2==(0:Int))
 (some (true,(0:Int)))
 (some (true,(0:Int)))))
 (cond (t.e1.y==t.e0.y)
 (cond (decide (((aj t x y).getD default).fst.e2 < (0:Int)))
 (some (false,(0:Int)))
 (cond (((aj t x y).getD default).fst.e2==(0:Int))
 (cond (!(decide (t.e1.x > t.e0.x)))
 (some (false,(0:Int)))
 (some (true,(0:Int))))
 (some (true,(0:Int)))))
 (cond (decide (((aj t x y).getD default).fst.e2 < (0:Int)))
 (some (false,(0:Int)))
 (cond (((aj t x y).getD default).fst.e2==(0:Int))
 (some (false,(0:Int)))
 (some (true,(0:Int)))))))))
 (cond (decide (((aj t x y).getD default).fst.e1 < (0:Int)))
 (some (false,(0:Int)))
 (cond (((aj t x y).getD default).fst.e1==(0:Int))
 (some (false,(0:Int)))
 (cond (decide (t.e1.y < t.e0.y))
 (cond (decide (((aj t x y).getD default).fst.e2 < (0:Int)))
 (some (false,(0:Int)))
 (cond (((aj t x y).getD default).fst.e2==(0:Int))
 (some (true,(0:Int)))
 (some (true,(0:Int)))))
 (cond (t.e1.y==t.e0.y)
 (cond (decide (((aj t x y).getD default).fst.e2 < (0:Int)))
 (some (false,(0:Int)))
 (cond (((aj t x y).getD default).fst.e2==(0:Int))
 (cond (!(decide (t.e1.x > t.e0.x)))
 (some (false,(0:Int)))
 (some (true,(0:Int))))
 (some (true,(0:Int)))))
 (cond (decide (((aj t x y).getD default).fst.e2 < (0:Int)))
 (some (false,(0:Int)))
 (cond (((aj t x y).getD default).fst.e2==(0:Int))
 (some (false,(0:Int)))
 (some (true,(0:Int)))))))))))))
 (cond (decide (((aj t x y).getD default).fst.e0 < (0:Int)))
 (some (false,(0:Int)))
 (cond (((aj t x y).getD default).fst.e0==(0:Int))
 (some (false,(0:Int)))
 (cond (decide (t.e0.y < t.e2.y))
 (cond (decide (((aj t x y).getD default).fst.e1 < (0:Int)))
 (some (false,(0:Int)))
 (cond (((aj t x y).getD default).fst.e1==(0:Int))
 (cond (decide (t.e1.y < t.e0.y))
 (cond (decide (((aj t x y).getD default).fst.e2 < (0:Int)))
 (some (false,(0:Int)))
 (cond (((aj t x y).getD default).fst.e2==(0:Int))
 (some (true,(0:Int)))
 (some (true,(0:Int)))))
 (cond (t.e1.y==t.e0.y)
 (cond (decide (((aj t x y).getD default).fst.e2 < (0:Int)))
 (some (false,(0:Int)))
 (cond (((aj t x y).getD default).fst.e2==(0:Int))
 (cond (!(decide (t.e1.x > t.e0.x)))
 (some (false,(0:Int)))
 (some (true,(0:Int))))
 (some (true,(0:Int)))))
 (cond (decide (((aj t x y).getD default).fst.e2 < (0:Int)))
 (some (false,(0:Int)))
 (cond (((aj t x y).getD default).fst.e2==(0:Int))
 (some (false,(0:Int)))
 (some (true,(0:Int)))))))
 (cond (decide (t.e1.y < t.e0.y))
 (cond (decide (((aj t x y).getD default).fst.e2 < (0:Int)))
 (some (false,(0:Int)))
 (cond (((aj t x y).getD default).fst.e2==(0:Int))
 (some (true,(0:Int)))
 (some (true,(0:Int)))))
 (cond (t.e1.y==t.e0.y)
 (cond (decide (((aj t x y).getD default).fst.e2 < (0:Int)))
 (some (false,(0:Int)))
 (cond (((aj t x y).getD default).fst.e2==(0:Int))
 (cond (!(decide (t.e1.x > t.e0.x)))
 (some (false,(0:Int)))
 (some (true,(0:Int))))
 (some (true,(0:Int)))))
 (cond (decide (((aj t x y).getD default).fst.e2 < (0:Int)))
 (some (false,(0:Int)))
 (cond (((aj t x y).getD default).fst.e2==(0:Int))
 (some (false,(0:Int)))
 (some (true,(0:Int)))))))))
 (cond (t.e0.y==t.e2.y)
 (cond (decide (((aj t x y).getD default).fst.e1 < (0:Int)))
 (some (false,(0:Int)))
 (cond (((aj t x y).getD default).fst.e1==(0:Int))
 (cond (!(decide (t.e0.x > t.e2.x)))
 (some (false,(0:Int)))
 (cond (decide (t.e1.y < t.e0.y))
 (cond (decide (((aj t x y).getD default).fst.e2 < (0:Int)))
 (some (false,(0:Int)))
 (cond (((aj t x y).getD default).fst.e2==(0:Int))
 (some (true,(0:Int)))
 (some (true,(0:Int)))))
 (cond (t.e1.y==t.e0.y)
 (cond (decide (((aj t x y).getD default).fst.e2 < (0:Int)))
 (some (false,(0:Int)))
 (cond (((aj t x y).getD default).fst.e2==(0:Int))
 (cond (!(decide (t.e1.x > t.e0.x)))
 (some (false,(0:Int)))
 (some (true,(0:Int))))
 (some (true,(0:Int)))))
 (cond (decide (((aj t x y).getD default).fst.e2 < (0:Int)))
 (some (false,(0:Int)))
 (cond (((aj t x y).getD default).fst.e2==(0:Int))
 (some (false,(0:Int)))
 (some (true,(0:Int))))))))
 (cond (decide (t.e1.y < t.e0.y))
 (cond (decide (((aj t x y).getD default).fst.e2 < (0:Int)))
 (some (false,(0:Int)))
 (cond (((aj t x y).getD default).fst.e2==(0:Int))
 (some (true,(0:Int)))
 (some (true,(0:Int)))))
 (cond (t.e1.y==t.e0.y)
 (cond (decide (((aj t x y).getD default).fst.e2 < (0:Int)))
 (some (false,(0:Int)))
 (cond (((aj t x y).getD default).fst.e2==(0:Int))
 (cond (!(decide (t.e1.x > t.e0.x)))
 (some (false,(0:Int)))
 (some (true,(0:Int))))
 (some (true,(0:Int)))))
 (cond (decide (((aj t x y).getD default).fst.e2 < (0:Int)))
 (some (false,(0:Int)))
 (cond (((aj t x y).getD default).fst.e2==(0:Int))
 (some (false,(0:Int)))
 (some (true,(0:Int)))))))))
 (cond (decide (((aj t x y).getD default).fst.e1 < (0:Int)))
 (some (false,(0:Int)))
 (cond (((aj t x y).getD default).fst.e1==(0:Int))
 (some (false,(0:Int)))
 (cond (decide (t.e1.y < t.e0.y))
 (cond (decide (((aj t x y).getD default).fst.e2 < (0:Int)))
 (some (false,(0:Int)))
 (cond (((aj t x y).getD default).fst.e2==(0:Int))
 (some (true,(0:Int)))
 (some (true,(0:Int)))))
 (cond (t.e1.y==t.e0.y)
 (cond (decide (((aj t x y).getD default).fst.e2 < (0:Int)))
 (some (false,(0:Int)))
 (cond (((aj t x y).getD default).fst.e2==(0:Int))
 (cond (!(decide (t.e1.x > t.e0.x)))
 (some (false,(0:Int)))
 (some (true,(0:Int))))
 (some (true,(0:Int)))))
 (cond (decide (((aj t x y).getD default).fst.e2 < (0:Int)))
 (some (false,(0:Int)))
 (cond (((aj t x y).getD default).fst.e2==(0:Int))
 (some (false,(0:Int)))
 (some (true,(0:Int))))))))))))))))
 none)
theorem RB (t:bt) (x:Int) (y:Int):dn Try.prog (bp Try.prog Gs Gt (fun _=>false)) 9 9 97 [iy t,(kI .i64) x,(kI .i64) y] = (p0 t x y).map (fun (r:Bool×Int)=>KV.jE [kB r.1,(kI .i64) r.2]):=by
 unfold p0
 try simp only [b7]
 kernel_rfl
def Jf:List KV→KR KV:=cr Try.prog 97 (cD (fun (r:Bool×Int)=>KV.jE [kB r.1,(kI .i64) r.2]) fun vs=>p0 (gC (vs.getD 0 .ax)) (intOf (vs.getD 1 .ax)) (intOf (vs.getD 2 .ax)))
theorem O8 (w:Nat→KV):cM Try.prog [118,3,3] w 0 = [iy (gC (ay Try.prog (ao Try.prog av) 118 (w 0))),(kI .i64) (intOf (ay Try.prog (ao Try.prog av) 3 (w 1))),(kI .i64) (intOf (ay Try.prog (ao Try.prog av) 3 (w 2)))]:=by kernel_rfl
theorem O9:b9 Try.prog 97 Jf:=aX funcs mixed O6 O7 (L:=9) (n:=9) fun w=>by
 have e:aK Try.prog 97 = [118,3,3]:=by kernel_rfl
 rw [e,O8]
 exact (RB (gC (ay Try.prog (ao Try.prog av) 118 (w 0))) (intOf (ay Try.prog (ao Try.prog av) 3 (w 1))) (intOf (ay Try.prog (ao Try.prog av) 3 (w 2)))).trans (by kernel_rfl)
def RC:List (Nat×(List KV→KR KV)):=[(99,uz),(98,Dm),(97,Jf)]
def RD:List Lp:=[]
theorem ZV:aq Try.prog RC:=(aq.cons tw (aq.cons Ei (aq.cons O9 aq.nil)))
theorem ZW:aA Try.prog RD:=aA.nil
def wK (t:bt) (x:Int) (y:Int):(Option (Prod Bool Int)):=(p0 t x y)
def dU (t:bt) (x:Int) (y:Int):(Option (Prod fg Int)):=(mo t x y)
def Fh (t:bt) (x:Int) (y:Int):(Option (Prod Int Int)):=(eH (ak ((ak ((ak ((0:Int)+(ak ((ak (((dU t x y).getD default).fst.e0 * t.e0.d)) * (1:Int)))))+(ak ((ak (((dU t x y).getD default).fst.e1 * t.e1.d)) * (1:Int)))))+(ak ((ak (((dU t x y).getD default).fst.e2 * t.e2.d)) * (1:Int))))) (ak ((ak ((ak ((0:Int)+((dU t x y).getD default).fst.e0))+((dU t x y).getD default).fst.e1))+((dU t x y).getD default).fst.e2)))
def Fi (t:bt) (x:Int) (y:Int):(Option (Prod Int Int)):=(eH (ak ((ak ((ak ((0:Int)+(ak ((ak (((dU t x y).getD default).fst.e0 * t.e0.d)) * t.e0.u))))+(ak ((ak (((dU t x y).getD default).fst.e1 * t.e1.d)) * t.e1.u))))+(ak ((ak (((dU t x y).getD default).fst.e2 * t.e2.d)) * t.e2.u)))) (ak ((ak ((ak ((0:Int)+(ak ((ak (((dU t x y).getD default).fst.e0 * t.e0.d)) * (1:Int)))))+(ak ((ak (((dU t x y).getD default).fst.e1 * t.e1.d)) * (1:Int)))))+(ak ((ak (((dU t x y).getD default).fst.e2 * t.e2.d)) * (1:Int))))))
def Fj (t:bt) (x:Int) (y:Int):(Option (Prod Int Int)):=(eH (ak ((ak ((ak ((0:Int)+(ak ((ak (((dU t x y).getD default).fst.e0 * t.e0.d)) * t.e0.v))))+(ak ((ak (((dU t x y).getD default).fst.e1 * t.e1.d)) * t.e1.v))))+(ak ((ak (((dU t x y).getD default).fst.e2 * t.e2.d)) * t.e2.v)))) (ak ((ak ((ak ((0:Int)+(ak ((ak (((dU t x y).getD default).fst.e0 * t.e0.d)) * (1:Int)))))+(ak ((ak (((dU t x y).getD default).fst.e1 * t.e1.d)) * (1:Int)))))+(ak ((ak (((dU t x y).getD default).fst.e2 * t.e2.d)) * (1:Int))))))
def oE (t:bt) (x:Int) (y:Int):Option (fY×Int):=
 (cond (wK t x y).isSome
 (cond (((wK t x y).getD default).snd != (0:Int))
 (some ((⟨(0:Int),(0:Int),(0:Int),(0:Int),(0:Int)⟩:fY),((wK t x y).getD default).snd))
 (cond (!((wK t x y).getD default).fst)
 (some ((⟨(0:Int),(0:Int),(0:Int),(0:Int),(0:Int)⟩:fY),(6:Int)))
 (cond (dU t x y).isSome
 (cond (((dU t x y).getD default).snd != (0:Int))
 (some ((⟨(0:Int),(0:Int),(0:Int),(0:Int),(0:Int)⟩:fY),((dU t x y).getD default).snd))
 (cond (Fh t x y).isSome
 (cond (Fi t x y).isSome
 (cond (Fj t x y).isSome
 (some ((⟨(ak ((ak ((8:Int) * x))+(4:Int))),(ak ((ak ((8:Int) * y))+(4:Int))),((Fh t x y).getD default).fst,((Fi t x y).getD default).fst,((Fj t x y).getD default).fst⟩:fY),(0:Int)))
 none)
 none)
 none))
 none)))
 none)
theorem abf (t:bt) (x:Int) (y:Int):dn Try.prog (bp Try.prog RC RD (fun _=>false)) 9 9 66 [iy t,(kI .i64) x,(kI .i64) y] = (oE t x y).map (fun (r:fY×Int)=>KV.jE [TN r.1,(kI .i64) r.2]):=by
 unfold oE
 try simp only [b7]
 kernel_rfl
def r5:List KV→KR KV:=cr Try.prog 66 (cD (fun (r:fY×Int)=>KV.jE [TN r.1,(kI .i64) r.2]) fun vs=>oE (gC (vs.getD 0 .ax)) (intOf (vs.getD 1 .ax)) (intOf (vs.getD 2 .ax)))
theorem ZX (w:Nat→KV):cM Try.prog [118,3,3] w 0 = [iy (gC (ay Try.prog (ao Try.prog av) 118 (w 0))),(kI .i64) (intOf (ay Try.prog (ao Try.prog av) 3 (w 1))),(kI .i64) (intOf (ay Try.prog (ao Try.prog av) 3 (w 2)))]:=by kernel_rfl
theorem pb:b9 Try.prog 66 r5:=aX funcs mixed ZV ZW (L:=9) (n:=9) fun w=>by
 have e:aK Try.prog 66 = [118,3,3]:=by kernel_rfl
 rw [e,ZX]
 exact (abf (gC (ay Try.prog (ao Try.prog av) 118 (w 0))) (intOf (ay Try.prog (ao Try.prog av) 3 (w 1))) (intOf (ay Try.prog (ao Try.prog av) 3 (w 2)))).trans (by kernel_rfl)
end
end Go.Proofs.Ytahhdndhkgbcjaa.b
end
section
namespace Go.Proofs.Ytahhdndhkgbcjaa.b
open Go.K
set_option linter.unusedVariables false
set_option linter.unusedSimpArgs false
noncomputable section
structure dJ where
 e0:bW
 e1:bW
 e2:bW
instance:Inhabited dJ:=⟨⟨default,default,default⟩⟩
def ZY (x:dJ):List KV:=[.int .i64 x.e0.p.x,.int .i64 x.e0.p.y,.int .i64 x.e0.p.z,.int .i64 x.e0.u,.int .i64 x.e0.v,.int .i64 x.e1.p.x,.int .i64 x.e1.p.y,.int .i64 x.e1.p.z,.int .i64 x.e1.u,.int .i64 x.e1.v,.int .i64 x.e2.p.x,.int .i64 x.e2.p.y,.int .i64 x.e2.p.z,.int .i64 x.e2.u,.int .i64 x.e2.v]
def pd (x:dJ):KV:=.agg (ZY x)
def ZZ (c:Nat→KV):dJ:=⟨⟨⟨intOf (c 0),intOf (c 1),intOf (c 2)⟩,intOf (c 3),intOf (c 4)⟩,⟨⟨intOf (c 5),intOf (c 6),intOf (c 7)⟩,intOf (c 8),intOf (c 9)⟩,⟨⟨intOf (c 10),intOf (c 11),intOf (c 12)⟩,intOf (c 13),intOf (c 14)⟩⟩
def qJ (v:KV):dJ:=ZZ fun k=>v.cells.getD k .ax
theorem adp (x:dJ):qJ (pd x)=x:=rfl
theorem adq:qJ .ax=default:=rfl
theorem Z0 (s:Sl dJ) (v:dJ):s.push v=ka qJ (s.n+1) (fa s.n (fun i=>pd (s.get i)) (qV [pd v])):=(x5 adp adq s v).symm
structure aC where
 aL:Int
 out:(Sl dJ)
 l:(Sl bW)
 t22:dJ
 t23:Int
 t:dJ
instance:Inhabited aC:=⟨⟨default,default,default,default,default,default⟩⟩
def tC (x:aC):List KV:=[.int .i64 x.aL,iU 181 pd x.out,iU 180 mO x.l,pd x.t22,.int .i64 x.t23]
def tD (x:aC):List (List KV):=[ZY x.t]
def Ej (vs:List KV) (rs:List (List KV)):aC:=⟨intOf (vs.getD 0 .ax),iw qJ (vs.getD 1 .ax),iw jN (vs.getD 2 .ax),qJ (vs.getD 3 .ax),intOf (vs.getD 4 .ax),ZZ (fun k=>(rs.getD 0 []).getD k .ax)⟩
def Gu:aQ:=⟨[(0,⟨false,[.k (.int .i64)]⟩),(4,⟨false,[.bb 181]⟩),(7,⟨false,[.bb 180]⟩),(22,⟨true,[.k (.int .i64),.k (.int .i64),.k (.int .i64),.k (.int .i64),.k (.int .i64),.k (.int .i64),.k (.int .i64),.k (.int .i64),.k (.int .i64),.k (.int .i64),.k (.int .i64),.k (.int .i64),.k (.int .i64),.k (.int .i64),.k (.int .i64)]⟩),(23,⟨false,[.k (.int .i64)]⟩)],[(3,[.k (.int .i64),.k (.int .i64),.k (.int .i64),.k (.int .i64),.k (.int .i64),.k (.int .i64),.k (.int .i64),.k (.int .i64),.k (.int .i64),.k (.int .i64),.k (.int .i64),.k (.int .i64),.k (.int .i64),.k (.int .i64),.k (.int .i64)],5)],[(3,0,0)]⟩
def RE:=jf Try.prog (bp Try.prog [(129,Eh),(130,qI)] [] (fun _=>false) false true) 9 9 111 122 (eX Try.prog 111 122) Gu
def xA (x:aC):(Option (Prod bW Int)):=(eJ x.aL x.t.e0 x.t22.e0)
def xB (x:aC):(Option (Prod bW Int)):=(eJ x.aL x.t22.e0 x.t.e0)
def xC (x:aC):(Option (Prod bW Int)):=(eJ x.aL x.t.e1 x.t22.e0)
def xD (x:aC):(Option (Prod bW Int)):=(eJ x.aL x.t22.e0 x.t.e1)
def xE (x:aC):(Option (Prod bW Int)):=(eJ x.aL x.t.e2 x.t22.e0)
def xF (x:aC):(Option (Prod bW Int)):=(eJ x.aL x.t22.e0 x.t.e2)
def xG (x:aC):(Option (Prod bW Int)):=(eJ x.aL x.t.e0 x.t22.e1)
def xH (x:aC):(Option (Prod bW Int)):=(eJ x.aL x.t22.e1 x.t.e0)
def xI (x:aC):(Option (Prod bW Int)):=(eJ x.aL x.t.e1 x.t22.e1)
def xJ (x:aC):(Option (Prod bW Int)):=(eJ x.aL x.t22.e1 x.t.e1)
def vU (x:aC):(Option (Prod bW Int)):=(eJ x.aL x.t.e2 x.t22.e1)
def vV (x:aC):(Option (Prod bW Int)):=(eJ x.aL x.t22.e1 x.t.e2)
def vW (x:aC):(Option (Prod bW Int)):=(eJ x.aL x.t.e0 x.t22.e2)
def vX (x:aC):(Option (Prod bW Int)):=(eJ x.aL x.t22.e2 x.t.e0)
def vY (x:aC):(Option (Prod bW Int)):=(eJ x.aL x.t.e1 x.t22.e2)
def vZ (x:aC):(Option (Prod bW Int)):=(eJ x.aL x.t22.e2 x.t.e1)
def v7 (x:aC):(Option (Prod bW Int)):=(eJ x.aL x.t.e2 x.t22.e2)
def v8 (x:aC):(Option (Prod bW Int)):=(eJ x.aL x.t22.e2 x.t.e2)
def ik (x:aC):aJ aC:=
 (cond (decide (x.t23 < (3:Int)))
 (cond (decide (x.t23=(0:Int)))
 (cond (decide ((Int.tmod (ak (x.t23+(1:Int))) (3:Int))=(0:Int)))
 (cond (decide (x.t22.e0.p.z ≥ x.aL))
 (cond (decide (x.t.e0.p.z ≥ x.aL))
 (cond ((au x.l.n x.l.n)&&(eo 40 x.l.n 1))
 (cond (cond (au (x.l.n+1) (x.l.n+1)) (au x.out.n x.out.n) false)
 (.next (⟨x.aL,x.out,(x.l.push x.t22.e0),x.t22,(ak (x.t23+(1:Int))),x.t⟩:aC))
 .fail)
 .fail)
 (cond ((au x.l.n x.l.n)&&(eo 40 x.l.n 1))
 (cond (xA x).isSome
 (cond ((au (x.l.n+1) (x.l.n+1))&&(eo 40 (x.l.n+1) 1))
 (cond (cond (au ((x.l.n+1)+1) ((x.l.n+1)+1)) (au x.out.n x.out.n) false)
 (.next (⟨x.aL,x.out,((x.l.push x.t22.e0).push ((xA x).getD default).fst),x.t22,(ak (x.t23+(1:Int))),x.t⟩:aC))
 .fail)
 .fail)
 .fail)
 .fail))
 (cond (decide (x.t.e0.p.z ≥ x.aL))
 (cond (xB x).isSome
 (cond ((au x.l.n x.l.n)&&(eo 40 x.l.n 1))
 (cond (cond (au (x.l.n+1) (x.l.n+1)) (au x.out.n x.out.n) false)
 (.next (⟨x.aL,x.out,(x.l.push ((xB x).getD default).fst),x.t22,(ak (x.t23+(1:Int))),x.t⟩:aC))
 .fail)
 .fail)
 .fail)
 (cond (cond (au x.l.n x.l.n) (au x.out.n x.out.n) false)
 (.next (⟨x.aL,x.out,x.l,x.t22,(ak (x.t23+(1:Int))),x.t⟩:aC))
 .fail)))
 (cond (decide ((Int.tmod (ak (x.t23+(1:Int))) (3:Int))=(1:Int)))
 (cond (decide (x.t22.e0.p.z ≥ x.aL))
 (cond (decide (x.t.e1.p.z ≥ x.aL))
 (cond ((au x.l.n x.l.n)&&(eo 40 x.l.n 1))
 (cond (cond (au (x.l.n+1) (x.l.n+1)) (au x.out.n x.out.n) false)
 (.next (⟨x.aL,x.out,(x.l.push x.t22.e0),x.t22,(ak (x.t23+(1:Int))),x.t⟩:aC))
 .fail)
 .fail)
 (cond ((au x.l.n x.l.n)&&(eo 40 x.l.n 1))
 (cond (xC x).isSome
 (cond ((au (x.l.n+1) (x.l.n+1))&&(eo 40 (x.l.n+1) 1))
 (cond (cond (au ((x.l.n+1)+1) ((x.l.n+1)+1)) (au x.out.n x.out.n) false)
 (.next (⟨x.aL,x.out,((x.l.push x.t22.e0).push ((xC x).getD default).fst),x.t22,(ak (x.t23+(1:Int))),x.t⟩:aC))
 .fail)
 .fail)
 .fail)
 .fail))
 (cond (decide (x.t.e1.p.z ≥ x.aL))
 (cond (xD x).isSome
 (cond ((au x.l.n x.l.n)&&(eo 40 x.l.n 1))
 (cond (cond (au (x.l.n+1) (x.l.n+1)) (au x.out.n x.out.n) false)
 (.next (⟨x.aL,x.out,(x.l.push ((xD x).getD default).fst),x.t22,(ak (x.t23+(1:Int))),x.t⟩:aC))
 .fail)
 .fail)
 .fail)
 (cond (cond (au x.l.n x.l.n) (au x.out.n x.out.n) false)
 (.next (⟨x.aL,x.out,x.l,x.t22,(ak (x.t23+(1:Int))),x.t⟩:aC))
 .fail)))
 (cond (decide ((Int.tmod (ak (x.t23+(1:Int))) (3:Int))=(2:Int)))
 (cond (decide (x.t22.e0.p.z ≥ x.aL))
 (cond (decide (x.t.e2.p.z ≥ x.aL))
 (cond ((au x.l.n x.l.n)&&(eo 40 x.l.n 1))
 (cond (cond (au (x.l.n+1) (x.l.n+1)) (au x.out.n x.out.n) false)
 (.next (⟨x.aL,x.out,(x.l.push x.t22.e0),x.t22,(ak (x.t23+(1:Int))),x.t⟩:aC))
 .fail)
 .fail)
 (cond ((au x.l.n x.l.n)&&(eo 40 x.l.n 1))
 (cond (xE x).isSome
 (cond ((au (x.l.n+1) (x.l.n+1))&&(eo 40 (x.l.n+1) 1))
 (cond (cond (au ((x.l.n+1)+1) ((x.l.n+1)+1)) (au x.out.n x.out.n) false)
 (.next (⟨x.aL,x.out,((x.l.push x.t22.e0).push ((xE x).getD default).fst),x.t22,(ak (x.t23+(1:Int))),x.t⟩:aC))
 .fail)
 .fail)
 .fail)
 .fail))
 (cond (decide (x.t.e2.p.z ≥ x.aL))
 (cond (xF x).isSome
 (cond ((au x.l.n x.l.n)&&(eo 40 x.l.n 1))
 (cond (cond (au (x.l.n+1) (x.l.n+1)) (au x.out.n x.out.n) false)
 (.next (⟨x.aL,x.out,(x.l.push ((xF x).getD default).fst),x.t22,(ak (x.t23+(1:Int))),x.t⟩:aC))
 .fail)
 .fail)
 .fail)
 (cond (cond (au x.l.n x.l.n) (au x.out.n x.out.n) false)
 (.next (⟨x.aL,x.out,x.l,x.t22,(ak (x.t23+(1:Int))),x.t⟩:aC))
 .fail)))
 .fail)))
 (cond (decide (x.t23=(1:Int)))
 (cond (decide ((Int.tmod (ak (x.t23+(1:Int))) (3:Int))=(0:Int)))
 (cond (decide (x.t22.e1.p.z ≥ x.aL))
 (cond (decide (x.t.e0.p.z ≥ x.aL))
 (cond ((au x.l.n x.l.n)&&(eo 40 x.l.n 1))
 (cond (cond (au (x.l.n+1) (x.l.n+1)) (au x.out.n x.out.n) false)
 (.next (⟨x.aL,x.out,(x.l.push x.t22.e1),x.t22,(ak (x.t23+(1:Int))),x.t⟩:aC))
 .fail)
 .fail)
 (cond ((au x.l.n x.l.n)&&(eo 40 x.l.n 1))
 (cond (xG x).isSome
 (cond ((au (x.l.n+1) (x.l.n+1))&&(eo 40 (x.l.n+1) 1))
 (cond (cond (au ((x.l.n+1)+1) ((x.l.n+1)+1)) (au x.out.n x.out.n) false)
 (.next (⟨x.aL,x.out,((x.l.push x.t22.e1).push ((xG x).getD default).fst),x.t22,(ak (x.t23+(1:Int))),x.t⟩:aC))
 .fail)
 .fail)
 .fail)
 .fail))
 (cond (decide (x.t.e0.p.z ≥ x.aL))
 (cond (xH x).isSome
 (cond ((au x.l.n x.l.n)&&(eo 40 x.l.n 1))
 (cond (cond (au (x.l.n+1) (x.l.n+1)) (au x.out.n x.out.n) false)
 (.next (⟨x.aL,x.out,(x.l.push ((xH x).getD default).fst),x.t22,(ak (x.t23+(1:Int))),x.t⟩:aC))
 .fail)
 .fail)
 .fail)
 (cond (cond (au x.l.n x.l.n) (au x.out.n x.out.n) false)
 (.next (⟨x.aL,x.out,x.l,x.t22,(ak (x.t23+(1:Int))),x.t⟩:aC))
 .fail)))
 (cond (decide ((Int.tmod (ak (x.t23+(1:Int))) (3:Int))=(1:Int)))
 (cond (decide (x.t22.e1.p.z ≥ x.aL))
 (cond (decide (x.t.e1.p.z ≥ x.aL))
 (cond ((au x.l.n x.l.n)&&(eo 40 x.l.n 1))
 (cond (cond (au (x.l.n+1) (x.l.n+1)) (au x.out.n x.out.n) false)
 (.next (⟨x.aL,x.out,(x.l.push x.t22.e1),x.t22,(ak (x.t23+(1:Int))),x.t⟩:aC))
 .fail)
 .fail)
 (cond ((au x.l.n x.l.n)&&(eo 40 x.l.n 1))
 (cond (xI x).isSome
 (cond ((au (x.l.n+1) (x.l.n+1))&&(eo 40 (x.l.n+1) 1))
 (cond (cond (au ((x.l.n+1)+1) ((x.l.n+1)+1)) (au x.out.n x.out.n) false)
 (.next (⟨x.aL,x.out,((x.l.push x.t22.e1).push ((xI x).getD default).fst),x.t22,(ak (x.t23+(1:Int))),x.t⟩:aC))
 .fail)
 .fail)
 .fail)
 .fail))
 (cond (decide (x.t.e1.p.z ≥ x.aL))
 (cond (xJ x).isSome
 (cond ((au x.l.n x.l.n)&&(eo 40 x.l.n 1))
 (cond (cond (au (x.l.n+1) (x.l.n+1)) (au x.out.n x.out.n) false)
 (.next (⟨x.aL,x.out,(x.l.push ((xJ x).getD default).fst),x.t22,(ak (x.t23+(1:Int))),x.t⟩:aC))
 .fail)
 .fail)
 .fail)
 (cond (cond (au x.l.n x.l.n) (au x.out.n x.out.n) false)
 (.next (⟨x.aL,x.out,x.l,x.t22,(ak (x.t23+(1:Int))),x.t⟩:aC))
 .fail)))
 (cond (decide ((Int.tmod (ak (x.t23+(1:Int))) (3:Int))=(2:Int)))
 (cond (decide (x.t22.e1.p.z ≥ x.aL))
 (cond (decide (x.t.e2.p.z ≥ x.aL))
 (cond ((au x.l.n x.l.n)&&(eo 40 x.l.n 1))
 (cond (cond (au (x.l.n+1) (x.l.n+1)) (au x.out.n x.out.n) false)
 (.next (⟨x.aL,x.out,(x.l.push x.t22.e1),x.t22,(ak (x.t23+(1:Int))),x.t⟩:aC))
 .fail)
 .fail)
 (cond ((au x.l.n x.l.n)&&(eo 40 x.l.n 1))
 (cond (vU x).isSome
 (cond ((au (x.l.n+1) (x.l.n+1))&&(eo 40 (x.l.n+1) 1))
 (cond (cond (au ((x.l.n+1)+1) ((x.l.n+1)+1)) (au x.out.n x.out.n) false)
 (.next (⟨x.aL,x.out,((x.l.push x.t22.e1).push ((vU x).getD default).fst),x.t22,(ak (x.t23+(1:Int))),x.t⟩:aC))
 .fail)
 .fail)
 .fail)
 .fail))
 (cond (decide (x.t.e2.p.z ≥ x.aL))
 (cond (vV x).isSome
 (cond ((au x.l.n x.l.n)&&(eo 40 x.l.n 1))
 (cond (cond (au (x.l.n+1) (x.l.n+1)) (au x.out.n x.out.n) false)
 (.next (⟨x.aL,x.out,(x.l.push ((vV x).getD default).fst),x.t22,(ak (x.t23+(1:Int))),x.t⟩:aC))
 .fail)
 .fail)
 .fail)
 (cond (cond (au x.l.n x.l.n) (au x.out.n x.out.n) false)
 (.next (⟨x.aL,x.out,x.l,x.t22,(ak (x.t23+(1:Int))),x.t⟩:aC))
 .fail)))
 .fail)))
 (cond (decide (x.t23=(2:Int)))
 (cond (decide ((Int.tmod (ak (x.t23+(1:Int))) (3:Int))=(0:Int)))
 (cond (decide (x.t22.e2.p.z ≥ x.aL))
 (cond (decide (x.t.e0.p.z ≥ x.aL))
 (cond ((au x.l.n x.l.n)&&(eo 40 x.l.n 1))
 (cond (cond (au (x.l.n+1) (x.l.n+1)) (au x.out.n x.out.n) false)
 (.next (⟨x.aL,x.out,(x.l.push x.t22.e2),x.t22,(ak (x.t23+(1:Int))),x.t⟩:aC))
 .fail)
 .fail)
 (cond ((au x.l.n x.l.n)&&(eo 40 x.l.n 1))
 (cond (vW x).isSome
 (cond ((au (x.l.n+1) (x.l.n+1))&&(eo 40 (x.l.n+1) 1))
 (cond (cond (au ((x.l.n+1)+1) ((x.l.n+1)+1)) (au x.out.n x.out.n) false)
 (.next (⟨x.aL,x.out,((x.l.push x.t22.e2).push ((vW x).getD default).fst),x.t22,(ak (x.t23+(1:Int))),x.t⟩:aC))
 .fail)
 .fail)
 .fail)
 .fail))
 (cond (decide (x.t.e0.p.z ≥ x.aL))
 (cond (vX x).isSome
 (cond ((au x.l.n x.l.n)&&(eo 40 x.l.n 1))
 (cond (cond (au (x.l.n+1) (x.l.n+1)) (au x.out.n x.out.n) false)
 (.next (⟨x.aL,x.out,(x.l.push ((vX x).getD default).fst),x.t22,(ak (x.t23+(1:Int))),x.t⟩:aC))
 .fail)
 .fail)
 .fail)
 (cond (cond (au x.l.n x.l.n) (au x.out.n x.out.n) false)
 (.next (⟨x.aL,x.out,x.l,x.t22,(ak (x.t23+(1:Int))),x.t⟩:aC))
 .fail)))
 (cond (decide ((Int.tmod (ak (x.t23+(1:Int))) (3:Int))=(1:Int)))
 (cond (decide (x.t22.e2.p.z ≥ x.aL))
 (cond (decide (x.t.e1.p.z ≥ x.aL))
 (cond ((au x.l.n x.l.n)&&(eo 40 x.l.n 1))
 (cond (cond (au (x.l.n+1) (x.l.n+1)) (au x.out.n x.out.n) false)
 (.next (⟨x.aL,x.out,(x.l.push x.t22.e2),x.t22,(ak (x.t23+(1:Int))),x.t⟩:aC))
 .fail)
 .fail)
 (cond ((au x.l.n x.l.n)&&(eo 40 x.l.n 1))
 (cond (vY x).isSome
 (cond ((au (x.l.n+1) (x.l.n+1))&&(eo 40 (x.l.n+1) 1))
 (cond (cond (au ((x.l.n+1)+1) ((x.l.n+1)+1)) (au x.out.n x.out.n) false)
 (.next (⟨x.aL,x.out,((x.l.push x.t22.e2).push ((vY x).getD default).fst),x.t22,(ak (x.t23+(1:Int))),x.t⟩:aC))
 .fail)
 .fail)
 .fail)
 .fail))
 (cond (decide (x.t.e1.p.z ≥ x.aL))
 (cond (vZ x).isSome
 (cond ((au x.l.n x.l.n)&&(eo 40 x.l.n 1))
 (cond (cond (au (x.l.n+1) (x.l.n+1)) (au x.out.n x.out.n) false)
 (.next (⟨x.aL,x.out,(x.l.push ((vZ x).getD default).fst),x.t22,(ak (x.t23+(1:Int))),x.t⟩:aC))
 .fail)
 .fail)
 .fail)
 (cond (cond (au x.l.n x.l.n) (au x.out.n x.out.n) false)
 (.next (⟨x.aL,x.out,x.l,x.t22,(ak (x.t23+(1:Int))),x.t⟩:aC))
 .fail)))
 (cond (decide ((Int.tmod (ak (x.t23+(1:Int))) (3:Int))=(2:Int)))
 (cond (decide (x.t22.e2.p.z ≥ x.aL))
 (cond (decide (x.t.e2.p.z ≥ x.aL))
 (cond ((au x.l.n x.l.n)&&(eo 40 x.l.n 1))
 (cond (cond (au (x.l.n+1) (x.l.n+1)) (au x.out.n x.out.n) false)
 (.next (⟨x.aL,x.out,(x.l.push x.t22.e2),x.t22,(ak (x.t23+(1:Int))),x.t⟩:aC))
 .fail)
 .fail)
 (cond ((au x.l.n x.l.n)&&(eo 40 x.l.n 1))
 (cond (v7 x).isSome
 (cond ((au (x.l.n+1) (x.l.n+1))&&(eo 40 (x.l.n+1) 1))
 (cond (cond (au ((x.l.n+1)+1) ((x.l.n+1)+1)) (au x.out.n x.out.n) false)
 (.next (⟨x.aL,x.out,((x.l.push x.t22.e2).push ((v7 x).getD default).fst),x.t22,(ak (x.t23+(1:Int))),x.t⟩:aC))
 .fail)
 .fail)
 .fail)
 .fail))
 (cond (decide (x.t.e2.p.z ≥ x.aL))
 (cond (v8 x).isSome
 (cond ((au x.l.n x.l.n)&&(eo 40 x.l.n 1))
 (cond (cond (au (x.l.n+1) (x.l.n+1)) (au x.out.n x.out.n) false)
 (.next (⟨x.aL,x.out,(x.l.push ((v8 x).getD default).fst),x.t22,(ak (x.t23+(1:Int))),x.t⟩:aC))
 .fail)
 .fail)
 .fail)
 (cond (cond (au x.l.n x.l.n) (au x.out.n x.out.n) false)
 (.next (⟨x.aL,x.out,x.l,x.t22,(ak (x.t23+(1:Int))),x.t⟩:aC))
 .fail)))
 .fail)))
 .fail)))
 (cond (cond (au x.l.n x.l.n) (au x.out.n x.out.n) false)
 (.out (aG.aw.exit 0) x)
 .fail))
theorem MC (x:aC):RE (tC x) (tD x)=aJ.enc tC tD (ik x):=by
 unfold ik
 try simp only [aJ.dg,afl,agL]
 kernel_rfl
def rI:Lp:=⟨111,122,Gu,fun vs rs=>dD tC tD (goN ik (Ej vs rs)) [aG.aw.exit 0],false⟩
theorem Ek:rI.Ok Try.prog:=eF funcs mixed (aq.cons Dl (aq.cons oS aq.nil)) aA.nil (L:=9) (n:=9) (step:=ik) (ev:=tC) (er:=tD) (pa:=Ej) rfl (fun wv wr=>⟨by kernel_rfl,by kernel_rfl⟩) MC
theorem Bk:cz Try.prog rI.f rI.p=true:=by kernel_rfl
structure iz where
 out:(Sl dJ)
 l:(Sl bW)
 i:Int
instance:Inhabited iz:=⟨⟨default,default,default⟩⟩
def tE (x:iz):List KV:=[iU 181 pd x.out,iU 180 mO x.l,.int .i64 x.i]
def tF (x:iz):List (List KV):=[]
def El (vs:List KV) (rs:List (List KV)):iz:=⟨iw qJ (vs.getD 0 .ax),iw jN (vs.getD 1 .ax),intOf (vs.getD 2 .ax)⟩
def Gv:aQ:=⟨[(4,⟨false,[.bb 181]⟩),(7,⟨false,[.bb 180]⟩),(15,⟨false,[.k (.int .i64)]⟩)],[],[]⟩
def RF:=jf Try.prog (bp Try.prog [(129,Eh),(130,qI)] [rI] (fun _=>false) false true) 9 9 111 250 (eX Try.prog 111 250) Gv
def kE (x:iz):aJ iz:=
 (cond (decide (x.i < ((x.l.n:Nat):Int)))
 (cond (decide ((0:Int) < ((x.l.n:Nat):Int)))
 (cond ((decide ((0:Int)≤(ak (x.i - (1:Int)))))&&(decide ((ak (x.i - (1:Int))) < ((x.l.n:Nat):Int))))
 (cond ((decide ((0:Int)≤x.i))&&(decide (x.i < ((x.l.n:Nat):Int))))
 (cond ((au x.out.n x.out.n)&&(eo 120 x.out.n 1))
 (cond (cond (au x.l.n x.l.n) (au (x.out.n+1) (x.out.n+1)) false)
 (.next (⟨(x.out.push (⟨(x.l.get 0),(x.l.get (Int.toNat (ak (x.i - (1:Int))))),(x.l.get (Int.toNat x.i))⟩:dJ)),x.l,(ak (x.i+(1:Int)))⟩:iz))
 .fail)
 .fail)
 .fail)
 .fail)
 .fail)
 (cond (cond (au x.l.n x.l.n) (au x.out.n x.out.n) false)
 (.out (aG.aw.exit 2) x)
 .fail))
theorem MD (x:iz):RF (tE x) (tF x)=aJ.enc tE tF (kE x):=by
 unfold kE
 try simp only [aJ.dg,Z0]
 kernel_rfl
def vh:Lp:=⟨111,250,Gv,fun vs rs=>dD tE tF (goN kE (El vs rs)) [aG.aw.exit 2],false⟩
theorem RG:vh.Ok Try.prog:=eF funcs mixed (aq.cons Dl (aq.cons oS aq.nil)) (aA.cons Ek Bk aA.nil) (L:=9) (n:=9) (step:=kE) (ev:=tE) (er:=tF) (pa:=El) rfl (fun wv wr=>⟨by kernel_rfl,by kernel_rfl⟩) MD
theorem K7:cz Try.prog vh.f vh.p=true:=by kernel_rfl
def NA:List (Nat×(List KV→KR KV)):=[(129,Eh),(130,qI)]
def NB:List Lp:=[rI,vh]
theorem Wt:aq Try.prog NA:=(aq.cons Dl (aq.cons oS aq.nil))
theorem Wu:aA Try.prog NB:=(aA.cons Ek Bk (aA.cons RG K7 aA.nil))
def uA (aL:Int) (t:dJ):(Option Int):=(kU t.e0)
def cO (aL:Int) (t:dJ):(aJ aC):=(goN ik (⟨aL,(⟨0,(fun i=>(⟨(⟨(⟨(0:Int),(0:Int),(0:Int)⟩:eB),(0:Int),(0:Int)⟩:bW),(⟨(⟨(0:Int),(0:Int),(0:Int)⟩:eB),(0:Int),(0:Int)⟩:bW),(⟨(⟨(0:Int),(0:Int),(0:Int)⟩:eB),(0:Int),(0:Int)⟩:bW)⟩:dJ))⟩:Sl _),(⟨0,(fun i=>(⟨(⟨(0:Int),(0:Int),(0:Int)⟩:eB),(0:Int),(0:Int)⟩:bW))⟩:Sl _),t,(0:Int),t⟩:aC))
def iA (aL:Int) (t:dJ):(aJ iz):=(goN kE (⟨(cO aL t).st.out,(cO aL t).st.l,(2:Int)⟩:iz))
def uB (aL:Int) (t:dJ):(Option Int):=(kU t.e1)
def uC (aL:Int) (t:dJ):(Option Int):=(kU t.e2)
def vi (aL:Int) (t:dJ):Option ((Sl dJ)×Int):=
 (cond (decide (aL < (256:Int)))
 (some ((⟨0,(fun i=>(⟨(⟨(⟨(0:Int),(0:Int),(0:Int)⟩:eB),(0:Int),(0:Int)⟩:bW),(⟨(⟨(0:Int),(0:Int),(0:Int)⟩:eB),(0:Int),(0:Int)⟩:bW),(⟨(⟨(0:Int),(0:Int),(0:Int)⟩:eB),(0:Int),(0:Int)⟩:bW)⟩:dJ))⟩:Sl _),(2:Int)))
 (cond (decide (aL > (4096:Int)))
 (some ((⟨0,(fun i=>(⟨(⟨(⟨(0:Int),(0:Int),(0:Int)⟩:eB),(0:Int),(0:Int)⟩:bW),(⟨(⟨(0:Int),(0:Int),(0:Int)⟩:eB),(0:Int),(0:Int)⟩:bW),(⟨(⟨(0:Int),(0:Int),(0:Int)⟩:eB),(0:Int),(0:Int)⟩:bW)⟩:dJ))⟩:Sl _),(2:Int)))
 (cond (uA aL t).isSome
 (cond (((uA aL t).getD default) != (0:Int))
 (cond (((uA aL t).getD default) != (0:Int))
 (some ((⟨0,(fun i=>(⟨(⟨(⟨(0:Int),(0:Int),(0:Int)⟩:eB),(0:Int),(0:Int)⟩:bW),(⟨(⟨(0:Int),(0:Int),(0:Int)⟩:eB),(0:Int),(0:Int)⟩:bW),(⟨(⟨(0:Int),(0:Int),(0:Int)⟩:eB),(0:Int),(0:Int)⟩:bW)⟩:dJ))⟩:Sl _),((uA aL t).getD default)))
 (cond ((cO aL t).by (aG.aw.exit 0))
 (cond (cond (au (cO aL t).st.l.n (cO aL t).st.l.n) (au (cO aL t).st.out.n (cO aL t).st.out.n) false)
 (cond ((iA aL t).by (aG.aw.exit 2))
 (some ((iA aL t).st.out,(0:Int)))
 none)
 none)
 none))
 (cond (uB aL t).isSome
 (cond (((uB aL t).getD default) != (0:Int))
 (cond (((uB aL t).getD default) != (0:Int))
 (some ((⟨0,(fun i=>(⟨(⟨(⟨(0:Int),(0:Int),(0:Int)⟩:eB),(0:Int),(0:Int)⟩:bW),(⟨(⟨(0:Int),(0:Int),(0:Int)⟩:eB),(0:Int),(0:Int)⟩:bW),(⟨(⟨(0:Int),(0:Int),(0:Int)⟩:eB),(0:Int),(0:Int)⟩:bW)⟩:dJ))⟩:Sl _),((uB aL t).getD default)))
 (cond ((cO aL t).by (aG.aw.exit 0))
 (cond (cond (au (cO aL t).st.l.n (cO aL t).st.l.n) (au (cO aL t).st.out.n (cO aL t).st.out.n) false)
 (cond ((iA aL t).by (aG.aw.exit 2))
 (some ((iA aL t).st.out,(0:Int)))
 none)
 none)
 none))
 (cond (uC aL t).isSome
 (cond (((uC aL t).getD default) != (0:Int))
 (cond (((uC aL t).getD default) != (0:Int))
 (some ((⟨0,(fun i=>(⟨(⟨(⟨(0:Int),(0:Int),(0:Int)⟩:eB),(0:Int),(0:Int)⟩:bW),(⟨(⟨(0:Int),(0:Int),(0:Int)⟩:eB),(0:Int),(0:Int)⟩:bW),(⟨(⟨(0:Int),(0:Int),(0:Int)⟩:eB),(0:Int),(0:Int)⟩:bW)⟩:dJ))⟩:Sl _),((uC aL t).getD default)))
 (cond ((cO aL t).by (aG.aw.exit 0))
 (cond (cond (au (cO aL t).st.l.n (cO aL t).st.l.n) (au (cO aL t).st.out.n (cO aL t).st.out.n) false)
 (cond ((iA aL t).by (aG.aw.exit 2))
 (some ((iA aL t).st.out,(0:Int)))
 none)
 none)
 none))
 (cond ((cO aL t).by (aG.aw.exit 0))
 (cond (cond (au (cO aL t).st.l.n (cO aL t).st.l.n) (au (cO aL t).st.out.n (cO aL t).st.out.n) false)
 (cond ((iA aL t).by (aG.aw.exit 2))
 (some ((iA aL t).st.out,(0:Int)))
 none)
 none)
 none))
 none))
 none))
 none)))
theorem Z1 (aL:Int) (t:dJ):dn Try.prog (bp Try.prog NA NB (fun _=>false) false true) 9 9 111 [(kI .i64) aL,pd t] = (vi aL t).map (fun (r:(Sl dJ)×Int)=>KV.jE [(iU 181 pd) r.1,(kI .i64) r.2]):=by
 unfold vi
 try simp only [b7]
 kernel_rfl
def Ie:List KV→KR KV:=cr Try.prog 111 (cD (fun (r:(Sl dJ)×Int)=>KV.jE [(iU 181 pd) r.1,(kI .i64) r.2]) fun vs=>vi (intOf (vs.getD 0 .ax)) (qJ (vs.getD 1 .ax)))
theorem Wv (w:Nat→KV):cM Try.prog [3,181] w 0 = [(kI .i64) (intOf (ay Try.prog (ao Try.prog av) 3 (w 0))),pd (qJ (ay Try.prog (ao Try.prog av) 181 (w 1)))]:=by kernel_rfl
theorem Jg:b9 Try.prog 111 Ie:=aX funcs mixed Wt Wu (L:=9) (n:=9) fun w=>by
 have e:aK Try.prog 111 = [3,181]:=by kernel_rfl
 rw [e,Wv]
 exact (Z1 (intOf (ay Try.prog (ao Try.prog av) 3 (w 0))) (qJ (ay Try.prog (ao Try.prog av) 181 (w 1)))).trans (by kernel_rfl)
end
end Go.Proofs.Ytahhdndhkgbcjaa.b
end
