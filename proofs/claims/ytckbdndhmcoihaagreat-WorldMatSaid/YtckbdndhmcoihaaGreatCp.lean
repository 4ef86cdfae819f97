/- Part of the proof of WorldMat: the machine, shown to be the model's, and plain models. No conditions. -/
import Derived.Test.YtckbdndhmcoihaaGreatBp
set_option linter.unusedSimpArgs false
set_option linter.unusedVariables false
section
namespace Go.K
open Go Go.aB
structure anf where
 cs:List Value
 cg:Nat
 own:Bool
 cp:Option (Nat×Nat)
structure Env where
 κ:Nat->Option Nat
 z:Nat->Option anf
 φ:Nat->Option Nat
 α:Nat->Option (Nat×Nat×Nat)
structure Env.le (E E' : Env):Prop where
 α:∀ b p,E.α b=some p->E'.α b=some p
 κ:∀ b x,E.κ b=some x->E'.κ b=some x
 z:∀ b r,E.z b=some r->E'.z b=some r
 φ:∀ b g,E.φ b=some g->E'.φ b=some g
theorem Env.le_refl (E:Env):E.le E:=⟨fun _ _ h=>h,fun _ _ h=>h,fun _ _ h=>h,fun _ _ h=>h⟩
theorem Env.le_trans {E F G:Env} (h:E.le F) (k:F.le G):E.le G:=⟨fun b p e=>k.α b p (h.α b p e),fun b x e=>k.κ b x (h.κ b x e),fun b x e=>k.z b x (h.z b x e),fun b x e=>k.φ b x (h.φ b x e)⟩
def qY (sz off:Nat) (cs es:List Value):Prop:=∀ (i:Nat) (x:Value),es[i]? = some x->x.cells.size=sz/\∀ (k:Nat) (y:Value),x.cells[k]? = some y->cs[off+i * sz+k]? = some y
def XO (E:Env) (sz:Nat) (a:Option Addr) (n:Nat) (es:List Value):Prop:=
 (a=none/\n=0)\/∃ b off r,a=some ⟨b,off,none⟩/\E.z b=some r/\r.cg=sz/\qY sz off r.cs es
def SJ (E:Env) (sz:Nat) (a:Option Addr) (n cap:Nat):Mk->Prop
 | .any=>True
 | .exact=>cap=n/\∀ b off,a=some ⟨b,off,none⟩->∃ r,E.z b=some r/\r.own=true/\r.cp=none/\off+cap * sz=r.cs.length
 | .bA f=>cap=n/\((n=0/\a=none)\/∃ b r g,a=some ⟨b,0,none⟩/\E.z b=some r/\r.own=true/\E.φ f=some g/\r.cp=some (g,0)/\r.cs.length=n * sz)
structure ku (P:Program) (T:TypeId) (n:Nat) (es:List KV) (acc:Nat->KV):Prop where
 len:n=es.length
 acc:∀ i,i < n->acc i=es.getD i .ao
 typed:ga (bB P T) es=true
def bD (P:Program) (T:TypeId):Nat:=(bB P T).ks.length
def ang (P:Program) (E:Env) (T:TypeId) (m:Mk) (n:Nat) (bK:List Value) (v:Value):Prop:=
 ∃ a cap,v = .slice a n cap/\n<=cap/\XO E (bD P T) a n bK/\SJ E (bD P T) a n cap m
structure ae1 (P:Program) (T Tc:TypeId) (k:Nat):Prop where
 is:∀ m c,(bB P Tc).ks[m]? = some c->(bB P T).ks[k+m]? = some c
def anh (P:Program) (E:Env) (T Tc:TypeId) (i k:Nat) (es:List KV) (bK:List Value) (v:Value):Prop:=
 i < es.length/\ae1 P T Tc k/\∃ b off r,v = .pointer (some ⟨b,off+i * bD P T+k,none⟩)/\E.z b=some r/\qY (bD P T) off r.cs bK
def aci (P:Program) (E:Env) (T:TypeId) (b o n:Nat) (v:Value):Prop:=
 (n=0/\o=0/\v = .slice none 0 0)\/∃ x L N c,E.α b=some (x,L,N)/\v = .slice (some ⟨x,o * bD P T,none⟩) n c/\n<=c/\o+n<=N/\(o+c) * bD P T=L
def akt (P:Program) (E:Env) (T Tc:TypeId) (b i k:Nat) (v:Value):Prop:=
 ∃ x L N,E.α b=some (x,L,N)/\ae1 P T Tc k/\i < N/\v = .pointer (some ⟨x,i * bD P T+k,none⟩)
mutual
def VK (P:Program) (E:Env):KV->Value->Prop
 | .int k n,v=>v = .int k n
 | .bool b,v=>v = .bool b
 | .str s,v=>v = .string s
 | .agg cs,v=>∃ l,v = .agg ⟨l⟩/\bC P E cs l
 | .nb cs,v=>∃ l,v = .tuple ⟨l⟩/\bC P E cs l
 | .ts T m n es acc,v=>ku P T n es acc/\∃ bK,bC P E es bK/\ang P E T m n bK v
 | .tp T Tc i k es acc,v=>ku P T es.length es acc/\∃ bK,bC P E es bK/\anh P E T Tc i k es bK v
 | .al T b o n,v=>aci P E T b o n v
 | .ap T Tc b i k,v=>akt P E T Tc b i k v
 | .ptr b off,v=>∃ x,E.κ b=some x/\v = .pointer (some ⟨x,off,none⟩)
 | .sl b off n c,v=>∃ x,E.κ b=some x/\v = .slice (some ⟨x,off,none⟩) n c
 | .G1,v=>v = .pointer none
 | .lY,v=>v = .slice none 0 0
 | .CV,v=>v = .map none
 | .map b,v=>∃ x,E.κ b=some x/\v = .map (some x)
 | .fn f first cap,v=>∃ l m,v = .func f ⟨l⟩ ⟨m⟩/\bC P E first l/\bC P E cap m
 | .Ip,v=>v = .nilFunc
 | .iface t x,v=>∃ y,v = .iface t y/\VK P E x y
 | .Iq,v=>v = .nilIface
 | .ao,_=>True
def bC (P:Program) (E:Env):List KV->List Value->Prop
 | [],l=>l = []
 | x::xs,l=>∃ y ys,l=y::ys/\VK P E x y/\bC P E xs ys
end
variable {P:Program} {E E' : Env}
theorem SJ.mono (h:E.le E') {sz:Nat} {a:Option Addr} {n cap:Nat} {m:Mk} (k:SJ E sz a n cap m):SJ E' sz a n cap m:=by
 cases m with
 | any=>trivial
 | exact=>exact ⟨k.1,fun b off e=>by obtain ⟨r,h1,h2⟩:=k.2 b off e; exact ⟨r,h.z _ _ h1,h2⟩⟩
 | bA f=>
  refine ⟨k.1,k.2.imp id ?_⟩;rintro ⟨b,r,g,h1,h2,h3,h4,h5⟩;exact ⟨b,r,g,h1,h.z _ _ h2,h3,h.φ _ _ h4,h5⟩
theorem XO.mono (h:E.le E') {sz:Nat} {a:Option Addr} {n:Nat} {es:List Value} (k:XO E sz a n es):XO E' sz a n es:=by
 refine k.imp id ?_;rintro ⟨b,off,r,h1,h2,h3⟩;exact ⟨b,off,r,h1,h.z _ _ h2,h3⟩
theorem ang.mono (h:E.le E') {T:TypeId} {m:Mk} {n:Nat} {es:List Value} {v:Value} (k:ang P E T m n es v):ang P E' T m n es v:=by
 obtain ⟨a,cap,h1,h2,h3,h4⟩:=k;exact ⟨a,cap,h1,h2,h3.mono h,h4.mono h⟩
theorem anh.mono (h:E.le E') {T Tc:TypeId} {i k:Nat} {es:List KV} {bK:List Value} {v:Value} (q:anh P E T Tc i k es bK v):anh P E' T Tc i k es bK v:=by
 obtain ⟨h1,h2,b,off,r,h3,h4,h5⟩:=q;exact ⟨h1,h2,b,off,r,h3,h.z _ _ h4,h5⟩
theorem aci.mono (h:E.le E') {T:TypeId} {b o n:Nat} {v:Value} (q:aci P E T b o n v):aci P E' T b o n v:=by
 refine q.imp id ?_;rintro ⟨x,L,N,c,h1,h2⟩;exact ⟨x,L,N,c,h.α _ _ h1,h2⟩
theorem akt.mono (h:E.le E') {T Tc:TypeId} {b i k:Nat} {v:Value} (q:akt P E T Tc b i k v):akt P E' T Tc b i k v:=by
 obtain ⟨x,L,N,h1,h2⟩:=q;exact ⟨x,L,N,h.α _ _ h1,h2⟩
mutual
theorem VK.mono (h:E.le E'):∀ {v:KV} {v' : Value},VK P E v v'->VK P E' v v'
 | .int k n,v,q=>q
 | .bool b,v,q=>q
 | .str s,v,q=>q
 | .agg cs,v,q=>by
  simp only [VK] at q ⊢;obtain ⟨l,e,q⟩:=q;exact ⟨l,e,bC.mono h q⟩
 | .nb cs,v,q=>by
  simp only [VK] at q ⊢;obtain ⟨l,e,q⟩:=q;exact ⟨l,e,bC.mono h q⟩
 | .ts T m n es acc,v,q=>by
  simp only [VK] at q ⊢;obtain ⟨t,l,q,k⟩:=q;exact ⟨t,l,bC.mono h q,k.mono h⟩
 | .tp T Tc i k es acc,v,q=>by
  simp only [VK] at q ⊢;obtain ⟨t,l,q,k⟩:=q;exact ⟨t,l,bC.mono h q,k.mono h⟩
 | .al T b o n,v,q=>by
  simp only [VK] at q ⊢;exact q.mono h
 | .ap T Tc b i k,v,q=>by
  simp only [VK] at q ⊢;exact q.mono h
 | .ptr b off,v,q=>by
  simp only [VK] at q ⊢;obtain ⟨x,e,q⟩:=q;exact ⟨x,h.κ _ _ e,q⟩
 | .sl b off n c,v,q=>by
  simp only [VK] at q ⊢;obtain ⟨x,e,q⟩:=q;exact ⟨x,h.κ _ _ e,q⟩
 | .G1,v,q=>q
 | .lY,v,q=>q
 | .CV,v,q=>q
 | .map b,v,q=>by
  simp only [VK] at q ⊢;obtain ⟨x,e,q⟩:=q;exact ⟨x,h.κ _ _ e,q⟩
 | .fn f first cap,v,q=>by
  simp only [VK] at q ⊢;obtain ⟨l,m,e,q1,q2⟩:=q;exact ⟨l,m,e,bC.mono h q1,bC.mono h q2⟩
 | .Ip,v,q=>q
 | .iface t x,v,q=>by
  simp only [VK] at q ⊢;obtain ⟨y,e,q⟩:=q;exact ⟨y,e,VK.mono h q⟩
 | .Iq,v,q=>q
 | .ao,v,q=>q
theorem bC.mono (h:E.le E'):∀ {v:List KV} {v' : List Value},bC P E v v'->bC P E' v v'
 | [],_,q=>q
 | x::xs,_,q=>by
  simp only [bC] at q ⊢;obtain ⟨y,ys,e,q1,q2⟩:=q;exact ⟨y,ys,e,VK.mono h q1,bC.mono h q2⟩
end
theorem bC.nil:bC P E [] []:=by simp [bC]
theorem bC.cons {x:KV} {y:Value} {xs:List KV} {ys:List Value} (h:VK P E x y) (k:bC P E xs ys):bC P E (x::xs) (y::ys):=by
 simp only [bC]; exact ⟨y,ys,rfl,h,k⟩
theorem bC.cw {l:List Value} (h:bC P E [] l):l = []:=by simpa [bC] using h
theorem bC.cons_inv {x:KV} {xs:List KV} {l:List Value} (h:bC P E (x::xs) l):∃ y ys,l=y::ys/\VK P E x y/\bC P E xs ys:=by simpa [bC] using h
theorem bC.fN {x:KV} {l:List Value} (h:bC P E [x] l):∃ y,l = [y]/\VK P E x y:=by
 obtain ⟨y,ys,rfl,h1,h2⟩:=h.cons_inv;rw [h2.cw]; exact ⟨y,rfl,h1⟩
theorem bC.lR {x y:KV} {l:List Value} (h:bC P E [x,y] l):∃ x' y',l = [x',y']/\VK P E x x'/\VK P E y y':=by
 obtain ⟨a,ys,rfl,h1,h2⟩:=h.cons_inv;obtain ⟨b,rfl,h3⟩:=h2.fN;exact ⟨a,b,rfl,h1,h3⟩
theorem bC.VL {x y u:KV} {l:List Value} (h:bC P E [x,y,u] l):∃ x' y' u',l = [x',y',u']/\VK P E x x'/\VK P E y y'/\VK P E u u':=by
 obtain ⟨a,ys,rfl,h1,h2⟩:=h.cons_inv;obtain ⟨b,c,rfl,h3,h4⟩:=h2.lR;exact ⟨a,b,c,rfl,h1,h3,h4⟩
theorem bC.length:∀ {l:List KV} {l' : List Value},bC P E l l'->l'.length=l.length
 | [],l',h=>by rw [h.cw]; rfl
 | x::xs,l',h=>by
  obtain ⟨y,ys,rfl,_,k⟩:=h.cons_inv;simp [bC.length k]
theorem bC.get:∀ {l:List KV} {l' : List Value} {i:Nat} {v:KV},bC P E l l'->l[i]? = some v->∃ v',l'[i]? = some v'/\VK P E v v'
 | [],_,_,_,_,e=>by simp at e
 | x::xs,l',i,v,h,e=>by
  obtain ⟨y,ys,rfl,CQ,k⟩:=h.cons_inv;cases i with
  | zero=>simp at e; subst e; exact ⟨y,rfl,CQ⟩
  | succ i=>simp at e; simpa using bC.get k e
theorem bC.append:∀ {a:List KV} {a' : List Value} {b:List KV} {b' : List Value},bC P E a a'->bC P E b b'->bC P E (a++b) (a'++b')
 | [],a',b,b',h,k=>by rw [h.cw]; exact k
 | x::xs,a',b,b',h,k=>by
  obtain ⟨y,ys,rfl,CQ,m⟩:=h.cons_inv;exact .cons CQ (bC.append m k)
theorem bC.take:∀ (n:Nat) {l:List KV} {l' : List Value},bC P E l l'->bC P E (l.take n) (l'.take n)
 | 0,_,_,_=>by simp [bC.nil]
 | n+1,[],l',h=>by rw [h.cw]; simp [bC.nil]
 | n+1,x::xs,l',h=>by
  obtain ⟨y,ys,rfl,CQ,k⟩:=h.cons_inv;simpa using bC.cons CQ (bC.take n k)
theorem bC.drop:∀ (n:Nat) {l:List KV} {l' : List Value},bC P E l l'->bC P E (l.drop n) (l'.drop n)
 | 0,_,_,h=>by simpa using h
 | n+1,[],l',h=>by rw [h.cw]; simp [bC.nil]
 | n+1,x::xs,l',h=>by
  obtain ⟨y,ys,rfl,_,k⟩:=h.cons_inv;simpa using bC.drop n k
theorem SK {α:Type} : ∀ {n:Nat} {l r:List α},yA n l=some r->r=l.take n/\n<=l.length
 | 0,l,r,h=>by simp [yA] at h; subst h; simp
 | n+1,[],r,h=>by simp [yA] at h
 | n+1,x::xs,r,h=>by
  simp only [yA,cS] at h;obtain ⟨q,hq,rfl⟩:=h;obtain ⟨rfl,hn⟩:=SK hq;exact ⟨by simp,by simpa using hn⟩
theorem Mp {α:Type} : ∀ (n:Nat) (l:List α),Ej n l=l.drop n
 | 0,l=>rfl
 | n+1,[]=>rfl
 | n+1,x::xs=>by simp [Ej,Mp n xs]
theorem Mq:∀ {n:Nat} {l:List Value},n<=l.length->takeN n l=some (l.take n)
 | 0,l,_=>rfl
 | n+1,[],h=>by simp at h
 | n+1,x::xs,h=>by rw [ab5,Mq (n:=n) (l:=xs) (by simpa using h)]; rfl
theorem bC.yA {n k:Nat} {l r:List KV} {l' : List Value} (h:bC P E l l') (e:yA n (Ej k l)=some r):∃ r',takeN n (Ia k l')=some r'/\bC P E r r'/\r' = (l'.drop k).take n:=by
 obtain ⟨rfl,hn⟩:=SK e;rw [Mp] at hn ⊢;have hl:=h.length;rw [uO];refine ⟨_,Mq ?_,(h.drop k).take n,rfl⟩;simp only [List.length_drop] at hn ⊢;omega
theorem bC.mB:∀ {n:Nat} {l:List KV} {l' : List Value} {vs r:List KV} {cX:List Value},mB n l vs=some r->bC P E l l'->bC P E vs cX->∃ r',jK n l' cX=some r'/\bC P E r r'
 | 0,l,l',[],r,cX,h,hl,hv=>by simp [K.mB] at h; subst h; rw [hv.cw]; exact ⟨l',BN l',hl⟩
 | 0,[],l',_::_,r,cX,h,hl,hv=>by simp [K.mB] at h
 | 0,x::l,l',v::vs,r,cX,h,hl,hv=>by
  obtain ⟨y,ys,rfl,_,k⟩:=hl.cons_inv;obtain ⟨u,us,rfl,h1,h2⟩:=hv.cons_inv;simp only [K.mB,cS] at h;obtain ⟨q,hq,rfl⟩:=h;obtain ⟨r',e,hr⟩:=bC.mB hq k h2;exact ⟨u::r',by simp [yu,e],.cons h1 hr⟩
 | n+1,[],l',[],r,cX,h,hl,hv=>by simp [K.mB] at h; subst h; rw [hl.cw,hv.cw]; exact ⟨[],rfl,.nil⟩
 | n+1,[],l',_::_,r,cX,h,hl,hv=>by simp [K.mB] at h
 | n+1,x::l,l',vs,r,cX,h,hl,hv=>by
  obtain ⟨y,ys,rfl,h1,k⟩:=hl.cons_inv;simp only [K.mB,cS] at h;obtain ⟨q,hq,rfl⟩:=h;obtain ⟨r',e,hr⟩:=bC.mB hq k hv;exact ⟨y::r',by simp [uf,e],.cons h1 hr⟩
theorem bC.Xt:∀ {l:List KV} {l' : List Value},l'.length=l.length->(∀ (i:Nat) (v:KV) (v' : Value),l[i]? = some v->l'[i]? = some v'->VK P E v v')->bC P E l l'
 | [],l',h,_=>by cases l' <;> simp_all [bC.nil]
 | x::xs,l',h,k=>by
  cases l' with
  | nil=>simp at h
  | cons y ys=>exact .cons (k 0 x y rfl rfl) (bC.Xt (by simpa using h) fun i v v' e e'=>k (i+1) v v' (by simpa using e) (by simpa using e'))
theorem VK.cU {k:IntKind} {n:Int} {v:Value} (h:VK P E (.int k n) v):v = .int k n:=by simpa [VK] using h
theorem VK.gi {b:Bool} {v:Value} (h:VK P E (.bool b) v):v = .bool b:=by simpa [VK] using h
theorem VK.uX {s:ByteArray} {v:Value} (h:VK P E (.str s) v):v = .string s:=by simpa [VK] using h
theorem VK.mi {cs:List KV} {v:Value} (h:VK P E (.agg cs) v):∃ l,v = .agg ⟨l⟩/\bC P E cs l:=by simpa [VK] using h
theorem VK.QC {cs:List KV} {v:Value} (h:VK P E (.nb cs) v):∃ l,v = .tuple ⟨l⟩/\bC P E cs l:=by simpa [VK] using h
theorem VK.j9 {b off:Nat} {v:Value} (h:VK P E (.ptr b off) v):∃ x,E.κ b=some x/\v = .pointer (some ⟨x,off,none⟩):=by simpa [VK] using h
theorem VK.SL {b off n c:Nat} {v:Value} (h:VK P E (.sl b off n c) v):∃ x,E.κ b=some x/\v = .slice (some ⟨x,off,none⟩) n c:=by simpa [VK] using h
theorem VK.JY {f:Fn} {a b:List KV} {v:Value} (h:VK P E (.fn f a b) v):∃ l m,v = .func f ⟨l⟩ ⟨m⟩/\bC P E a l/\bC P E b m:=by simpa [VK] using h
theorem VK.mD {T:TypeId} {m:Mk} {n:Nat} {es:List KV} {acc:Nat->KV} {v:Value} (h:VK P E (.ts T m n es acc) v):ku P T n es acc/\∃ bK,bC P E es bK/\ang P E T m n bK v:=by simpa [VK] using h
theorem VK.NV {T Tc:TypeId} {i k:Nat} {es:List KV} {acc:Nat->KV} {v:Value} (h:VK P E (.tp T Tc i k es acc) v):ku P T es.length es acc/\∃ bK,bC P E es bK/\anh P E T Tc i k es bK v:=by simpa [VK] using h
theorem VK.zb {T:TypeId} {b o n:Nat} {v:Value} (h:VK P E (.al T b o n) v):aci P E T b o n v:=by simpa [VK] using h
theorem VK.JZ {T Tc:TypeId} {b i k:Nat} {v:Value} (h:VK P E (.ap T Tc b i k) v):akt P E T Tc b i k v:=by simpa [VK] using h
theorem VK.T4 {T:TypeId} {b o n:Nat} {v:Value} (h:aci P E T b o n v):VK P E (.al T b o n) v:=by simpa [VK] using h
theorem VK.atc {T Tc:TypeId} {b i k:Nat} {v:Value} (h:akt P E T Tc b i k v):VK P E (.ap T Tc b i k) v:=by simpa [VK] using h
theorem aci.slice {T:TypeId} {b o n:Nat} {v:Value} (h:aci P E T b o n v):∃ a c,v = .slice a n c:=by
 rcases h with ⟨rfl,_,rfl⟩ | ⟨x,L,N,c,_,rfl,_⟩
 ·exact ⟨_,_,rfl⟩
 ·exact ⟨_,_,rfl⟩
theorem VK.pZ {v:Value} (h:VK P E .lY v):v = .slice none 0 0:=by simpa [VK] using h
theorem VK.SM {v:Value} (h:VK P E .G1 v):v = .pointer none:=by simpa [VK] using h
theorem VK.mkInt {k:IntKind} {n:Int} : VK P E (.int k n) (.int k n):=by simp [VK]
theorem VK.tE {b:Bool} : VK P E (.bool b) (.bool b):=by simp [VK]
theorem VK.mkStr {s:ByteArray} : VK P E (.str s) (.string s):=by simp [VK]
theorem VK.rW {cs:List KV} {l:List Value} (h:bC P E cs l):VK P E (.agg cs) (.agg ⟨l⟩):=by simp only [VK]; exact ⟨l,rfl,h⟩
theorem VK.afQ {cs:List KV} {l:List Value} (h:bC P E cs l):VK P E (.nb cs) (.tuple ⟨l⟩):=by simp only [VK]; exact ⟨l,rfl,h⟩
theorem VK.BO {b x off:Nat} (h:E.κ b=some x):VK P E (.ptr b off) (.pointer (some ⟨x,off,none⟩)):=by simp only [VK]; exact ⟨x,h,rfl⟩
theorem VK.aqU {b x off n c:Nat} (h:E.κ b=some x):VK P E (.sl b off n c) (.slice (some ⟨x,off,none⟩) n c):=by simp only [VK]; exact ⟨x,h,rfl⟩
theorem VK.ani {f:Fn} {a b:List KV} {l m:List Value} (h:bC P E a l) (k:bC P E b m):VK P E (.fn f a b) (.func f ⟨l⟩ ⟨m⟩):=by simp only [VK]; exact ⟨l,m,rfl,h,k⟩
theorem VK.undef:VK P E uE undef:=VK.afQ .nil
theorem VK.uY {v:Value} : VK P E .ao v:=by simp [VK]
theorem VK.cells {v:KV} {v' : Value} (h:VK P E v v') (hu:xM v=true):bC P E v.cells v'.cells.toList:=by
 cases v with
 | agg cs=>obtain ⟨l,rfl,q⟩:=h.mi; exact q
 | int k n=>have:=h.cU; subst this; exact .cons h .nil
 | bool b=>have:=h.gi; subst this; exact .cons h .nil
 | str b=>have:=h.uX; subst this; exact .cons h .nil
 | nb cs=>have q:=h; obtain ⟨l,rfl,_⟩:=h.QC; exact .cons q .nil
 | ts T m n es acc=>have q:=h; obtain ⟨_,_,_,a,cap,rfl,_⟩:=h.mD; exact .cons q .nil
 | tp T Tc i k es acc=>have q:=h; obtain ⟨_,_,_,_,_,b,off,r,rfl,_⟩:=h.NV; exact .cons q .nil
 | al T b o n=>have q:=h; obtain ⟨a,c,rfl⟩:=h.zb.slice; exact .cons q .nil
 | ap T Tc b i k=>have q:=h; obtain ⟨x,L,N,_,_,_,rfl⟩:=h.JZ; exact .cons q .nil
 | ptr b off=>have q:=h; obtain ⟨x,_,rfl⟩:=h.j9; exact .cons q .nil
 | sl b off n c=>have q:=h; obtain ⟨x,_,rfl⟩:=h.SL; exact .cons q .nil
 | G1=>have q:=h; simp only [VK] at h; subst h; exact .cons q .nil
 | lY=>have q:=h; simp only [VK] at h; subst h; exact .cons q .nil
 | CV=>have q:=h; simp only [VK] at h; subst h; exact .cons q .nil
 | map b=>have q:=h; simp only [VK] at h; obtain ⟨x,_,rfl⟩:=h; exact .cons q .nil
 | fn f a b=>have q:=h; obtain ⟨l,m,rfl,_⟩:=h.JY; exact .cons q .nil
 | Ip=>have q:=h; simp only [VK] at h; subst h; exact .cons q .nil
 | iface t x=>have q:=h; simp only [VK] at h; obtain ⟨y,rfl,_⟩:=h; exact .cons q .nil
 | Iq=>have q:=h; simp only [VK] at h; subst h; exact .cons q .nil
 | ao=>simp [xM] at hu
theorem VK.scalar {v:KV} {v' : Value} (h:VK P E v v') (ho:one v=true):aB.scalar v' = true:=by
 cases v with
 | agg cs=>simp [one] at ho
 | nb cs=>simp [one] at ho
 | ao=>simp [one] at ho
 | int k n=>have:=h.cU; subst this; rfl
 | bool b=>have:=h.gi; subst this; rfl
 | str b=>have:=h.uX; subst this; rfl
 | ts T m n es acc=>obtain ⟨_,_,_,a,cap,rfl,_⟩:=h.mD; rfl
 | tp T Tc i k es acc=>obtain ⟨_,_,_,_,_,b,off,r,rfl,_⟩:=h.NV; rfl
 | al T b o n=>obtain ⟨a,c,rfl⟩:=h.zb.slice; rfl
 | ap T Tc b i k=>obtain ⟨x,L,N,_,_,_,rfl⟩:=h.JZ; rfl
 | ptr b off=>obtain ⟨x,_,rfl⟩:=h.j9; rfl
 | sl b off n c=>obtain ⟨x,_,rfl⟩:=h.SL; rfl
 | G1=>simp only [VK] at h; subst h; rfl
 | lY=>simp only [VK] at h; subst h; rfl
 | CV=>simp only [VK] at h; subst h; rfl
 | map b=>simp only [VK] at h; obtain ⟨x,_,rfl⟩:=h; rfl
 | fn f a b=>obtain ⟨l,m,rfl,_⟩:=h.JY; rfl
 | Ip=>simp only [VK] at h; subst h; rfl
 | iface t x=>simp only [VK] at h; obtain ⟨y,rfl,_⟩:=h; rfl
 | Iq=>simp only [VK] at h; subst h; rfl
theorem bC.scalar:∀ {l:List KV} {l' : List Value},bC P E l l'->jM l=true->∀ v∈l',aB.scalar v=true
 | [],l',h,_,v,hv=>by rw [h.cw] at hv; simp at hv
 | x::xs,l',h,ho,v,hv=>by
  obtain ⟨y,ys,rfl,h1,h2⟩:=h.cons_inv;simp only [jM,aA] at ho;rcases fA.1 hv with rfl | hv
  ·exact h1.scalar ho.1
  ·exact bC.scalar h2 ho.2 v hv
theorem AZ {v:KV} (h:jM v.cells=true):xM v=true:=by
 cases v <;> first | rfl | simp [KV.cells,jM,one] at h
mutual
theorem VK.iH:∀ (v:Value),VK P E (iH v) v
 | .bool b=>by simp [K.iH,VK]
 | .int k n=>by simp [K.iH,VK]
 | .string s=>by simp [K.iH,VK]
 | .pointer none=>by simp [K.iH,VK]
 | .pointer (some a)=>by simp [K.iH,VK]
 | .slice none 0 0=>by simp [K.iH,VK]
 | .slice none 0 (n+1)=>by simp [K.iH,VK]
 | .slice none (n+1) c=>by simp [K.iH,VK]
 | .slice (some a) n c=>by simp [K.iH,VK]
 | .map none=>by simp [K.iH,VK]
 | .map (some r)=>by simp [K.iH,VK]
 | .nilFunc=>by simp [K.iH,VK]
 | .nilIface=>by simp [K.iH,VK]
 | .agg cs=>by
  obtain ⟨l⟩:=cs;simp only [K.iH,ofA];exact .rW (bC.ofL l)
 | .tuple cs=>by
  obtain ⟨l⟩:=cs;simp only [K.iH,ofA];exact .afQ (bC.ofL l)
 | .float _ _=>by simp [K.iH,VK]
 | .complex _ _ _=>by simp [K.iH,VK]
 | .chan _=>by simp [K.iH,VK]
 | .func _ _ _=>by simp [K.iH,VK]
 | .iface _ _=>by simp [K.iH,VK]
theorem bC.ofL:∀ (l:List Value),bC P E (ofL l) l
 | []=>.nil
 | v::vs=>.cons (VK.iH v) (bC.ofL vs)
end
theorem En {z:Value} (h:jM (iH z).cells=true):bC P E (iH z).cells z.cells.toList:=(VK.iH z).cells (AZ h)
def Ho (E:Env) (A:aw):Prop:=∀ b c g tb sb tc sc,A.get b=some (.bA tb sb)->A.get c=some (.bA tc sc)->E.φ b=some g->E.φ c=some g->b=c
def AR (A:aw) (E:Env) (x:Nat):Prop:=∃ b v L N,A.get b=some (.arr v)/\E.α b=some (x,L,N)
def AF (A:aw) (E:Env) (B:St) (g:Nat):Prop:=∃ b v x L N cs e own k,A.get b=some (.arr v)/\E.α b=some (x,L,N)/\B.get x=some (.row cs e own (some (g,k)))
def AT (A:aw) (E:Env) (B:St) (y:Nat):Prop:=AR A E y\/∃ g,AF A E B g/\y∈B.members g
def afR (P:Program) (E:Env) (B:St) (b:Nat) (v:KV):Prop:=∃ T N es acc,v = .ts T .any N es acc/\ku P T N es acc/\1<=bD P T/\
 ((N=0/\E.α b=none)\/∃ x cs cp bK,E.α b=some (x,cs.length,N)/\B.get x=some (.row cs (bD P T) true cp)/\bC P E es bK/\qY (bD P T) 0 cs bK)
def XP (P:Program) (E:Env) (b:Nat) (v:KV):Prop:=∃ T N es acc,v = .ts T .any N es acc/\ku P T N es acc/\1<=bD P T/\
 ((N=0/\E.α b=none)\/∃ x r bK,E.α b=some (x,r.cs.length,N)/\E.z x=some r/\r.cg=bD P T/\bC P E es bK/\qY (bD P T) 0 r.cs bK)
theorem afR.mono (h:E.le E') {B B' : St} {b:Nat} {v:KV} (tF:E'.α b=E.α b) (hB:∀ x L N,E.α b=some (x,L,N)->B'.get x=B.get x) (q:afR P E B b v):afR P E' B' b v:=by
 obtain ⟨T,N,es,acc,h1,h2,h3,h4⟩:=q;refine ⟨T,N,es,acc,h1,h2,h3,?_⟩;rcases h4 with ⟨h4,h5⟩ | ⟨x,cs,cp,bK,h4,h5,h6,h7⟩
 ·exact .inl ⟨h4,by rw [tF]; exact h5⟩
 ·exact .inr ⟨x,cs,cp,bK,by rw [tF]; exact h4,by rw [hB _ _ _ h4]; exact h5,h6.mono h,h7⟩
theorem XP.mono (h:E.le E') {b:Nat} {v:KV} (tF:E'.α b=E.α b) (q:XP P E b v):XP P E' b v:=by
 obtain ⟨T,N,es,acc,h1,h2,h3,h4⟩:=q;refine ⟨T,N,es,acc,h1,h2,h3,?_⟩;rcases h4 with ⟨h4,h5⟩ | ⟨x,r,bK,h4,h5,h6,h7,h8⟩
 ·exact .inl ⟨h4,by rw [tF]; exact h5⟩
 ·exact .inr ⟨x,r,bK,by rw [tF]; exact h4,h.z _ _ h5,h6,h7.mono h,h8⟩
structure NW (P:Program) (E:Env) (A:aw) (B:St):Prop where
 arr:∀ b v,A.get b=some (.arr v)->afR P E B b v
 kW:∀ b v,A.get b=some (.kW v)->XP P E b v
 z:∀ x,AR A E x->E.z x=none/\∀ c,E.κ c≠some x
 inj:∀ b c v u x L N L' N',A.get b=some (.arr v)->A.get c=some (.arr u)->E.α b=some (x,L,N)->E.α c=some (x,L',N')->b=c
 xK:∀ b c v u x y L N L' N' cs e own g k cu e' rJ k',A.get b=some (.arr v)->A.get c=some (.arr u)->E.α b=some (x,L,N)->E.α c=some (y,L',N')->B.get x=some (.row cs e own (some (g,k)))->B.get y=some (.row cu e' rJ (some (g,k')))->b=c
 dis:∀ b x,E.κ b=some x->E.α b=none
 lW:∀ b p,E.α b=some p->b < A.next
 iW:∀ b x L N,E.α b=some (x,L,N)->x < B.next
 vL:∀ b v x L N cs e own g k,A.get b=some (.arr v)->E.α b=some (x,L,N)->B.get x=some (.row cs e own (some (g,k)))->g < B.next/\(∀ f,E.φ f≠some g)/\∀ y∈B.members g,y≠x->E.z y=none/\¬ AR A E y/\∀ c,E.κ c≠some y
 nk:∀ b v,A.get b=some (.arr v)->b < A.next/\E.κ b=none
structure fX (P:Program) (E:Env) (A:aw) (B:St):Prop where
 row:∀ b cs cg,A.get b=some (.row cs cg)->∃ x cu,E.κ b=some x/\B.get x=some (.row cu cg true none)/\bC P E cs cu
 bA:∀ b top sz,A.get b=some (.bA top sz)->(top=0/\E.φ b=none)\/∃ g,E.φ b=some g/\0 < top/\∀ x∈B.members g,∀ cs e own f k,B.get x=some (.row cs e own (some (f,k)))->k=0/\cs.length<=top * sz
 z:∀ b r,E.z b=some r->B.get b=some (.row r.cs r.cg r.own r.cp)
 apart:∀ b x,E.κ b=some x->E.z x=none
 inj:∀ b c x,E.κ b=some x->E.κ c=some x->b=c
 kR:Ho E A
 lW:∀ b x,E.κ b=some x->b < A.next
 nS:∀ b g,E.φ b=some g->b < A.next
 live:∀ b o,A.get b=some o->b < A.next
 iW:∀ b x,E.κ b=some x->x < B.next
 nT:∀ b r,E.z b=some r->b < B.next
 lu:∀ b g,E.φ b=some g->g < B.next
 fresh:∀ g,B.next<=g->B.members g = []
 mem:∀ g x,x∈B.members g->x < B.next
 ar:NW P E A B
structure Ev (P:Program) (base:Nat) (E:Env) (A:aw) (B:St) (ρ:Ren) (w:World) (E' : Env) (A' : aw) (B' : St) (bd:Ren) (w' : World):Prop where
 kC:fX P E' A' B'
 gP:l8 base ρ B w bd B' w'
 le:E.le E'
 next:A.next<=A'.next
 ik:∀ x,x < B.next->(∀ b,E.κ b≠some x)->¬ AT A E B x->B'.get x=B.get x
 new:∀ b x,E'.κ b=some x->E.κ b=some x\/B.next<=x
 wK:∀ b r,E'.z b=some r->E.z b=some r\/AR A E b\/B.next<=b
 wL:∀ b g,E'.φ b=some g->(∃ c,E.φ c=some g)\/B.next<=g
 sA:∀ g,g < B.next->(∀ b,E.φ b≠some g)->¬ AF A E B g->B'.members g=B.members g
 oZ:∀ x,AR A' E' x->AR A E x\/B.next<=x
 py:∀ g,AF A' E' B' g->AF A E B g\/B.next<=g
 yE:∀ g y,y∈B'.members g->y∈B.members g\/B.next<=y
 p0:∀ y,AT A' E' B' y->AT A E B y\/B.next<=y
 rows:∀ y,y < B.next->∀ cs e own cp,B'.get y=some (.row cs e own cp)->∃ nM,B.get y=some (.row nM e own cp)/\nM.length=cs.length
theorem Ev.refl {base:Nat} {A:aw} {B:St} {ρ:Ren} {w:World} (h:fX P E A B) (s:vD ρ B base w):Ev P base E A B ρ w E A B ρ w:=
 ⟨h,.refl s,Env.le_refl _,aU _,fun _ _ _ _=>rfl,fun _ _ h=>.inl h,fun _ _ h=>.inl h,fun _ _ h=>.inl ⟨_,h⟩,fun _ _ _ _=>rfl,fun _ h=>.inl h,fun _ h=>.inl h,fun _ _ h=>.inl h,fun _ h=>.inl h,fun _ _ cs _ _ _ h=>⟨cs,h,rfl⟩⟩
theorem Ev.trans {base:Nat} {E1 E2 E3:Env} {A1 A2 A3:aw} {B1 B2 B3:St} {og yF ρ3:Ren} {w1 w2 w3:World} (h:Ev P base E1 A1 B1 og w1 E2 A2 B2 yF w2) (k:Ev P base E2 A2 B2 yF w2 E3 A3 B3 ρ3 w3) :
  Ev P base E1 A1 B1 og w1 E3 A3 B3 ρ3 w3 where
 kC:=k.kC
 gP:=h.gP.trans k.gP
 le:=Env.le_trans h.le k.le
 next:=o9 h.next k.next
 ik x hx hn ha:=by
  refine (k.ik x (nK hx h.gP.next) (fun b e=>?_) fun q=>?_).trans (h.ik x hx hn ha)
  ·rcases h.new b x e with e | e
   ·exact hn b e
   ·omega
  ·rcases h.p0 x q with e | e
   ·exact ha e
   ·omega
 new b x e:=by
  rcases k.new b x e with e | e
  ·rcases h.new b x e with e | e
   ·exact .inl e
   ·exact .inr e
  ·have:=h.gP.next; exact .inr (by omega)
 wK b r e:=by
  rcases k.wK b r e with e | e | e
  ·exact h.wK b r e
  ·exact .inr (h.oZ b e)
  ·have:=h.gP.next; exact .inr (.inr (by omega))
 wL b g e:=by
  rcases k.wL b g e with ⟨c,e⟩ | e
  ·exact h.wL c g e
  ·have:=h.gP.next; exact .inr (by omega)
 sA g hg hn ha:=by
  refine (k.sA g (nK hg h.gP.next) (fun b e=>?_) fun q=>?_).trans (h.sA g hg hn ha)
  ·rcases h.wL b g e with ⟨c,e⟩ | e
   ·exact hn c e
   ·omega
  ·rcases h.py g q with e | e
   ·exact ha e
   ·omega
 oZ x e:=by
  rcases k.oZ x e with e | e
  ·exact h.oZ x e
  ·have:=h.gP.next; exact .inr (by omega)
 py g e:=by
  rcases k.py g e with e | e
  ·exact h.py g e
  ·have:=h.gP.next; exact .inr (by omega)
 yE g y e:=by
  rcases k.yE g y e with e | e
  ·exact h.yE g y e
  ·have:=h.gP.next; exact .inr (by omega)
 p0 y e:=by
  rcases k.p0 y e with e | e
  ·exact h.p0 y e
  ·have:=h.gP.next; exact .inr (by omega)
 rows y hy cs e own cp q:=by
  obtain ⟨c1,h1,h2⟩:=k.rows y (nK hy h.gP.next) cs e own cp q;obtain ⟨c0,h3,h4⟩:=h.rows y hy c1 e own cp h1;exact ⟨c0,h3,h4.trans h2⟩
@[simp] theorem aw.cz (A:aw) (b:Nat) (o:kV) (x:Nat):(A.put b o).get x=if x=b then some o else A.get x:=by simp [aw.put,aw.get,Trie.qV]
@[simp] theorem aw.dz (A:aw) (o:kV) (x:Nat):(A.new o).get x=if x=A.next then some o else A.get x:=by simp [aw.new,aw.get,Trie.qV]
@[simp] theorem aw.uQ (A:aw) (b:Nat) (o:kV):(A.put b o).next=A.next:=rfl
@[simp] theorem aw.cC (A:aw) (o:kV):(A.new o).next=A.next+1:=rfl
theorem Ho.put {A:aw} (h:Ho E A) {b:Nat} {o:kV} (ho:(∀ t s,o≠.bA t s)\/E.φ b=none):Ho E (A.put b o):=by
 intro x y g tx sx ty sy hx hy ex ey;have key:∀ {z t s},(A.put b o).get z=some (.bA t s)->E.φ z=some g->A.get z=some (.bA t s):=by
  intro z t s hz ez;rw [aw.cz] at hz;split at hz
  ·rename_i e
   simp at hz;rcases ho with ho | ho
   ·exact absurd hz (ho t s)
   ·rw [e,ho] at ez; simp at ez
  ·exact hz
 exact h x y g tx sx ty sy (key hx ex) (key hy ey) ex ey
theorem Ho.new {A:aw} (h:Ho E A) {o:kV} (ho:(∀ t s,o≠.bA t s)\/E.φ A.next=none):Ho E (A.new o):=by
 intro x y g tx sx ty sy hx hy ex ey;have key:∀ {z t s},(A.new o).get z=some (.bA t s)->E.φ z=some g->A.get z=some (.bA t s):=by
  intro z t s hz ez;rw [aw.dz] at hz;split at hz
  ·rename_i e
   simp at hz;rcases ho with ho | ho
   ·exact absurd hz (ho t s)
   ·rw [e,ho] at ez; simp at ez
  ·exact hz
 exact h x y g tx sx ty sy (key hx ex) (key hy ey) ex ey
structure KJ (P:Program) (E:Env) (A:aw) (B:St) (ρ:Ren) (base:Nat) (w:World):Prop where
 k:fX P E A B
 s:vD ρ B base w
theorem Ev.kj {base:Nat} {E1 E2:Env} {A1 A2:aw} {B1 B2:St} {og yF:Ren} {w1 w2:World} (h:Ev P base E1 A1 B1 og w1 E2 A2 B2 yF w2):KJ P E2 A2 B2 yF base w2:=⟨h.kC,h.gP.kC⟩
def VC (P:Program) (E:Env) (ρ:Ren) (v:KV) (v' : Value):Prop:=∃ u,VK P E v u/\VR ρ u v'
theorem VC.mono {ρ bd:Ren} {v:KV} {v' : Value} (h:VC P E ρ v v') (k:E.le E') (m:ρ.le bd):VC P E' bd v v':=by
 obtain ⟨u,h1,h2⟩:=h;exact ⟨u,h1.mono k,h2.mono m⟩
theorem VC.ao {ρ:Ren} {v' : Value} : VC P E ρ .ao v':=⟨.chan none,.uY,by simp [VR]⟩
theorem VC.undef {ρ:Ren} : VC P E ρ uE undef:=⟨_,.undef,VR.undef⟩
end Go.K
end
section
namespace Go.K
open Go Go.aB
variable {P:Program} {E:Env}
def bf {α:Type} (r:KR α) (v:α):Prop:=
 match r with
 | .no=>False
 | .ok u=>u=v
 | .lQ c u=>c=true/\u=v
 | .br c x y=>(c=true/\bf x v)\/(c=false/\bf y v)
theorem KR.Cj {α R:Type} {k:α->Option R} {x:R} : ∀ {r:KR α},r.run k=some x->∃ v,bf r v/\k v=some x:=by
 intro r h
 match r,h with
 | .no,h=>exact absurd h (by simp [KR.run])
 | .ok v,h=>exact ⟨v,rfl,h⟩
 | .lQ c v,h=>
  cases c with
  | false=>exact absurd h (by simp [KR.run])
  | true=>exact ⟨v,⟨rfl,rfl⟩,h⟩
 | .br c x y,h=>
  cases c with
  | false=>obtain ⟨v,h1,h2⟩:=KR.Cj (r:=y) (k:=k) h; exact ⟨v,.inr ⟨rfl,h1⟩,h2⟩
  | true=>obtain ⟨v,h1,h2⟩:=KR.Cj (r:=x) (k:=k) h; exact ⟨v,.inl ⟨rfl,h1⟩,h2⟩
theorem bf.at {α:Type} {i:Int} {f:Nat->KR α} {v:α} : ∀ {m j:Nat},bf (aqP i f m j) v->∃ k,j<=k/\k < j+m/\i=(k:Int)/\bf (f k) v
 | 0,j,h=>h.elim
 | m+1,j,h=>by
  rcases h with ⟨h1,h2⟩ | ⟨_,h2⟩
  ·exact ⟨j,aU j,by omega,Sy h1,h2⟩
  ·obtain ⟨k,h3,h4,h5,h6⟩:=bf.at (m:=m) (j:=j+1) h2
   exact ⟨k,by omega,by omega,h5,h6⟩
theorem bf.of {α:Type} {o:Option α} {v:α} (h:bf (KR.of o) v):o=some v:=by
 cases o with
 | none=>exact h.elim
 | some u=>have h:u=v:=h; rw [h]
theorem bf.cond {α:Type} {c:Bool} {r:KR α} {v:α} (h:bf (cond c r .no) v):c=true/\bf r v:=by
 cases c with
 | false=>exact h.elim
 | true=>exact ⟨rfl,h⟩
theorem NX {α:Type} {c:Bool} {r:Option α} {v:α} (h:cond c r none=some v):c=true/\r=some v:=by
 cases c with
 | false=>simp at h
 | true=>exact ⟨rfl,h⟩
def yG (P:Program) (f:FP) (g:List Value->Option Value):Prop:=
 ∀ (E:Env) (vs:List KV) (us:List Value) (v:KV),bC P E vs us->bf (f vs) v->∃ u,g us=some u/\VK P E v u
theorem anj:yG P aln Nw:=by
 intro E vs us v h hg
 match vs,hg with
 | [x],hg=>
  obtain ⟨y,rfl,h1⟩:=h.fN;have hg:x=v:=hg;subst hg;exact ⟨y,rfl,h1⟩
theorem arZ:yG P alo Nw:=by
 intro E vs us v h hg
 match vs,hg with
 | [.bool b],hg=>
  obtain ⟨y,rfl,h1⟩:=h.fN;have hb:v = .bool b:=by
   rcases hg with ⟨rfl,h2⟩ | ⟨rfl,h2⟩
   ·exact (show KV.bool true=v from h2).symm
   ·exact (show KV.bool false=v from h2).symm
  subst hb;exact ⟨_,rfl,h1⟩
 | [x],hg=>
  have key:v=x:=by
   cases x <;> first | exact (show _=v from hg).symm | skip
   rcases hg with ⟨rfl,h2⟩ | ⟨rfl,h2⟩
   ·exact (show KV.bool true=v from h2).symm
   ·exact (show KV.bool false=v from h2).symm
  subst key;obtain ⟨y,rfl,h1⟩:=h.fN;exact ⟨_,rfl,h1⟩
theorem ar0 {b:Bool} : yG P (cond b alo aln) Nw:=by
 cases b with
 | true=>exact arZ
 | false=>exact anj
theorem atd:yG P apo ak9:=by
 intro E vs us v h hg
 match vs,hg with
 | [.bool t,.bool a,.bool b],hg=>
  obtain ⟨x,y,z,rfl,h1,h2,h3⟩:=h.VL;have:=h1.gi; subst this;have:=h2.gi; subst this;have:=h3.gi; subst this;have hg:KV.bool (cond t a b)=v:=hg;subst hg;exact ⟨_,rfl,by cases t <;> exact .tE⟩
 | [.bool t,a,b],hg=>
  obtain ⟨x,y,z,rfl,h1,h2,h3⟩:=h.VL;have:=h1.gi; subst this;refine ⟨_,rfl,?_⟩;have hg:v=cond t a b\/∃ p q,a = .bool p/\b = .bool q/\v = .bool (cond t p q):=by
   unfold apo at hg;split at hg
   ·rename_i t' a' b' e
    simp at e;obtain ⟨rfl,rfl,rfl⟩:=e;exact .inr ⟨_,_,rfl,rfl,hg.symm⟩
   ·rename_i t' a' b' _ e
    simp at e;obtain ⟨rfl,rfl,rfl⟩:=e;exact .inl hg.symm
   ·exact hg.elim
  rcases hg with rfl | ⟨p,q,rfl,rfl,rfl⟩
  ·cases t
   ·exact h3
   ·exact h2
  ·have:=h2.gi; subst this
   have:=h3.gi; subst this;cases t <;> exact .tE
theorem aaH {v:KV} {u:Value} (h:VK P E v u) (hk:xM v=true):aB.known u=true:=by
 cases v with
 | agg cs=>obtain ⟨l,rfl,q⟩:=h.mi; rfl
 | int k n=>have:=h.cU; subst this; rfl
 | bool b=>have:=h.gi; subst this; rfl
 | str b=>have:=h.uX; subst this; rfl
 | nb cs=>obtain ⟨l,rfl,_⟩:=h.QC; rfl
 | ts T m n es acc=>obtain ⟨_,_,_,a,cap,rfl,_⟩:=h.mD; rfl
 | tp T Tc i k es acc=>obtain ⟨_,_,_,_,_,b,off,r,rfl,_⟩:=h.NV; rfl
 | al T b o n=>obtain ⟨a,c,rfl⟩:=h.zb.slice; rfl
 | ap T Tc b i k=>obtain ⟨x,L,N,_,_,_,rfl⟩:=h.JZ; rfl
 | ptr b off=>obtain ⟨x,_,rfl⟩:=h.j9; rfl
 | sl b off n c=>obtain ⟨x,_,rfl⟩:=h.SL; rfl
 | G1=>simp only [VK] at h; subst h; rfl
 | lY=>simp only [VK] at h; subst h; rfl
 | CV=>simp only [VK] at h; subst h; rfl
 | map b=>simp only [VK] at h; obtain ⟨x,_,rfl⟩:=h; rfl
 | fn f a b=>obtain ⟨l,m,rfl,_⟩:=h.JY; rfl
 | Ip=>simp only [VK] at h; subst h; rfl
 | iface t x=>simp only [VK] at h; obtain ⟨y,rfl,_⟩:=h; rfl
 | Iq=>simp only [VK] at h; subst h; rfl
 | ao=>simp [xM] at hk
theorem QD {v:KV} {u:Value} (h:VK P E v u) (hk:xM v=true):u.cells.size=v.cells.length:=by
 have:=(h.cells hk).length;simpa using this
theorem afS {place:Nat->Option (Nat×Nat)} : ∀ {ps:List (Nat×KV)} {qs:List (Nat×Value)} {cs r:List KV} {cu:List Value},ps.map (·.1)=qs.map (·.1)->bC P E (ps.map (·.2)) (qs.map (·.2))->(∀ p∈ps,xM p.2=true)->
  bC P E cs cu->aax place cs ps=some r->∃ r',CM place cu qs=some r'/\bC P E r r'
 | [],[],cs,r,cu,_,_,_,h,e=>by simp [aax] at e; subst e; exact ⟨cu,rfl,h⟩
 | [],_::_,_,_,_,e,_,_,_,_=>by simp at e
 | _::_,[],_,_,_,e,_,_,_,_=>by simp at e
 | (i,v)::ps,(j,u)::qs,cs,r,cu,e1,e2,hk,h,e=>by
  simp only [List.map_cons,List.cons.injEq] at e1;obtain ⟨rfl,e1⟩:=e1;obtain ⟨y,ys,e3,h1,h2⟩:=e2.cons_inv;simp only [List.map_cons,List.cons.injEq] at e3;obtain ⟨rfl,rfl⟩:=e3;have hkv:xM v=true:=hk (i,v) (by simp);simp only [aax] at e;simp only [CM];split at e
  ·rename_i off size hp
   rw [hp];obtain ⟨hc,e⟩:=NX e;obtain ⟨ri,e4,e5⟩:=dh.1 e;obtain ⟨r1,e6,h3⟩:=bC.mB e4 h (h1.cells hkv);obtain ⟨r',e7,h4⟩:=afS e1 h2 (fun p hp=>hk p (by simp [hp])) h3 e5;refine ⟨r',?_,h4⟩;simp only;rw [QD h1 hkv,hc,ak,e6];exact e7
  ·simp at e
theorem afT:∀ (is:List Nat) {vs:List KV} {us:List Value},bC P E vs us->(Ap is vs).map (·.1)=(zipIdx is us).map (·.1)/\bC P E ((Ap is vs).map (·.2)) ((zipIdx is us).map (·.2))
 | [],_,_,_=>by simp [Ap,zipIdx,bC.nil]
 | i::is,[],us,h=>by rw [h.cw]; simp [Ap,zipIdx,bC.nil]
 | i::is,v::vs,us,h=>by
  obtain ⟨y,ys,rfl,h1,h2⟩:=h.cons_inv;obtain ⟨h3,h4⟩:=afT is h2;exact ⟨by simp [Ap,zipIdx,h3],by simpa [Ap,zipIdx] using bC.cons h1 h4⟩
theorem afU:∀ (is:List Nat) (vs:List KV),∀ p∈Ap is vs,p.2∈vs
 | [],_,p,h=>by simp [Ap] at h
 | i::is,[],p,h=>by simp [Ap] at h
 | i::is,v::vs,p,h=>by
  simp only [Ap,fA] at h;rcases h with rfl | h
  ·simp
  ·simp [afU is vs p h]
theorem Iw:∀ {vs:List KV} {us:List Value},bC P E vs us->vs.all xM=true->us.all aB.known=true
 | [],us,h,_=>by rw [h.cw]; rfl
 | v::vs,us,h,k=>by
  obtain ⟨y,ys,rfl,h1,h2⟩:=h.cons_inv;simp only [List.all_cons,aA] at k ⊢;exact ⟨aaH h1 k.1,Iw h2 k.2⟩
theorem aku {place:Nat->Option (Nat×Nat)} {z:Value} {is:List Nat} (hz:flat z=true) (h1:jM (iH z).cells=true):yG P (SF place (iH z).cells is) (Ee place z is):=by
 intro E vs us v h hg;unfold SF at hg;split at hg
 ·rename_i cs hf
  obtain ⟨hk,hg⟩:=hg.cond;have hg:KV.agg cs=v:=hg;subst hg;obtain ⟨h2,h3⟩:=afT is h;obtain ⟨r',e,hr⟩:=afS h2 h3 (fun p hp=>by have:=afU is vs p hp; exact ij.1 hk _ this) (En (P:=P) (E:=E) h1) hf;refine ⟨.agg ⟨r'⟩,?_,.rW hr⟩;unfold Ee;rw [hz,Iw h hk];simp [e,rW]
 ·exact hg.elim
theorem aup:yG P afI Nz:=by
 intro E vs us v h hg
 match vs,hg with
 | [.ptr b off],hg=>
  obtain ⟨y,rfl,h1⟩:=h.fN;have hg:KV.ptr b off=v:=hg;subst hg;have q:=h1;obtain ⟨x,e,rfl⟩:=h1.j9;exact ⟨_,rfl,q⟩
 | [.tp T Tc i k es acc],hg=>
  obtain ⟨y,rfl,h1⟩:=h.fN;have hg:KV.tp T Tc i k es acc=v:=hg;subst hg;have q:=h1;obtain ⟨_,_,_,_,_,b,off,r,rfl,_⟩:=h1.NV;exact ⟨_,rfl,q⟩
 | [.ap T Tc b i k],hg=>
  obtain ⟨y,rfl,h1⟩:=h.fN;have hg:KV.ap T Tc b i k=v:=hg;subst hg;have q:=h1;obtain ⟨x,L,N,_,_,_,rfl⟩:=h1.JZ;exact ⟨_,rfl,q⟩
 | [.fn (.func f) a b],hg=>
  obtain ⟨y,rfl,h1⟩:=h.fN;have hg:KV.fn (.func f) a b=v:=hg;subst hg;have q:=h1;obtain ⟨l,m,rfl,_⟩:=h1.JY;exact ⟨_,rfl,q⟩
theorem QE {s ft:TypeId} {off:Nat} (h:aeY P s off ft=true):∀ m c,(bB P ft).ks[m]? = some c->(bB P s).ks[off+m]? = some c:=by
 unfold aeY at h;have key:∀ (a b:List CK),El a b=true->a=b:=by
  intro a
  induction a with
  | nil=>intro b hb; cases b <;> simp_all [El]
  | cons x xs ih=>
   intro b hb;cases b with
   | nil=>simp [El] at hb
   | cons y ys=>
    simp only [El,aA] at hb;rw [ih ys hb.2];congr 1;cases x <;> cases y <;> simp_all [as9]
 split at h
 ·rename_i l e
  obtain ⟨rfl,hl⟩:=SK e;have:=key _ _ h;intro m c hm;rw [<- this,pH] at hm;split at hm
  ·rwa [Mp,pS] at hm
  ·simp at hm
 ·simp at h
theorem aiZ {s ft:TypeId} {off:Nat} {Aq:Bool} (VM:Aq=aeY P s off ft):yG P (acf s off ft Aq) (Qj off):=by
 intro E vs us v h hg
 match vs,hg with
 | [.ptr b o],hg=>
  obtain ⟨y,rfl,h1⟩:=h.fN;have hg:KV.ptr b (o+off)=v:=hg;subst hg;obtain ⟨x,e,rfl⟩:=h1.j9;exact ⟨_,rfl,.BO e⟩
 | [.tp T Tc i k es acc],hg=>
  obtain ⟨y,rfl,h1⟩:=h.fN;obtain ⟨hc,hg⟩:=bf.cond hg;have hg:KV.tp T ft i (k+off) es acc=v:=hg;subst hg;simp only [aA] at hc;have:=bu hc.1;subst this;obtain ⟨ht,bK,h2,hi,hw,b,o,r,rfl,h4,h5⟩:=h1.NV;refine ⟨_,rfl,?_⟩;simp only [VK];refine ⟨ht,bK,h2,hi,⟨fun m c hm=>?_⟩,b,o,r,by simp only [Value.pointer.injEq,di,Addr.mk.injEq,and_true,true_and]; omega,h4,h5⟩;have hp:=QE (VM ▸ hc.2) m c hm;have:=hw.is _ _ hp;rwa [show k+(off+m)=k+off+m by omega] at this
 | [.ap T Tc b i k],hg=>
  obtain ⟨y,rfl,h1⟩:=h.fN;obtain ⟨hc,hg⟩:=bf.cond hg;have hg:KV.ap T ft b i (k+off)=v:=hg;subst hg;simp only [aA] at hc;have:=bu hc.1;subst this;obtain ⟨x,L,N,h2,hw,hi,rfl⟩:=h1.JZ;refine ⟨_,rfl,.atc ⟨x,L,N,h2,⟨fun m c hm=>?_⟩,hi,by simp only [Value.pointer.injEq,di,Addr.mk.injEq,and_true,true_and]; omega⟩⟩;have hp:=QE (VM ▸ hc.2) m c hm;have:=hw.is _ _ hp;rwa [show k+(off+m)=k+off+m by omega] at this
theorem ank {t:TypeId} {cs:List KV} {cu:List Value} {off:Nat} {v:KV} (h:bC P E cs cu) (e:aaz P t cs off=some v):∃ u,partOf P t cu off=some u/\VK P E v u:=by
 unfold aaz at e;unfold partOf;split at e
 ·rename_i ha
  rw [ha];obtain ⟨n,hn,e⟩:=dh.1 e;obtain ⟨l,hl,rfl⟩:=cS.1 e;obtain ⟨r,hr,hv,_⟩:=h.yA hl;exact ⟨.agg ⟨r⟩,by simp [hn,hr],.rW hv⟩
 ·rename_i ha
  rw [ha];rw [Mp] at e;have hd:=h.drop off;cases hc:cs.drop off with
  | nil=>rw [hc] at e; simp at e
  | cons x xs=>
   rw [hc] at e hd;simp at e;subst e;obtain ⟨y,ys,e2,h1,_⟩:=hd.cons_inv;exact ⟨y,by simp [uO,e2],h1⟩
 ·simp at e
theorem ar1 {fd:Field} : yG P (aqO P fd) (ala P fd):=by
 intro E vs us v h hg
 match vs,hg with
 | [.agg cs],hg=>
  obtain ⟨y,rfl,h1⟩:=h.fN;obtain ⟨l,rfl,h2⟩:=h1.mi;exact ank h2 hg.of
theorem Ck {i:Int} {n:Nat} (h:inR i n=true):∃ m,i = .ofNat m/\m < n/\i.toNat=m:=by
 simp only [inR,aA,o7] at h;obtain ⟨m,rfl⟩:=Int.eq_ofNat_of_zero_le h.1;exact ⟨m,rfl,by omega,rfl⟩
theorem rj {m n:Nat} (h:m < n):mf (.ofNat m) n=some m:=by
 have:Nat.blt m n=true:=by rw [cq]; exact h
 simp [mf,this]
theorem bf.lQ {α:Type} {c:Bool} {u v:α} (h:bf (.lQ c u) v):c=true/\u=v:=h
theorem acj {t e:TypeId} {len n m:Nat} (hq:El (bB P t).ks (dI (bB P e).ks len)=true) (hn:(bB P e).ks.length=n) (hm:m < len):∀ a c,(bB P e).ks[a]? = some c->(bB P t).ks[m * n+a]? = some c:=by
 intro a c ha;have key:∀ (l:List CK) (Mr m a:Nat) (c:CK),m < Mr->l[a]? = some c->(dI l Mr)[m * l.length+a]? = some c:=by
  intro l Mr
  induction Mr with
  | zero=>intro m a c hm; omega
  | succ Mr ih=>
   intro m a c hm hl;have bG:a < l.length:=(dq.1 hl).1;cases m with
   | zero=>simp only [dI,Nat.zero_mul,bM]; rw [r7 bG]; exact hl
   | succ m=>
    simp only [dI];rw [uC (by rw [Nat.succ_mul]; omega),show (m+1) * l.length+a - l.length=m * l.length+a by rw [Nat.succ_mul]; omega];exact ih m a c (by omega) hl
 have awg:∀ (a b:List CK),El a b=true->a=b:=by
  intro a
  induction a with
  | nil=>intro b hb; cases b <;> simp_all [El]
  | cons x xs ih=>
   intro b hb;cases b with
   | nil=>simp [El] at hb
   | cons y ys=>
    simp only [El,aA] at hb;rw [ih ys hb.2];congr 1;cases x <;> cases y <;> simp_all [as9]
 have h6:=key (bB P e).ks len m a c hm ha;rw [<- awg _ _ hq,hn] at h6;exact h6
theorem alv {t e:TypeId} {len n:Nat} : yG P (afJ P t len n e) (Vn len n):=by
 intro E vs us v h hg
 match vs,hg with
 | [.ptr b o,.int k i],hg=>
  have hg:bf (cond (Nat.ble len 8) (aqP i (fun j=>.ok (.ptr b (o+j * n))) len 0) (.lQ (inR i len) (.ptr b (o+i.toNat * n)))) v:=hg;obtain ⟨x,y,rfl,h1,h2⟩:=h.lR;obtain ⟨x,e,rfl⟩:=h1.j9;have:=h2.cU; subst this;have key:∃ m:Nat,i=(m:Int)/\m < len/\v = .ptr b (o+m * n):=by
   cases hb:Nat.ble len 8 with
   | true=>rw [hb,ak] at hg; obtain ⟨m,_,h3,h4,h5⟩:=bf.at hg; exact ⟨m,h4,by omega,(show KV.ptr b (o+m * n)=v from h5).symm⟩
   | false=>rw [hb,ba] at hg; obtain ⟨hc,rfl⟩:=bf.lQ hg; obtain ⟨m,rfl,hm,VN⟩:=Ck hc; exact ⟨m,rfl,hm,by rw [VN]⟩
  obtain ⟨m,rfl,hm,rfl⟩:=key;refine ⟨_,?_,.BO e⟩;show (mf (.ofNat m) len).bind _=_;rw [rj hm]; rfl
 | [.tp T Tc j k es acc,.int q i],hg=>
  obtain ⟨x,y,rfl,h1,h2⟩:=h.lR;obtain ⟨uR,hg⟩:=bf.cond hg;obtain ⟨hc,rfl⟩:=bf.lQ hg;have:=h2.cU; subst this;obtain ⟨m,rfl,hm,VN⟩:=Ck hc;rw [VN];simp only [aA] at uR;have:=bu uR.1.1;subst this;have hn:(bB P e).ks.length=n:=bu uR.2;obtain ⟨ht,bK,h3,hi,hw,b,o,r,rfl,h4,h5⟩:=h1.NV;refine ⟨_,by (show (mf (.ofNat m) len).bind _=_); rw [rj hm]; rfl,?_⟩;simp only [VK];refine ⟨ht,bK,h3,hi,⟨fun a c ha=>?_⟩,b,o,r,by simp only [Value.pointer.injEq,di,Addr.mk.injEq,and_true,true_and]; omega,h4,h5⟩;have h6:=acj uR.1.2 hn hm a c ha;have:=hw.is _ _ h6;rwa [show k+(m * n+a)=k+m * n+a by omega] at this
 | [.ap T Tc b j k,.int q i],hg=>
  obtain ⟨x,y,rfl,h1,h2⟩:=h.lR;obtain ⟨uR,hg⟩:=bf.cond hg;obtain ⟨hc,rfl⟩:=bf.lQ hg;have:=h2.cU; subst this;obtain ⟨m,rfl,hm,VN⟩:=Ck hc;rw [VN];simp only [aA] at uR;have:=bu uR.1.1;subst this;have hn:(bB P e).ks.length=n:=bu uR.2;obtain ⟨x,L,N,h3,hw,hi,rfl⟩:=h1.JZ;refine ⟨_,by (show (mf (.ofNat m) len).bind _=_); rw [rj hm]; rfl,.atc ⟨x,L,N,h3,⟨fun a c ha=>?_⟩,hi,by simp only [Value.pointer.injEq,di,Addr.mk.injEq,and_true,true_and]; omega⟩⟩;have h6:=acj uR.1.2 hn hm a c ha;have:=hw.is _ _ h6;rwa [show k+(m * n+a)=k+m * n+a by omega] at this
theorem anl {e n:Nat} {Aq:Bool} (VM:Aq=Nat.beq (bB P e).ks.length n):yG P (akn e n Aq) (aak n):=by
 intro E vs us v h hg
 match vs,hg with
 | [.sl b o len cap,.int k i],hg=>
  obtain ⟨x,y,rfl,h1,h2⟩:=h.lR;obtain ⟨hc,rfl⟩:=bf.lQ hg;obtain ⟨x,e,rfl⟩:=h1.SL;have:=h2.cU; subst this;obtain ⟨m,rfl,hm,VN⟩:=Ck hc;rw [VN];exact ⟨_,by (show (mf (.ofNat m) len).bind _=_); rw [rj hm]; rfl,.BO e⟩
 | [.ts T mk len es acc,.int q i],hg=>
  obtain ⟨x,y,rfl,h1,h2⟩:=h.lR;obtain ⟨uR,hg⟩:=bf.cond hg;obtain ⟨hc,rfl⟩:=bf.lQ hg;have:=h2.cU; subst this;obtain ⟨m,rfl,hm,VN⟩:=Ck hc;rw [VN];simp only [aA] at uR;have:=bu uR.1;subst this;have hn:(bB P T).ks.length=n:=bu (VM ▸ uR.2);obtain ⟨ht,bK,h3,a,cap,rfl,h4,h5,h6⟩:=h1.mD;rcases h5 with ⟨_,h0⟩ | ⟨b,off,r,rfl,h7,h8,h9⟩
  ·omega
  ·refine ⟨_,by (show (mf (.ofNat m) len).bind _=_); rw [rj hm]; rfl,?_⟩
   have hl:=ht.len;simp only [VK];refine ⟨⟨rfl,fun i hi=>ht.acc i (by omega),ht.typed⟩,bK,h3,by omega,⟨fun a c ha=>by simpa using ha⟩,b,off,r,?_,h7,h9⟩;simp only [bD,hn,Value.pointer.injEq,di,Addr.mk.injEq,and_true,true_and];omega
 | [.al T b o len,.int q i],hg=>
  obtain ⟨x,y,rfl,h1,h2⟩:=h.lR;obtain ⟨uR,hg⟩:=bf.cond hg;obtain ⟨hc,rfl⟩:=bf.lQ hg;have:=h2.cU; subst this;obtain ⟨m,rfl,hm,VN⟩:=Ck hc;rw [VN];simp only [aA] at uR;have:=bu uR.1;subst this;have hn:(bB P T).ks.length=n:=bu (VM ▸ uR.2);rcases h1.zb with ⟨h0,_⟩ | ⟨x,L,N,c,h3,rfl,h4,h5,h6⟩
  ·omega
  ·refine ⟨_,by (show (mf (.ofNat m) len).bind _=_); rw [rj hm]; rfl,.atc ⟨x,L,N,h3,⟨fun a c ha=>by simpa using ha⟩,by omega,?_⟩⟩
   simp only [bD,hn,Value.pointer.injEq,di,Addr.mk.injEq,and_true,true_and];rw [Nat.add_mul]; omega
theorem alw {len n:Nat} {e:TypeId} : yG P (VB P len n e) (Vo P len n e):=by
 intro E vs us v h hg
 match vs,hg with
 | [.agg cs,.int k i],hg=>
  obtain ⟨x,y,rfl,h1,h2⟩:=h.lR;obtain ⟨l,rfl,h3⟩:=h1.mi;have:=h2.cU; subst this;simp only [VB] at hg;have key:∃ m:Nat,i=(m:Int)/\m < len/\aaz P e cs (m * n)=some v:=by
   cases hb:Nat.ble len 8 with
   | true=>rw [hb,ak] at hg; obtain ⟨m,_,h3,h4,h5⟩:=bf.at hg; exact ⟨m,h4,by omega,bf.of h5⟩
   | false=>
    rw [hb,ba] at hg;split at hg
    ·rename_i u hu
     obtain ⟨hc,rfl⟩:=bf.lQ hg;obtain ⟨m,rfl,hm,VN⟩:=Ck hc;rw [VN] at hu;exact ⟨m,rfl,hm,hu⟩
    ·exact hg.elim
  obtain ⟨m,rfl,hm,hu⟩:=key;obtain ⟨w,h4,h5⟩:=ank h3 hu;exact ⟨w,by (show (mf (.ofNat m) len).bind _=_); rw [rj hm]; exact h4,h5⟩
theorem alx:yG P afK Vp:=by
 intro E vs us v h hg
 match vs,hg with
 | [.str s,.int k i],hg=>
  obtain ⟨x,y,rfl,h1,h2⟩:=h.lR;have:=h1.uX; subst this;have:=h2.cU; subst this;obtain ⟨hc,rfl⟩:=bf.lQ hg;obtain ⟨m,rfl,hm,VN⟩:=Ck hc;rw [VN];have hl:m < s.data.toList.length:=by simpa using hm
  refine ⟨.int .u8 (s.data.toList.getD m 0).toNat,?_,.mkInt⟩;show (mf (.ofNat m) s.size).bind _=_;rw [rj hm];show (s.data.toList[m]?).map _=_;simp [List.getD,dr hl]
theorem afV {α:Type} : ∀ (n:Nat) (l:List α),ako n l=l[n]?
 | n,[]=>by cases n <;> rfl
 | 0,x::_=>rfl
 | n+1,_::xs=>by simp [ako,afV n xs]
theorem anm {i:Nat} : yG P (akp i) (LW i):=by
 intro E vs us v h hg
 match vs,hg with
 | [.nb ws],hg=>
  obtain ⟨y,rfl,h1⟩:=h.fN;obtain ⟨l,rfl,h2⟩:=h1.QC;have:=hg.of;rw [afV] at this;obtain ⟨u,h3,h4⟩:=h2.get this;exact ⟨u,by simpa [LW] using h3,h4⟩
theorem ar2:yG P aqQ aeR:=by
 intro E vs us v h hg
 match vs,hg with
 | [.ts T m n es acc],hg=>
  obtain ⟨y,rfl,h1⟩:=h.fN;obtain ⟨_,_,_,a,cap,rfl,_⟩:=h1.mD;have hg:KV.int .i64 n=v:=hg;subst hg;exact ⟨_,rfl,.mkInt⟩
 | [.sl b o n c],hg=>
  obtain ⟨y,rfl,h1⟩:=h.fN;obtain ⟨x,_,rfl⟩:=h1.SL;have hg:KV.int .i64 n=v:=hg;subst hg;exact ⟨_,rfl,.mkInt⟩
 | [.al T b o n],hg=>
  obtain ⟨y,rfl,h1⟩:=h.fN;obtain ⟨a,c,rfl⟩:=h1.zb.slice;have hg:KV.int .i64 n=v:=hg;subst hg;exact ⟨_,rfl,.mkInt⟩
 | [.lY],hg=>
  obtain ⟨y,rfl,h1⟩:=h.fN;have:=h1.pZ; subst this;have hg:KV.int .i64 0=v:=hg;subst hg;exact ⟨_,rfl,.mkInt⟩
theorem aps:yG P am8 Xo:=by
 intro E vs us v h hg
 match vs,hg with
 | [.str s],hg=>
  obtain ⟨y,rfl,h1⟩:=h.fN;have:=h1.uX; subst this;have hg:KV.int .i64 s.size=v:=hg;subst hg;exact ⟨_,rfl,.mkInt⟩
theorem ar3:yG P aqM afo:=by
 intro E vs us v h hg
 match vs,hg with
 | [.str s],hg=>
  obtain ⟨y,rfl,h1⟩:=h.fN;have:=h1.uX; subst this;have hg:KV.str s=v:=hg;subst hg;exact ⟨_,rfl,.mkStr⟩
theorem aly {f:Fn} {k:Nat} : yG P (NR f k) (Ic f k):=by
 intro E vs us v h hg;unfold NR at hg;split at hg
 ·rename_i l hl
  have hg:KV.fn f l (Ej k vs)=v:=hg;subst hg;have uz:yA k (Ej 0 vs)=some l:=hl;obtain ⟨r,h1,h2,_⟩:=h.yA uz;have h1:takeN k us=some r:=h1;refine ⟨_,by simp [Ic,h1]; rfl,.ani h2 ?_⟩;rw [Mp,uO];exact h.drop k
 ·exact hg.elim
theorem ar4 {src dst:TypeId} {k k' : IntKind} (h2:P.underlying dst=some (.int k)) (h3:P.underlying src=some (.int k')):yG P (aqL k) (LV P src dst):=by
 intro E vs us v h hg
 match vs,hg with
 | [.int j n],hg=>
  obtain ⟨y,rfl,h1⟩:=h.fN;have:=h1.cU; subst this;have hg:KV.int k (k.wrap n)=v:=hg;subst hg;refine ⟨.int k (k.wrap n),?_,.mkInt⟩;simp only [LV,h2];simp [convert,underlying,program,Bind.bind,Sem.bind,dy,h2,h3,Conv.intToInt,Pure.pure]
end Go.K
end
section
namespace Go.K
open Go Go.aB
variable {P:Program} {E:Env}
theorem fT {α β:Type} : ∀ {s:Sem α} {f:α->Sem β} {a:α},dy P s=some a->dy P (s >>= f)=dy P (f a)
 | .pure x,f,a,h=>by simp [dy] at h; subst h; rfl
 | .program k,f,a,h=>by
  have:=fT (s:=k P) (f:=f) (a:=a) (by simpa [dy] using h);exact this
 | .mark m k,f,a,h=>by
  have:=fT (s:=k) (f:=f) (a:=a) (by simpa [dy] using h);exact this
 | .load ..,_,_,h | .store ..,_,_,h | .new ..,_,_,h | .shape ..,_,_,h | .freeze ..,_,_,h | .frozen ..,_,_,h | .getObj ..,_,_,h
 | .setObj ..,_,_,h | .choose ..,_,_,h | .sys ..,_,_,h | .halt ..,_,_,h=>by simp [dy] at h
theorem Ix {α β:Type} {init stop:β} {B:α->β->Sem (ForInStep β)} {g:α->Bool} : ∀ {l:List α},(∀ x∈l,dy P (B x init)=some (if g x=true then .yield init else .done stop))->
  dy P (forIn l init B)=some (if l.all g=true then init else stop)
 | [],_=>rfl
 | x::l,h=>by
  have hx:=h x (by simp);rw [List.forIn_cons,fT hx];cases hg:g x with
  | true=>
   simp only [if_true];rw [Ix fun y hy=>h y (by simp [hy])];simp [hg]
  | false=>simp [hg]; rfl
theorem Aw {t:TypeId} {d:TypeDesc} (h:P.underlying t=some d):dy P (underlying t)=some d:=by
 simp [underlying,program,Bind.bind,Sem.bind,dy,h,Pure.pure]
theorem XQ {t:TypeId} {i:TypeInfo} (h:P.info? t=some i):dy P (typeInfo t)=some i:=by
 simp [typeInfo,program,Bind.bind,Sem.bind,dy,h,Pure.pure]
theorem cK {α:Type} (a:α):dy P (pure a)=some a:=rfl
theorem Pk {t:TypeId} {i:TypeInfo} (h:P.info? t=some i):dy P (sizeOf t)=some i.size:=by
 unfold sizeOf;rw [fT (XQ h)];rfl
theorem afW {n:Nat} {t:TypeId} {L:Lay} (h:lay P n t=some L):∃ d,P.underlying t=some d/\L.agg=aeQ d/\(L.agg=false->L.ks.length=1):=by
 cases n with
 | zero=>simp [lay] at h
 | succ n=>
  simp only [lay] at h;split at h <;> rename_i hu
  ·simp at h; subst h; exact ⟨_,hu,rfl,fun _=>rfl⟩
  ·simp at h; subst h; exact ⟨_,hu,rfl,fun _=>rfl⟩
  ·simp at h; subst h; exact ⟨_,hu,rfl,fun _=>rfl⟩
  ·simp at h; subst h; exact ⟨_,hu,rfl,fun _=>rfl⟩
  ·obtain ⟨ks,_,rfl⟩:=cS.1 h; exact ⟨_,hu,rfl,fun h=>by simp at h⟩
  ·obtain ⟨ks,_,rfl⟩:=cS.1 h; exact ⟨_,hu,rfl,fun h=>by simp at h⟩
  ·rename_i d h1 h2 h3 h4 h5 h6
   simp at h; subst h;refine ⟨_,hu,?_,fun _=>rfl⟩;cases d <;> first | rfl | simp_all
  ·simp at h
def C0 (agg:Bool) (l:List Value):Value:=cond agg (.agg ⟨l⟩) (l.headD undef)
theorem T5 {n:Nat} {t:TypeId} {L:Lay} {i:TypeInfo} {cs:Array Value} {off:Nat} (h:lay P n t=some L) (hi:P.info? t=some i) (hs:i.size=L.ks.length) (hl:off+L.ks.length<=cs.size) :
  dy P (part t cs off)=some (C0 L.agg ((cs.toList.drop off).take L.ks.length)):=by
 obtain ⟨d,hu,ha,h1⟩:=afW h;have awh:dy P (isAgg t)=some (aeQ d):=by
  unfold isAgg;rw [fT (Aw hu)];cases d <;> rfl
 unfold part;rw [fT awh];cases hd:aeQ d with
 | true=>
  rw [hd] at ha;simp only [if_true];rw [fT (Pk hi)];simp only [cK,ha,C0,ak,hs];congr 2;apply Array.ext';simp
 | false=>
  rw [hd] at ha;have h1:=h1 ha;have bG:off < cs.size:=by omega
  simp only [JM,if_false];rw [Array.getElem?_eq_getElem bG];simp only [cK,ha,C0,ba,h1];congr 1;have:cs.toList.drop off=cs.toList[off]::cs.toList.drop (off+1):=List.drop_eq_getElem_cons (by simpa using bG);rw [this];simp
theorem XR:∀ {xs ys:List KV} {b:Bool},vJ xs ys=some b->xs.length=ys.length
 | [],[],_,_=>rfl
 | [],_::_,_,h=>by simp [vJ] at h
 | _::_,[],_,h=>by simp [vJ] at h
 | x::xs,y::ys,b,h=>by
  simp only [vJ] at h;split at h
  ·rename_i h2; simp [XR h2]
  ·simp at h
theorem Cl:∀ (n:Nat) {xs ys:List KV} {b:Bool},vJ xs ys=some b->∃ b1 b2,vJ (xs.take n) (ys.take n)=some b1/\vJ (xs.drop n) (ys.drop n)=some b2/\b=(b1&&b2)
 | 0,xs,ys,b,h=>⟨true,b,by simp [vJ],by simpa using h,by simp⟩
 | n+1,[],[],b,h=>by simp [vJ] at h; subst h; exact ⟨true,true,by simp [vJ],by simp [vJ],rfl⟩
 | n+1,[],_::_,b,h=>by simp [vJ] at h
 | n+1,_::_,[],b,h=>by simp [vJ] at h
 | n+1,x::xs,y::ys,b,h=>by
  simp only [vJ] at h;split at h
  ·rename_i a c h1 h2
   simp at h;obtain ⟨b1,b2,h3,h4,h5⟩:=Cl n h2;refine ⟨a&&b1,b2,by simp [vJ,h1,h3],by simpa using h4,?_⟩;rw [<- h,h5,Bool.and_assoc]
  ·simp at h
def Eo (xs ys:List KV) (off n:Nat):Bool:=(vJ ((xs.drop off).take n) ((ys.drop off).take n)).getD false
theorem akv {xs ys:List KV} {b:Bool} (h:vJ xs ys=some b) (off n:Nat):vJ ((xs.drop off).take n) ((ys.drop off).take n)=some (Eo xs ys off n):=by
 obtain ⟨_,_,_,h2,_⟩:=Cl off h;obtain ⟨b1,_,h3,_,_⟩:=Cl n h2;unfold Eo;rw [h3]; rfl
theorem wM:∀ {a b:List CK} {xs:List KV},aK (a++b) xs=true->aK a (xs.take a.length)=true/\aK b (xs.drop a.length)=true
 | [],b,xs,h=>by simpa [aK] using h
 | c::a,b,[],h=>by simp [aK] at h
 | c::a,b,x::xs,h=>by
  simp only [List.cons_append,aK,aA] at h;obtain ⟨h1,h2⟩:=wM h.2;simp [aK,h.1,h1,h2]
theorem sF:∀ {a:List CK} {xs:List KV},aK a xs=true->xs.length=a.length
 | [],[],_=>rfl
 | [],_::_,h=>by simp [aK] at h
 | _::_,[],h=>by simp [aK] at h
 | c::a,x::xs,h=>by
  simp only [aK,aA] at h;simp [sF h.2]
theorem afX {lf:TypeId->Option Lay} {xs ys:List KV} {b:Bool} (he:vJ xs ys=some b):∀ {fs:List Field} {off:Nat} {ks:List CK},Qv lf fs off=some ks->aK ks (xs.drop off)=true->aK ks (ys.drop off)=true->off+ks.length=xs.length->
  (∀ f∈fs,∃ L,lf f.type=some L/\f.offset+L.ks.length<=xs.length/\aK L.ks ((xs.drop f.offset).take L.ks.length)=true/\aK L.ks ((ys.drop f.offset).take L.ks.length)=true)/\
  vJ (xs.drop off) (ys.drop off)=some (fs.all fun f=>Eo xs ys f.offset (((lf f.type).map (·.ks.length)).getD 0))
 | [],off,ks,h,_,_,hl=>by
  simp [Qv] at h;subst h;have h1:xs.drop off = []:=by simp at hl; simp; omega
  have h2:ys.drop off = []:=by have:=XR he; simp at hl; simp; omega
  refine ⟨by simp,?_⟩;rw [h1,h2]; rfl
 | f::fs,off,ks,h,hk,yq,hl=>by
  simp only [Qv] at h;obtain ⟨Pj,h⟩:=NX h;have Pj:=bu Pj;obtain ⟨L,h1,h⟩:=dh.1 h;obtain ⟨r,h2,rfl⟩:=cS.1 h;obtain ⟨k1,k2⟩:=wM hk;obtain ⟨k1',k2'⟩:=wM yq;rw [List.drop_drop] at k2 k2';simp only [nH] at hl;obtain ⟨h3,h4⟩:=afX he h2 k2 k2' (by omega);refine ⟨fun g hg=>?_,?_⟩
  ·rcases fA.1 hg with rfl | hg
   ·exact ⟨L,h1,by omega,by rw [Pj]; exact k1,by rw [Pj]; exact k1'⟩
   ·exact h3 g hg
  ·obtain ⟨_,_,_,h5,_⟩:=Cl off he
   obtain ⟨c1,c2,h6,h7,h8⟩:=Cl L.ks.length h5;rw [List.drop_drop,List.drop_drop] at h7;rw [h4] at h7;simp at h7;have h9:=akv he off L.ks.length;rw [h6] at h9;simp at h9;rw [h5,h8];simp only [List.all_cons,h1,Option.map_some,ee,Pj,<- h9];rw [<- h7]
theorem Bp {α:Type} (l:List α):∀ n,(dI l n).length=n * l.length
 | 0=>by simp [dI]
 | n+1=>by rw [dI,nH,Bp l n,Nat.succ_mul]; omega
theorem afY {xs ys:List KV} {l:List CK} : ∀ {len off:Nat} {b:Bool},vJ (xs.drop off) (ys.drop off)=some b->aK (dI l len) (xs.drop off)=true->aK (dI l len) (ys.drop off)=true->
  (∀ i,i < len->aK l ((xs.drop (off+i * l.length)).take l.length)=true/\aK l ((ys.drop (off+i * l.length)).take l.length)=true)/\
  vJ (xs.drop off) (ys.drop off)=some ((List.range' 0 len).all fun i=>Eo xs ys (off+i * l.length) l.length)
 | 0,off,b,h,hk,yq=>by
  have h1:xs.drop off = []:=by have:=sF hk; simp only [dI,List.length_nil] at this; exact pR.1 this
  have h2:ys.drop off = []:=by have:=sF yq; simp only [dI,List.length_nil] at this; exact pR.1 this
  refine ⟨fun i hi=>by omega,?_⟩;rw [h1,h2]; rfl
 | len+1,off,b,h,hk,yq=>by
  obtain ⟨c1,c2,h1,h2,h3⟩:=Cl l.length h;rw [List.drop_drop,List.drop_drop] at h2;obtain ⟨k1,k2⟩:=wM (a:=l) (b:=dI l len) hk;obtain ⟨k1',k2'⟩:=wM (a:=l) (b:=dI l len) yq;rw [List.drop_drop] at k2 k2';obtain ⟨h5,h4⟩:=afY (len:=len) (off:=off+l.length) h2 k2 k2';refine ⟨fun i hi=>?_,?_⟩
  ·cases i with
   | zero=>simpa using ⟨k1,k1'⟩
   | succ i=>
    have:=h5 i (by omega);rwa [show off+l.length+i * l.length=off+(i+1) * l.length by rw [Nat.succ_mul]; omega] at this
  rw [h2] at h4;simp at h4;have hw:Eo xs ys off l.length=c1:=by unfold Eo; rw [h1]; rfl
  rw [h,h3];rw [List.range'_succ];simp only [List.all_cons,Nat.zero_mul,CH,hw,bM];congr 2;rw [h4];have:List.range' 1 len=(List.range' 0 len).map (1 + ·):=by rw [List.map_add_range']
  rw [this,List.all_map];apply congrArg (fun f=>List.all (List.range' 0 len) f);funext i;simp only [Function.comp];congr 1;rw [Nat.add_mul]; omega
theorem QF:∀ (n d:Nat) (t:TypeId) (L:Lay) (cx cy:List KV) (xs ys:List Value) (b:Bool),G2 P n t=true->lay P n t=some L->n<=d->bC P E cx xs->bC P E cy ys->aK L.ks cx=true->aK L.ks cy=true->
  vJ cx cy=some b->dy P (Op.equalIn d t (C0 L.agg xs) (C0 L.agg ys))=some b
 | 0,_,_,_,_,_,_,_,_,h,_,_,_,_,_,_,_=>by simp [G2] at h
 | n+1,0,_,_,_,_,_,_,_,_,_,h,_,_,_,_,_=>by omega
 | n+1,d+1,t,L,cx,cy,xs,ys,b,h,hL,hd,hx,hy,hkx,hky,he=>by
  have hl:=sF hkx;have hly:=sF hky;have hlx' : xs.length=L.ks.length:=by rw [hx.length,hl]
  have hly' : ys.length=L.ks.length:=by rw [hy.length,hly]
  have aqV:∀ s,G2 P n s=true->∃ i l,P.info? s=some i/\lay P n s=some l/\i.size=l.ks.length:=by
   intro s hs;cases n with
   | zero=>simp [G2] at hs
   | succ n=>
    simp only [G2,aA] at hs;have h1:=hs.1;split at h1
    ·rename_i i l e1 e2
     exact ⟨i,l,e1,e2,bu h1⟩
    ·simp at h1
  have auT:∀ (s:TypeId) (l:Lay) (i:TypeInfo) (off:Nat),G2 P n s=true->lay P n s=some l->P.info? s=some i->i.size=l.ks.length->off+l.ks.length<=cx.length->
    aK l.ks ((cx.drop off).take l.ks.length)=true->aK l.ks ((cy.drop off).take l.ks.length)=true->
    (do
     let u <- part s ⟨xs⟩ off
     let v <- part s ⟨ys⟩ off
     Op.equalIn d s u v:Sem Bool)=(do
     let u <- part s ⟨xs⟩ off
     let v <- part s ⟨ys⟩ off
     Op.equalIn d s u v)/\dy P (part s ⟨xs⟩ off)=some (C0 l.agg ((xs.drop off).take l.ks.length))/\dy P (part s ⟨ys⟩ off)=some (C0 l.agg ((ys.drop off).take l.ks.length))/\
    dy P (Op.equalIn d s (C0 l.agg ((xs.drop off).take l.ks.length)) (C0 l.agg ((ys.drop off).take l.ks.length)))=some (Eo cx cy off l.ks.length):=by
   intro s l i off h1 h2 h3 h4 h5 h6 h7;refine ⟨rfl,?_,?_,?_⟩
   ·exact T5 h2 h3 h4 (by simp; omega)
   ·exact T5 h2 h3 h4 (by simp; omega)
   ·exact QF n d s l _ _ _ _ _ h1 h2 (by omega) ((hx.drop off).take _) ((hy.drop off).take _) h6 h7 (akv he off _)
  simp only [G2,aA] at h;have h2:=h.2;obtain ⟨dd,hu,ha,h1⟩:=afW hL;rw [hu] at h2;unfold Op.equalIn;rw [fT (Aw hu)];simp only [lay,hu] at hL;have XS:∀ c,L.ks = [c]->∃ x y u v,cx = [x]/\cy = [y]/\xs = [u]/\ys = [v]/\VK P E x u/\VK P E y v/\eqK x y=some b/\kindOk c x=true/\kindOk c y=true:=by
   intro c hc;rw [hc] at hl hly hkx hky
   match cx,cy,hl,hly with
   | [x],[y],_,_=>
    obtain ⟨u,rfl,h2⟩:=hx.fN;obtain ⟨v,rfl,h3⟩:=hy.fN;refine ⟨x,y,u,v,rfl,rfl,rfl,rfl,h2,h3,?_,by simpa [aK] using hkx,by simpa [aK] using hky⟩;simp only [vJ] at he;split at he
    ·rename_i a c h4 h5
     simp at h5;subst h5;simpa [h4] using he
    ·simp at he
  cases dd with
  | int k=>
   simp at hL;subst hL;obtain ⟨x,y,u,v,rfl,rfl,rfl,rfl,h3,h4,h5,h6,h7⟩:=XS _ rfl;cases x <;> simp [kindOk] at h6;cases y <;> simp [kindOk] at h7;subst h6 h7;have:=h3.cU; subst this;have:=h4.cU; subst this;simp [eqK] at h5;subst h5;simp [C0,cK]
  | bool=>
   simp at hL;subst hL;obtain ⟨x,y,u,v,rfl,rfl,rfl,rfl,h3,h4,h5,h6,h7⟩:=XS _ rfl;cases x <;> simp [kindOk] at h6;cases y <;> simp [kindOk] at h7;have:=h3.gi; subst this;have:=h4.gi; subst this;simp [eqK] at h5;subst h5;simp [C0,cK]
  | string=>
   simp at hL;subst hL;obtain ⟨x,y,u,v,rfl,rfl,rfl,rfl,h3,h4,h5,h6,h7⟩:=XS _ rfl;cases x <;> simp [kindOk] at h6;cases y <;> simp [kindOk] at h7;have:=h3.uX; subst this;have:=h4.uX; subst this;simp [eqK] at h5;subst h5;simp [C0,cK]
  | struct fs=>
   simp only [cS] at hL;obtain ⟨ks,ug,rfl⟩:=hL;simp only [aA,mz] at h2;obtain ⟨h3,h4⟩:=afX he ug (by simpa using hkx) (by simpa using hky) (by simpa using hl.symm);simp only [List.drop_zero] at h4;rw [he] at h4;simp only [di] at h4;simp only [C0,ak];rw [fT (a:=P) (by simp [program,dy])];simp only [h2.1,JM,if_false];rw [<- Array.forIn_toList];rw [fT (Ix (g:=fun f=>Eo cx cy f.offset (((lay P n f.type).map (·.ks.length)).getD 0)) (stop:=(some false,())) fun f hf=>?_)]
   ·rw [h4]
    cases (fs.toList.all fun f=>Eo cx cy f.offset (((lay P n f.type).map (·.ks.length)).getD 0)) <;> rfl
   ·have h5:=ij.1 h2.2 f hf
    simp only [aA,mz,beq_eq_false_iff_ne] at h5;rw [aY h5.1];obtain ⟨l,h6,h7,h8,h9⟩:=h3 f hf;obtain ⟨i,l',e1,e2,e3⟩:=aqV _ h5.2;rw [h6] at e2;simp at e2;subst e2;obtain ⟨_,w1,w2,w3⟩:=auT _ l i f.offset h5.2 h6 e1 e3 h7 h8 h9;rw [fT w1,fT w2,fT w3];simp only [h6,Option.map_some,ee];cases Eo cx cy f.offset l.ks.length <;> rfl
  | array len e=>
   simp only [cS] at hL;obtain ⟨l,Qp,rfl⟩:=hL;obtain ⟨h3,h4⟩:=afY (xs:=cx) (ys:=cy) (l:=l.ks) (len:=len) (off:=0) (by simpa using he) (by simpa using hkx) (by simpa using hky);simp only [List.drop_zero,bM] at h3 h4;rw [he] at h4;simp only [di] at h4;obtain ⟨i,l',e1,e2,e3⟩:=aqV _ h2;rw [Qp] at e2;simp at e2;subst e2;simp only [C0,ak];rw [fT (Pk e1)];rw [Std.Legacy.Range.forIn_eq_forIn_range'];rw [show List.range' [:len].start [:len].size [:len].step=List.range' 0 len from by simp [Std.Legacy.Range.size]];rw [fT (Ix (g:=fun i=>Eo cx cy (i * l.ks.length) l.ks.length) (stop:=(some false,())) fun j hj=>?_)]
   ·rw [h4]
    cases ((List.range' 0 len).all fun i=>Eo cx cy (i * l.ks.length) l.ks.length) <;> rfl
   ·have BQ:j < len:=by simpa using hj
    obtain ⟨k1,k2⟩:=h3 j BQ;have hle:j * l.ks.length+l.ks.length<=cx.length:=by
     rw [hl];simp only [Bp];rw [<- Nat.succ_mul];exact Nat.mul_le_mul_right _ BQ
    obtain ⟨_,w1,w2,w3⟩:=auT _ l i (j * l.ks.length) h2 Qp e1 e3 hle k1 k2;rw [e3];rw [fT w1,fT w2,fT w3];cases Eo cx cy (j * l.ks.length) l.ks.length <;> rfl
  | _=>simp at h2
theorem QG:∀ {ks:List CK} {cs:List KV} {l:List Value},aK ks cs=true->bC P E cs l->(∀ t,CK.slice t ∉ ks)->yv l=true
 | [],[],l,_,h,_=>by rw [h.cw]; rfl
 | [],_::_,_,h,_,_=>by simp [aK] at h
 | _::_,[],_,h,_,_=>by simp [aK] at h
 | c::ks,v::cs,l,h,hv,hn=>by
  obtain ⟨y,ys,rfl,h1,h2⟩:=hv.cons_inv;simp only [aK,aA] at h;have:=QG h.2 h2 (fun t ht=>hn t (by simp [ht]));simp only [yv,this,pT];cases c with
  | int k=>cases v <;> simp [kindOk] at h; have:=h1.cU; subst this; rfl
  | bool=>cases v <;> simp [kindOk] at h; have:=h1.gi; subst this; rfl
  | str=>cases v <;> simp [kindOk] at h; have:=h1.uX; subst this; rfl
  | slice t=>exact absurd (by simp) (hn t)
  | other=>cases v <;> simp [kindOk] at h
theorem QH:∀ (n:Nat) (t:TypeId) (L:Lay),G2 P n t=true->lay P n t=some L->∀ u,CK.slice u ∉ L.ks
 | 0,_,_,h,_,_=>by simp [G2] at h
 | n+1,t,L,h,hL,u=>by
  simp only [G2,aA] at h;have h2:=h.2;obtain ⟨dd,hu,_,_⟩:=afW hL;rw [hu] at h2;simp only [lay,hu] at hL;cases dd with
  | int k=>simp at hL; subst hL; simp
  | bool=>simp at hL; subst hL; simp
  | string=>simp at hL; subst hL; simp
  | struct fs=>
   simp only [cS] at hL;obtain ⟨ks,ug,rfl⟩:=hL;simp only [aA,ij] at h2;have key:∀ (l:List Field) (off:Nat) (ks:List CK),Qv (lay P n) l off=some ks->(∀ f∈l,G2 P n f.type=true)->CK.slice u ∉ ks:=by
    intro l
    induction l with
    | nil=>intro off ks h _; simp [Qv] at h; subst h; simp
    | cons f l ih=>
     intro off ks h hf;simp only [Qv] at h;obtain ⟨_,h⟩:=NX h;obtain ⟨L',h5,h⟩:=dh.1 h;obtain ⟨r,h6,rfl⟩:=cS.1 h;rw [nI];rintro (h7 | h7)
     ·exact QH n _ _ (hf f (by simp)) h5 u h7
     ·exact ih _ _ h6 (fun g hg=>hf g (by simp [hg])) h7
   exact key _ _ _ ug fun f hf=>(h2.2 f hf).2
  | array len e=>
   simp only [cS] at hL;obtain ⟨l,Qp,rfl⟩:=hL;have:=QH n e l h2 Qp u;have key:∀ m,CK.slice u ∉ dI l.ks m:=by
    intro m
    induction m with
    | zero=>simp [dI]
    | succ m ih=>simp only [dI,nI,not_or]; exact ⟨this,ih⟩
   exact key _
  | _=>simp at h2
theorem apt {t:TypeId} (h:G2 P 12 t=true):lay P 12 t=some (bB P t):=by
 simp only [G2,aA] at h;have h1:=h.1;unfold bB;split at h1
 ·rename_i i l e1 e2; rw [e2]; rfl
 ·simp at h1
theorem afZ {t:TypeId} {x y:KV} {b:Bool} {lit:Bool} {u v:Value} (hx:VK P E x u) (hy:VK P E y v) (h:aqJ P t x y=some b):pb P t lit u v=some b:=by
 unfold aqJ at h;split at h
 ·rename_i xs ys
  obtain ⟨hc,h⟩:=NX h;simp only [aA,mz] at hc;obtain ⟨⟨⟨⟨ha,h1⟩,h2⟩,h3⟩,h4⟩:=hc;obtain ⟨l,rfl,hl⟩:=hx.mi;obtain ⟨m,rfl,hm⟩:=hy.mi;have hL:=apt h1;have hns:=QH 12 t _ h1 hL;have hfx:flat (.agg ⟨l⟩)=true:=QG h3 hl hns;have hfy:flat (.agg ⟨m⟩)=true:=QG h4 hm hns;have hs:=QF 12 Op.maxDepth t (bB P t) xs ys l m b h1 hL (by unfold Op.maxDepth; omega) hl hm h3 h4 h;rw [ha] at hs;have hs:dy P (Op.equal t (.agg ⟨l⟩) (.agg ⟨m⟩))=some b:=hs;unfold pb;simp only [kr,Bn,h2,Fa,dk,ak];unfold eqV;split <;> simp_all
 ·rename_i a c
  split at h
  ·rename_i hu
   simp at h;subst h;have:=hx.gi; subst this;have:=hy.gi; subst this;have:dy P (Op.equal t (.bool a) (.bool c))=some (a==c):=by
    unfold Op.equal Op.maxDepth Op.equalIn;rw [fT (Aw hu)];rfl
   unfold pb;simp only [kr,Bn,dk,ak];unfold eqV;split <;> simp_all [flat]
  ·simp at h
 ·split at h
  ·rename_i e hu
   simp at h;subst h;have:=hx.pZ; subst this;have:=hy.pZ; subst this;simp [pb,kr,Bn,eqV,hu]
  ·simp at h
 ·rename_i T m n es acc
  split at h
  ·rename_i e hu
   cases hn:Nat.beq n 0 with
   | true=>rw [hn] at h; simp at h
   | false=>
    rw [hn] at h;simp at h;subst h;have:=hy.pZ; subst this;obtain ⟨_,bK,_,a,cap,rfl,_,hb,_⟩:=hx.mD;rcases hb with ⟨_,h0⟩ | ⟨b,off,r,rfl,_⟩
    ·subst h0; simp at hn
    ·simp [pb,kr,Bn,eqV,hu]
  ·simp at h
 ·rename_i T m n es acc
  split at h
  ·rename_i e hu
   cases hn:Nat.beq n 0 with
   | true=>rw [hn] at h; simp at h
   | false=>
    rw [hn] at h;simp at h;subst h;have:=hx.pZ; subst this;obtain ⟨_,bK,_,a,cap,rfl,_,hb,_⟩:=hy.mD;rcases hb with ⟨_,h0⟩ | ⟨b,off,r,rfl,_⟩
    ·subst h0; simp at hn
    ·simp [pb,kr,Bn,eqV,hu]
  ·simp at h
 ·split at h
  ·rename_i e hu
   simp at h;subst h;have:=hx.SM; subst this;have:=hy.SM; subst this;simp [pb,kr,Bn,eqV,hu]
  ·simp at h
 ·split at h
  ·rename_i e hu
   simp at h;subst h;have:=hy.SM; subst this;obtain ⟨x,_,rfl⟩:=hx.j9;simp [pb,kr,Bn,eqV,hu]
  ·simp at h
 ·split at h
  ·rename_i e hu
   simp at h;subst h;have:=hx.SM; subst this;obtain ⟨x,_,rfl⟩:=hy.j9;simp [pb,kr,Bn,eqV,hu]
  ·simp at h
 ·simp at h
theorem auq {op:BinOp} {t:TypeId} {lit:Bool} : yG P (as8 P op t) (tz P op t lit):=by
 intro E vs us w h hg;unfold as8 at hg;split at hg
 ·rename_i j a k b
  obtain ⟨x,y,rfl,h1,h2⟩:=h.lR;have:=h1.cU; subst this;have:=h2.cU; subst this;cases hs:am7 op with
  | true=>
   rw [hs,ak] at hg;cases op <;> simp [am7] at hs
   ·obtain ⟨hc,rfl⟩:=bf.lQ hg
    simp only [mz,decide_eq_false_iff_not] at hc;exact ⟨_,by simp [tz,binOp,Op.shift,hc,cK],.mkInt⟩
   ·obtain ⟨hc,rfl⟩:=bf.lQ hg
    simp only [mz,decide_eq_false_iff_not] at hc;exact ⟨_,by simp [tz,binOp,Op.shift,hc,cK],.mkInt⟩
  | false=>
   rw [hs,ba] at hg;obtain ⟨hjk,hz⟩:=hg.cond;clear hg;simp only [o7] at hjk;subst hjk;cases op with
   | shl=>simp [am7] at hs
   | shr=>simp [am7] at hs
   | quo=>
    obtain ⟨hc,rfl⟩:=bf.lQ hz;simp only [mz,decide_eq_false_iff_not] at hc;exact ⟨_,by simp [tz,binOp,Op.intDiv,hc,cK],.mkInt⟩
   | rem=>
    obtain ⟨hc,rfl⟩:=bf.lQ hz;simp only [mz,decide_eq_false_iff_not] at hc;exact ⟨_,by simp [tz,binOp,Op.intDiv,hc,cK],.mkInt⟩
   | add=>have hz:KV.int _ _=w:=hz; subst hz; exact ⟨_,by simp [tz,binOp,Op.intArith,cK],.mkInt⟩
   | sub=>have hz:KV.int _ _=w:=hz; subst hz; exact ⟨_,by simp [tz,binOp,Op.intArith,cK],.mkInt⟩
   | mul=>have hz:KV.int _ _=w:=hz; subst hz; exact ⟨_,by simp [tz,binOp,Op.intArith,cK],.mkInt⟩
   | and=>have hz:KV.int _ _=w:=hz; subst hz; exact ⟨_,by simp [tz,binOp,Op.intBits,cK],.mkInt⟩
   | or=>have hz:KV.int _ _=w:=hz; subst hz; exact ⟨_,by simp [tz,binOp,Op.intBits,cK],.mkInt⟩
   | xor=>have hz:KV.int _ _=w:=hz; subst hz; exact ⟨_,by simp [tz,binOp,Op.intBits,cK],.mkInt⟩
   | andNot=>have hz:KV.int _ _=w:=hz; subst hz; exact ⟨_,by simp [tz,binOp,Op.intBits,cK],.mkInt⟩
   | eql=>have hz:KV.bool _=w:=hz; subst hz; exact ⟨_,by simp [tz,binOp,Op.intCmp,cK],.tE⟩
   | neq=>have hz:KV.bool _=w:=hz; subst hz; exact ⟨_,by simp [tz,binOp,Op.intCmp,cK],.tE⟩
   | lss=>have hz:KV.bool _=w:=hz; subst hz; exact ⟨_,by simp [tz,binOp,Op.intCmp,cK],.tE⟩
   | leq=>have hz:KV.bool _=w:=hz; subst hz; exact ⟨_,by simp [tz,binOp,Op.intCmp,cK],.tE⟩
   | gtr=>have hz:KV.bool _=w:=hz; subst hz; exact ⟨_,by simp [tz,binOp,Op.intCmp,cK],.tE⟩
   | geq=>have hz:KV.bool _=w:=hz; subst hz; exact ⟨_,by simp [tz,binOp,Op.intCmp,cK],.tE⟩
 ·rename_i a b
  obtain ⟨x,y,rfl,h1,h2⟩:=h.lR;have:=h1.uX; subst this;have:=h2.uX; subst this;split at hg
  ·have hg:KV.bool _=w:=hg; subst hg; exact ⟨_,by simp [tz,binOp,Op.stringOp,cK],.tE⟩
  ·have hg:KV.bool _=w:=hg; subst hg; exact ⟨_,by simp [tz,binOp,Op.stringOp,cK],.tE⟩
  ·have hg:KV.bool _=w:=hg; subst hg; exact ⟨_,by simp [tz,binOp,Op.stringOp,cK],.tE⟩
  ·obtain ⟨hc,rfl⟩:=bf.lQ hg
   have hc:=fR hc;have hn : ¬ (((a.size+b.size:Nat):Int) > IntKind.i64.max):=by
    have:IntKind.i64.max=9223372036854775807:=by decide
    rw [this]; omega
   refine ⟨.string (a++b),?_,.mkStr⟩;simp only [tz,binOp,Op.stringOp];rw [av hn];rfl
  ·exact hg.elim
 ·rename_i T m n es acc
  obtain ⟨u,v,rfl,h1,h2⟩:=h.lR;have key:aqK P t=true->Nat.blt 0 n=true->pb P t lit u v=some false:=by
   intro hs hn;refine afZ h1 h2 ?_;unfold aqJ;unfold aqK at hs;have hb:Nat.beq n 0=false:=by
    cases n with
    | zero=>simp at hn
    | succ n=>rfl
   split at hs
   ·simp only [hb,ba]
   ·simp at hs
  split at hg
  ·obtain ⟨hs,hg⟩:=hg.cond
   obtain ⟨hc,rfl⟩:=bf.lQ hg;refine ⟨.bool false,?_,.tE⟩;have:=key hs hc;unfold tz;split
   ·rename_i e; simp at e; obtain ⟨rfl,rfl⟩:=e; simp [pb,kr] at this
   ·rename_i e; simp at e; obtain ⟨rfl,rfl⟩:=e; simp [pb,kr] at this
   ·rename_i e; simp at e; obtain ⟨rfl,rfl⟩:=e; simp [this]
   ·rename_i e; exact absurd rfl (e _ _)
  ·obtain ⟨hs,hg⟩:=hg.cond
   obtain ⟨hc,rfl⟩:=bf.lQ hg;refine ⟨.bool true,?_,.tE⟩;have:=key hs hc;unfold tz;split
   ·rename_i e; simp at e; obtain ⟨rfl,rfl⟩:=e; simp [pb,kr] at this
   ·rename_i e; simp at e; obtain ⟨rfl,rfl⟩:=e; simp [pb,kr] at this
   ·rename_i e; simp at e; obtain ⟨rfl,rfl⟩:=e; simp [this]
   ·rename_i e; exact absurd rfl (e _ _)
  ·exact hg.elim
 ·rename_i x y hn1 VO
  obtain ⟨u,v,rfl,h1,h2⟩:=h.lR;split at hg
  ·rename_i b he
   have hg:KV.bool b=w:=hg;subst hg;have:=afZ (lit:=lit) h1 h2 he;refine ⟨.bool b,?_,.tE⟩;unfold tz;split
   ·rename_i e; simp at e; obtain ⟨rfl,rfl⟩:=e; simp [pb,kr] at this
   ·rename_i e; simp at e; obtain ⟨rfl,rfl⟩:=e; simp [pb,kr] at this
   ·rename_i e; simp at e; obtain ⟨rfl,rfl⟩:=e; simp [this]
   ·rename_i e; exact absurd rfl (e _ _)
  ·rename_i b he
   have hg:KV.bool (!b)=w:=hg;subst hg;have:=afZ (lit:=lit) h1 h2 he;refine ⟨.bool !b,?_,.tE⟩;unfold tz;split
   ·rename_i e; simp at e; obtain ⟨rfl,rfl⟩:=e; simp [pb,kr] at this
   ·rename_i e; simp at e; obtain ⟨rfl,rfl⟩:=e; simp [pb,kr] at this
   ·rename_i e; simp at e; obtain ⟨rfl,rfl⟩:=e; simp [this]
   ·rename_i e; exact absurd rfl (e _ _)
  ·exact hg.elim
 ·exact hg.elim
theorem avv {op:UnOp} : yG P (kUn op) (fUn P op):=by
 intro E vs us w h hg;unfold kUn at hg;split at hg
 ·rename_i b
  obtain ⟨y,rfl,h1⟩:=h.fN;have:=h1.gi; subst this;split at hg
  ·have hg:KV.bool (!b)=w:=hg
   subst hg;exact ⟨_,by simp [fUn,Op.unary,cK],.tE⟩
  ·exact hg.elim
 ·rename_i k n
  obtain ⟨y,rfl,h1⟩:=h.fN;have:=h1.cU; subst this;split at hg
  ·have hg:KV.int _ _=w:=hg
   subst hg;exact ⟨.int k (k.wrap (0 - n)),by simp [fUn,Op.unary,Op.intArith,cK],.mkInt⟩
  ·have hg:KV.int _ _=w:=hg
   subst hg;exact ⟨_,by simp [fUn,Op.unary,Op.intBits,cK],.mkInt⟩
  ·exact hg.elim
 ·exact hg.elim
theorem af0 {mx:Bool} : yG P (Mf mx) (NA P fun vs=>cond mx (Builtin.max_ #[] 0 ⟨vs⟩) (Builtin.min_ #[] 0 ⟨vs⟩)):=by
 intro E vs us w h hg;unfold Mf at hg;split at hg
 ·rename_i j a k b
  obtain ⟨x,y,rfl,h1,h2⟩:=h.lR;have:=h1.cU; subst this;have:=h2.cU; subst this;obtain ⟨hjk,hz⟩:=hg.cond;clear hg;simp only [o7] at hjk;subst hjk;have hz:KV.int _ _=w:=hz;subst hz;refine ⟨_,?_,.mkInt⟩;cases mx
  ·simp [NA,yv,flat,Builtin.min_,Builtin.min2,cK]
   omega
  ·simp [NA,yv,flat,Builtin.max_,Builtin.max2,cK]
   omega
 ·rename_i j a k b l c
  obtain ⟨x,y,z,rfl,h1,h2,h3⟩:=h.VL;have:=h1.cU; subst this;have:=h2.cU; subst this;have:=h3.cU; subst this;obtain ⟨hjk,hz⟩:=hg.cond;clear hg;simp only [aA,o7] at hjk;obtain ⟨rfl,rfl⟩:=hjk;have hz:KV.int _ _=w:=hz;subst hz;refine ⟨_,?_,.mkInt⟩;cases mx
  ·show some (Value.int j (if c < (if b < a then b else a) then c else (if b < a then b else a)))=some (Value.int j (min (min a b) c))
   congr 2;split <;> split at * <;> omega
  ·show some (Value.int j (if c > (if b > a then b else a) then c else (if b > a then b else a)))=some (Value.int j (max (max a b) c))
   congr 2;split <;> split at * <;> omega
 ·exact hg.elim
end Go.K
end
section
namespace Go.K
open Go Go.aB
variable {P:Program} {E:Env}
theorem AR.of {E' : Env} {A A' : aw} {x:Nat} (tF:∀ b,E'.α b=E.α b) (ha:∀ b v,A'.get b=some (.arr v)->A.get b=some (.arr v)) (h:AR A' E' x):AR A E x:=by
 obtain ⟨b,v,L,N,h1,h2⟩:=h;exact ⟨b,v,L,N,ha _ _ h1,by rw [<- tF]; exact h2⟩
theorem AF.of {E' : Env} {A A' : aw} {B B' : St} {g:Nat} (tF:∀ b,E'.α b=E.α b) (ha:∀ b v,A'.get b=some (.arr v)->A.get b=some (.arr v)) (hB:∀ x,AR A E x->B'.get x=B.get x) (h:AF A' E' B' g):AF A E B g:=by
 obtain ⟨b,v,x,L,N,cs,e,own,k,h1,h2,h3⟩:=h;have KZ:E.α b=some (x,L,N):=by rw [<- tF]; exact h2
 exact ⟨b,v,x,L,N,cs,e,own,k,ha _ _ h1,KZ,by rw [<- hB x ⟨b,v,L,N,ha _ _ h1,KZ⟩]; exact h3⟩
theorem AT.of {E' : Env} {A A' : aw} {B B' : St} {y:Nat} (tF:∀ b,E'.α b=E.α b) (ha:∀ b v,A'.get b=some (.arr v)->A.get b=some (.arr v)) (hB:∀ x,AR A E x->B'.get x=B.get x) (hm:∀ g,AF A E B g->B'.members g=B.members g) (h:AT A' E' B' y):AT A E B y:=by
 rcases h with h | ⟨g,h1,h2⟩
 ·exact .inl (h.of tF ha)
 ·have:=h1.of tF ha hB
  exact .inr ⟨g,this,by rw [<- hm g this]; exact h2⟩
theorem nU {B B' : St} (h:∀ x,x < B.next->B'.get x=B.get x):∀ y,y < B.next->∀ cs e own cp,B'.get y=some (.row cs e own cp)->∃ nM,B.get y=some (.row nM e own cp)/\nM.length=cs.length:=
 fun y hy cs _ _ _ q=>⟨cs,by rw [<- h y hy]; exact q,rfl⟩
theorem af1 {B:St} {o:cO} : ∀ x,x < B.next->(B.new o).get x=B.get x:=fun x hx=>by rw [St.dz,av (by omega)]
theorem NW.ik {E' : Env} {A A' : aw} {B B' : St} (h:NW P E A B) (hle:E.le E') (tF:∀ b,E'.α b=E.α b) (ha:∀ b v,A'.get b=some (.arr v)->A.get b=some (.arr v)) (hf:∀ b v,A'.get b=some (.kW v)->A.get b=some (.kW v))
  (hn:A.next<=A'.next) (XC:B.next<=B'.next) (hB:∀ x,AR A E x->B'.get x=B.get x) (hz:∀ b r,E'.z b=some r->E.z b=some r\/B.next<=b) (JF:∀ b x,E'.κ b=some x->E.κ b=some x\/(A.next<=b/\B.next<=x))
  (JG:∀ b g,E'.φ b=some g->(∃ c,E.φ c=some g)\/B.next<=g) (hm:∀ g,AF A E B g->B'.members g=B.members g) (mem:∀ g x,x∈B.members g->x < B.next):NW P E' A' B' where
 arr b v hb:=(h.arr b v (ha _ _ hb)).mono hle (tF b) fun x L N e=>hB x ⟨b,v,L,N,ha _ _ hb,e⟩
 kW b v hb:=(h.kW b v (hf _ _ hb)).mono hle (tF b)
 z x hx:=by
  have hx':=AR.of tF ha hx;obtain ⟨b,v,L,N,h1,h2⟩:=hx';have bG:=h.iW _ _ _ _ h2;obtain ⟨h3,h4⟩:=h.z x (AR.of tF ha hx);refine ⟨?_,fun c e=>?_⟩
  ·cases hz' : E'.z x with
   | none=>rfl
   | some r=>
    rcases hz x r hz' with e | e
    ·rw [h3] at e; simp at e
    ·omega
  ·rcases JF c x e with e | ⟨_,e⟩
   ·exact h4 c e
   ·omega
 inj b c v u x L N L' N' h1 h2 h3 h4:=h.inj b c v u x L N L' N' (ha _ _ h1) (ha _ _ h2) (by rw [<- tF]; exact h3) (by rw [<- tF]; exact h4)
 xK b c v u x y L N L' N' cs e own g k cu e' rJ k' h1 h2 h3 h4 h5 h6:=by
  rw [tF] at h3 h4;rw [hB x ⟨b,v,L,N,ha _ _ h1,h3⟩] at h5;rw [hB y ⟨c,u,L',N',ha _ _ h2,h4⟩] at h6;exact h.xK b c v u x y L N L' N' cs e own g k cu e' rJ k' (ha _ _ h1) (ha _ _ h2) h3 h4 h5 h6
 dis b x e:=by
  rw [tF];rcases JF b x e with e | ⟨e,_⟩
  ·exact h.dis b x e
  ·cases hb:E.α b with
   | none=>rfl
   | some p=>have:=h.lW b p hb; omega
 nk b v hb:=by
  obtain ⟨h1,h2⟩:=h.nk b v (ha _ _ hb);refine ⟨nK h1 hn,?_⟩;cases e:E'.κ b with
  | none=>rfl
  | some x=>
   rcases JF b x e with e | ⟨e,_⟩
   ·rw [h2] at e; simp at e
   ·omega
 lW b p e:=by rw [tF] at e; have:=h.lW b p e; omega
 iW b x L N e:=by rw [tF] at e; have:=h.iW b x L N e; omega
 vL b v x L N cs e own g k h1 h2 h3:=by
  rw [tF] at h2;have hA:=ha _ _ h1;rw [hB x ⟨b,v,L,N,hA,h2⟩] at h3;obtain ⟨h4,h5,h6⟩:=h.vL b v x L N cs e own g k hA h2 h3;refine ⟨by omega,fun f e=>?_,fun y hy de=>?_⟩
  ·rcases JG f g e with ⟨c,e⟩ | e
   ·exact h5 c e
   ·omega
  ·rw [hm g ⟨b,v,x,L,N,cs,_,own,k,hA,h2,h3⟩] at hy
   have bG:=mem g y hy;obtain ⟨h7,h8,h9⟩:=h6 y hy de;refine ⟨?_,fun q=>h8 (AR.of tF ha q),fun c e=>?_⟩
   ·cases hz' : E'.z y with
    | none=>rfl
    | some r=>
     rcases hz y r hz' with e | e
     ·rw [h7] at e; simp at e
     ·omega
   ·rcases JF c y e with e | ⟨_,e⟩
    ·exact h9 c e
    ·omega
theorem fX.J0 {A:aw} {B:St} (h:fX P E A B) {x:Nat} (q:AR A E x):x < B.next:=by
 obtain ⟨b,v,L,N,_,h2⟩:=q;exact h.ar.iW _ _ _ _ h2
structure dR (P:Program) (E:Env) (A:aw) (B:St) (E' : Env) (A' : aw) (B' : St):Prop where
 kC:fX P E' A' B'
 le:E.le E'
 next:A.next<=A'.next
 ik:∀ x,x < B.next->(∀ b,E.κ b≠some x)->¬ AT A E B x->B'.get x=B.get x
 new:∀ b x,E'.κ b=some x->E.κ b=some x\/B.next<=x
 wK:∀ b r,E'.z b=some r->E.z b=some r\/AR A E b\/B.next<=b
 wL:∀ b g,E'.φ b=some g->E.φ b=some g\/B.next<=g
 sA:∀ g,g < B.next->(∀ b,E.φ b≠some g)->¬ AF A E B g->B'.members g=B.members g
 oZ:∀ x,AR A' E' x->AR A E x\/B.next<=x
 py:∀ g,AF A' E' B' g->AF A E B g\/B.next<=g
 yE:∀ g y,y∈B'.members g->y∈B.members g\/B.next<=y
 p0:∀ y,AT A' E' B' y->AT A E B y\/B.next<=y
 rows:∀ y,y < B.next->∀ cs e own cp,B'.get y=some (.row cs e own cp)->∃ nM,B.get y=some (.row nM e own cp)/\nM.length=cs.length
theorem dR.ev {base:Nat} {E' : Env} {A A' : aw} {B B' : St} {ρ bd:Ren} {w w' : World} (h:dR P E A B E' A' B') (g:l8 base ρ B w bd B' w'):Ev P base E A B ρ w E' A' B' bd w':=
 ⟨h.kC,g,h.le,h.next,h.ik,h.new,h.wK,fun b g e=>(h.wL b g e).imp (fun e=>⟨b,e⟩) id,h.sA,h.oZ,h.py,h.yE,h.p0,h.rows⟩
def Le (P:Program) (o:Oper):tD->Prop
 | .pure f xs=>∀ (E:Env) (ρ:Ren) (ev:Operand->KV) (dc:Operand->Value) (v:KV),(∀ x∈xs,VC P E ρ (ev x) (dc x))->bf (f (xs.map ev)) v->∃ v',VC P E ρ v v'/\∀ w,(execOp dc o).run P w = .ok (.value v') w
 | .read f xs=>∀ (E:Env) (A:aw) (B:St) (ρ:Ren) (base:Nat) (w:World) (ev:Operand->KV) (dc:Operand->Value) (v:KV),KJ P E A B ρ base w->(∀ x∈xs,VC P E ρ (ev x) (dc x))->bf (f A (xs.map ev)) v->
   ∃ v',VC P E ρ v v'/\(execOp dc o).run P w = .ok (.value v') w
 | .look f xs=>∀ (E:Env) (A:aw) (B:St) (ρ:Ren) (base:Nat) (w:World) (ev:Operand->KV) (dc:Operand->Value) (v:KV),KJ P E A B ρ base w->(∀ x∈xs,VC P E ρ (ev x) (dc x))->bf (f (xs.map ev)) v->
   ∃ E' B' bd v' nx w',(execOp dc o).run P w = .ok nx w'/\apf v' nx/\VC P E' bd v v'/\Ev P base E A B ρ w E' A B' bd w'
 | .act f xs=>∀ (E:Env) (A A' : aw) (B:St) (ρ:Ren) (base:Nat) (w:World) (ev:Operand->KV) (dc:Operand->Value) (v:KV),KJ P E A B ρ base w->(∀ x∈xs,VC P E ρ (ev x) (dc x))->bf (f A (xs.map ev)) (v,A')->
   ∃ E' B' bd v' nx w',(execOp dc o).run P w = .ok nx w'/\apf v' nx/\VC P E' bd v v'/\Ev P base E A B ρ w E' A' B' bd w'
 | _=>True
theorem mid {ρ:Ren} {ev:Operand->KV} {dc:Operand->Value} {xs:List Operand} (h:∀ x∈xs,VC P E ρ (ev x) (dc x)) :
  ∃ em:Operand->Value,bC P E (xs.map ev) (xs.map em)/\Ao ρ em dc xs:=by
 classical
 refine ⟨fun x=>if hx:VC P E ρ (ev x) (dc x) then hx.choose else undef,?_,?_⟩
 ·induction xs with
  | nil=>exact .nil
  | cons x xs ih=>
   refine .cons ?_ (ih fun y hy=>h y (by simp [hy]));have hx:=h x (by simp);simp only [dif_pos hx];exact hx.choose_spec.1
 ·intro x hx
  have hx:=h x hx;simp only [dif_pos hx];exact hx.choose_spec.2
theorem lift_pure {o:Oper} {f:FP} {g:List Value->Option Value} {xs:List Operand} (hc:compile P o.op = .pure g xs) (hs:yG P f g):Le P o (.pure f xs):=by
 intro E ρ ev dc v hv hg;obtain ⟨em,h1,h2⟩:=mid hv;obtain ⟨u,h3,h4⟩:=hs E _ _ v h1 hg;have dt:=tB P o;rw [hc] at dt;obtain ⟨v',h5,h6⟩:=dt ρ em dc u h2 h3;exact ⟨v',⟨u,h4,h5⟩,h6⟩
def ann (P:Program) (f:FR) (g:St->List Value->Option Value):Prop:=
 ∀ (E:Env) (A:aw) (B:St) (vs:List KV) (us:List Value) (v:KV),fX P E A B->bC P E vs us->bf (f A vs) v->∃ u,g B us=some u/\VK P E v u
theorem NY {o:Oper} {f:FR} {g:St->List Value->Option Value} {xs:List Operand} (hc:compile P o.op = .read g xs) (hs:ann P f g):Le P o (.read f xs):=by
 intro E A B ρ base w ev dc v hj hv hg;obtain ⟨em,h1,h2⟩:=mid hv;obtain ⟨u,h3,h4⟩:=hs E A B _ _ v hj.k h1 hg;have dt:=tB P o;rw [hc] at dt;obtain ⟨v',h5,h6⟩:=dt ρ B base w em dc u hj.s.rel h2 h3;exact ⟨v',⟨u,h4,h5⟩,h6⟩
def aqW (P:Program) (f:FA) (g:St->List Value->Option (Value×St)):Prop:=
 ∀ (E:Env) (A A' : aw) (B:St) (vs:List KV) (us:List Value) (v:KV),fX P E A B->bC P E vs us->bf (f A vs) (v,A')->∃ u B' E',g B us=some (u,B')/\VK P E' v u/\dR P E A B E' A' B'
theorem aaI {o:Oper} {f:FA} {g:St->List Value->Option (Value×St)} {xs:List Operand} (hc:compile P o.op = .act g xs) (hs:aqW P f g):Le P o (.act f xs):=by
 intro E A A' B ρ base w ev dc v hj hv hg;obtain ⟨em,h1,h2⟩:=mid hv;obtain ⟨u,B',E',h3,h4,h5⟩:=hs E A A' B _ _ v hj.k h1 hg;have dt:=tB P o;rw [hc] at dt;obtain ⟨bd,v',nx,w',h6,h7,h8,h9⟩:=dt ρ B B' base w em dc u hj.s h2 h3;exact ⟨E',B',bd,v',nx,w',h6,h7,⟨u,h4,h8⟩,h5.ev h9⟩
def auU (P:Program) (f:FP) (g:St->List Value->Option (Value×St)):Prop:=
 ∀ (E:Env) (A:aw) (B:St) (vs:List KV) (us:List Value) (v:KV),fX P E A B->bC P E vs us->bf (f vs) v->∃ u B' E',g B us=some (u,B')/\VK P E' v u/\dR P E A B E' A B'
theorem apu {o:Oper} {f:FP} {g:St->List Value->Option (Value×St)} {xs:List Operand} (hc:compile P o.op = .act g xs) (hs:auU P f g):Le P o (.look f xs):=by
 intro E A B ρ base w ev dc v hj hv hg;obtain ⟨em,h1,h2⟩:=mid hv;obtain ⟨u,B',E',h3,h4,h5⟩:=hs E A B _ _ v hj.k h1 hg;have dt:=tB P o;rw [hc] at dt;obtain ⟨bd,v',nx,w',h6,h7,h8,h9⟩:=dt ρ B B' base w em dc u hj.s h2 h3;exact ⟨E',B',bd,v',nx,w',h6,h7,⟨u,h4,h8⟩,h5.ev h9⟩
theorem aaJ {o:Oper} {g:List Value->Option (cO×(Nat->Value))} {xs:List Operand} (hc:compile P o.op = .make g xs) {ρ:Ren} {B:St} {base:Nat} {w:World} {em dc:Operand->Value} {obj:cO} {mk:Nat->Value} (hs:vD ρ B base w)
  (h2:Ao ρ em dc xs) (h3:g (xs.map em)=some (obj,mk)):∃ bd v' w',(execOp dc o).run P w = .ok (.value v') w'/\VR bd (mk B.next) v'/\l8 base ρ B w bd (B.new obj) w':=by
 have dt:=tB P o;rw [hc] at dt;obtain ⟨c,mk',h4,h5,h6⟩:=dt ρ em dc obj mk h2 h3;exact ⟨_,_,_,h5 w,h6 _ _ _ (Ren.pw _ _ _),h4.gP hs⟩
def af2 (P:Program) (f:FA) (g:List Value->Option (cO×(Nat->Value))):Prop:=
 ∀ (E:Env) (A A' : aw) (B:St) (vs:List KV) (us:List Value) (v:KV),fX P E A B->bC P E vs us->bf (f A vs) (v,A')->∃ obj mk E',g us=some (obj,mk)/\VK P E' v (mk B.next)/\dR P E A B E' A' (B.new obj)
theorem Ep {o:Oper} {f:FA} {g:List Value->Option (cO×(Nat->Value))} {xs:List Operand} (hc:compile P o.op = .make g xs) (hs:af2 P f g):Le P o (.act f xs):=by
 intro E A A' B ρ base w ev dc v hj hv hg;obtain ⟨em,h1,h2⟩:=mid hv;obtain ⟨obj,mk,E',h3,h4,h5⟩:=hs E A A' B _ _ v hj.k h1 hg;obtain ⟨bd,v',w',h6,h7,h8⟩:=aaJ hc hj.s h2 h3;exact ⟨E',B.new obj,bd,v',_,w',h6,rfl,⟨_,h4,h7⟩,h5.ev h8⟩
def ate (P:Program) (f:FP) (g:List Value->Option (cO×(Nat->Value))):Prop:=
 ∀ (E:Env) (A:aw) (B:St) (vs:List KV) (us:List Value) (v:KV),fX P E A B->bC P E vs us->bf (f vs) v->∃ obj mk E',g us=some (obj,mk)/\VK P E' v (mk B.next)/\dR P E A B E' A (B.new obj)
theorem akw {o:Oper} {f:FP} {g:List Value->Option (cO×(Nat->Value))} {xs:List Operand} (hc:compile P o.op = .make g xs) (hs:ate P f g):Le P o (.look f xs):=by
 intro E A B ρ base w ev dc v hj hv hg;obtain ⟨em,h1,h2⟩:=mid hv;obtain ⟨obj,mk,E',h3,h4,h5⟩:=hs E A B _ _ v hj.k h1 hg;obtain ⟨bd,v',w',h6,h7,h8⟩:=aaJ hc hj.s h2 h3;exact ⟨E',B.new obj,bd,v',_,w',h6,rfl,⟨_,h4,h7⟩,h5.ev h8⟩
def Env.ns (E:Env) (b x:Nat):Env:={ E with κ:=fun c=>if c=b then some x else E.κ c }
def Env.il (E:Env) (b:Nat) (r:anf):Env:={ E with z:=fun c=>if c=b then some r else E.z c }
def Env.uZ (E:Env) (b g:Nat):Env:={ E with φ:=fun c=>if c=b then some g else E.φ c }
theorem dR.newRow {A:aw} {B:St} {cs:List KV} {cu:List Value} {cg:Nat} (h:fX P E A B) (hv:bC P E cs cu):dR P E A B (E.ns A.next B.next) (A.new (.row cs cg)) (B.new (.row cu cg true none)):=by
 have hle:E.le (E.ns A.next B.next):=⟨fun _ _ e=>e,fun b x e=>by
  have:=h.lW b x e;simp only [Env.ns]; rw [av (by omega)]; exact e,fun _ _ e=>e,fun _ _ e=>e⟩
 have hA:∀ (b:Nat) (v:KV),(A.new (.row cs cg)).get b=some (.arr v)->A.get b=some (.arr v):=fun b v hb=>by
  rw [aw.dz] at hb;split at hb
  ·simp at hb
  ·exact hb
 have hfz:∀ (b:Nat) (v:KV),(A.new (.row cs cg)).get b=some (.kW v)->A.get b=some (.kW v):=fun b v hb=>by
  rw [aw.dz] at hb;split at hb
  ·simp at hb
  ·exact hb
 have BT:∀ x,AR A E x->(B.new (.row cu cg true none)).get x=B.get x:=fun x q=>by have:=h.J0 q; rw [St.dz,av (by omega)]
 refine ⟨⟨?_,?_,?_,?_,?_,?_,?_,?_,?_,?_,?_,?_,?_,?_,h.ar.ik hle (fun _=>rfl) hA hfz (by simp) (by simp) BT (fun _ _ e=>.inl e) (fun b x e=>?_) (fun b g e=>.inl ⟨b,e⟩) (fun _ _=>by simp) h.mem⟩,hle,by simp,?_,?_,fun _ _ e=>.inl e,fun _ _ e=>.inl e,fun _ _ _ _=>by simp,fun _ q=>.inl (q.of (fun _=>rfl) hA),fun _ q=>.inl (q.of (fun _=>rfl) hA BT),fun _ _ q=>.inl (by simpa using q),fun _ q=>.inl (q.of (fun _=>rfl) hA BT fun _ _=>by simp),nU af1⟩
 ·intro b nM QI hb
  rw [aw.dz] at hb;split at hb
  ·rename_i e
   simp at hb;obtain ⟨rfl,rfl⟩:=hb;exact ⟨B.next,cu,by simp [Env.ns,e],by simp,hv.mono hle⟩
  ·obtain ⟨x,c,h1,h2,h3⟩:=h.row b nM QI hb
   have:=h.iW b x h1;exact ⟨x,c,hle.κ _ _ h1,by rw [St.dz,av (by omega)]; exact h2,h3.mono hle⟩
 ·intro b top Gu hb
  rw [aw.dz] at hb;split at hb
  ·simp at hb
  ·rcases h.bA b top Gu hb with h1 | ⟨g,h1,hp0,h2⟩
   ·exact .inl h1
   ·refine .inr ⟨g,h1,hp0,fun x hx c e own f k hg=>?_⟩
    rw [St.dz] at hg;split at hg
    ·simp at hg
    ·exact h2 x (by simpa using hx) c e own f k hg
 ·intro b r hb
  have:=h.nT b r hb;rw [St.dz,av (by omega)];exact h.z b r hb
 ·intro b x hb
  simp only [Env.ns] at hb ⊢;split at hb
  ·simp at hb
   subst hb;cases hz:E.z B.next with
   | none=>rfl
   | some r=>have:=h.nT _ r hz; omega
  ·exact h.apart b x hb
 ·intro b c x hb hc
  simp only [Env.ns] at hb hc;split at hb <;> split at hc
  ·omega
  ·simp at hb; subst hb; have:=h.iW c _ hc; omega
  ·simp at hc; subst hc; have:=h.iW b _ hb; omega
  ·exact h.inj b c x hb hc
 ·exact Ho.new (E:=E.ns A.next B.next) (fun x y g a b c d e f hx hy=>h.kR x y g a b c d e f hx hy) (.inl fun _ _=>by simp)
 ·intro b x hb
  simp only [Env.ns] at hb;rw [aw.cC];split at hb
  ·omega
  ·have:=h.lW b x hb; omega
 ·intro b g hb; have:=h.nS b g hb; rw [aw.cC]; omega
 ·intro b o hb
  rw [aw.dz] at hb;rw [aw.cC];split at hb
  ·omega
  ·have:=h.live b o hb; omega
 ·intro b x hb
  simp only [Env.ns] at hb;rw [St.cC];split at hb
  ·simp at hb; omega
  ·have:=h.iW b x hb; omega
 ·intro b r hb; have:=h.nT b r hb; rw [St.cC]; omega
 ·intro b g hb; have:=h.lu b g hb; rw [St.cC]; omega
 ·intro g hg; rw [St.cC] at hg; rw [St.lh]; exact h.fresh g (by omega)
 ·intro g x hx; rw [St.lh] at hx; rw [St.cC]; have:=h.mem g x hx; omega
 ·simp only [Env.ns] at e
  split at e
  ·simp at e; exact .inr (by omega)
  ·exact .inl e
 ·intro x hx _ _; rw [St.dz,av (by omega)]
 ·intro b x hb
  simp only [Env.ns] at hb;split at hb
  ·simp at hb; exact .inr (by omega)
  ·exact .inl hb
theorem dR.ano {A:aw} {B:St} {cu:List Value} {cg:Nat} (h:fX P E A B):dR P E A B (E.il B.next ⟨cu,cg,true,none⟩) A (B.new (.row cu cg true none)):=by
 have hle:E.le (E.il B.next ⟨cu,cg,true,none⟩):=⟨fun _ _ e=>e,fun _ _ e=>e,fun b r e=>by
  have:=h.nT b r e;simp only [Env.il]; rw [av (by omega)]; exact e,fun _ _ e=>e⟩
 have BT:∀ x,AR A E x->(B.new (.row cu cg true none)).get x=B.get x:=fun x q=>by have:=h.J0 q; rw [St.dz,av (by omega)]
 have QJ:∀ b r,(E.il B.next ⟨cu,cg,true,none⟩).z b=some r->E.z b=some r\/B.next<=b:=fun b r e=>by
  simp only [Env.il] at e;split at e
  ·exact .inr (by omega)
  ·exact .inl e
 refine ⟨⟨?_,?_,?_,?_,?_,?_,?_,?_,?_,?_,?_,?_,?_,?_,h.ar.ik hle (fun _=>rfl) (fun _ _ e=>e) (fun _ _ e=>e) (aU _) (by simp) BT QJ (fun _ _ e=>.inl e) (fun b g e=>.inl ⟨b,e⟩) (fun _ _=>by simp) h.mem⟩,hle,aU _,?_,?_,fun b r e=>(QJ b r e).imp id .inr,fun _ _ e=>.inl e,fun _ _ _ _=>by simp,fun _ q=>.inl q,fun _ q=>.inl (q.of (fun _=>rfl) (fun _ _ e=>e) BT),fun _ _ q=>.inl (by simpa using q),fun _ q=>.inl (q.of (fun _=>rfl) (fun _ _ e=>e) BT fun _ _=>by simp),nU af1⟩
 ·intro b nM QI hb
  obtain ⟨x,c,h1,h2,h3⟩:=h.row b nM QI hb;have:=h.iW b x h1;exact ⟨x,c,hle.κ _ _ h1,by rw [St.dz,av (by omega)]; exact h2,h3.mono hle⟩
 ·intro b top Gu hb
  rcases h.bA b top Gu hb with h1 | ⟨g,h1,hp0,h2⟩
  ·exact .inl h1
  ·refine .inr ⟨g,h1,hp0,fun x hx c e own f k hg=>?_⟩
   rw [St.dz] at hg;split at hg
   ·simp at hg
   ·exact h2 x (by simpa using hx) c e own f k hg
 ·intro b r hb
  simp only [Env.il] at hb;split at hb
  ·rename_i e
   simp at hb;subst hb e;simp
  ·have:=h.nT b r hb
   rw [St.dz,av (by omega)];exact h.z b r hb
 ·intro b x hb
  have:=h.iW b x hb;simp only [Env.il];rw [av (by omega)];exact h.apart b x hb
 ·exact h.inj
 ·exact h.kR
 ·exact h.lW
 ·exact h.nS
 ·exact h.live
 ·intro b x hb; have:=h.iW b x hb; rw [St.cC]; omega
 ·intro b r hb
  simp only [Env.il] at hb;rw [St.cC];split at hb
  ·omega
  ·have:=h.nT b r hb; omega
 ·intro b g hb; have:=h.lu b g hb; rw [St.cC]; omega
 ·intro g hg; rw [St.cC] at hg; rw [St.lh]; exact h.fresh g (by omega)
 ·intro g x hx; rw [St.lh] at hx; rw [St.cC]; have:=h.mem g x hx; omega
 ·intro x hx _ _; rw [St.dz,av (by omega)]
 ·intro b x hb; exact .inl hb
theorem dR.putRow {A:aw} {B:St} {b x cg:Nat} {cs:List KV} {cu:List Value} (h:fX P E A B) (hb:∃ nM e,A.get b=some (.row nM e)) (hx:E.κ b=some x) (hold:∃ nM,B.get x=some (.row nM cg true none)/\nM.length=cu.length) (hv:bC P E cs cu):dR P E A B E (A.put b (.row cs cg)) (B.put x (.row cu cg true none)):=by
 have hA:∀ (c:Nat) (v:KV),(A.put b (.row cs cg)).get c=some (.arr v)->A.get c=some (.arr v):=fun c v hb=>by
  rw [aw.cz] at hb;split at hb
  ·simp at hb
  ·exact hb
 have hfz:∀ (c:Nat) (v:KV),(A.put b (.row cs cg)).get c=some (.kW v)->A.get c=some (.kW v):=fun c v hb=>by
  rw [aw.cz] at hb;split at hb
  ·simp at hb
  ·exact hb
 have BT:∀ y,AR A E y->(B.put x (.row cu cg true none)).get y=B.get y:=fun y q=>by
  rw [St.cz,av];intro e;subst e;exact (h.ar.z _ q).2 b hx
 refine ⟨⟨?_,?_,?_,h.apart,h.inj,h.kR.put (.inl fun _ _=>by simp),h.lW,h.nS,?_,h.iW,h.nT,h.lu,?_,?_,h.ar.ik (Env.le_refl _) (fun _=>rfl) hA hfz (aU _) (aU _) BT (fun _ _ e=>.inl e) (fun _ _ e=>.inl e) (fun b g e=>.inl ⟨b,e⟩) (fun _ _=>by simp) h.mem⟩,Env.le_refl _,aU _,?_,fun _ _ e=>.inl e,fun _ _ e=>.inl e,fun _ _ e=>.inl e,fun _ _ _ _=>by simp,fun _ q=>.inl (q.of (fun _=>rfl) hA),fun _ q=>.inl (q.of (fun _=>rfl) hA BT),fun _ _ q=>.inl (by simpa using q),fun _ q=>.inl (q.of (fun _=>rfl) hA BT fun _ _=>by simp),fun y _ c e own cp q=>by
  rw [St.cz] at q;split at q
  ·rename_i e2
   simp at q;obtain ⟨rfl,rfl,rfl,rfl⟩:=q;obtain ⟨c0,h1,h2⟩:=hold;exact ⟨c0,by rw [e2]; exact h1,h2⟩
  ·exact ⟨c,q,rfl⟩⟩
 ·intro c nM QI hc
  rw [aw.cz] at hc;split at hc
  ·rename_i e
   simp at hc;obtain ⟨rfl,rfl⟩:=hc;exact ⟨x,cu,by rw [e]; exact hx,by simp,hv⟩
  ·rename_i de
   obtain ⟨y,d,h1,h2,h3⟩:=h.row c nM QI hc;refine ⟨y,d,h1,?_,h3⟩;rw [St.cz,av (fun e=>de (h.inj c b x (by rw [<- e]; exact h1) hx))];exact h2
 ·intro c top Gu hc
  rw [aw.cz] at hc;split at hc
  ·simp at hc
  ·rcases h.bA c top Gu hc with h1 | ⟨g,h1,hp0,h2⟩
   ·exact .inl h1
   ·refine .inr ⟨g,h1,hp0,fun y hy d e own f k hg=>?_⟩
    rw [St.cz] at hg;split at hg
    ·simp at hg
    ·exact h2 y (by simpa using hy) d e own f k hg
 ·intro c r hc
  rw [St.cz,av]
  ·exact h.z c r hc
  ·intro e
   have:=h.apart b x hx;rw [<- e,hc] at this;simp at this
 ·intro c o hc
  rw [aw.cz] at hc;rw [aw.uQ];split at hc
  ·rename_i e
   obtain ⟨nM,e0,hb⟩:=hb;rw [e]; exact h.live b _ hb
  ·exact h.live c o hc
 ·intro g hg; rw [St.vP]; exact h.fresh g hg
 ·intro g y hy; rw [St.vP] at hy; exact h.mem g y hy
 ·intro y hy hn _
  rw [St.cz,av (fun e=>hn b (by rw [e]; exact hx))]
theorem aur {n:Nat} : af2 P (am6 n) (amR n):=by
 intro E A A' B vs us v h hv hg;unfold am6 at hg;split at hg
 ·rename_i x
  obtain ⟨y,rfl,h1⟩:=hv.fN;obtain ⟨ho,hg⟩:=hg.cond;have hg:(KV.ptr A.next 0,A.new (.row x.cells n))=(v,A'):=hg;simp only [fS] at hg;obtain ⟨rfl,rfl⟩:=hg;have hc:=h1.cells (AZ ho);have hsc:y.cells.toList.all scalar=true:=ij.2 (hc.scalar ho);exact ⟨Hh n y,Ib,E.ns A.next B.next,by simp [amR,hsc],.BO (by simp [Env.ns]),dR.newRow h hc⟩
 ·exact hg.elim
theorem ar5 {t:TypeId} {z:Value} (hz:vN P t=some z) (hf:flat z=true) (hsc:z.cells.toList.all scalar=true) (ho:jM (iH z).cells=true):af2 P (ace (pL P t) (iH z).cells) (Nx P t):=by
 intro E A A' B vs us v h hv hg;have hg:(KV.ptr A.next 0,A.new (.row (iH z).cells (pL P t)))=(v,A'):=hg;simp only [fS] at hg;obtain ⟨rfl,rfl⟩:=hg;exact ⟨Hh (pL P t) z,Ib,E.ns A.next B.next,by simp only [Nx,hz,fy,hf,hsc,dk,ak],.BO (by simp [Env.ns]),dR.newRow h (En ho)⟩
theorem QK {cs:List KV} {l:List Value} (h:bC P E cs l):∀ n,bC P E (dI cs n) (iG l n)
 | 0=>.nil
 | n+1=>bC.append h (QK h n)
theorem ai0 {n b:Nat} {z:Value} (ho:jM (iH z).cells=true):af2 P (Qz n b (iH z).cells) (FL n b z):=by
 intro E A A' B vs us v h hv hg;unfold Qz at hg;split at hg
 ·rename_i k l k' c
  obtain ⟨x,y,rfl,h1,h2⟩:=hv.lR;have:=h1.cU; subst this;have:=h2.cU; subst this;obtain ⟨hc,hg⟩:=bf.lQ hg;simp only [fS] at hg;obtain ⟨rfl,rfl⟩:=hg;simp only [aA,o7] at hc;obtain ⟨⟨h3,h4⟩,h5⟩:=hc;obtain ⟨l',rfl⟩:=Int.eq_ofNat_of_zero_le h3;obtain ⟨c',rfl⟩:=Int.eq_ofNat_of_zero_le (Int.le_trans h3 h4);have h6:Nat.ble l' c' = true:=Nat.ble_eq_true_of_le (by omega);refine ⟨.row (iG z.cells.toList c') n true none,fun k=>.slice (some ⟨k,0,none⟩) l' c',E.ns A.next B.next,?_,.aqU (by simp [Env.ns]),dR.newRow h (QK (En ho) c')⟩;have h5:Nat.ble (b * c') 281474976710656=true:=h5;show cond (Nat.ble l' c'&&Nat.ble (b * c') 281474976710656) _ _=_;rw [h6,h5];rfl
 ·exact hg.elim
theorem fX.rowAt {A:aw} {B:St} (h:fX P E A B) {b x:Nat} {cs:List KV} (hr:rowAt A b=some cs) (hx:E.κ b=some x):∃ cu cg,B.get x=some (.row cu cg true none)/\bC P E cs cu:=by
 unfold K.rowAt at hr;split at hr
 ·rename_i c e hg
  simp at hr;subst hr;obtain ⟨y,d,h1,h2,h3⟩:=h.row _ _ _ hg;rw [hx] at h1;simp at h1;subst h1;exact ⟨d,_,h2,h3⟩
 ·simp at hr
theorem QL (e:KV):∀ (cs:List CK) (k:Nat),(leaves e cs k).length=cs.length
 | [],_=>rfl
 | c::cs,k=>by simp [leaves,QL e cs]
theorem alz {c:CK} {v:KV} (h:kindOk c v=true):leaf c v=v:=by
 cases c with
 | int k=>cases v <;> simp [kindOk] at h; subst h; rfl
 | bool=>cases v <;> simp [kindOk] at h; rfl
 | str=>cases v <;> simp [kindOk] at h; rfl
 | slice t=>
  cases v <;> simp [kindOk] at h;rename_i T m n es acc;cases m <;> simp at h;subst h;rfl
 | other=>cases v <;> simp [kindOk] at h
theorem C1:∀ {ks:List CK} {cs:List KV} {i:Nat} {c:CK},aK ks cs=true->ks[i]? = some c->∃ v,cs[i]? = some v/\kindOk c v=true
 | [],_,i,c,_,h=>by simp at h
 | _::_,[],_,_,h,_=>by simp [aK] at h
 | k::ks,v::cs,0,c,h,e=>by
  simp only [aK,aA] at h;simp at e;subst e;exact ⟨v,rfl,h.1⟩
 | k::ks,v::cs,i+1,c,h,e=>by
  simp only [aK,aA] at h;obtain ⟨u,h1,h2⟩:=C1 (i:=i) h.2 (by simpa using e);exact ⟨u,by simpa using h1,h2⟩
theorem kv:∀ {l:Lay} {es:List KV} {i:Nat} {e:KV},ga l es=true->es[i]? = some e->cP l e=true
 | l,[],i,e,_,h=>by simp at h
 | l,x::es,0,e,h,he=>by
  simp only [ga,aA] at h;simp at he;subst he;exact h.1
 | l,x::es,i+1,e,h,he=>by
  simp only [ga,aA] at h;exact kv h.2 (by simpa using he)
theorem jz {l:Lay} {e:KV} (h:cP l e=true):aK l.ks e.cells=true/\xM e=true:=by
 cases e <;> simp [cP] at h <;> first | exact ⟨h.2,rfl⟩ | skip
 obtain ⟨h1,h2⟩:=h;cases hk:l.ks with
 | nil=>rw [hk] at h2; simp [aK] at h2
 | cons c cs=>rw [hk] at h2; cases c <;> simp [aK,kindOk] at h2
theorem VP {e:KV} {ks:List CK} (hk:aK ks e.cells=true):∀ {cs:List CK} {k:Nat},(∀ m c,cs[m]? = some c->ks[k+m]? = some c)->leaves e cs k=(e.cells.drop k).take cs.length
 | [],k,_=>by simp [leaves]
 | c::cs,k,h=>by
  obtain ⟨v,h1,h2⟩:=C1 hk (by simpa using h 0 c rfl);have bG:k < e.cells.length:=(dq.1 h1).1;have ih:=VP hk (cs:=cs) (k:=k+1) (fun m d hm=>by have:=h (m+1) d (by simpa using hm); rwa [show k+(m+1)=k+1+m by omega] at this);simp only [leaves];have e1:e.cells.getD k .ao=v:=by simp [List.getD,h1]
  rw [e1,alz h2];rw [show Nat.succ k=k+1 from rfl,ih,List.drop_eq_getElem_cons bG];have e2:e.cells[k] = v:=by
   have:=dr bG;rw [this] at h1;simpa using h1
  simp [e2]
theorem fX.Lb {A:aw} {B:St} (h:fX P E A B) {b x L N' : Nat} {v:KV} (hr:Lb A b=some v) (hx:E.α b=some (x,L,N')) :
  ∃ T N es acc,v = .ts T .any N es acc/\ku P T N es acc/\1<=bD P T/\∃ cs e own cp bK,N' = N/\B.get x=some (.row cs e own cp)/\bC P E es bK/\qY (bD P T) 0 cs bK/\L=cs.length/\e=bD P T:=by
 unfold K.Lb at hr;split at hr
 ·rename_i u hg
  simp at hr; subst hr;obtain ⟨T,N,es,acc,h1,h2,h3,h4⟩:=h.ar.arr b _ hg;refine ⟨T,N,es,acc,h1,h2,h3,?_⟩;rcases h4 with ⟨_,h5⟩ | ⟨y,cs,cp,bK,h4,h5,h6,h7⟩
  ·rw [hx] at h5; simp at h5
  ·rw [hx] at h4
   simp only [di,fS] at h4;obtain ⟨rfl,rfl,rfl⟩:=h4;exact ⟨cs,_,_,cp,bK,rfl,h5,h6,h7,rfl,rfl⟩
 ·rename_i u hg
  simp at hr; subst hr;obtain ⟨T,N,es,acc,h1,h2,h3,h4⟩:=h.ar.kW b _ hg;refine ⟨T,N,es,acc,h1,h2,h3,?_⟩;rcases h4 with ⟨_,h5⟩ | ⟨y,r,bK,h4,h5,h6,h7,h8⟩
  ·rw [hx] at h5; simp at h5
  ·rw [hx] at h4
   simp only [di,fS] at h4;obtain ⟨rfl,rfl,rfl⟩:=h4;exact ⟨r.cs,_,_,_,bK,rfl,h.z _ _ h5,h7,h8,rfl,h6⟩
 ·simp at hr
theorem af3 {t T Tc:TypeId} {k x base cg:Nat} {own:Bool} {cp:Option (Nat×Nat)} {e:KV} {u:Value} {cs:List Value} {B:St} (hz:B.get x=some (.row cs cg own cp)) (hc:aeX P t Tc=true) (hw:ae1 P T Tc k) (C2:cP (bB P T) e=true)
  (h7:VK P E e u) (fZ:u.cells.size=bD P T) (rb:∀ (m:Nat) (y:Value),u.cells[m]? = some y->cs[base+m]? = some y):∃ w,Ny P t B [.pointer (some ⟨x,base+k,none⟩)] = some w/\VK P E (P0 (bB P t).agg (leaves e (bB P t).ks k)) w:=by
 simp only [aeX,aA,o7] at hc;obtain ⟨⟨⟨⟨hTc,hpl⟩,ha⟩,hn⟩,auV⟩:=hc;have:=bu hTc;subst this;obtain ⟨aus,aut⟩:=jz C2;have hlv:=VP aus (cs:=(bB P Tc).ks) (k:=k) hw.is;rw [hlv];have K5:=h7.cells aut;have hlen:e.cells.length=bD P T:=by have:=K5.length; simp at this; omega
 have pM:(bB P Tc).ks.length<=e.cells.length - k:=by
  have:=congrArg List.length hlv;rw [QL] at this;simp at this;omega
 have hQ:∀ m,m < (bB P Tc).ks.length->cs[base+k+m]? = u.cells.toList[k+m]?:=by
  intro m hm;have bG:k+m < u.cells.size:=by omega
  have:=rb (k+m) u.cells[k+m] (by simp [bG]);rw [show base+(k+m)=base+k+m by omega] at this;rw [this];simp [bG]
 have apv:takeN (bB P Tc).ks.length (Ia (base+k) cs)=some ((u.cells.toList.drop k).take (bB P Tc).ks.length):=by
  have hle:(bB P Tc).ks.length<=(cs.drop (base+k)).length:=by
   cases Qp:(bB P Tc).ks.length with
   | zero=>omega
   | succ q=>
    have:=hQ q (by omega);have bG:k+q < u.cells.toList.length:=by simp; omega
    rw [dr bG] at this;have:=(dq.1 this).1;simp;omega
  rw [uO,Mq hle];congr 1;apply List.ext_getElem?;intro m;rw [pH,pH];split
  ·rename_i hm
   rw [pS,pS];exact hQ m hm
  ·rfl
 have hrel:bC P E (e.cells.drop k |>.take (bB P Tc).ks.length) ((u.cells.toList.drop k).take (bB P Tc).ks.length):=(K5.drop k).take _;cases BP:(bB P Tc).agg with
 | true=>
  rw [BP] at ha;refine ⟨.agg ⟨(u.cells.toList.drop k).take (bB P Tc).ks.length⟩,?_,.rW hrel⟩;simp [Ny,loadAt,ha,hn,St.Au,dp,Cf,hz,apv]
 | false=>
  rw [BP] at ha;have hl1:(bB P Tc).ks.length=1:=by
   rw [BP] at auV;exact bu (by simpa using auV)
  rw [hl1] at apv hrel;have bG:k < e.cells.length:=by omega
  rw [hl1];rw [List.drop_eq_getElem_cons bG] at hrel ⊢;simp only [List.take_succ_cons,List.take_zero] at hrel ⊢;obtain ⟨w,h8,h9⟩:=hrel.fN;refine ⟨w,?_,h9⟩;simp [Ny,loadAt,ha,St.Au,dp,Cf,hz,apv,h8]
theorem anp {t:TypeId} : ann P (aay P t) (Ny P t):=by
 intro E A B vs us v h hv hg;unfold aay at hg;split at hg
 ·rename_i b off
  obtain ⟨y,rfl,h1⟩:=hv.fN;obtain ⟨x,hx,rfl⟩:=h1.j9;split at hg
  ·rename_i ag n ha hn
   split at hg
   ·rename_i l hl
    obtain ⟨cs,h2,h3⟩:=dh.1 hl;obtain ⟨cu,cg,h4,h5⟩:=h.rowAt h2 hx;obtain ⟨r,h6,h7,_⟩:=h5.yA h3;cases ag with
    | true=>
     have hg:KV.agg l=v:=hg;subst hg;refine ⟨.agg ⟨r⟩,?_,.rW h7⟩;simp [Ny,loadAt,ha,hn,St.Au,dp,Cf,h4,h6]
    | false=>
     rw [ba] at hg;split at hg
     ·rename_i u
      have hg:u=v:=hg;subst hg;obtain ⟨w,rfl,h8⟩:=h7.fN;have hlen:n=1:=by
       obtain ⟨e,hle⟩:=SK h3;have:=congrArg List.length e;rw [nJ,Nat.min_eq_left hle] at this;simpa using this.symm
      subst hlen;exact ⟨w,by simp [Ny,loadAt,ha,St.Au,dp,Cf,h4,h6],h8⟩
     ·exact hg.elim
   ·exact hg.elim
  ·exact hg.elim
 ·rename_i T Tc i k es acc
  obtain ⟨y,rfl,h1⟩:=hv.fN;obtain ⟨hc,hg⟩:=hg.cond;have hg:P0 (bB P t).agg (leaves (acc i) (bB P t).ks k)=v:=hg;subst hg;obtain ⟨ht,bK,h2,hi,hw,b,off,r,rfl,h4,h5⟩:=h1.NV;have awi:=ht.acc i hi;have hei:es[i]? = some (acc i):=by rw [awi]; simp [List.getD,hi]
  obtain ⟨u,h6,h7⟩:=h2.get hei;obtain ⟨fZ,rb⟩:=h5 i u h6;exact af3 (h.z b r h4) hc hw (kv ht.typed hei) h7 fZ rb
 ·rename_i T Tc b i k
  obtain ⟨y,rfl,h1⟩:=hv.fN;split at hg
  ·rename_i T' m N es acc hA
   obtain ⟨hc,hg⟩:=hg.cond;have hg:P0 (bB P t).agg (leaves (acc i) (bB P t).ks k)=v:=hg;subst hg;simp only [aA] at hc;have:=bu hc.1;subst this;obtain ⟨x,L,N',h2,hw,hi,rfl⟩:=h1.JZ;obtain ⟨T2,N2,pQ,aE,Ij,ht,h1s,cs,e,own,cp,bK,h3,h4,h5,h6,_⟩:=h.Lb hA h2;simp only [KV.ts.injEq] at Ij;obtain ⟨rfl,rfl,rfl,rfl,rfl⟩:=Ij;have bG:i < es.length:=by rw [<- ht.len,<- h3]; exact hi
   have hei:es[i]? = some (acc i):=by rw [ht.acc i (by rw [ht.len]; exact bG)]; simp [List.getD,bG]
   obtain ⟨u,h7,h8⟩:=h5.get hei;obtain ⟨fZ,rb⟩:=h6 i u h7;rw [bM] at rb;exact af3 h4 hc.2 hw (kv ht.typed hei) h8 fZ rb
  ·exact hg.elim
 ·exact hg.elim
end Go.K
end
section
namespace Go.K
open Go Go.aB
variable {P:Program} {E:Env}
theorem VK.atf {T:TypeId} {m:Mk} {n:Nat} {es:List KV} {acc:Nat->KV} {u:Value} (h:VK P E (.ts T m n es acc) u):VK P E (.ts T .any n es acc) u:=by
 obtain ⟨ht,bK,h1,a,cap,rfl,h2,h3,_⟩:=h.mD;simp only [VK];exact ⟨ht,bK,h1,a,cap,rfl,h2,h3,trivial⟩
theorem VK.apw {T:TypeId} {acc:Nat->KV} : VK P E (.ts T .any 0 [] acc) (.slice none 0 0):=by
 simp only [VK];exact ⟨⟨rfl,fun i h=>by omega,rfl⟩,[],.nil,none,0,rfl,aU _,.inl ⟨rfl,rfl⟩,trivial⟩
theorem VK.avw {b:Bool} {v:KV} {u:Value} (h:VK P E v u):VK P E (cond b v .ao) u:=by
 cases b with
 | false=>exact .uY
 | true=>exact h
theorem VK.oY {c:CK} {v:KV} {u:Value} (h:VK P E v u):VK P E (oY c v) u:=by
 unfold K.oY;split
 ·have:=h.pZ; subst this; exact .apw
 ·rename_i t t' m n es acc
  cases hb:Nat.beq t t' with
  | false=>exact .uY
  | true=>
   have:=bu hb;subst this;exact h.atf
 ·exact VK.avw h
theorem bC.CW:∀ {ks:List CK} {cs:List KV} {l:List Value},bC P E cs l->cs.length=ks.length->bC P E (CW ks cs) l
 | [],[],l,h,_=>h
 | [],_::_,_,_,e=>by simp at e
 | _::_,[],_,_,e=>by simp at e
 | c::ks,v::cs,l,h,e=>by
  obtain ⟨y,ys,rfl,h1,h2⟩:=h.cons_inv;exact .cons h1.oY (bC.CW h2 (by simpa using e))
theorem VK.fe {l:Lay} {v:KV} {u:Value} (h:VK P E v u):VK P E (fe l v) u:=by
 unfold K.fe;split
 ·rename_i cs
  obtain ⟨m,rfl,h1⟩:=h.mi;cases hb:(l.agg&&Nat.beq cs.length l.ks.length) with
  | false=>exact .uY
  | true=>
   simp only [aA] at hb;exact .rW (h1.CW (bu hb.2))
 ·cases l.agg with
  | true=>exact .uY
  | false=>
   rw [ba];split
   ·exact h.oY
   ·exact .uY
theorem XT (d:Nat) (v:KV):ai P (d+1) v=(match v with
 | .ts t _ n _ acc=>.ts t .any n ((List.range n).map fun i=>ax P (ai P d) t (acc i)) (fun i=>ax P (ai P d) t (acc i))
 | v=>v):=rfl
theorem ai1 (d:Nat) {c:CK} {v:KV} (h:kindOk c v=true):kindOk c (ai P d v)=true:=by
 cases d with
 | zero=>exact h
 | succ d=>
  rw [XT];split
  ·rename_i t m n es acc
   cases c <;> simp [kindOk] at h;cases m <;> simp at h;simp [kindOk,h]
  ·exact h
theorem Iy (d:Nat):∀ {ks:List CK} {cs:List KV},aK ks cs=true->aK ks (cs.map (ai P d))=true
 | [],[],_=>rfl
 | [],_::_,h=>by simp [aK] at h
 | _::_,[],h=>by simp [aK] at h
 | c::ks,v::cs,h=>by
  simp only [aK,aA] at h;simp only [List.map_cons,aK,aA];exact ⟨ai1 d h.1,Iy d h.2⟩
theorem tG:∀ {ks:List CK} {vs:List KV},aK ks vs=true->vs.length=ks.length
 | [],[],_=>rfl
 | [],_::_,h=>by simp [aK] at h
 | _::_,[],h=>by simp [aK] at h
 | k::ks,v::vs,h=>by
  simp only [aK,aA] at h;simp [tG h.2]
theorem rK {l:Lay} : ∀ {es:List KV},(∀ (i:Nat) e,es[i]? = some e->cP l e=true)->ga l es=true
 | [],_=>rfl
 | e::es,h=>by
  simp only [ga,aA];exact ⟨h 0 e rfl,rK fun i x hx=>h (i+1) x (by simpa using hx)⟩
theorem NZ {l:Lay} {v:KV} (h:cP l v=true):leaves v l.ks 0=v.cells/\aK l.ks v.cells=true/\(v=P0 l.agg v.cells):=by
 have hk:aK l.ks v.cells=true/\(v=P0 l.agg v.cells):=by
  by_cases ha:∃ cs,v = .agg cs
  ·obtain ⟨cs,rfl⟩:=ha
   simp only [cP,aA] at h;refine ⟨h.2,?_⟩;rw [h.1]; rfl
  ·have h1:(!l.agg&&aK l.ks [v])=true:=by
    cases v <;> first | exact h | exact absurd ⟨_,rfl⟩ ha | simp [cP] at h
   have hc:v.cells = [v]:=by cases v <;> first | rfl | exact absurd ⟨_,rfl⟩ ha
   simp only [aA,mz] at h1;rw [hc,h1.1];exact ⟨h1.2,rfl⟩
 refine ⟨?_,hk.1,hk.2⟩;rw [VP (e:=v) (ks:=l.ks) hk.1 (fun m c e=>by rw [bM]; exact e)];show (v.cells.drop 0).take l.ks.length=v.cells;rw [List.drop_zero,<- tG hk.1,List.take_length]
theorem af4 {l:Lay} {cs:List KV} {v:KV} (h:cP l v=true) (hk:aK l.ks cs=true) (hlen:cs.length=v.cells.length):cP l (P0 l.agg cs)=true:=by
 by_cases ha:∃ ds,v = .agg ds
 ·obtain ⟨ds,rfl⟩:=ha
  simp only [cP,aA] at h;rw [h.1];show (l.agg&&aK l.ks cs)=true;rw [h.1,hk]; rfl
 ·have h1:(!l.agg&&aK l.ks [v])=true:=by
   cases v <;> first | exact h | exact absurd ⟨_,rfl⟩ ha | simp [cP] at h
  have hc:v.cells = [v]:=by cases v <;> first | rfl | exact absurd ⟨_,rfl⟩ ha
  simp only [aA,mz] at h1;rw [hc] at hlen
  match cs,hlen with
  | [c],_=>
   rw [h1.1];show cP l c=true;have XS:one c=true:=by
    cases ug:l.ks with
    | nil=>rw [ug] at hk; simp [aK] at hk
    | cons a aw9=>rw [ug] at hk; simp only [aK,aA] at hk; cases a <;> cases c <;> first | rfl | simp [kindOk] at hk
   cases c <;> first | (simp [one] at XS; done) | (simp only [cP,h1.1,Fa,Bl]; exact hk)
mutual
theorem VK.ai:∀ (d:Nat) {v:KV} {u:Value},VK P E v u->VK P E (K.ai P d v) u
 | 0,_,_,h=>h
 | d+1,v,u,h=>by
  rw [XT];split
  ·rename_i t m n es acc
   obtain ⟨ht,bK,h1,a,cap,rfl,h2,h3,_⟩:=h.mD;simp only [VK];have C2:∀ i,i < n->∃ e e',es[i]? = some e/\bK[i]? = some e'/\acc i=e/\cP (bB P t) e=true/\VK P E e e':=by
    intro i hi;have hl:i < es.length:=by rw [<- ht.len]; exact hi
    have e1:=dr hl;obtain ⟨e',e2,e3⟩:=h1.get e1;exact ⟨_,e',e1,e2,by rw [ht.acc i hi,iL,e1]; rfl,kv ht.typed e1,e3⟩
   have hlen:bK.length=n:=by rw [h1.length,ht.len]
   refine ⟨⟨by simp,fun i hi=>?_,?_⟩,bK,?_,a,cap,rfl,h2,h3,trivial⟩
   ·rw [iL,CG,List.getElem?_range hi]; rfl
   ·refine rK fun i e he=>?_
    rw [CG] at he;by_cases hi:i < n
    ·rw [List.getElem?_range hi] at he
     simp only [Option.map_some,di] at he;obtain ⟨x,x',_,_,q3,q4,_⟩:=C2 i hi;rw [<- he,q3,ax];obtain ⟨r1,r2,_⟩:=NZ q4;rw [r1];exact af4 q4 (Iy d r2) (by simp)
    ·rw [List.getElem?_eq_none (by simp; omega)] at he; simp at he
   ·refine bC.Xt (by simp [hlen]) fun i e e' he K8=>?_
    rw [CG] at he;by_cases hi:i < n
    ·rw [List.getElem?_range hi] at he
     simp only [Option.map_some,di] at he;obtain ⟨x,x',_,q2,q3,q4,q5⟩:=C2 i hi;rw [K8] at q2;simp only [di] at q2;subst q2;rw [<- he,q3];exact VK.ax d q4 q5
    ·rw [List.getElem?_eq_none (by simp; omega)] at he; simp at he
  ·exact h
theorem VK.ax (d:Nat) {t:TypeId} {v:KV} {u:Value} (hk:cP (bB P t) v=true) (h:VK P E v u):VK P E (K.ax P (K.ai P d) t v) u:=by
 obtain ⟨r1,r2,r3⟩:=NZ hk;rw [K.ax,r1];by_cases ha:∃ cs,v = .agg cs
 ·obtain ⟨cs,rfl⟩:=ha
  obtain ⟨l,rfl,h1⟩:=h.mi;have BP:(bB P t).agg=true:=by simp only [cP,aA] at hk; exact hk.1
  rw [BP];exact .rW (bC.anq d h1)
 ·have hc:v.cells = [v]:=by cases v <;> first | rfl | exact absurd ⟨_,rfl⟩ ha
  have BP:(bB P t).agg=false:=by
   cases v <;> first | (simp only [cP,aA,mz] at hk; exact hk.1) | exact absurd ⟨_,rfl⟩ ha | simp [cP] at hk
  rw [BP,hc];exact VK.ai d h
theorem bC.anq (d:Nat):∀ {cs:List KV} {l:List Value},bC P E cs l->bC P E (cs.map (K.ai P d)) l
 | [],l,h=>h
 | c::cs,l,h=>by
  obtain ⟨y,ys,rfl,h1,h2⟩:=h.cons_inv;exact .cons (VK.ai d h1) (bC.anq d h2)
end
theorem anr {c:CK} {v:KV} (h:kindOk c v=true):one v=true:=by
 cases c <;> cases v <;> simp [kindOk] at h <;> rfl
theorem Hp:∀ {ks:List CK} {cs:List KV},aK ks cs=true->jM cs=true
 | [],[],_=>rfl
 | [],_::_,h=>by simp [aK] at h
 | _::_,[],h=>by simp [aK] at h
 | c::ks,v::cs,h=>by
  simp only [aK,aA] at h;simp [jM,anr h.1,Hp h.2]
def b9:List Value->List Value
 | []=>[]
 | v::vs=>v.cells.toList++b9 vs
theorem j4 {n:Nat} : ∀ {es:List Value},(∀ v∈es,v.cells.size=n)->(b9 es).length=es.length * n
 | [],_=>by simp [b9]
 | v::es,h=>by
  simp only [b9,nH,CI];rw [j4 fun u hu=>h u (by simp [hu])];have:=h v (by simp);simp only [Array.length_toList,this,Nat.succ_mul];omega
theorem nt {n:Nat} : ∀ {es:List Value},(∀ v∈es,v.cells.size=n)->qY n 0 (b9 es) es
 | [],_,i,x,h=>by simp at h
 | v::es,hs,i,x,h=>by
  have hv:=hs v (by simp);cases i with
  | zero=>
   simp at h;subst h;refine ⟨hv,fun k y hy=>?_⟩;simp only [b9,Nat.zero_mul,bM];have bG:k < v.cells.size:=(vM.1 hy).1;rw [r7 (by simpa using bG)];simpa using hy
  | succ i=>
   obtain ⟨h1,h2⟩:=nt (es:=es) (fun u hu=>hs u (by simp [hu])) i x (by simpa using h);refine ⟨h1,fun k y hy=>?_⟩;have:=h2 k y hy;simp only [b9];rw [uC (by simp [hv,Nat.succ_mul]; omega)];rw [<- this];congr 1;simp [hv,Nat.succ_mul];omega
theorem A5:∀ (a b:List Value),b9 (a++b)=b9 a++b9 b
 | [],b=>rfl
 | v::a,b=>by simp [b9,A5 a b]
theorem A6:∀ {es:List Value},(∀ v∈es,∀ c∈v.cells.toList,scalar c=true)->∀ c∈b9 es,scalar c=true
 | [],_,c,h=>by simp [b9] at h
 | v::es,hs,c,h=>by
  simp only [b9,nI] at h;rcases h with h | h
  ·exact hs v (by simp) c h
  ·exact A6 (fun u hu=>hs u (by simp [hu])) c h
theorem ack {n:Nat} : ∀ {es:List Value} {i:Nat} {v:Value},(∀ u∈es,u.cells.size=n)->v.cells.size=n->i < es.length->jK (i * n) (b9 es) v.cells.toList=some (b9 (es.set i v))
 | [],i,v,_,_,h=>by simp at h
 | u::es,0,v,hs,hv,_=>by
  simp only [Nat.zero_mul,b9,List.set_cons_zero];have key:∀ (a b r:List Value),a.length=b.length->jK 0 (a++r) b=some (b++r):=by
   intro a
   induction a with
   | nil=>intro b r h; cases b <;> simp_all [BN]
   | cons x a ih=>
    intro b r h;cases b with
    | nil=>simp at h
    | cons y b=>rw [List.cons_append,yu,ih b r (by simpa using h)]; rfl
  exact key _ _ _ (by simp [hs u (by simp),hv])
 | u::es,i+1,v,hs,hv,h=>by
  have ih:=ack (es:=es) (i:=i) (fun w hw=>hs w (by simp [hw])) hv (by simpa using h);simp only [b9,List.set_cons_succ];have key:∀ (a r vs q:List Value) (m:Nat),jK m r vs=some q->jK (a.length+m) (a++r) vs=some (a++q):=by
   intro a
   induction a with
   | nil=>intro r vs q m h; simpa using h
   | cons x a ih=>
    intro r vs q m h;rw [CI,show a.length+1+m=(a.length+m)+1 by omega,List.cons_append,uf,ih r vs q m h];rfl
  have:=key u.cells.toList _ _ _ _ ih;rw [show u.cells.toList.length+i * n=(i+1) * n by simp [hs u (by simp),Nat.succ_mul]; omega] at this;exact this
def sB (es:List Value):List (Nat×Value)->List Value
 | []=>es
 | (i,v)::rest=>sB (es.set i v) rest
theorem Lf:∀ (ps:List (Nat×Value)) (es:List Value),(sB es ps).length=es.length
 | [],_=>rfl
 | p::ps,es=>by simp [sB,Lf ps]
theorem VQ {n:Nat} (hn:1<=n):∀ {ps:List (Nat×Value)} {es:List Value},(∀ u∈es,u.cells.size=n)->(∀ p∈ps,p.2.cells.size=n/\p.1 < es.length)->
  CM (Cg n) (b9 es) ps=some (b9 (sB es ps))/\∀ u∈sB es ps,u.cells.size=n
 | [],es,hs,_=>⟨rfl,hs⟩
 | (i,v)::ps,es,hs,hp=>by
  obtain ⟨h1,h2⟩:=hp (i,v) (by simp);have h3:=ack hs h1 h2;have afG:∀ u∈es.set i v,u.cells.size=n:=by
   intro u hu;rcases List.mem_or_eq_of_mem_set hu with h | h
   ·exact hs u h
   ·subst h; exact h1
  obtain ⟨h4,h5⟩:=VQ hn (ps:=ps) afG (fun p hq=>by have:=hp p (by simp [hq]); simpa using this);refine ⟨?_,h5⟩;simp only [CM,Cg];have e1:Nat.beq v.cells.size n=true:=by rw [h1]; simp
  have e2:Nat.ble 1 n=true:=Nat.ble_eq_true_of_le hn;rw [e1,e2];simp only [dk,ak,h3,fy];exact h4
theorem VS {v:KV} {u:Value} (h:VK P E v u):∀ {es:List KV} {bK:List Value} (i:Nat),bC P E es bK->bC P E (setAt es i v) (bK.set i u)
 | [],bK,i,q=>by rw [q.cw]; cases i <;> exact .nil
 | x::es,bK,0,q=>by
  obtain ⟨y,ys,rfl,h1,h2⟩:=q.cons_inv;exact .cons h h2
 | x::es,bK,i+1,q=>by
  obtain ⟨y,ys,rfl,h1,h2⟩:=q.cons_inv;exact .cons h1 (VS h i h2)
theorem VT {l:Lay} : ∀ {is:List Nat} {vs:List KV} {us:List Value} {es:List KV} {bK:List Value},bC P E vs us->bC P E es bK->bC P E (Gt es ((Ap is vs).map fun p=>(p.1,fe l p.2))) (sB bK (zipIdx is us))
 | [],vs,us,es,bK,_,h=>by simpa [Ap,zipIdx,Gt,sB] using h
 | i::is,[],us,es,bK,hv,h=>by rw [hv.cw]; simpa [Ap,zipIdx,Gt,sB] using h
 | i::is,v::vs,us,es,bK,hv,h=>by
  obtain ⟨y,ys,rfl,h1,h2⟩:=hv.cons_inv;simp only [Ap,zipIdx,List.map_cons,Gt,sB];exact VT h2 (VS h1.fe i h)
theorem Fk:∀ (es:List KV) (i:Nat) (v:KV),(setAt es i v).length=es.length
 | [],0,_=>rfl
 | [],_+1,_=>rfl
 | _::_,0,_=>rfl
 | e::es,i+1,v=>by simp [setAt,Fk es i v]
theorem Lg:∀ (ps:List (Nat×KV)) (es:List KV),(Gt es ps).length=es.length
 | [],_=>rfl
 | p::ps,es=>by simp [Gt,Lg ps,Fk]
theorem alA {n:Nat} : ∀ {is:List Nat} (us:List Value),Ek n is=true->∀ p∈zipIdx is us,p.1 < n/\p.2∈us
 | [],us,_,p,h=>by simp [zipIdx] at h
 | i::is,[],_,p,h=>by simp [zipIdx] at h
 | i::is,u::us,h,p,hp=>by
  simp only [Ek,aA,cq] at h;simp only [zipIdx,fA] at hp;rcases hp with rfl | hp
  ·exact ⟨h.1,by simp⟩
  ·obtain ⟨h1,h2⟩:=alA us h.2 p hp
   exact ⟨h1,by simp [h2]⟩
theorem C3 (z:Value):∀ n,iG z.cells.toList n=b9 (List.replicate n z)
 | 0=>rfl
 | n+1=>by simp [iG,List.replicate_succ,b9,C3 z n]
theorem N1 {z:KV} {u:Value} (h:VK P E z u):∀ n,bC P E (dI [z] n) (List.replicate n u)
 | 0=>.nil
 | n+1=>by simpa [dI,List.replicate_succ] using bC.cons h (N1 h n)
theorem nV {l:Lay} : ∀ {es:List KV} {bK:List Value},ga l es=true->bC P E es bK->∀ u∈bK,u.cells.size=l.ks.length/\∀ c∈u.cells.toList,scalar c=true
 | [],bK,_,h,u,hu=>by rw [h.cw] at hu; simp at hu
 | e::es,bK,C2,h,u,hu=>by
  obtain ⟨y,ys,rfl,h1,h2⟩:=h.cons_inv;simp only [ga,aA] at C2;rcases fA.1 hu with rfl | hu
  ·obtain ⟨k1,k2⟩:=jz C2.1
   have hc:=h1.cells k2;refine ⟨?_,hc.scalar (Hp k1)⟩;have:=hc.length;have:=sF k1;simp at *;omega
  ·exact nV C2.2 h2 u hu
theorem aaK {l:Lay} : ∀ {vs:List KV} {us:List Value},bC P E vs us->bC P E (vs.map (fe l)) us
 | [],_,h=>h
 | v::vs,us,h=>by
  obtain ⟨y,ys,rfl,h1,h2⟩:=h.cons_inv;exact .cons h1.fe (aaK h2)
theorem ai2 {e:TypeId} {n len:Nat} {z:Value} {is:List Nat} (hn:(bB P e).ks.length=n) (h1n:1<=n) (hz:z.cells.size=n) (hb:Ek len is=true) :
  ate P (Qw (bB P e) e (fe (bB P e) (iH z)) len is) (tw n z len is):=by
 intro E A B vs us v h hv hg;unfold Qw at hg;obtain ⟨hc,hg⟩:=bf.cond hg;simp only [aA] at hc;obtain ⟨⟨hk,hvs⟩,C2⟩:=hc;have hg:KV.ts e .exact len _ _=v:=hg;subst hg;have hz0:VK P E (fe (bB P e) (iH z)) z:=(VK.iH z).fe;have hrel:=VT (l:=bB P e) (is:=is) hv (N1 hz0 len);have hlen:(Gt (dI [fe (bB P e) (iH z)] len) ((Ap is vs).map fun p=>(p.1,fe (bB P e) p.2))).length=len:=by
  rw [Lg,Bp]; simp
 have alB:∀ p∈zipIdx is us,p.2.cells.size=n/\p.1 < (List.replicate len z).length:=by
  intro p hp;obtain ⟨h5,h6⟩:=alA us hb p hp;have hm:bC P E (vs.map (fe (bB P e))) us:=aaK hv;exact ⟨by rw [<- hn]; exact (nV hvs hm p.2 h6).1,by simpa using h5⟩
 obtain ⟨h3,h4⟩:=VQ h1n (ps:=zipIdx is us) (es:=List.replicate len z) (fun u hu=>by rw [(List.mem_replicate.1 hu).2]; exact hz) alB;have vR:=nV C2 hrel;have mj:(b9 (sB (List.replicate len z) (zipIdx is us))).all scalar=true:=ij.2 (A6 fun u hu=>(vR u hu).2);refine ⟨.row (b9 (sB (List.replicate len z) (zipIdx is us))) n true none,fun b=>.slice (some ⟨b,0,none⟩) len len,E.il B.next ⟨_,n,true,none⟩,?_,?_,dR.ano h⟩
 ·unfold tw
  rw [C3,h3];simp only [fy];rw [mj,Iw hv hk];rfl
 ·have apx:=hrel.mono (dR.ano (cu:=b9 (sB (List.replicate len z) (zipIdx is us))) (cg:=n) h).le
  have nj:(sB (List.replicate len z) (zipIdx is us)).length=len:=by rw [Lf]; simp
  simp only [VK];refine ⟨⟨hlen.symm,fun i _=>rfl,C2⟩,_,apx,some ⟨B.next,0,none⟩,len,rfl,aU _,.inr ⟨B.next,0,⟨b9 (sB (List.replicate len z) (zipIdx is us)),n,true,none⟩,rfl,by simp [Env.il],hn.symm,?_⟩,rfl,fun b off hb=>?_⟩
  ·have:=nt h4
   unfold bD;rw [hn];exact this
  ·simp at hb
   obtain ⟨rfl,rfl⟩:=hb;refine ⟨⟨b9 (sB (List.replicate len z) (zipIdx is us)),n,true,none⟩,by simp [Env.il],rfl,rfl,?_⟩;simp only [bD,hn];rw [j4 h4,nj];omega
theorem alC {n len:Nat} {z:Value} {is:List Nat} (ho:jM (iH z).cells=true):af2 P (Vz n (iH z).cells len is) (tw n z len is):=by
 intro E A A' B vs us v h hv hg;unfold Vz at hg;split at hg
 ·rename_i cs hf
  obtain ⟨hk,hg⟩:=bf.cond hg;simp only [aA] at hk;have hg:(KV.sl A.next 0 len len,A.new (.row cs n))=(v,A'):=hg;simp only [fS] at hg;obtain ⟨rfl,rfl⟩:=hg;obtain ⟨h2,h3⟩:=afT is hv;obtain ⟨r',e,hr⟩:=afS h2 h3 (fun p hp=>by have:=afU is vs p hp; exact ij.1 hk.1 _ this) (QK (En (P:=P) (E:=E) ho) len) hf;refine ⟨.row r' n true none,fun b=>.slice (some ⟨b,0,none⟩) len len,E.ns A.next B.next,?_,.aqU (by simp [Env.ns]),dR.newRow h hr⟩;unfold tw;rw [e];simp only [fy];rw [Iw hv hk.1,ij.2 (hr.scalar hk.2)];rfl
 ·exact hg.elim
theorem Ms {m cap:Nat} {lo hi:Bool} {r:List KV} {r' : List Value} {x y:Int} (h:XJ m lo hi r=some (x,y)) (hr:bC P E r r') (h0:0<=x) (h1:x<=y) (h2:y<=(m:Int)) (hc:m<=cap) :
  vI m cap lo hi false r' = some (x.toNat,y.toNat,cap):=by
 obtain ⟨x',rfl⟩:=Int.eq_ofNat_of_zero_le h0;obtain ⟨y',rfl⟩:=Int.eq_ofNat_of_zero_le (Int.le_trans h0 h1);have hb:∀ (k:IntKind) (i n:Nat),i<=n->bnd n (.int k (i:Int))=some i:=by
  intro k i n h;show mf (.ofNat i) (Nat.succ n)=some i;exact rj (by omega)
 match r,h with
 | [],h=>
  rw [hr.cw];cases lo <;> cases hi <;> simp [XJ] at h;obtain ⟨h3,h4⟩:=h;simp [vI];omega
 | [.int k a],h=>
  obtain ⟨u,rfl,h3⟩:=hr.fN;have:=h3.cU; subst this;cases lo <;> cases hi <;> simp [XJ] at h
  ·obtain ⟨h4,rfl⟩:=h
   simp only [vI];rw [hb k y' cap (by omega)];simp;omega
  ·obtain ⟨rfl,h4⟩:=h
   simp only [vI];rw [hb k x' m (by omega)];simp;omega
 | [.int k a,.int k' c],h=>
  obtain ⟨u,v,rfl,h3,h4⟩:=hr.lR;have:=h3.cU; subst this;have:=h4.cU; subst this;cases lo <;> cases hi <;> simp [XJ] at h;obtain ⟨rfl,rfl⟩:=h;simp only [vI];rw [hb k' y' cap (by omega)];simp only [fy];rw [hb k x' y' (by omega)];simp
theorem T6 {l:Lay} : ∀ {es:List KV} (n:Nat),ga l es=true->ga l (es.drop n)=true
 | es,0,h=>by simpa using h
 | [],n+1,_=>rfl
 | e::es,n+1,h=>by
  simp only [ga,aA] at h;simpa using T6 n h.2
theorem T7 {l:Lay} : ∀ {es:List KV} (n:Nat),ga l es=true->ga l (es.take n)=true
 | es,0,h=>rfl
 | [],n+1,_=>rfl
 | e::es,n+1,h=>by
  simp only [ga,aA] at h;simp [ga,h.1,T7 n h.2]
theorem Pl {l:Lay} : ∀ {es fs:List KV},ga l es=true->ga l fs=true->ga l (es++fs)=true
 | [],fs,_,h=>h
 | e::es,fs,h,k=>by
  simp only [ga,aA] at h;simp [ga,h.1,Pl h.2 k]
theorem qY.part {sz off x k:Nat} {cs es:List Value} (h:qY sz off cs es):qY sz (off+x * sz) cs ((es.drop x).take k):=by
 intro i v hv;rw [pH] at hv;split at hv
 ·rw [pS] at hv
  obtain ⟨h1,h2⟩:=h (x+i) v hv;refine ⟨h1,fun j y hj=>?_⟩;rw [<- h2 j y hj];congr 1;rw [Nat.add_mul];omega
 ·simp at hv
theorem aaL {es:List KV} {i:Nat} (h:i < es.length):es[i]? = some (es.getD i .ao):=by simp [List.getD,h]
theorem ans {n:Nat} {lo hi:Bool} (_:1<=n):ann P (aaA P n lo hi) (Ch n lo hi false):=by
 intro E A B vs us v h hv hg;unfold aaA at hg;split at hg
 ·rename_i T mk m es acc r
  split at hg
  ·rename_i x y hb
   obtain ⟨fZ,hg⟩:=hg.cond;have fZ:=bu fZ;obtain ⟨hc,rfl⟩:=bf.lQ hg;simp only [aA,o7] at hc;obtain ⟨⟨h0,h1⟩,h2⟩:=hc;obtain ⟨u,r',rfl,h3,h4⟩:=hv.cons_inv;obtain ⟨ht,bK,h5,a,cap,rfl,h6,h7,_⟩:=h3.mD;have XC:=Ms hb h4 h0 h1 h2 h6;have hlen:=ht.len;have hle:((es.drop x.toNat).take (y.toNat - x.toNat)).length=y.toNat - x.toNat:=by simp; omega
   have hT:ku P T (y.toNat - x.toNat) ((es.drop x.toNat).take (y.toNat - x.toNat)) (fun i=>acc (x.toNat+i)):=by
    refine ⟨hle.symm,fun i hi=>?_,T7 _ (T6 _ ht.typed)⟩;rw [ht.acc _ (by omega)];simp only [List.getD];rw [pH,aY hi,pS]
   rcases h7 with ⟨rfl,hm⟩ | ⟨b,off,rr,rfl,h8,h9,vX⟩
   ·refine ⟨.slice none (y.toNat - x.toNat) (cap - x.toNat),by simp [Ch,XC],?_⟩
    simp only [VK];exact ⟨hT,_,(h5.drop _).take _,none,_,rfl,by omega,.inl ⟨rfl,by omega⟩,trivial⟩
   ·have hQ:=h.z b rr h8
    have Xz:rr.cg=n:=by rw [h9]; exact fZ
    refine ⟨.slice (some ⟨b,off+x.toNat * n,none⟩) (y.toNat - x.toNat) (cap - x.toNat),?_,?_⟩
    ·simp [Ch,XC,dp,Fb,hQ,Xz]
    ·simp only [VK]
     refine ⟨hT,_,(h5.drop _).take _,_,_,rfl,by omega,.inr ⟨b,off+x.toNat * n,rr,rfl,h8,h9,?_⟩,trivial⟩;have:bD P T=n:=fZ;rw [this] at vX ⊢;exact vX.part
  ·exact hg.elim
 ·rename_i b o len cap r
  split at hg
  ·rename_i cs cg hQ
   split at hg
   ·rename_i x y hb
    obtain ⟨fZ,hg⟩:=hg.cond;have fZ:=bu fZ;obtain ⟨hc,rfl⟩:=bf.lQ hg;simp only [aA,o7] at hc;obtain ⟨⟨⟨h0,h1⟩,h2⟩,h6⟩:=hc;obtain ⟨u,r',rfl,h3,h4⟩:=hv.cons_inv;obtain ⟨z,hz,rfl⟩:=h3.SL;have XC:=Ms hb h4 h0 h1 h2 h6;obtain ⟨z',cu,e1,e2,_⟩:=h.row b cs cg hQ;rw [hz] at e1;simp at e1;subst e1;refine ⟨.slice (some ⟨z,o+x.toNat * n,none⟩) (y.toNat - x.toNat) (cap - x.toNat),?_,.aqU hz⟩;simp [Ch,XC,dp,Fb,e2,fZ]
   ·exact hg.elim
  ·exact hg.elim
 ·rename_i T b o m r
  split at hg
  ·rename_i T' mk N es acc hA
   split at hg
   ·rename_i x y hb
    obtain ⟨fZ,hg⟩:=hg.cond;obtain ⟨hc,rfl⟩:=bf.lQ hg;simp only [aA] at fZ;have hT:=bu fZ.2;have auW:bD P T=n:=bu fZ.1;subst hT;simp only [aA,o7] at hc;obtain ⟨⟨h0,h1⟩,h2⟩:=hc;obtain ⟨u,r',rfl,h3,h4⟩:=hv.cons_inv;rcases h3.zb with ⟨rfl,rfl,rfl⟩ | ⟨z,L,N',c,e1,rfl,e2,e3,e4⟩
    ·have XC:=Ms hb h4 h0 h1 h2 (aU _)
     have hx0:x.toNat=0:=by omega
     have hy0:y.toNat=0:=by omega
     refine ⟨.slice none (y.toNat - x.toNat) (0 - x.toNat),by simp [Ch,XC],.T4 (.inl ⟨by omega,by omega,by rw [hx0,hy0]⟩)⟩
    ·have XC:=Ms hb h4 h0 h1 h2 e2
     obtain ⟨T2,N2,pQ,aE,Ij,_,_,cs,e,own,cp,bK,_,h5,_,_,_,h7⟩:=h.Lb hA e1;simp only [KV.ts.injEq] at Ij;obtain ⟨rfl,_⟩:=Ij;refine ⟨.slice (some ⟨z,o * bD P T+x.toNat * n,none⟩) (y.toNat - x.toNat) (c - x.toNat),?_,.T4 (.inr ⟨z,L,N',c - x.toNat,e1,?_,by omega,by omega,?_⟩)⟩
     ·simp [Ch,XC,dp,Fb,h5,h7,auW]
     ·simp only [Value.slice.injEq,di,Addr.mk.injEq,and_true,true_and]
      rw [auW,Nat.add_mul]
     ·rw [<- e4]
      congr 1;omega
   ·exact hg.elim
  ·exact hg.elim
 ·exact hg.elim
theorem alD {len n:Nat} {lo hi:Bool} : ann P (VE len n lo hi) (NB len n lo hi false):=by
 intro E A B vs us v h hv hg;unfold VE at hg;split at hg
 ·rename_i b o r
  split at hg
  ·rename_i cs cg hQ
   split at hg
   ·rename_i x y hb
    obtain ⟨fZ,hg⟩:=hg.cond;simp only [aA] at fZ;have xN:=bu fZ.1;have hsz2:=fR fZ.2;obtain ⟨hc,rfl⟩:=bf.lQ hg;simp only [aA,o7] at hc;obtain ⟨⟨h0,h1⟩,h2⟩:=hc;obtain ⟨u,r',rfl,h3,h4⟩:=hv.cons_inv;obtain ⟨z,hz,rfl⟩:=h3.j9;have XC:=Ms hb h4 h0 h1 h2 (aU _);obtain ⟨z',cu,e1,e2,e3⟩:=h.row b cs cg hQ;rw [hz] at e1;simp at e1;subst e1;have hlen:=e3.length;refine ⟨.slice (some ⟨z,o+x.toNat * n,none⟩) (y.toNat - x.toNat) (len - x.toNat),?_,.aqU hz⟩;have xD:Nat.ble (o+len * n) cu.length=true:=Nat.ble_eq_true_of_le (by omega);simp [NB,XC,dp,Fb,Xp,e2,xN,xD]
    try omega
   ·exact hg.elim
  ·exact hg.elim
 ·exact hg.elim
theorem alE {lo hi:Bool} : yG P (VF lo hi) (Ie lo hi):=by
 intro E vs us v hv hg;unfold VF at hg;split at hg
 ·rename_i s r
  split at hg
  ·rename_i x y hb
   obtain ⟨hc,rfl⟩:=bf.lQ hg;simp only [aA,o7] at hc;obtain ⟨⟨h0,h1⟩,h2⟩:=hc;obtain ⟨u,r',rfl,h3,h4⟩:=hv.cons_inv;have:=h3.uX; subst this;have XC:=Ms hb h4 h0 h1 h2 (aU _);exact ⟨_,by simp [Ie,XC],.mkStr⟩
  ·exact hg.elim
 ·exact hg.elim
theorem alF:ann P (fun _=>NQ) Ih:=by
 intro E A B vs us v h hv hg;have hg:bf (NQ vs) v:=hg;unfold NQ at hg;split at hg
 ·obtain ⟨u,rfl,h1⟩:=hv.fN
  have:=h1.pZ; subst this;have hg:KV.str ⟨⟨[]⟩⟩=v:=hg;subst hg;exact ⟨_,rfl,.mkStr⟩
 ·rename_i T mk m es acc _
  obtain ⟨u,rfl,h1⟩:=hv.fN;obtain ⟨hc,rfl⟩:=bf.lQ hg;obtain ⟨ht,bK,h5,a,cap,rfl,h6,h7,_⟩:=h1.mD;have hlen:=ht.len;rcases h7 with ⟨rfl,hm⟩ | ⟨b,off,rr,rfl,h8,h9,vX⟩
  ·have:es = []:=pR.1 (by omega)
   subst this;exact ⟨_,rfl,.mkStr⟩
  ·have hQ:=h.z b rr h8
   have A7:∀ (i:Nat) (w:Value),bK[i]? = some w->∃ e,es[i]? = some e/\w = .int .u8 (byteOf e).toNat/\w.cells.size=1:=by
    intro i w hw;have hi:i < es.length:=by rw [<- h5.length]; exact (dq.1 hw).1
    obtain ⟨w',e1,e2⟩:=h5.get (aaL hi);rw [hw] at e1;simp at e1;subst e1;have su:=ij.1 hc _ (jD (aaL hi));refine ⟨_,aaL hi,?_⟩
    revert e2 su
    generalize es.getD i .ao=e;intro e2 su;cases e <;> simp [aqN] at su;rename_i k q;cases k <;> simp at su;have:=e2.cU; subst this;refine ⟨?_,rfl⟩;simp only [byteOf,Value.int.injEq,true_and];obtain ⟨p,rfl⟩:=Int.eq_ofNat_of_zero_le su.1;have hp:p < 256:=by omega
    simp [UInt8.toNat_ofNat',Nat.mod_eq_of_lt hp]
   have awj:bK=es.map fun e=>.int .u8 (byteOf e).toNat:=by
    apply List.ext_getElem?;intro i;cases hw:bK[i]? with
    | none=>
     have:es.length<=i:=by rw [<- h5.length]; exact aeO.1 hw
     simp [this]
    | some w=>
     obtain ⟨e,e1,e2,_⟩:=A7 i w hw;simp [e1,e2]
   have xN:∀ i w,bK[i]? = some w->bD P T=1:=fun i w hw=>by
    obtain ⟨_,_,_,JH⟩:=A7 i w hw;rw [<- (vX i w hw).1]; exact JH
   have Gr:B.Au ⟨b,off,none⟩ m=some bK:=by
    simp only [St.Au,dp,Option.isNone_none,ak,Cf,hQ,fy];have uz:bK.length=m:=by rw [h5.length]; exact hlen.symm
    have rb:∀ i,i < m->rr.cs[off+i]? = bK[i]?:=by
     intro i hi;have hi' : i < bK.length:=by omega
     have hw:bK[i]? = some bK[i]:=dr hi';have h1':=xN i _ hw;obtain ⟨h12,h13⟩:=vX i _ hw;obtain ⟨e,e1,e2,_⟩:=A7 i _ hw;have:=h13 0 bK[i] (by rw [e2]; rfl);rw [h1'] at this;rw [hw,<- this];congr 1;omega
    have hle:m<=(rr.cs.drop off).length:=by
     cases hm0:m with
     | zero=>omega
     | succ q=>
      have:=rb q (by omega);have hq:q < bK.length:=by omega
      rw [dr hq] at this;have:=(dq.1 this).1;simp;omega
    rw [uO,Mq hle];congr 1;apply List.ext_getElem?;intro i;rw [pH];split
    ·rename_i hi
     rw [pS];exact rb i hi
    ·rename_i hi
     exact (aeO.2 (by omega)).symm
   have alk:∀ (l:List KV),JO (l.map fun e=>.int .u8 (byteOf e).toNat)=some (l.map byteOf):=by
    intro l
    induction l with
    | nil=>rfl
    | cons e l ih=>
     have hb:=(byteOf e).toNat_lt;show cond (Nat.blt (byteOf e).toNat 256) ((JO (l.map fun e=>.int .u8 (byteOf e).toNat)).map (UInt8.ofNat (byteOf e).toNat::·)) none=_;have:Nat.blt (byteOf e).toNat 256=true:=by rw [cq]; omega
     rw [this,ak,ih];simp
   refine ⟨.string ⟨⟨es.map byteOf⟩⟩,?_,.mkStr⟩;simp only [Ih,Gr,fy];rw [awj,alk];rfl
 ·exact hg.elim
theorem af5 {b lo hi:Nat} : ∀ {L:List Nat} {B:St},(∀ x∈L,rV (B.get x) lo hi=false)->B.kill b lo hi L=B
 | [],B,_=>rfl
 | x::L,B,h=>by
  simp only [St.kill];rw [h x (by simp),Bool.and_false,ba];exact af5 fun y hy=>h y (by simp [hy])
theorem dR.aqX {A:aw} {B:St} (sz:Nat) (h:fX P E A B):dR P E A B E (A.new (.bA 0 sz)) B:=by
 have hn:E.φ A.next=none:=by
  cases JG:E.φ A.next with
  | none=>rfl
  | some g=>have:=h.nS _ g JG; omega
 have hA:∀ (b:Nat) (v:KV),(A.new (.bA 0 sz)).get b=some (.arr v)->A.get b=some (.arr v):=fun b v hb=>by
  rw [aw.dz] at hb;split at hb
  ·simp at hb
  ·exact hb
 have hfz:∀ (b:Nat) (v:KV),(A.new (.bA 0 sz)).get b=some (.kW v)->A.get b=some (.kW v):=fun b v hb=>by
  rw [aw.dz] at hb;split at hb
  ·simp at hb
  ·exact hb
 refine ⟨⟨?_,?_,h.z,h.apart,h.inj,h.kR.new (.inr hn),fun b x e=>?_,fun b g e=>?_,?_,h.iW,h.nT,h.lu,h.fresh,h.mem,h.ar.ik (Env.le_refl _) (fun _=>rfl) hA hfz (by simp) (aU _) (fun _ _=>rfl) (fun _ _ e=>.inl e) (fun _ _ e=>.inl e) (fun b g e=>.inl ⟨b,e⟩) (fun _ _=>rfl) h.mem⟩,Env.le_refl _,by simp,fun _ _ _ _=>rfl,fun _ _ e=>.inl e,fun _ _ e=>.inl e,fun _ _ e=>.inl e,fun _ _ _ _=>rfl,fun _ q=>.inl (q.of (fun _=>rfl) hA),fun _ q=>.inl (q.of (fun _=>rfl) hA fun _ _=>rfl),fun _ _ q=>.inl q,fun _ q=>.inl (q.of (fun _=>rfl) hA (fun _ _=>rfl) fun _ _=>rfl),nU fun _ _=>rfl⟩
 ·intro b cs cg hb
  rw [aw.dz] at hb;split at hb
  ·simp at hb
  ·exact h.row b cs cg hb
 ·intro b top Gu hb
  rw [aw.dz] at hb;split at hb
  ·rename_i e
   simp at hb;refine .inl ⟨hb.1.symm,?_⟩;cases JG:E.φ b with
   | none=>rfl
   | some g=>have:=h.nS b g JG; omega
  ·exact h.bA b top Gu hb
 ·have:=h.lW b x e; rw [aw.cC]; omega
 ·have:=h.nS b g e; rw [aw.cC]; omega
 ·intro b o hb
  rw [aw.dz] at hb;rw [aw.cC];split at hb
  ·omega
  ·have:=h.live b o hb; omega
theorem dR.grow {A:aw} {B:St} {f g top T8 sz:Nat} {c:List Value} (h:fX P E A B) (hA:A.get f=some (.bA top sz)) (hf:(E.φ f=none/\g=B.next)\/E.φ f=some g) (hc:c.length=T8 * sz) (ht:top<=T8) (D3:0 < T8) :
  dR P E A B ((E.il B.next ⟨c,sz,true,some (g,0)⟩).uZ f g) (A.put f (.bA T8 sz)) (B.grow g 0 c sz):=by
 have pj:∀ x,(B.grow g 0 c sz).get x=if x=B.next then some (.row c sz true (some (g,0))) else B.get x:=fun x=>by simp [St.grow]
 have oh:∀ q,(B.grow g 0 c sz).members q=if q=g then B.next::B.members g else B.members q:=fun q=>by simp [St.grow,St.Fg]
 have j7:(B.grow g 0 c sz).next=B.next+1:=rfl;have hlef:=h.live f _ hA;have hle:E.le ((E.il B.next ⟨c,sz,true,some (g,0)⟩).uZ f g):=by
  refine ⟨fun _ _ e=>e,fun _ _ e=>e,fun b r e=>?_,fun b q e=>?_⟩
  ·have:=h.nT b r e
   simp only [Env.uZ,Env.il]; rw [av (by omega)]; exact e
  ·simp only [Env.uZ,Env.il]
   split
   ·rename_i e2
    subst e2;rcases hf with ⟨h1,_⟩ | h1
    ·rw [h1] at e; simp at e
    ·rw [h1] at e; exact e
   ·exact e
 have hg:g<=B.next:=by
  rcases hf with ⟨_,h1⟩ | h1
  ·omega
  ·have:=h.lu f g h1; omega
 generalize hB' : B.grow g 0 c sz=B' at pj oh j7;have XU:∀ (b:Nat) (v:KV),(A.put f (.bA T8 sz)).get b=some (.arr v)->A.get b=some (.arr v):=fun b v hb=>by
  rw [aw.cz] at hb;split at hb
  ·simp at hb
  ·exact hb
 have hfz:∀ (b:Nat) (v:KV),(A.put f (.bA T8 sz)).get b=some (.kW v)->A.get b=some (.kW v):=fun b v hb=>by
  rw [aw.cz] at hb;split at hb
  ·simp at hb
  ·exact hb
 have BT:∀ x,x < B.next->B'.get x=B.get x:=fun x hx=>by rw [pj,av (by omega)]
 have QJ:∀ b r,((E.il B.next ⟨c,sz,true,some (g,0)⟩).uZ f g).z b=some r->E.z b=some r\/B.next<=b:=fun b r e=>by
  simp only [Env.uZ,Env.il] at e;split at e
  ·exact .inr (by omega)
  ·exact .inl e
 have auX:∀ b q,((E.il B.next ⟨c,sz,true,some (g,0)⟩).uZ f g).φ b=some q->E.φ b=some q\/B.next<=q:=fun b q e=>by
  simp only [Env.uZ,Env.il] at e;split at e
  ·rename_i e2
   simp at e;subst e e2;rcases hf with ⟨_,h1⟩ | h1
   ·exact .inr (by omega)
   ·exact .inl h1
  ·exact .inl e
 have XV:∀ q,AF A E B q->B'.members q=B.members q:=fun q hq=>by
  rw [oh,av];intro e2;subst e2;obtain ⟨b,v,x,L,N,cs,e,own,k,h1,h2,h3⟩:=hq;obtain ⟨h4,h5,_⟩:=h.ar.vL b v x L N cs e own q k h1 h2 h3;rcases hf with ⟨_,h1⟩ | h1
  ·omega
  ·exact h5 f h1
 have apy:∀ q y,y∈B'.members q->y∈B.members q\/B.next<=y:=fun q y hy=>by
  rw [oh] at hy;split at hy
  ·rename_i e2
   subst e2;rcases fA.1 hy with hy | hy
   ·exact .inr (by omega)
   ·exact .inl hy
  ·exact .inl hy
 refine ⟨⟨?_,?_,?_,?_,?_,?_,?_,?_,?_,?_,?_,?_,?_,?_,h.ar.ik hle (fun _=>rfl) XU hfz (aU _) (by omega) (fun x q=>BT x (h.J0 q)) QJ (fun _ _ e=>.inl e) (fun b q e=>(auX b q e).imp (fun e=>⟨b,e⟩) id) XV h.mem⟩,hle,aU _,?_,fun b x e=>.inl e,fun b r e=>(QJ b r e).imp id .inr,auX,fun q hq hn _=>by
  rw [oh,av];intro e2;subst e2;rcases hf with ⟨_,h1⟩ | h1
  ·omega
  ·exact hn f h1,fun _ q=>.inl (q.of (fun _=>rfl) XU),fun _ q=>.inl (q.of (fun _=>rfl) XU fun x q=>BT x (h.J0 q)),apy,fun _ q=>.inl (q.of (fun _=>rfl) XU (fun x q=>BT x (h.J0 q)) XV),nU BT⟩
 ·intro b cs cg hb
  rw [aw.cz] at hb;split at hb
  ·simp at hb
  ·obtain ⟨x,c2,h1,h2,h3⟩:=h.row b cs cg hb
   have:=h.iW b x h1;exact ⟨x,c2,h1,by rw [pj,av (by omega)]; exact h2,h3.mono hle⟩
 ·intro b t Gu hb
  rw [aw.cz] at hb;split at hb
  ·rename_i e
   simp at hb;obtain ⟨rfl,rfl⟩:=hb;subst e;refine .inr ⟨g,by simp [Env.uZ],D3,fun x hx cs e own q k hr=>?_⟩;rw [pj] at hr;rw [oh,aY rfl] at hx;split at hr
   ·simp at hr
    obtain ⟨rfl,rfl,_,_,rfl⟩:=hr;exact ⟨rfl,Nat.le_of_eq hc⟩
   ·rename_i de
    rcases fA.1 hx with hx | hx
    ·exact absurd hx de
    ·rcases hf with ⟨_,h1⟩ | h1
     ·rw [h1,h.fresh _ (aU _)] at hx; simp at hx
     ·rcases h.bA b top sz hA with ⟨_,h2⟩ | ⟨g2,h2,_,h3⟩
      ·rw [h1] at h2; simp at h2
      ·rw [h1] at h2
       simp at h2;subst h2;obtain ⟨h4,h5⟩:=h3 x hx cs e own q k hr;exact ⟨h4,o9 h5 (Nat.mul_le_mul_right _ ht)⟩
  ·rename_i P1
   rcases h.bA b t Gu hb with ⟨h1,h2⟩ | ⟨g2,h2,hp2,h3⟩
   ·exact .inl ⟨h1,by simp only [Env.uZ,Env.il]; rw [av P1]; exact h2⟩
   ·have de:g2≠g:=by
     intro e;subst e;rcases hf with ⟨_,h1⟩ | h1
     ·have:=h.lu b g2 h2; omega
     ·exact P1 (h.kR b f g2 _ _ _ _ hb hA h2 h1)
    refine .inr ⟨g2,by simp only [Env.uZ,Env.il]; rw [av P1]; exact h2,hp2,fun x hx cs e own q k hr=>?_⟩;rw [oh,av de] at hx;have:=h.mem g2 x hx;rw [pj,av (by omega)] at hr;exact h3 x hx cs e own q k hr
 ·intro b r hb
  simp only [Env.uZ,Env.il] at hb;rw [pj];split at hb
  ·rename_i e; simp at hb; subst hb; rw [aY e]
  ·rename_i e; rw [av e]; exact h.z b r hb
 ·intro b x hb
  have hb:E.κ b=some x:=hb;have:=h.iW b x hb;simp only [Env.uZ,Env.il];rw [av (by omega)];exact h.apart b x hb
 ·exact h.inj
 ·intro b d q tb sb td sd lb ld hb hd
  simp only [Env.uZ,Env.il] at hb hd;rw [aw.cz] at lb ld;have key:∀ d t s,d≠f->A.get d=some (.bA t s)->E.φ d≠some g:=by
   intro d t s hd hl e;rcases hf with ⟨_,h1⟩ | h1
   ·have:=h.lu d g e; omega
   ·exact hd (h.kR d f g _ _ _ _ hl hA e h1)
  by_cases e1:b=f <;> by_cases e2:d=f
  ·omega
  ·rw [aY e1] at hb; rw [av e2] at hd ld; simp at hb; subst hb; exact absurd hd (key d _ _ e2 ld)
  ·rw [aY e2] at hd; rw [av e1] at hb lb; simp at hd; subst hd; exact absurd hb (key b _ _ e1 lb)
  ·rw [av e1] at hb lb; rw [av e2] at hd ld; exact h.kR b d q _ _ _ _ lb ld hb hd
 ·exact h.lW
 ·intro b q hb
  simp only [Env.uZ,Env.il] at hb;rw [aw.uQ];split at hb
  ·omega
  ·exact h.nS b q hb
 ·intro b o hb
  rw [aw.cz] at hb;rw [aw.uQ];split at hb
  ·omega
  ·exact h.live b o hb
 ·intro b x hb; have:=h.iW b x hb; omega
 ·intro b r hb
  simp only [Env.uZ,Env.il] at hb;rw [j7];split at hb
  ·omega
  ·have:=h.nT b r hb; omega
 ·intro b q hb
  simp only [Env.uZ,Env.il] at hb;rw [j7];split at hb
  ·simp at hb; omega
  ·have:=h.lu b q hb; omega
 ·intro q hq
  rw [j7] at hq;rw [oh,av (by omega)];exact h.fresh q (by omega)
 ·intro q x hx
  rw [j7];rw [oh] at hx;split at hx
  ·rcases fA.1 hx with hx | hx
   ·omega
   ·have:=h.mem g x hx; omega
  ·have:=h.mem q x hx; omega
 ·intro x hx _ _; rw [pj,av (by omega)]
end Go.K
end
