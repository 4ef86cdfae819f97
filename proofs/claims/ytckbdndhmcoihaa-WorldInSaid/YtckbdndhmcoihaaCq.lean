/- Part of the proof of WorldIn: the machine, shown to be the model's, and plain models. No conditions. -/
import Derived.Test.YtckbdndhmcoihaaBq
set_option linter.unusedSimpArgs false
set_option linter.unusedVariables false
section
namespace Go.K
open Go Go.aG
structure agd where
 cs:List Value
 bp:Nat
 own:Bool
 bN:Option (Nat×Nat)
structure Env where
 κ:Nat->Option Nat
 z:Nat->Option agd
 φ:Nat->Option Nat
 α:Nat->Option (Nat×Nat×Nat)
structure Env.le (E E' : Env):Prop where
 α:∀ b p,E.α b=some p->E'.α b=some p
 κ:∀ b x,E.κ b=some x->E'.κ b=some x
 z:∀ b r,E.z b=some r->E'.z b=some r
 φ:∀ b g,E.φ b=some g->E'.φ b=some g
theorem Env.le_refl (E:Env):E.le E:=⟨fun _ _ h=>h,fun _ _ h=>h,fun _ _ h=>h,fun _ _ h=>h⟩
theorem Env.le_trans {E F G:Env} (h:E.le F) (k:F.le G):E.le G:=⟨fun b p e=>k.α b p (h.α b p e),fun b x e=>k.κ b x (h.κ b x e),fun b x e=>k.z b x (h.z b x e),fun b x e=>k.φ b x (h.φ b x e)⟩
def qP (sz off:Nat) (cs es:List Value):Prop:=∀ (i:Nat) (x:Value),es[i]? = some x->x.cells.size=sz/\∀ (k:Nat) (y:Value),x.cells[k]? = some y->cs[off+i * sz+k]? = some y
def U7 (E:Env) (sz:Nat) (a:Option Addr) (n:Nat) (es:List Value):Prop:=
 (a=none/\n=0)\/∃ b off r,a=some ⟨b,off,none⟩/\E.z b=some r/\r.bp=sz/\qP sz off r.cs es
def Rn (E:Env) (sz:Nat) (a:Option Addr) (n cap:Nat):Mk->Prop
 | .any=>True
 | .exact=>cap=n/\∀ b off,a=some ⟨b,off,none⟩->∃ r,E.z b=some r/\r.own=true/\r.bN=none/\off+cap * sz=r.cs.length
 | .aP f=>cap=n/\((n=0/\a=none)\/∃ b r g,a=some ⟨b,0,none⟩/\E.z b=some r/\r.own=true/\E.φ f=some g/\r.bN=some (g,0)/\r.cs.length=n * sz)
structure hX (P:Program) (T:TypeId) (n:Nat) (es:List KV) (acc:Nat->KV):Prop where
 len:n=es.length
 acc:∀ i,i < n->acc i=es.getD i .bh
 typed:dJ (aQ P T) es=true
def aU (P:Program) (T:TypeId):Nat:=(aQ P T).ks.length
def age (P:Program) (E:Env) (T:TypeId) (m:Mk) (n:Nat) (bo:List Value) (v:Value):Prop:=
 ∃ a cap,v = .slice a n cap/\n<=cap/\U7 E (aU P T) a n bo/\Rn E (aU P T) a n cap m
structure aac (P:Program) (T Tc:TypeId) (k:Nat):Prop where
 is:∀ m c,(aQ P Tc).ks[m]? = some c->(aQ P T).ks[k+m]? = some c
def agf (P:Program) (E:Env) (T Tc:TypeId) (i k:Nat) (es:List KV) (bo:List Value) (v:Value):Prop:=
 i < es.length/\aac P T Tc k/\∃ b off r,v = .pointer (some ⟨b,off+i * aU P T+k,none⟩)/\E.z b=some r/\qP (aU P T) off r.cs bo
def YO (P:Program) (E:Env) (T:TypeId) (b o n:Nat) (v:Value):Prop:=
 (n=0/\o=0/\v = .slice none 0 0)\/∃ x L N c,E.α b=some (x,L,N)/\v = .slice (some ⟨x,o * aU P T,none⟩) n c/\n<=c/\o+n<=N/\(o+c) * aU P T=L
def adI (P:Program) (E:Env) (T Tc:TypeId) (b i k:Nat) (v:Value):Prop:=
 ∃ x L N,E.α b=some (x,L,N)/\aac P T Tc k/\i < N/\v = .pointer (some ⟨x,i * aU P T+k,none⟩)
mutual
def VK (P:Program) (E:Env):KV->Value->Prop
 | .int k n,v=>v = .int k n
 | .bool b,v=>v = .bool b
 | .str s,v=>v = .string s
 | .agg cs,v=>∃ l,v = .agg ⟨l⟩/\aV P E cs l
 | .kL cs,v=>∃ l,v = .tuple ⟨l⟩/\aV P E cs l
 | .ts T m n es acc,v=>hX P T n es acc/\∃ bo,aV P E es bo/\age P E T m n bo v
 | .tp T Tc i k es acc,v=>hX P T es.length es acc/\∃ bo,aV P E es bo/\agf P E T Tc i k es bo v
 | .al T b o n,v=>YO P E T b o n v
 | .ap T Tc b i k,v=>adI P E T Tc b i k v
 | .ptr b off,v=>∃ x,E.κ b=some x/\v = .pointer (some ⟨x,off,none⟩)
 | .sl b off n c,v=>∃ x,E.κ b=some x/\v = .slice (some ⟨x,off,none⟩) n c
 | .Hl,v=>v = .pointer none
 | .ky,v=>v = .slice none 0 0
 | .Dk,v=>v = .map none
 | .map b,v=>∃ x,E.κ b=some x/\v = .map (some x)
 | .fn f first cap,v=>∃ l m,v = .func f ⟨l⟩ ⟨m⟩/\aV P E first l/\aV P E cap m
 | .IZ,v=>v = .nilFunc
 | .iface t x,v=>∃ y,v = .iface t y/\VK P E x y
 | .I0,v=>v = .nilIface
 | .bh,_=>True
def aV (P:Program) (E:Env):List KV->List Value->Prop
 | [],l=>l = []
 | x::xs,l=>∃ y ys,l=y::ys/\VK P E x y/\aV P E xs ys
end
variable {P:Program} {E E' : Env}
theorem Rn.mono (h:E.le E') {sz:Nat} {a:Option Addr} {n cap:Nat} {m:Mk} (k:Rn E sz a n cap m):Rn E' sz a n cap m:=by
 cases m with
 | any=>trivial
 | exact=>exact ⟨k.1,fun b off e=>by obtain ⟨r,h1,h2⟩:=k.2 b off e; exact ⟨r,h.z _ _ h1,h2⟩⟩
 | aP f=>
  refine ⟨k.1,k.2.imp id ?_⟩;rintro ⟨b,r,g,h1,h2,h3,h4,h5⟩;exact ⟨b,r,g,h1,h.z _ _ h2,h3,h.φ _ _ h4,h5⟩
theorem U7.mono (h:E.le E') {sz:Nat} {a:Option Addr} {n:Nat} {es:List Value} (k:U7 E sz a n es):U7 E' sz a n es:=by
 refine k.imp id ?_;rintro ⟨b,off,r,h1,h2,h3⟩;exact ⟨b,off,r,h1,h.z _ _ h2,h3⟩
theorem age.mono (h:E.le E') {T:TypeId} {m:Mk} {n:Nat} {es:List Value} {v:Value} (k:age P E T m n es v):age P E' T m n es v:=by
 obtain ⟨a,cap,h1,h2,h3,h4⟩:=k;exact ⟨a,cap,h1,h2,h3.mono h,h4.mono h⟩
theorem agf.mono (h:E.le E') {T Tc:TypeId} {i k:Nat} {es:List KV} {bo:List Value} {v:Value} (q:agf P E T Tc i k es bo v):agf P E' T Tc i k es bo v:=by
 obtain ⟨h1,h2,b,off,r,h3,h4,h5⟩:=q;exact ⟨h1,h2,b,off,r,h3,h.z _ _ h4,h5⟩
theorem YO.mono (h:E.le E') {T:TypeId} {b o n:Nat} {v:Value} (q:YO P E T b o n v):YO P E' T b o n v:=by
 refine q.imp id ?_;rintro ⟨x,L,N,c,h1,h2⟩;exact ⟨x,L,N,c,h.α _ _ h1,h2⟩
theorem adI.mono (h:E.le E') {T Tc:TypeId} {b i k:Nat} {v:Value} (q:adI P E T Tc b i k v):adI P E' T Tc b i k v:=by
 obtain ⟨x,L,N,h1,h2⟩:=q;exact ⟨x,L,N,h.α _ _ h1,h2⟩
mutual
theorem VK.mono (h:E.le E'):∀ {v:KV} {v' : Value},VK P E v v'->VK P E' v v'
 | .int k n,v,q=>q
 | .bool b,v,q=>q
 | .str s,v,q=>q
 | .agg cs,v,q=>by
  simp only [VK] at q ⊢;obtain ⟨l,e,q⟩:=q;exact ⟨l,e,aV.mono h q⟩
 | .kL cs,v,q=>by
  simp only [VK] at q ⊢;obtain ⟨l,e,q⟩:=q;exact ⟨l,e,aV.mono h q⟩
 | .ts T m n es acc,v,q=>by
  simp only [VK] at q ⊢;obtain ⟨t,l,q,k⟩:=q;exact ⟨t,l,aV.mono h q,k.mono h⟩
 | .tp T Tc i k es acc,v,q=>by
  simp only [VK] at q ⊢;obtain ⟨t,l,q,k⟩:=q;exact ⟨t,l,aV.mono h q,k.mono h⟩
 | .al T b o n,v,q=>by
  simp only [VK] at q ⊢;exact q.mono h
 | .ap T Tc b i k,v,q=>by
  simp only [VK] at q ⊢;exact q.mono h
 | .ptr b off,v,q=>by
  simp only [VK] at q ⊢;obtain ⟨x,e,q⟩:=q;exact ⟨x,h.κ _ _ e,q⟩
 | .sl b off n c,v,q=>by
  simp only [VK] at q ⊢;obtain ⟨x,e,q⟩:=q;exact ⟨x,h.κ _ _ e,q⟩
 | .Hl,v,q=>q
 | .ky,v,q=>q
 | .Dk,v,q=>q
 | .map b,v,q=>by
  simp only [VK] at q ⊢;obtain ⟨x,e,q⟩:=q;exact ⟨x,h.κ _ _ e,q⟩
 | .fn f first cap,v,q=>by
  simp only [VK] at q ⊢;obtain ⟨l,m,e,q1,q2⟩:=q;exact ⟨l,m,e,aV.mono h q1,aV.mono h q2⟩
 | .IZ,v,q=>q
 | .iface t x,v,q=>by
  simp only [VK] at q ⊢;obtain ⟨y,e,q⟩:=q;exact ⟨y,e,VK.mono h q⟩
 | .I0,v,q=>q
 | .bh,v,q=>q
theorem aV.mono (h:E.le E'):∀ {v:List KV} {v' : List Value},aV P E v v'->aV P E' v v'
 | [],_,q=>q
 | x::xs,_,q=>by
  simp only [aV] at q ⊢;obtain ⟨y,ys,e,q1,q2⟩:=q;exact ⟨y,ys,e,VK.mono h q1,aV.mono h q2⟩
end
theorem aV.nil:aV P E [] []:=by simp [aV]
theorem aV.cons {x:KV} {y:Value} {xs:List KV} {ys:List Value} (h:VK P E x y) (k:aV P E xs ys):aV P E (x::xs) (y::ys):=by
 simp only [aV]; exact ⟨y,ys,rfl,h,k⟩
theorem aV.b6 {l:List Value} (h:aV P E [] l):l = []:=by simpa [aV] using h
theorem aV.cons_inv {x:KV} {xs:List KV} {l:List Value} (h:aV P E (x::xs) l):∃ y ys,l=y::ys/\VK P E x y/\aV P E xs ys:=by simpa [aV] using h
theorem aV.ee {x:KV} {l:List Value} (h:aV P E [x] l):∃ y,l = [y]/\VK P E x y:=by
 obtain ⟨y,ys,rfl,h1,h2⟩:=h.cons_inv;rw [h2.b6]; exact ⟨y,rfl,h1⟩
theorem aV.kf {x y:KV} {l:List Value} (h:aV P E [x,y] l):∃ x' y',l = [x',y']/\VK P E x x'/\VK P E y y':=by
 obtain ⟨a,ys,rfl,h1,h2⟩:=h.cons_inv;obtain ⟨b,rfl,h3⟩:=h2.ee;exact ⟨a,b,rfl,h1,h3⟩
theorem aV.Ty {x y u:KV} {l:List Value} (h:aV P E [x,y,u] l):∃ x' y' u',l = [x',y',u']/\VK P E x x'/\VK P E y y'/\VK P E u u':=by
 obtain ⟨a,ys,rfl,h1,h2⟩:=h.cons_inv;obtain ⟨b,c,rfl,h3,h4⟩:=h2.kf;exact ⟨a,b,c,rfl,h1,h3,h4⟩
theorem aV.length:∀ {l:List KV} {l' : List Value},aV P E l l'->l'.length=l.length
 | [],l',h=>by rw [h.b6]; rfl
 | x::xs,l',h=>by
  obtain ⟨y,ys,rfl,_,k⟩:=h.cons_inv;simp [aV.length k]
theorem aV.get:∀ {l:List KV} {l' : List Value} {i:Nat} {v:KV},aV P E l l'->l[i]? = some v->∃ v',l'[i]? = some v'/\VK P E v v'
 | [],_,_,_,_,e=>by simp at e
 | x::xs,l',i,v,h,e=>by
  obtain ⟨y,ys,rfl,Dg,k⟩:=h.cons_inv;cases i with
  | zero=>simp at e; subst e; exact ⟨y,rfl,Dg⟩
  | succ i=>simp at e; simpa using aV.get k e
theorem aV.append:∀ {a:List KV} {a' : List Value} {b:List KV} {b' : List Value},aV P E a a'->aV P E b b'->aV P E (a++b) (a'++b')
 | [],a',b,b',h,k=>by rw [h.b6]; exact k
 | x::xs,a',b,b',h,k=>by
  obtain ⟨y,ys,rfl,Dg,m⟩:=h.cons_inv;exact .cons Dg (aV.append m k)
theorem aV.take:∀ (n:Nat) {l:List KV} {l' : List Value},aV P E l l'->aV P E (l.take n) (l'.take n)
 | 0,_,_,_=>by simp [aV.nil]
 | n+1,[],l',h=>by rw [h.b6]; simp [aV.nil]
 | n+1,x::xs,l',h=>by
  obtain ⟨y,ys,rfl,Dg,k⟩:=h.cons_inv;simpa using aV.cons Dg (aV.take n k)
theorem aV.drop:∀ (n:Nat) {l:List KV} {l' : List Value},aV P E l l'->aV P E (l.drop n) (l'.drop n)
 | 0,_,_,h=>by simpa using h
 | n+1,[],l',h=>by rw [h.b6]; simp [aV.nil]
 | n+1,x::xs,l',h=>by
  obtain ⟨y,ys,rfl,_,k⟩:=h.cons_inv;simpa using aV.drop n k
theorem Ro {α:Type} : ∀ {n:Nat} {l r:List α},yX n l=some r->r=l.take n/\n<=l.length
 | 0,l,r,h=>by simp [yX] at h; subst h; simp
 | n+1,[],r,h=>by simp [yX] at h
 | n+1,x::xs,r,h=>by
  simp only [yX,cj] at h;obtain ⟨q,hq,rfl⟩:=h;obtain ⟨rfl,hn⟩:=Ro hq;exact ⟨by simp,by simpa using hn⟩
theorem Mz {α:Type} : ∀ (n:Nat) (l:List α),EJ n l=l.drop n
 | 0,l=>rfl
 | n+1,[]=>rfl
 | n+1,x::xs=>by simp [EJ,Mz n xs]
theorem MA:∀ {n:Nat} {l:List Value},n<=l.length->takeN n l=some (l.take n)
 | 0,l,_=>rfl
 | n+1,[],h=>by simp at h
 | n+1,x::xs,h=>by rw [Yz,MA (n:=n) (l:=xs) (by simpa using h)]; rfl
theorem aV.yX {n k:Nat} {l r:List KV} {l' : List Value} (h:aV P E l l') (e:yX n (EJ k l)=some r):∃ r',takeN n (IJ k l')=some r'/\aV P E r r'/\r' = (l'.drop k).take n:=by
 obtain ⟨rfl,hn⟩:=Ro e;rw [Mz] at hn ⊢;have hl:=h.length;rw [vt];refine ⟨_,MA ?_,(h.drop k).take n,rfl⟩;simp only [List.length_drop] at hn ⊢;omega
theorem aV.k8:∀ {n:Nat} {l:List KV} {l' : List Value} {vs r:List KV} {b7:List Value},k8 n l vs=some r->aV P E l l'->aV P E vs b7->∃ r',gH n l' b7=some r'/\aV P E r r'
 | 0,l,l',[],r,b7,h,hl,hv=>by simp [K.k8] at h; subst h; rw [hv.b6]; exact ⟨l',Ce l',hl⟩
 | 0,[],l',_::_,r,b7,h,hl,hv=>by simp [K.k8] at h
 | 0,x::l,l',v::vs,r,b7,h,hl,hv=>by
  obtain ⟨y,ys,rfl,_,k⟩:=hl.cons_inv;obtain ⟨u,us,rfl,h1,h2⟩:=hv.cons_inv;simp only [K.k8,cj] at h;obtain ⟨q,hq,rfl⟩:=h;obtain ⟨r',e,hr⟩:=aV.k8 hq k h2;exact ⟨u::r',by simp [yT,e],.cons h1 hr⟩
 | n+1,[],l',[],r,b7,h,hl,hv=>by simp [K.k8] at h; subst h; rw [hl.b6,hv.b6]; exact ⟨[],rfl,.nil⟩
 | n+1,[],l',_::_,r,b7,h,hl,hv=>by simp [K.k8] at h
 | n+1,x::l,l',vs,r,b7,h,hl,hv=>by
  obtain ⟨y,ys,rfl,h1,k⟩:=hl.cons_inv;simp only [K.k8,cj] at h;obtain ⟨q,hq,rfl⟩:=h;obtain ⟨r',e,hr⟩:=aV.k8 hq k hv;exact ⟨y::r',by simp [uI,e],.cons h1 hr⟩
theorem aV.aeR:∀ {l:List KV} {l' : List Value},l'.length=l.length->(∀ (i:Nat) (v:KV) (v' : Value),l[i]? = some v->l'[i]? = some v'->VK P E v v')->aV P E l l'
 | [],l',h,_=>by cases l' <;> simp_all [aV.nil]
 | x::xs,l',h,k=>by
  cases l' with
  | nil=>simp at h
  | cons y ys=>exact .cons (k 0 x y rfl rfl) (aV.aeR (by simpa using h) fun i v v' e e'=>k (i+1) v v' (by simpa using e) (by simpa using e'))
theorem VK.cg {k:IntKind} {n:Int} {v:Value} (h:VK P E (.int k n) v):v = .int k n:=by simpa [VK] using h
theorem VK.eK {b:Bool} {v:Value} (h:VK P E (.bool b) v):v = .bool b:=by simpa [VK] using h
theorem VK.vB {s:ByteArray} {v:Value} (h:VK P E (.str s) v):v = .string s:=by simpa [VK] using h
theorem VK.kQ {cs:List KV} {v:Value} (h:VK P E (.agg cs) v):∃ l,v = .agg ⟨l⟩/\aV P E cs l:=by simpa [VK] using h
theorem VK.PM {cs:List KV} {v:Value} (h:VK P E (.kL cs) v):∃ l,v = .tuple ⟨l⟩/\aV P E cs l:=by simpa [VK] using h
theorem VK.ig {b off:Nat} {v:Value} (h:VK P E (.ptr b off) v):∃ x,E.κ b=some x/\v = .pointer (some ⟨x,off,none⟩):=by simpa [VK] using h
theorem VK.Rp {b off n c:Nat} {v:Value} (h:VK P E (.sl b off n c) v):∃ x,E.κ b=some x/\v = .slice (some ⟨x,off,none⟩) n c:=by simpa [VK] using h
theorem VK.KB {f:Fn} {a b:List KV} {v:Value} (h:VK P E (.fn f a b) v):∃ l m,v = .func f ⟨l⟩ ⟨m⟩/\aV P E a l/\aV P E b m:=by simpa [VK] using h
theorem VK.lh {T:TypeId} {m:Mk} {n:Nat} {es:List KV} {acc:Nat->KV} {v:Value} (h:VK P E (.ts T m n es acc) v):hX P T n es acc/\∃ bo,aV P E es bo/\age P E T m n bo v:=by simpa [VK] using h
theorem VK.NA {T Tc:TypeId} {i k:Nat} {es:List KV} {acc:Nat->KV} {v:Value} (h:VK P E (.tp T Tc i k es acc) v):hX P T es.length es acc/\∃ bo,aV P E es bo/\agf P E T Tc i k es bo v:=by simpa [VK] using h
theorem VK.yL {T:TypeId} {b o n:Nat} {v:Value} (h:VK P E (.al T b o n) v):YO P E T b o n v:=by simpa [VK] using h
theorem VK.KC {T Tc:TypeId} {b i k:Nat} {v:Value} (h:VK P E (.ap T Tc b i k) v):adI P E T Tc b i k v:=by simpa [VK] using h
theorem VK.PN {T:TypeId} {b o n:Nat} {v:Value} (h:YO P E T b o n v):VK P E (.al T b o n) v:=by simpa [VK] using h
theorem VK.ams {T Tc:TypeId} {b i k:Nat} {v:Value} (h:adI P E T Tc b i k v):VK P E (.ap T Tc b i k) v:=by simpa [VK] using h
theorem YO.slice {T:TypeId} {b o n:Nat} {v:Value} (h:YO P E T b o n v):∃ a c,v = .slice a n c:=by
 rcases h with ⟨rfl,_,rfl⟩ | ⟨x,L,N,c,_,rfl,_⟩
 ·exact ⟨_,_,rfl⟩
 ·exact ⟨_,_,rfl⟩
theorem VK.pw {v:Value} (h:VK P E .ky v):v = .slice none 0 0:=by simpa [VK] using h
theorem VK.Rq {v:Value} (h:VK P E .Hl v):v = .pointer none:=by simpa [VK] using h
theorem VK.mkInt {k:IntKind} {n:Int} : VK P E (.int k n) (.int k n):=by simp [VK]
theorem VK.ub {b:Bool} : VK P E (.bool b) (.bool b):=by simp [VK]
theorem VK.mkStr {s:ByteArray} : VK P E (.str s) (.string s):=by simp [VK]
theorem VK.rR {cs:List KV} {l:List Value} (h:aV P E cs l):VK P E (.agg cs) (.agg ⟨l⟩):=by simp only [VK]; exact ⟨l,rfl,h⟩
theorem VK.Xq {cs:List KV} {l:List Value} (h:aV P E cs l):VK P E (.kL cs) (.tuple ⟨l⟩):=by simp only [VK]; exact ⟨l,rfl,h⟩
theorem VK.Cg {b x off:Nat} (h:E.κ b=some x):VK P E (.ptr b off) (.pointer (some ⟨x,off,none⟩)):=by simp only [VK]; exact ⟨x,h,rfl⟩
theorem VK.ajY {b x off n c:Nat} (h:E.κ b=some x):VK P E (.sl b off n c) (.slice (some ⟨x,off,none⟩) n c):=by simp only [VK]; exact ⟨x,h,rfl⟩
theorem VK.agh {f:Fn} {a b:List KV} {l m:List Value} (h:aV P E a l) (k:aV P E b m):VK P E (.fn f a b) (.func f ⟨l⟩ ⟨m⟩):=by simp only [VK]; exact ⟨l,m,rfl,h,k⟩
theorem VK.undef:VK P E tZ undef:=VK.Xq .nil
theorem VK.vC {v:Value} : VK P E .bh v:=by simp [VK]
theorem VK.cells {v:KV} {v' : Value} (h:VK P E v v') (hu:yK v=true):aV P E v.cells v'.cells.toList:=by
 cases v with
 | agg cs=>obtain ⟨l,rfl,q⟩:=h.kQ; exact q
 | int k n=>have:=h.cg; subst this; exact .cons h .nil
 | bool b=>have:=h.eK; subst this; exact .cons h .nil
 | str b=>have:=h.vB; subst this; exact .cons h .nil
 | kL cs=>have q:=h; obtain ⟨l,rfl,_⟩:=h.PM; exact .cons q .nil
 | ts T m n es acc=>have q:=h; obtain ⟨_,_,_,a,cap,rfl,_⟩:=h.lh; exact .cons q .nil
 | tp T Tc i k es acc=>have q:=h; obtain ⟨_,_,_,_,_,b,off,r,rfl,_⟩:=h.NA; exact .cons q .nil
 | al T b o n=>have q:=h; obtain ⟨a,c,rfl⟩:=h.yL.slice; exact .cons q .nil
 | ap T Tc b i k=>have q:=h; obtain ⟨x,L,N,_,_,_,rfl⟩:=h.KC; exact .cons q .nil
 | ptr b off=>have q:=h; obtain ⟨x,_,rfl⟩:=h.ig; exact .cons q .nil
 | sl b off n c=>have q:=h; obtain ⟨x,_,rfl⟩:=h.Rp; exact .cons q .nil
 | Hl=>have q:=h; simp only [VK] at h; subst h; exact .cons q .nil
 | ky=>have q:=h; simp only [VK] at h; subst h; exact .cons q .nil
 | Dk=>have q:=h; simp only [VK] at h; subst h; exact .cons q .nil
 | map b=>have q:=h; simp only [VK] at h; obtain ⟨x,_,rfl⟩:=h; exact .cons q .nil
 | fn f a b=>have q:=h; obtain ⟨l,m,rfl,_⟩:=h.KB; exact .cons q .nil
 | IZ=>have q:=h; simp only [VK] at h; subst h; exact .cons q .nil
 | iface t x=>have q:=h; simp only [VK] at h; obtain ⟨y,rfl,_⟩:=h; exact .cons q .nil
 | I0=>have q:=h; simp only [VK] at h; subst h; exact .cons q .nil
 | bh=>simp [yK] at hu
theorem VK.scalar {v:KV} {v' : Value} (h:VK P E v v') (ho:one v=true):aG.scalar v' = true:=by
 cases v with
 | agg cs=>simp [one] at ho
 | kL cs=>simp [one] at ho
 | bh=>simp [one] at ho
 | int k n=>have:=h.cg; subst this; rfl
 | bool b=>have:=h.eK; subst this; rfl
 | str b=>have:=h.vB; subst this; rfl
 | ts T m n es acc=>obtain ⟨_,_,_,a,cap,rfl,_⟩:=h.lh; rfl
 | tp T Tc i k es acc=>obtain ⟨_,_,_,_,_,b,off,r,rfl,_⟩:=h.NA; rfl
 | al T b o n=>obtain ⟨a,c,rfl⟩:=h.yL.slice; rfl
 | ap T Tc b i k=>obtain ⟨x,L,N,_,_,_,rfl⟩:=h.KC; rfl
 | ptr b off=>obtain ⟨x,_,rfl⟩:=h.ig; rfl
 | sl b off n c=>obtain ⟨x,_,rfl⟩:=h.Rp; rfl
 | Hl=>simp only [VK] at h; subst h; rfl
 | ky=>simp only [VK] at h; subst h; rfl
 | Dk=>simp only [VK] at h; subst h; rfl
 | map b=>simp only [VK] at h; obtain ⟨x,_,rfl⟩:=h; rfl
 | fn f a b=>obtain ⟨l,m,rfl,_⟩:=h.KB; rfl
 | IZ=>simp only [VK] at h; subst h; rfl
 | iface t x=>simp only [VK] at h; obtain ⟨y,rfl,_⟩:=h; rfl
 | I0=>simp only [VK] at h; subst h; rfl
theorem aV.scalar:∀ {l:List KV} {l' : List Value},aV P E l l'->gJ l=true->∀ v∈l',aG.scalar v=true
 | [],l',h,_,v,hv=>by rw [h.b6] at hv; simp at hv
 | x::xs,l',h,ho,v,hv=>by
  obtain ⟨y,ys,rfl,h1,h2⟩:=h.cons_inv;simp only [gJ,ao] at ho;rcases de.1 hv with rfl | hv
  ·exact h1.scalar ho.1
  ·exact aV.scalar h2 ho.2 v hv
theorem Bl {v:KV} (h:gJ v.cells=true):yK v=true:=by
 cases v <;> first | rfl | simp [KV.cells,gJ,one] at h
mutual
theorem VK.fE:∀ (v:Value),VK P E (fE v) v
 | .bool b=>by simp [K.fE,VK]
 | .int k n=>by simp [K.fE,VK]
 | .string s=>by simp [K.fE,VK]
 | .pointer none=>by simp [K.fE,VK]
 | .pointer (some a)=>by simp [K.fE,VK]
 | .slice none 0 0=>by simp [K.fE,VK]
 | .slice none 0 (n+1)=>by simp [K.fE,VK]
 | .slice none (n+1) c=>by simp [K.fE,VK]
 | .slice (some a) n c=>by simp [K.fE,VK]
 | .map none=>by simp [K.fE,VK]
 | .map (some r)=>by simp [K.fE,VK]
 | .nilFunc=>by simp [K.fE,VK]
 | .nilIface=>by simp [K.fE,VK]
 | .agg cs=>by
  obtain ⟨l⟩:=cs;simp only [K.fE,ofA];exact .rR (aV.ofL l)
 | .tuple cs=>by
  obtain ⟨l⟩:=cs;simp only [K.fE,ofA];exact .Xq (aV.ofL l)
 | .float _ _=>by simp [K.fE,VK]
 | .complex _ _ _=>by simp [K.fE,VK]
 | .chan _=>by simp [K.fE,VK]
 | .func _ _ _=>by simp [K.fE,VK]
 | .iface _ _=>by simp [K.fE,VK]
theorem aV.ofL:∀ (l:List Value),aV P E (ofL l) l
 | []=>.nil
 | v::vs=>.cons (VK.fE v) (aV.ofL vs)
end
theorem EO {z:Value} (h:gJ (fE z).cells=true):aV P E (fE z).cells z.cells.toList:=(VK.fE z).cells (Bl h)
def HY (E:Env) (A:ae):Prop:=∀ b c g tb sb tc sc,A.get b=some (.aP tb sb)->A.get c=some (.aP tc sc)->E.φ b=some g->E.φ c=some g->b=c
def AR (A:ae) (E:Env) (x:Nat):Prop:=∃ b v L N,A.get b=some (.arr v)/\E.α b=some (x,L,N)
def AF (A:ae) (E:Env) (B:St) (g:Nat):Prop:=∃ b v x L N cs e own k,A.get b=some (.arr v)/\E.α b=some (x,L,N)/\B.get x=some (.row cs e own (some (g,k)))
def AT (A:ae) (E:Env) (B:St) (y:Nat):Prop:=AR A E y\/∃ g,AF A E B g/\y∈B.members g
def aa0 (P:Program) (E:Env) (B:St) (b:Nat) (v:KV):Prop:=∃ T N es acc,v = .ts T .any N es acc/\hX P T N es acc/\1<=aU P T/\
 ((N=0/\E.α b=none)\/∃ x cs bN bo,E.α b=some (x,cs.length,N)/\B.get x=some (.row cs (aU P T) true bN)/\aV P E es bo/\qP (aU P T) 0 cs bo)
def U8 (P:Program) (E:Env) (b:Nat) (v:KV):Prop:=∃ T N es acc,v = .ts T .any N es acc/\hX P T N es acc/\1<=aU P T/\
 ((N=0/\E.α b=none)\/∃ x r bo,E.α b=some (x,r.cs.length,N)/\E.z x=some r/\r.bp=aU P T/\aV P E es bo/\qP (aU P T) 0 r.cs bo)
theorem aa0.mono (h:E.le E') {B B' : St} {b:Nat} {v:KV} (uc:E'.α b=E.α b) (hB:∀ x L N,E.α b=some (x,L,N)->B'.get x=B.get x) (q:aa0 P E B b v):aa0 P E' B' b v:=by
 obtain ⟨T,N,es,acc,h1,h2,h3,h4⟩:=q;refine ⟨T,N,es,acc,h1,h2,h3,?_⟩;rcases h4 with ⟨h4,h5⟩ | ⟨x,cs,bN,bo,h4,h5,h6,h7⟩
 ·exact .inl ⟨h4,by rw [uc]; exact h5⟩
 ·exact .inr ⟨x,cs,bN,bo,by rw [uc]; exact h4,by rw [hB _ _ _ h4]; exact h5,h6.mono h,h7⟩
theorem U8.mono (h:E.le E') {b:Nat} {v:KV} (uc:E'.α b=E.α b) (q:U8 P E b v):U8 P E' b v:=by
 obtain ⟨T,N,es,acc,h1,h2,h3,h4⟩:=q;refine ⟨T,N,es,acc,h1,h2,h3,?_⟩;rcases h4 with ⟨h4,h5⟩ | ⟨x,r,bo,h4,h5,h6,h7,h8⟩
 ·exact .inl ⟨h4,by rw [uc]; exact h5⟩
 ·exact .inr ⟨x,r,bo,by rw [uc]; exact h4,h.z _ _ h5,h6,h7.mono h,h8⟩
structure NB (P:Program) (E:Env) (A:ae) (B:St):Prop where
 arr:∀ b v,A.get b=some (.arr v)->aa0 P E B b v
 iG:∀ b v,A.get b=some (.iG v)->U8 P E b v
 z:∀ x,AR A E x->E.z x=none/\∀ c,E.κ c≠some x
 inj:∀ b c v u x L N L' N',A.get b=some (.arr v)->A.get c=some (.arr u)->E.α b=some (x,L,N)->E.α c=some (x,L',N')->b=c
 xz:∀ b c v u x y L N L' N' cs e own g k bP e' rC k',A.get b=some (.arr v)->A.get c=some (.arr u)->E.α b=some (x,L,N)->E.α c=some (y,L',N')->B.get x=some (.row cs e own (some (g,k)))->B.get y=some (.row bP e' rC (some (g,k')))->b=c
 dis:∀ b x,E.κ b=some x->E.α b=none
 jP:∀ b p,E.α b=some p->b < A.next
 eV:∀ b x L N,E.α b=some (x,L,N)->x < B.next
 vD:∀ b v x L N cs e own g k,A.get b=some (.arr v)->E.α b=some (x,L,N)->B.get x=some (.row cs e own (some (g,k)))->g < B.next/\(∀ f,E.φ f≠some g)/\∀ y∈B.members g,y≠x->E.z y=none/\¬ AR A E y/\∀ c,E.κ c≠some y
 nk:∀ b v,A.get b=some (.arr v)->b < A.next/\E.κ b=none
structure dr (P:Program) (E:Env) (A:ae) (B:St):Prop where
 row:∀ b cs bp,A.get b=some (.row cs bp)->∃ x bP,E.κ b=some x/\B.get x=some (.row bP bp true none)/\aV P E cs bP
 aP:∀ b top sz,A.get b=some (.aP top sz)->(top=0/\E.φ b=none)\/∃ g,E.φ b=some g/\0 < top/\∀ x∈B.members g,∀ cs e own f k,B.get x=some (.row cs e own (some (f,k)))->k=0/\cs.length<=top * sz
 z:∀ b r,E.z b=some r->B.get b=some (.row r.cs r.bp r.own r.bN)
 apart:∀ b x,E.κ b=some x->E.z x=none
 inj:∀ b c x,E.κ b=some x->E.κ c=some x->b=c
 gK:HY E A
 jP:∀ b x,E.κ b=some x->b < A.next
 kR:∀ b g,E.φ b=some g->b < A.next
 live:∀ b o,A.get b=some o->b < A.next
 eV:∀ b x,E.κ b=some x->x < B.next
 lJ:∀ b r,E.z b=some r->b < B.next
 iv:∀ b g,E.φ b=some g->g < B.next
 fresh:∀ g,B.next<=g->B.members g = []
 mem:∀ g x,x∈B.members g->x < B.next
 ar:NB P E A B
abbrev wH:hO:=.map []
structure Ev (P:Program) (base:Nat) (E:Env) (A:ae) (B:St) (ρ:Ren) (w:World) (E' : Env) (A' : ae) (B' : St) (aF:Ren) (w' : World):Prop where
 fY:dr P E' A' B'
 eJ:jb base ρ B w aF B' w'
 le:E.le E'
 next:A.next<=A'.next
 dR:∀ x,x < B.next->(∀ b,E.κ b=some x->A.get b=some wH)->¬ AT A E B x->B'.get x=B.get x
 new:∀ b x,E'.κ b=some x->E.κ b=some x\/A.next<=b/\B.next<=x
 ud:∀ b r,E'.z b=some r->E.z b=some r\/AR A E b\/B.next<=b
 su:∀ b g,E'.φ b=some g->(∃ c,E.φ c=some g)\/B.next<=g
 o5:∀ g,g < B.next->(∀ b,E.φ b≠some g)->¬ AF A E B g->B'.members g=B.members g
 kA:∀ x,AR A' E' x->AR A E x\/B.next<=x
 kS:∀ g,AF A' E' B' g->AF A E B g\/B.next<=g
 vE:∀ g y,y∈B'.members g->y∈B.members g\/B.next<=y
 mh:∀ y,AT A' E' B' y->AT A E B y\/B.next<=y
 rows:∀ y,y < B.next->∀ cs e own bN,B'.get y=some (.row cs e own bN)->∃ mg,B.get y=some (.row mg e own bN)/\mg.length=cs.length
 Dq:∀ b,A.get b=some wH->A'.get b=some wH
theorem Ev.refl {base:Nat} {A:ae} {B:St} {ρ:Ren} {w:World} (h:dr P E A B) (s:vu ρ B base w):Ev P base E A B ρ w E A B ρ w:=
 ⟨h,.refl s,Env.le_refl _,aC _,fun _ _ _ _=>rfl,fun _ _ h=>.inl h,fun _ _ h=>.inl h,fun _ _ h=>.inl ⟨_,h⟩,fun _ _ _ _=>rfl,fun _ h=>.inl h,fun _ h=>.inl h,fun _ _ h=>.inl h,fun _ h=>.inl h,fun _ _ cs _ _ _ h=>⟨cs,h,rfl⟩,fun _ h=>h⟩
theorem Ev.trans {base:Nat} {E1 E2 E3:Env} {A1 A2 A3:ae} {B1 B2 B3:St} {kM xC ρ3:Ren} {w1 w2 w3:World} (h:Ev P base E1 A1 B1 kM w1 E2 A2 B2 xC w2) (k:Ev P base E2 A2 B2 xC w2 E3 A3 B3 ρ3 w3) :
  Ev P base E1 A1 B1 kM w1 E3 A3 B3 ρ3 w3 where
 fY:=k.fY
 eJ:=h.eJ.trans k.eJ
 le:=Env.le_trans h.le k.le
 next:=hD h.next k.next
 dR x hx hn ha:=by
  refine (k.dR x (fa hx h.eJ.next) (fun b e=>?_) fun q=>?_).trans (h.dR x hx hn ha)
  ·rcases h.new b x e with e | e
   ·exact h.Dq b (hn b e)
   ·have:=e.2; omega
  ·rcases h.mh x q with e | e
   ·exact ha e
   ·omega
 new b x e:=by
  rcases k.new b x e with e | e
  ·rcases h.new b x e with e | e
   ·exact .inl e
   ·exact .inr e
  ·have:=h.eJ.next; have:=h.next; exact .inr (by omega)
 ud b r e:=by
  rcases k.ud b r e with e | e | e
  ·exact h.ud b r e
  ·exact .inr (h.kA b e)
  ·have:=h.eJ.next; exact .inr (.inr (by omega))
 su b g e:=by
  rcases k.su b g e with ⟨c,e⟩ | e
  ·exact h.su c g e
  ·have:=h.eJ.next; exact .inr (by omega)
 o5 g hg hn ha:=by
  refine (k.o5 g (fa hg h.eJ.next) (fun b e=>?_) fun q=>?_).trans (h.o5 g hg hn ha)
  ·rcases h.su b g e with ⟨c,e⟩ | e
   ·exact hn c e
   ·omega
  ·rcases h.kS g q with e | e
   ·exact ha e
   ·omega
 kA x e:=by
  rcases k.kA x e with e | e
  ·exact h.kA x e
  ·have:=h.eJ.next; exact .inr (by omega)
 kS g e:=by
  rcases k.kS g e with e | e
  ·exact h.kS g e
  ·have:=h.eJ.next; exact .inr (by omega)
 vE g y e:=by
  rcases k.vE g y e with e | e
  ·exact h.vE g y e
  ·have:=h.eJ.next; exact .inr (by omega)
 mh y e:=by
  rcases k.mh y e with e | e
  ·exact h.mh y e
  ·have:=h.eJ.next; exact .inr (by omega)
 rows y hy cs e own bN q:=by
  obtain ⟨c1,h1,h2⟩:=k.rows y (fa hy h.eJ.next) cs e own bN q;obtain ⟨c0,h3,h4⟩:=h.rows y hy c1 e own bN h1;exact ⟨c0,h3,h4.trans h2⟩
 Dq b q:=k.Dq b (h.Dq b q)
@[simp] theorem ae.bA (A:ae) (b:Nat) (o:hO) (x:Nat):(A.put b o).get x=if x=b then some o else A.get x:=by simp [ae.put,ae.get,Trie.oX]
@[simp] theorem ae.cp (A:ae) (o:hO) (x:Nat):(A.new o).get x=if x=A.next then some o else A.get x:=by simp [ae.new,ae.get,Trie.oX]
@[simp] theorem ae.sF (A:ae) (b:Nat) (o:hO):(A.put b o).next=A.next:=rfl
@[simp] theorem ae.bX (A:ae) (o:hO):(A.new o).next=A.next+1:=rfl
theorem HY.put {A:ae} (h:HY E A) {b:Nat} {o:hO} (ho:(∀ t s,o≠.aP t s)\/E.φ b=none):HY E (A.put b o):=by
 intro x y g tx sx ty sy hx hy ex ey;have key:∀ {z t s},(A.put b o).get z=some (.aP t s)->E.φ z=some g->A.get z=some (.aP t s):=by
  intro z t s hz ez;rw [ae.bA] at hz;split at hz
  ·rename_i e
   simp at hz;rcases ho with ho | ho
   ·exact absurd hz (ho t s)
   ·rw [e,ho] at ez; simp at ez
  ·exact hz
 exact h x y g tx sx ty sy (key hx ex) (key hy ey) ex ey
theorem HY.new {A:ae} (h:HY E A) {o:hO} (ho:(∀ t s,o≠.aP t s)\/E.φ A.next=none):HY E (A.new o):=by
 intro x y g tx sx ty sy hx hy ex ey;have key:∀ {z t s},(A.new o).get z=some (.aP t s)->E.φ z=some g->A.get z=some (.aP t s):=by
  intro z t s hz ez;rw [ae.cp] at hz;split at hz
  ·rename_i e
   simp at hz;rcases ho with ho | ho
   ·exact absurd hz (ho t s)
   ·rw [e,ho] at ez; simp at ez
  ·exact hz
 exact h x y g tx sx ty sy (key hx ex) (key hy ey) ex ey
structure KJ (P:Program) (E:Env) (A:ae) (B:St) (ρ:Ren) (base:Nat) (w:World):Prop where
 k:dr P E A B
 s:vu ρ B base w
theorem Ev.kj {base:Nat} {E1 E2:Env} {A1 A2:ae} {B1 B2:St} {kM xC:Ren} {w1 w2:World} (h:Ev P base E1 A1 B1 kM w1 E2 A2 B2 xC w2):KJ P E2 A2 B2 xC base w2:=⟨h.fY,h.eJ.fY⟩
def VC (P:Program) (E:Env) (ρ:Ren) (v:KV) (v' : Value):Prop:=∃ u,VK P E v u/\VR ρ u v'
theorem VC.mono {ρ aF:Ren} {v:KV} {v' : Value} (h:VC P E ρ v v') (k:E.le E') (m:ρ.le aF):VC P E' aF v v':=by
 obtain ⟨u,h1,h2⟩:=h;exact ⟨u,h1.mono k,h2.mono m⟩
theorem VC.bh {ρ:Ren} {v' : Value} : VC P E ρ .bh v':=⟨.chan none,.vC,by simp [VR]⟩
theorem VC.undef {ρ:Ren} : VC P E ρ tZ undef:=⟨_,.undef,VR.undef⟩
end Go.K
end
section
namespace Go.K
open Go Go.aG
variable {P:Program} {E:Env}
def aI {α:Type} (r:KR α) (v:α):Prop:=
 match r with
 | .no=>False
 | .ok u=>u=v
 | .jQ c u=>c=true/\u=v
 | .br c x y=>(c=true/\aI x v)\/(c=false/\aI y v)
theorem KR.CN {α R:Type} {k:α->Option R} {x:R} : ∀ {r:KR α},r.run k=some x->∃ v,aI r v/\k v=some x:=by
 intro r h
 match r,h with
 | .no,h=>exact absurd h (by simp [KR.run])
 | .ok v,h=>exact ⟨v,rfl,h⟩
 | .jQ c v,h=>
  cases c with
  | false=>exact absurd h (by simp [KR.run])
  | true=>exact ⟨v,⟨rfl,rfl⟩,h⟩
 | .br c x y,h=>
  cases c with
  | false=>obtain ⟨v,h1,h2⟩:=KR.CN (r:=y) (k:=k) h; exact ⟨v,.inr ⟨rfl,h1⟩,h2⟩
  | true=>obtain ⟨v,h1,h2⟩:=KR.CN (r:=x) (k:=k) h; exact ⟨v,.inl ⟨rfl,h1⟩,h2⟩
theorem aI.at {α:Type} {i:Int} {f:Nat->KR α} {v:α} : ∀ {m j:Nat},aI (ajU i f m j) v->∃ k,j<=k/\k < j+m/\i=(k:Int)/\aI (f k) v
 | 0,j,h=>h.elim
 | m+1,j,h=>by
  rcases h with ⟨h1,h2⟩ | ⟨_,h2⟩
  ·exact ⟨j,aC j,by omega,Q7 h1,h2⟩
  ·obtain ⟨k,h3,h4,h5,h6⟩:=aI.at (m:=m) (j:=j+1) h2
   exact ⟨k,by omega,by omega,h5,h6⟩
theorem aI.of {α:Type} {o:Option α} {v:α} (h:aI (KR.of o) v):o=some v:=by
 cases o with
 | none=>exact h.elim
 | some u=>have h:u=v:=h; rw [h]
theorem aI.cond {α:Type} {c:Bool} {r:KR α} {v:α} (h:aI (cond c r .no) v):c=true/\aI r v:=by
 cases c with
 | false=>exact h.elim
 | true=>exact ⟨rfl,h⟩
theorem NC {α:Type} {c:Bool} {r:Option α} {v:α} (h:cond c r none=some v):c=true/\r=some v:=by
 cases c with
 | false=>simp at h
 | true=>exact ⟨rfl,h⟩
def y6 (P:Program) (f:FP) (g:List Value->Option Value):Prop:=
 ∀ (E:Env) (vs:List KV) (us:List Value) (v:KV),aV P E vs us->aI (f vs) v->∃ u,g us=some u/\VK P E v u
theorem agi:y6 P aeJ Nb:=by
 intro E vs us v h hg
 match vs,hg with
 | [x],hg=>
  obtain ⟨y,rfl,h1⟩:=h.ee;have hg:x=v:=hg;subst hg;exact ⟨y,rfl,h1⟩
theorem ak9:y6 P aeK Nb:=by
 intro E vs us v h hg
 match vs,hg with
 | [.bool b],hg=>
  obtain ⟨y,rfl,h1⟩:=h.ee;have hb:v = .bool b:=by
   rcases hg with ⟨rfl,h2⟩ | ⟨rfl,h2⟩
   ·exact (show KV.bool true=v from h2).symm
   ·exact (show KV.bool false=v from h2).symm
  subst hb;exact ⟨_,rfl,h1⟩
 | [x],hg=>
  have key:v=x:=by
   cases x <;> first | exact (show _=v from hg).symm | skip
   rcases hg with ⟨rfl,h2⟩ | ⟨rfl,h2⟩
   ·exact (show KV.bool true=v from h2).symm
   ·exact (show KV.bool false=v from h2).symm
  subst key;obtain ⟨y,rfl,h1⟩:=h.ee;exact ⟨_,rfl,h1⟩
theorem ala {b:Bool} : y6 P (cond b aeK aeJ) Nb:=by
 cases b with
 | true=>exact ak9
 | false=>exact agi
theorem amt:y6 P aio aew:=by
 intro E vs us v h hg
 match vs,hg with
 | [.bool t,.bool a,.bool b],hg=>
  obtain ⟨x,y,z,rfl,h1,h2,h3⟩:=h.Ty;have:=h1.eK; subst this;have:=h2.eK; subst this;have:=h3.eK; subst this;have hg:KV.bool (cond t a b)=v:=hg;subst hg;exact ⟨_,rfl,by cases t <;> exact .ub⟩
 | [.bool t,a,b],hg=>
  obtain ⟨x,y,z,rfl,h1,h2,h3⟩:=h.Ty;have:=h1.eK; subst this;refine ⟨_,rfl,?_⟩;have hg:v=cond t a b\/∃ p q,a = .bool p/\b = .bool q/\v = .bool (cond t p q):=by
   unfold aio at hg;split at hg
   ·rename_i t' a' b' e
    simp at e;obtain ⟨rfl,rfl,rfl⟩:=e;exact .inr ⟨_,_,rfl,rfl,hg.symm⟩
   ·rename_i t' a' b' _ e
    simp at e;obtain ⟨rfl,rfl,rfl⟩:=e;exact .inl hg.symm
   ·exact hg.elim
  rcases hg with rfl | ⟨p,q,rfl,rfl,rfl⟩
  ·cases t
   ·exact h3
   ·exact h2
  ·have:=h2.eK; subst this
   have:=h3.eK; subst this;cases t <;> exact .ub
theorem Xr {v:KV} {u:Value} (h:VK P E v u) (hk:yK v=true):aG.known u=true:=by
 cases v with
 | agg cs=>obtain ⟨l,rfl,q⟩:=h.kQ; rfl
 | int k n=>have:=h.cg; subst this; rfl
 | bool b=>have:=h.eK; subst this; rfl
 | str b=>have:=h.vB; subst this; rfl
 | kL cs=>obtain ⟨l,rfl,_⟩:=h.PM; rfl
 | ts T m n es acc=>obtain ⟨_,_,_,a,cap,rfl,_⟩:=h.lh; rfl
 | tp T Tc i k es acc=>obtain ⟨_,_,_,_,_,b,off,r,rfl,_⟩:=h.NA; rfl
 | al T b o n=>obtain ⟨a,c,rfl⟩:=h.yL.slice; rfl
 | ap T Tc b i k=>obtain ⟨x,L,N,_,_,_,rfl⟩:=h.KC; rfl
 | ptr b off=>obtain ⟨x,_,rfl⟩:=h.ig; rfl
 | sl b off n c=>obtain ⟨x,_,rfl⟩:=h.Rp; rfl
 | Hl=>simp only [VK] at h; subst h; rfl
 | ky=>simp only [VK] at h; subst h; rfl
 | Dk=>simp only [VK] at h; subst h; rfl
 | map b=>simp only [VK] at h; obtain ⟨x,_,rfl⟩:=h; rfl
 | fn f a b=>obtain ⟨l,m,rfl,_⟩:=h.KB; rfl
 | IZ=>simp only [VK] at h; subst h; rfl
 | iface t x=>simp only [VK] at h; obtain ⟨y,rfl,_⟩:=h; rfl
 | I0=>simp only [VK] at h; subst h; rfl
 | bh=>simp [yK] at hk
theorem PO {v:KV} {u:Value} (h:VK P E v u) (hk:yK v=true):u.cells.size=v.cells.length:=by
 have:=(h.cells hk).length;simpa using this
theorem aa1 {place:Nat->Option (Nat×Nat)} : ∀ {ps:List (Nat×KV)} {qs:List (Nat×Value)} {cs r:List KV} {bP:List Value},ps.map (·.1)=qs.map (·.1)->aV P E (ps.map (·.2)) (qs.map (·.2))->(∀ p∈ps,yK p.2=true)->
  aV P E cs bP->Xf place cs ps=some r->∃ r',Db place bP qs=some r'/\aV P E r r'
 | [],[],cs,r,bP,_,_,_,h,e=>by simp [Xf] at e; subst e; exact ⟨bP,rfl,h⟩
 | [],_::_,_,_,_,e,_,_,_,_=>by simp at e
 | _::_,[],_,_,_,e,_,_,_,_=>by simp at e
 | (i,v)::ps,(j,u)::qs,cs,r,bP,e1,e2,hk,h,e=>by
  simp only [List.map_cons,List.cons.injEq] at e1;obtain ⟨rfl,e1⟩:=e1;obtain ⟨y,ys,e3,h1,h2⟩:=e2.cons_inv;simp only [List.map_cons,List.cons.injEq] at e3;obtain ⟨rfl,rfl⟩:=e3;have hkv:yK v=true:=hk (i,v) (by simp);simp only [Xf] at e;simp only [Db];split at e
  ·rename_i off size hp
   rw [hp];obtain ⟨hc,e⟩:=NC e;obtain ⟨oO,e4,e5⟩:=cE.1 e;obtain ⟨r1,e6,h3⟩:=aV.k8 e4 h (h1.cells hkv);obtain ⟨r',e7,h4⟩:=aa1 e1 h2 (fun p hp=>hk p (by simp [hp])) h3 e5;refine ⟨r',?_,h4⟩;simp only;rw [PO h1 hkv,hc,aj,e6];exact e7
  ·simp at e
theorem aa2:∀ (is:List Nat) {vs:List KV} {us:List Value},aV P E vs us->(AD is vs).map (·.1)=(zipIdx is us).map (·.1)/\aV P E ((AD is vs).map (·.2)) ((zipIdx is us).map (·.2))
 | [],_,_,_=>by simp [AD,zipIdx,aV.nil]
 | i::is,[],us,h=>by rw [h.b6]; simp [AD,zipIdx,aV.nil]
 | i::is,v::vs,us,h=>by
  obtain ⟨y,ys,rfl,h1,h2⟩:=h.cons_inv;obtain ⟨h3,h4⟩:=aa2 is h2;exact ⟨by simp [AD,zipIdx,h3],by simpa [AD,zipIdx] using aV.cons h1 h4⟩
theorem aa3:∀ (is:List Nat) (vs:List KV),∀ p∈AD is vs,p.2∈vs
 | [],_,p,h=>by simp [AD] at h
 | i::is,[],p,h=>by simp [AD] at h
 | i::is,v::vs,p,h=>by
  simp only [AD,de] at h;rcases h with rfl | h
  ·simp
  ·simp [aa3 is vs p h]
theorem I3:∀ {vs:List KV} {us:List Value},aV P E vs us->vs.all yK=true->us.all aG.known=true
 | [],us,h,_=>by rw [h.b6]; rfl
 | v::vs,us,h,k=>by
  obtain ⟨y,ys,rfl,h1,h2⟩:=h.cons_inv;simp only [List.all_cons,ao] at k ⊢;exact ⟨Xr h1 k.1,I3 h2 k.2⟩
theorem adJ {place:Nat->Option (Nat×Nat)} {z:Value} {is:List Nat} (hz:flat z=true) (h1:gJ (fE z).cells=true):y6 P (Rh place (fE z).cells is) (EE place z is):=by
 intro E vs us v h hg;unfold Rh at hg;split at hg
 ·rename_i cs hf
  obtain ⟨hk,hg⟩:=hg.cond;have hg:KV.agg cs=v:=hg;subst hg;obtain ⟨h2,h3⟩:=aa2 is h;obtain ⟨r',e,hr⟩:=aa1 h2 h3 (fun p hp=>by have:=aa3 is vs p hp; exact fk.1 hk _ this) (EO (P:=P) (E:=E) h1) hf;refine ⟨.agg ⟨r'⟩,?_,.rR hr⟩;unfold EE;rw [hz,I3 h hk];simp [e,rR]
 ·exact hg.elim
theorem an7:y6 P aaS Nf:=by
 intro E vs us v h hg
 match vs,hg with
 | [.ptr b off],hg=>
  obtain ⟨y,rfl,h1⟩:=h.ee;have hg:KV.ptr b off=v:=hg;subst hg;have q:=h1;obtain ⟨x,e,rfl⟩:=h1.ig;exact ⟨_,rfl,q⟩
 | [.tp T Tc i k es acc],hg=>
  obtain ⟨y,rfl,h1⟩:=h.ee;have hg:KV.tp T Tc i k es acc=v:=hg;subst hg;have q:=h1;obtain ⟨_,_,_,_,_,b,off,r,rfl,_⟩:=h1.NA;exact ⟨_,rfl,q⟩
 | [.ap T Tc b i k],hg=>
  obtain ⟨y,rfl,h1⟩:=h.ee;have hg:KV.ap T Tc b i k=v:=hg;subst hg;have q:=h1;obtain ⟨x,L,N,_,_,_,rfl⟩:=h1.KC;exact ⟨_,rfl,q⟩
 | [.fn (.func f) a b],hg=>
  obtain ⟨y,rfl,h1⟩:=h.ee;have hg:KV.fn (.func f) a b=v:=hg;subst hg;have q:=h1;obtain ⟨l,m,rfl,_⟩:=h1.KB;exact ⟨_,rfl,q⟩
theorem PQ {s ft:TypeId} {off:Nat} (h:Z9 P s off ft=true):∀ m c,(aQ P ft).ks[m]? = some c->(aQ P s).ks[off+m]? = some c:=by
 unfold Z9 at h;have key:∀ (a b:List CK),EL a b=true->a=b:=by
  intro a
  induction a with
  | nil=>intro b hb; cases b <;> simp_all [EL]
  | cons x xs ih=>
   intro b hb;cases b with
   | nil=>simp [EL] at hb
   | cons y ys=>
    simp only [EL,ao] at hb;rw [ih ys hb.2];congr 1;cases x <;> cases y <;> simp_all [amq]
 split at h
 ·rename_i l e
  obtain ⟨rfl,hl⟩:=Ro e;have:=key _ _ h;intro m c hm;rw [<- this,mn] at hm;split at hm
  ·rwa [Mz,pf] at hm
  ·simp at hm
 ·simp at h
theorem ac8 {s ft:TypeId} {off:Nat} {ua:Bool} (Tz:ua=Z9 P s off ft):y6 P (YK s off ft ua) (Pr off):=by
 intro E vs us v h hg
 match vs,hg with
 | [.ptr b o],hg=>
  obtain ⟨y,rfl,h1⟩:=h.ee;have hg:KV.ptr b (o+off)=v:=hg;subst hg;obtain ⟨x,e,rfl⟩:=h1.ig;exact ⟨_,rfl,.Cg e⟩
 | [.tp T Tc i k es acc],hg=>
  obtain ⟨y,rfl,h1⟩:=h.ee;obtain ⟨hc,hg⟩:=aI.cond hg;have hg:KV.tp T ft i (k+off) es acc=v:=hg;subst hg;simp only [ao] at hc;have:=aL hc.1;subst this;obtain ⟨ht,bo,h2,hi,hw,b,o,r,rfl,h4,h5⟩:=h1.NA;refine ⟨_,rfl,?_⟩;simp only [VK];refine ⟨ht,bo,h2,hi,⟨fun m c hm=>?_⟩,b,o,r,by simp only [Value.pointer.injEq,bQ,Addr.mk.injEq,and_true,true_and]; omega,h4,h5⟩;have hp:=PQ (Tz ▸ hc.2) m c hm;have:=hw.is _ _ hp;rwa [show k+(off+m)=k+off+m by omega] at this
 | [.ap T Tc b i k],hg=>
  obtain ⟨y,rfl,h1⟩:=h.ee;obtain ⟨hc,hg⟩:=aI.cond hg;have hg:KV.ap T ft b i (k+off)=v:=hg;subst hg;simp only [ao] at hc;have:=aL hc.1;subst this;obtain ⟨x,L,N,h2,hw,hi,rfl⟩:=h1.KC;refine ⟨_,rfl,.ams ⟨x,L,N,h2,⟨fun m c hm=>?_⟩,hi,by simp only [Value.pointer.injEq,bQ,Addr.mk.injEq,and_true,true_and]; omega⟩⟩;have hp:=PQ (Tz ▸ hc.2) m c hm;have:=hw.is _ _ hp;rwa [show k+(off+m)=k+off+m by omega] at this
theorem agj {t:TypeId} {cs:List KV} {bP:List Value} {off:Nat} {v:KV} (h:aV P E cs bP) (e:Xg P t cs off=some v):∃ u,partOf P t bP off=some u/\VK P E v u:=by
 unfold Xg at e;unfold partOf;split at e
 ·rename_i ha
  rw [ha];obtain ⟨n,hn,e⟩:=cE.1 e;obtain ⟨l,hl,rfl⟩:=cj.1 e;obtain ⟨r,hr,hv,_⟩:=h.yX hl;exact ⟨.agg ⟨r⟩,by simp [hn,hr],.rR hv⟩
 ·rename_i ha
  rw [ha];rw [Mz] at e;have hd:=h.drop off;cases hc:cs.drop off with
  | nil=>rw [hc] at e; simp at e
  | cons x xs=>
   rw [hc] at e hd;simp at e;subst e;obtain ⟨y,ys,e2,h1,_⟩:=hd.cons_inv;exact ⟨y,by simp [vt,e2],h1⟩
 ·simp at e
theorem alb {fd:Field} : y6 P (ajT P fd) (aex P fd):=by
 intro E vs us v h hg
 match vs,hg with
 | [.agg cs],hg=>
  obtain ⟨y,rfl,h1⟩:=h.ee;obtain ⟨l,rfl,h2⟩:=h1.kQ;exact agj h2 hg.of
theorem CO {i:Int} {n:Nat} (h:inR i n=true):∃ m,i = .ofNat m/\m < n/\i.toNat=m:=by
 simp only [inR,ao,l9] at h;obtain ⟨m,rfl⟩:=Int.eq_ofNat_of_zero_le h.1;exact ⟨m,rfl,by omega,rfl⟩
theorem qX {m n:Nat} (h:m < n):kN (.ofNat m) n=some m:=by
 have:Nat.blt m n=true:=by rw [bI]; exact h
 simp [kN,this]
theorem aI.jQ {α:Type} {c:Bool} {u v:α} (h:aI (.jQ c u) v):c=true/\u=v:=h
theorem YP {t e:TypeId} {len n m:Nat} (hq:EL (aQ P t).ks (di (aQ P e).ks len)=true) (hn:(aQ P e).ks.length=n) (hm:m < len):∀ a c,(aQ P e).ks[a]? = some c->(aQ P t).ks[m * n+a]? = some c:=by
 intro a c ha;have key:∀ (l:List CK) (LC m a:Nat) (c:CK),m < LC->l[a]? = some c->(di l LC)[m * l.length+a]? = some c:=by
  intro l LC
  induction LC with
  | zero=>intro m a c hm; omega
  | succ LC ih=>
   intro m a c hm hl;have bm:a < l.length:=(cH.1 hl).1;cases m with
   | zero=>simp only [di,Nat.zero_mul,bd]; rw [qS bm]; exact hl
   | succ m=>
    simp only [di];rw [tS (by rw [Nat.succ_mul]; omega),show (m+1) * l.length+a - l.length=m * l.length+a by rw [Nat.succ_mul]; omega];exact ih m a c (by omega) hl
 have aqj:∀ (a b:List CK),EL a b=true->a=b:=by
  intro a
  induction a with
  | nil=>intro b hb; cases b <;> simp_all [EL]
  | cons x xs ih=>
   intro b hb;cases b with
   | nil=>simp [EL] at hb
   | cons y ys=>
    simp only [EL,ao] at hb;rw [ih ys hb.2];congr 1;cases x <;> cases y <;> simp_all [amq]
 have h6:=key (aQ P e).ks len m a c hm ha;rw [<- aqj _ _ hq,hn] at h6;exact h6
theorem aeS {t e:TypeId} {len n:Nat} : y6 P (aaT P t len n e) (Tb len n):=by
 intro E vs us v h hg
 match vs,hg with
 | [.ptr b o,.int k i],hg=>
  have hg:aI (cond (Nat.ble len 8) (ajU i (fun j=>.ok (.ptr b (o+j * n))) len 0) (.jQ (inR i len) (.ptr b (o+i.toNat * n)))) v:=hg;obtain ⟨x,y,rfl,h1,h2⟩:=h.kf;obtain ⟨x,e,rfl⟩:=h1.ig;have:=h2.cg; subst this;have key:∃ m:Nat,i=(m:Int)/\m < len/\v = .ptr b (o+m * n):=by
   cases hb:Nat.ble len 8 with
   | true=>rw [hb,aj] at hg; obtain ⟨m,_,h3,h4,h5⟩:=aI.at hg; exact ⟨m,h4,by omega,(show KV.ptr b (o+m * n)=v from h5).symm⟩
   | false=>rw [hb,aH] at hg; obtain ⟨hc,rfl⟩:=aI.jQ hg; obtain ⟨m,rfl,hm,TA⟩:=CO hc; exact ⟨m,rfl,hm,by rw [TA]⟩
  obtain ⟨m,rfl,hm,rfl⟩:=key;refine ⟨_,?_,.Cg e⟩;show (kN (.ofNat m) len).bind _=_;rw [qX hm]; rfl
 | [.tp T Tc j k es acc,.int q i],hg=>
  obtain ⟨x,y,rfl,h1,h2⟩:=h.kf;obtain ⟨vw,hg⟩:=aI.cond hg;obtain ⟨hc,rfl⟩:=aI.jQ hg;have:=h2.cg; subst this;obtain ⟨m,rfl,hm,TA⟩:=CO hc;rw [TA];simp only [ao] at vw;have:=aL vw.1.1;subst this;have hn:(aQ P e).ks.length=n:=aL vw.2;obtain ⟨ht,bo,h3,hi,hw,b,o,r,rfl,h4,h5⟩:=h1.NA;refine ⟨_,by (show (kN (.ofNat m) len).bind _=_); rw [qX hm]; rfl,?_⟩;simp only [VK];refine ⟨ht,bo,h3,hi,⟨fun a c ha=>?_⟩,b,o,r,by simp only [Value.pointer.injEq,bQ,Addr.mk.injEq,and_true,true_and]; omega,h4,h5⟩;have h6:=YP vw.1.2 hn hm a c ha;have:=hw.is _ _ h6;rwa [show k+(m * n+a)=k+m * n+a by omega] at this
 | [.ap T Tc b j k,.int q i],hg=>
  obtain ⟨x,y,rfl,h1,h2⟩:=h.kf;obtain ⟨vw,hg⟩:=aI.cond hg;obtain ⟨hc,rfl⟩:=aI.jQ hg;have:=h2.cg; subst this;obtain ⟨m,rfl,hm,TA⟩:=CO hc;rw [TA];simp only [ao] at vw;have:=aL vw.1.1;subst this;have hn:(aQ P e).ks.length=n:=aL vw.2;obtain ⟨x,L,N,h3,hw,hi,rfl⟩:=h1.KC;refine ⟨_,by (show (kN (.ofNat m) len).bind _=_); rw [qX hm]; rfl,.ams ⟨x,L,N,h3,⟨fun a c ha=>?_⟩,hi,by simp only [Value.pointer.injEq,bQ,Addr.mk.injEq,and_true,true_and]; omega⟩⟩;have h6:=YP vw.1.2 hn hm a c ha;have:=hw.is _ _ h6;rwa [show k+(m * n+a)=k+m * n+a by omega] at this
theorem agk {e n:Nat} {ua:Bool} (Tz:ua=Nat.beq (aQ P e).ks.length n):y6 P (adC e n ua) (WR n):=by
 intro E vs us v h hg
 match vs,hg with
 | [.sl b o len cap,.int k i],hg=>
  obtain ⟨x,y,rfl,h1,h2⟩:=h.kf;obtain ⟨hc,rfl⟩:=aI.jQ hg;obtain ⟨x,e,rfl⟩:=h1.Rp;have:=h2.cg; subst this;obtain ⟨m,rfl,hm,TA⟩:=CO hc;rw [TA];exact ⟨_,by (show (kN (.ofNat m) len).bind _=_); rw [qX hm]; rfl,.Cg e⟩
 | [.ts T mk len es acc,.int q i],hg=>
  obtain ⟨x,y,rfl,h1,h2⟩:=h.kf;obtain ⟨vw,hg⟩:=aI.cond hg;obtain ⟨hc,rfl⟩:=aI.jQ hg;have:=h2.cg; subst this;obtain ⟨m,rfl,hm,TA⟩:=CO hc;rw [TA];simp only [ao] at vw;have:=aL vw.1;subst this;have hn:(aQ P T).ks.length=n:=aL (Tz ▸ vw.2);obtain ⟨ht,bo,h3,a,cap,rfl,h4,h5,h6⟩:=h1.lh;rcases h5 with ⟨_,h0⟩ | ⟨b,off,r,rfl,h7,h8,h9⟩
  ·omega
  ·refine ⟨_,by (show (kN (.ofNat m) len).bind _=_); rw [qX hm]; rfl,?_⟩
   have hl:=ht.len;simp only [VK];refine ⟨⟨rfl,fun i hi=>ht.acc i (by omega),ht.typed⟩,bo,h3,by omega,⟨fun a c ha=>by simpa using ha⟩,b,off,r,?_,h7,h9⟩;simp only [aU,hn,Value.pointer.injEq,bQ,Addr.mk.injEq,and_true,true_and];omega
 | [.al T b o len,.int q i],hg=>
  obtain ⟨x,y,rfl,h1,h2⟩:=h.kf;obtain ⟨vw,hg⟩:=aI.cond hg;obtain ⟨hc,rfl⟩:=aI.jQ hg;have:=h2.cg; subst this;obtain ⟨m,rfl,hm,TA⟩:=CO hc;rw [TA];simp only [ao] at vw;have:=aL vw.1;subst this;have hn:(aQ P T).ks.length=n:=aL (Tz ▸ vw.2);rcases h1.yL with ⟨h0,_⟩ | ⟨x,L,N,c,h3,rfl,h4,h5,h6⟩
  ·omega
  ·refine ⟨_,by (show (kN (.ofNat m) len).bind _=_); rw [qX hm]; rfl,.ams ⟨x,L,N,h3,⟨fun a c ha=>by simpa using ha⟩,by omega,?_⟩⟩
   simp only [aU,hn,Value.pointer.injEq,bQ,Addr.mk.injEq,and_true,true_and];rw [Nat.add_mul]; omega
theorem aeT {len n:Nat} {e:TypeId} : y6 P (Tq P len n e) (Td P len n e):=by
 intro E vs us v h hg
 match vs,hg with
 | [.agg cs,.int k i],hg=>
  obtain ⟨x,y,rfl,h1,h2⟩:=h.kf;obtain ⟨l,rfl,h3⟩:=h1.kQ;have:=h2.cg; subst this;simp only [Tq] at hg;have key:∃ m:Nat,i=(m:Int)/\m < len/\Xg P e cs (m * n)=some v:=by
   cases hb:Nat.ble len 8 with
   | true=>rw [hb,aj] at hg; obtain ⟨m,_,h3,h4,h5⟩:=aI.at hg; exact ⟨m,h4,by omega,aI.of h5⟩
   | false=>
    rw [hb,aH] at hg;split at hg
    ·rename_i u hu
     obtain ⟨hc,rfl⟩:=aI.jQ hg;obtain ⟨m,rfl,hm,TA⟩:=CO hc;rw [TA] at hu;exact ⟨m,rfl,hm,hu⟩
    ·exact hg.elim
  obtain ⟨m,rfl,hm,hu⟩:=key;obtain ⟨w,h4,h5⟩:=agj h3 hu;exact ⟨w,by (show (kN (.ofNat m) len).bind _=_); rw [qX hm]; exact h4,h5⟩
theorem aeU:y6 P aaU Te:=by
 intro E vs us v h hg
 match vs,hg with
 | [.str s,.int k i],hg=>
  obtain ⟨x,y,rfl,h1,h2⟩:=h.kf;have:=h1.vB; subst this;have:=h2.cg; subst this;obtain ⟨hc,rfl⟩:=aI.jQ hg;obtain ⟨m,rfl,hm,TA⟩:=CO hc;rw [TA];have hl:m < s.data.toList.length:=by simpa using hm
  refine ⟨.int .u8 (s.data.toList.getD m 0).toNat,?_,.mkInt⟩;show (kN (.ofNat m) s.size).bind _=_;rw [qX hm];show (s.data.toList[m]?).map _=_;simp [List.getD,cJ hl]
theorem aa4 {α:Type} : ∀ (n:Nat) (l:List α),adD n l=l[n]?
 | n,[]=>by cases n <;> rfl
 | 0,x::_=>rfl
 | n+1,_::xs=>by simp [adD,aa4 n xs]
theorem agl {i:Nat} : y6 P (adE i) (L9 i):=by
 intro E vs us v h hg
 match vs,hg with
 | [.kL ws],hg=>
  obtain ⟨y,rfl,h1⟩:=h.ee;obtain ⟨l,rfl,h2⟩:=h1.PM;have:=hg.of;rw [aa4] at this;obtain ⟨u,h3,h4⟩:=h2.get this;exact ⟨u,by simpa [L9] using h3,h4⟩
theorem alc:y6 P ajV Z2:=by
 intro E vs us v h hg
 match vs,hg with
 | [.ts T m n es acc],hg=>
  obtain ⟨y,rfl,h1⟩:=h.ee;obtain ⟨_,_,_,a,cap,rfl,_⟩:=h1.lh;have hg:KV.int .i64 n=v:=hg;subst hg;exact ⟨_,rfl,.mkInt⟩
 | [.sl b o n c],hg=>
  obtain ⟨y,rfl,h1⟩:=h.ee;obtain ⟨x,_,rfl⟩:=h1.Rp;have hg:KV.int .i64 n=v:=hg;subst hg;exact ⟨_,rfl,.mkInt⟩
 | [.al T b o n],hg=>
  obtain ⟨y,rfl,h1⟩:=h.ee;obtain ⟨a,c,rfl⟩:=h1.yL.slice;have hg:KV.int .i64 n=v:=hg;subst hg;exact ⟨_,rfl,.mkInt⟩
 | [.ky],hg=>
  obtain ⟨y,rfl,h1⟩:=h.ee;have:=h1.pw; subst this;have hg:KV.int .i64 0=v:=hg;subst hg;exact ⟨_,rfl,.mkInt⟩
theorem air:y6 P af7 UG:=by
 intro E vs us v h hg
 match vs,hg with
 | [.str s],hg=>
  obtain ⟨y,rfl,h1⟩:=h.ee;have:=h1.vB; subst this;have hg:KV.int .i64 s.size=v:=hg;subst hg;exact ⟨_,rfl,.mkInt⟩
theorem ald:y6 P ajR aaz:=by
 intro E vs us v h hg
 match vs,hg with
 | [.str s],hg=>
  obtain ⟨y,rfl,h1⟩:=h.ee;have:=h1.vB; subst this;have hg:KV.str s=v:=hg;subst hg;exact ⟨_,rfl,.mkStr⟩
theorem aeV {f:Fn} {k:Nat} : y6 P (Nw f k) (IL f k):=by
 intro E vs us v h hg;unfold Nw at hg;split at hg
 ·rename_i l hl
  have hg:KV.fn f l (EJ k vs)=v:=hg;subst hg;have vb:yX k (EJ 0 vs)=some l:=hl;obtain ⟨r,h1,h2,_⟩:=h.yX vb;have h1:takeN k us=some r:=h1;refine ⟨_,by simp [IL,h1]; rfl,.agh h2 ?_⟩;rw [Mz,vt];exact h.drop k
 ·exact hg.elim
theorem ale {src dst:TypeId} {k k' : IntKind} (h2:P.underlying dst=some (.int k)) (h3:P.underlying src=some (.int k')):y6 P (ajQ k) (L8 P src dst):=by
 intro E vs us v h hg
 match vs,hg with
 | [.int j n],hg=>
  obtain ⟨y,rfl,h1⟩:=h.ee;have:=h1.cg; subst this;have hg:KV.int k (k.wrap n)=v:=hg;subst hg;refine ⟨.int k (k.wrap n),?_,.mkInt⟩;simp only [L8,h2];simp [convert,underlying,program,Bind.bind,Sem.bind,cO,h2,h3,Conv.intToInt,Pure.pure]
end Go.K
end
section
namespace Go.K
open Go Go.aG
variable {P:Program} {E:Env}
theorem eh {α β:Type} : ∀ {s:Sem α} {f:α->Sem β} {a:α},cO P s=some a->cO P (s >>= f)=cO P (f a)
 | .pure x,f,a,h=>by simp [cO] at h; subst h; rfl
 | .program k,f,a,h=>by
  have:=eh (s:=k P) (f:=f) (a:=a) (by simpa [cO] using h);exact this
 | .mark m k,f,a,h=>by
  have:=eh (s:=k) (f:=f) (a:=a) (by simpa [cO] using h);exact this
 | .load ..,_,_,h | .store ..,_,_,h | .new ..,_,_,h | .shape ..,_,_,h | .freeze ..,_,_,h | .frozen ..,_,_,h | .getObj ..,_,_,h
 | .setObj ..,_,_,h | .choose ..,_,_,h | .sys ..,_,_,h | .halt ..,_,_,h=>by simp [cO] at h
theorem I4 {α β:Type} {init stop:β} {B:α->β->Sem (ForInStep β)} {g:α->Bool} : ∀ {l:List α},(∀ x∈l,cO P (B x init)=some (if g x=true then .yield init else .done stop))->
  cO P (forIn l init B)=some (if l.all g=true then init else stop)
 | [],_=>rfl
 | x::l,h=>by
  have hx:=h x (by simp);rw [List.forIn_cons,eh hx];cases hg:g x with
  | true=>
   simp only [if_true];rw [I4 fun y hy=>h y (by simp [hy])];simp [hg]
  | false=>simp [hg]; rfl
theorem AL {t:TypeId} {d:TypeDesc} (h:P.underlying t=some d):cO P (underlying t)=some d:=by
 simp [underlying,program,Bind.bind,Sem.bind,cO,h,Pure.pure]
theorem U9 {t:TypeId} {i:TypeInfo} (h:P.info? t=some i):cO P (typeInfo t)=some i:=by
 simp [typeInfo,program,Bind.bind,Sem.bind,cO,h,Pure.pure]
theorem cr {α:Type} (a:α):cO P (pure a)=some a:=rfl
theorem OJ {t:TypeId} {i:TypeInfo} (h:P.info? t=some i):cO P (sizeOf t)=some i.size:=by
 unfold sizeOf;rw [eh (U9 h)];rfl
theorem aa5 {n:Nat} {t:TypeId} {L:Lay} (h:lay P n t=some L):∃ d,P.underlying t=some d/\L.agg=Z1 d/\(L.agg=false->L.ks.length=1):=by
 cases n with
 | zero=>simp [lay] at h
 | succ n=>
  simp only [lay] at h;split at h <;> rename_i hu
  ·simp at h; subst h; exact ⟨_,hu,rfl,fun _=>rfl⟩
  ·simp at h; subst h; exact ⟨_,hu,rfl,fun _=>rfl⟩
  ·simp at h; subst h; exact ⟨_,hu,rfl,fun _=>rfl⟩
  ·simp at h; subst h; exact ⟨_,hu,rfl,fun _=>rfl⟩
  ·obtain ⟨ks,_,rfl⟩:=cj.1 h; exact ⟨_,hu,rfl,fun h=>by simp at h⟩
  ·obtain ⟨ks,_,rfl⟩:=cj.1 h; exact ⟨_,hu,rfl,fun h=>by simp at h⟩
  ·rename_i d h1 h2 h3 h4 h5 h6
   simp at h; subst h;refine ⟨_,hu,?_,fun _=>rfl⟩;cases d <;> first | rfl | simp_all
  ·simp at h
def Dr (agg:Bool) (l:List Value):Value:=cond agg (.agg ⟨l⟩) (l.headD undef)
theorem Sq {n:Nat} {t:TypeId} {L:Lay} {i:TypeInfo} {cs:Array Value} {off:Nat} (h:lay P n t=some L) (hi:P.info? t=some i) (hs:i.size=L.ks.length) (hl:off+L.ks.length<=cs.size) :
  cO P (part t cs off)=some (Dr L.agg ((cs.toList.drop off).take L.ks.length)):=by
 obtain ⟨d,hu,ha,h1⟩:=aa5 h;have aqk:cO P (isAgg t)=some (Z1 d):=by
  unfold isAgg;rw [eh (AL hu)];cases d <;> rfl
 unfold part;rw [eh aqk];cases hd:Z1 d with
 | true=>
  rw [hd] at ha;simp only [if_true];rw [eh (OJ hi)];simp only [cr,ha,Dr,aj,hs];congr 2;apply Array.ext';simp
 | false=>
  rw [hd] at ha;have h1:=h1 ha;have bm:off < cs.size:=by omega
  simp only [HL,if_false];rw [Array.getElem?_eq_getElem bm];simp only [cr,ha,Dr,aH,h1];congr 1;have:cs.toList.drop off=cs.toList[off]::cs.toList.drop (off+1):=List.drop_eq_getElem_cons (by simpa using bm);rw [this];simp
theorem Va:∀ {xs ys:List KV} {b:Bool},wF xs ys=some b->xs.length=ys.length
 | [],[],_,_=>rfl
 | [],_::_,_,h=>by simp [wF] at h
 | _::_,[],_,h=>by simp [wF] at h
 | x::xs,y::ys,b,h=>by
  simp only [wF] at h;split at h
  ·rename_i h2; simp [Va h2]
  ·simp at h
theorem CP:∀ (n:Nat) {xs ys:List KV} {b:Bool},wF xs ys=some b->∃ b1 b2,wF (xs.take n) (ys.take n)=some b1/\wF (xs.drop n) (ys.drop n)=some b2/\b=(b1&&b2)
 | 0,xs,ys,b,h=>⟨true,b,by simp [wF],by simpa using h,by simp⟩
 | n+1,[],[],b,h=>by simp [wF] at h; subst h; exact ⟨true,true,by simp [wF],by simp [wF],rfl⟩
 | n+1,[],_::_,b,h=>by simp [wF] at h
 | n+1,_::_,[],b,h=>by simp [wF] at h
 | n+1,x::xs,y::ys,b,h=>by
  simp only [wF] at h;split at h
  ·rename_i a c h1 h2
   simp at h;obtain ⟨b1,b2,h3,h4,h5⟩:=CP n h2;refine ⟨a&&b1,b2,by simp [wF,h1,h3],by simpa using h4,?_⟩;rw [<- h,h5,Bool.and_assoc]
  ·simp at h
def EP (xs ys:List KV) (off n:Nat):Bool:=(wF ((xs.drop off).take n) ((ys.drop off).take n)).getD false
theorem adK {xs ys:List KV} {b:Bool} (h:wF xs ys=some b) (off n:Nat):wF ((xs.drop off).take n) ((ys.drop off).take n)=some (EP xs ys off n):=by
 obtain ⟨_,_,_,h2,_⟩:=CP off h;obtain ⟨b1,_,h3,_,_⟩:=CP n h2;unfold EP;rw [h3]; rfl
theorem xD:∀ {a b:List CK} {xs:List KV},aE (a++b) xs=true->aE a (xs.take a.length)=true/\aE b (xs.drop a.length)=true
 | [],b,xs,h=>by simpa [aE] using h
 | c::a,b,[],h=>by simp [aE] at h
 | c::a,b,x::xs,h=>by
  simp only [List.cons_append,aE,ao] at h;obtain ⟨h1,h2⟩:=xD h.2;simp [aE,h.1,h1,h2]
theorem sH:∀ {a:List CK} {xs:List KV},aE a xs=true->xs.length=a.length
 | [],[],_=>rfl
 | [],_::_,h=>by simp [aE] at h
 | _::_,[],h=>by simp [aE] at h
 | c::a,x::xs,h=>by
  simp only [aE,ao] at h;simp [sH h.2]
theorem aa6 {lf:TypeId->Option Lay} {xs ys:List KV} {b:Bool} (he:wF xs ys=some b):∀ {fs:List Field} {off:Nat} {ks:List CK},PD lf fs off=some ks->aE ks (xs.drop off)=true->aE ks (ys.drop off)=true->off+ks.length=xs.length->
  (∀ f∈fs,∃ L,lf f.type=some L/\f.offset+L.ks.length<=xs.length/\aE L.ks ((xs.drop f.offset).take L.ks.length)=true/\aE L.ks ((ys.drop f.offset).take L.ks.length)=true)/\
  wF (xs.drop off) (ys.drop off)=some (fs.all fun f=>EP xs ys f.offset (((lf f.type).map (·.ks.length)).getD 0))
 | [],off,ks,h,_,_,hl=>by
  simp [PD] at h;subst h;have h1:xs.drop off = []:=by simp at hl; simp; omega
  have h2:ys.drop off = []:=by have:=Va he; simp at hl; simp; omega
  refine ⟨by simp,?_⟩;rw [h1,h2]; rfl
 | f::fs,off,ks,h,hk,mO,hl=>by
  simp only [PD] at h;obtain ⟨OH,h⟩:=NC h;have OH:=aL OH;obtain ⟨L,h1,h⟩:=cE.1 h;obtain ⟨r,h2,rfl⟩:=cj.1 h;obtain ⟨k1,k2⟩:=xD hk;obtain ⟨k1',k2'⟩:=xD mO;rw [List.drop_drop] at k2 k2';simp only [kF] at hl;obtain ⟨h3,h4⟩:=aa6 he h2 k2 k2' (by omega);refine ⟨fun g hg=>?_,?_⟩
  ·rcases de.1 hg with rfl | hg
   ·exact ⟨L,h1,by omega,by rw [OH]; exact k1,by rw [OH]; exact k1'⟩
   ·exact h3 g hg
  ·obtain ⟨_,_,_,h5,_⟩:=CP off he
   obtain ⟨c1,c2,h6,h7,h8⟩:=CP L.ks.length h5;rw [List.drop_drop,List.drop_drop] at h7;rw [h4] at h7;simp at h7;have h9:=adK he off L.ks.length;rw [h6] at h9;simp at h9;rw [h5,h8];simp only [List.all_cons,h1,Option.map_some,dI,OH,<- h9];rw [<- h7]
theorem BR {α:Type} (l:List α):∀ n,(di l n).length=n * l.length
 | 0=>by simp [di]
 | n+1=>by rw [di,kF,BR l n,Nat.succ_mul]; omega
theorem aa7 {xs ys:List KV} {l:List CK} : ∀ {len off:Nat} {b:Bool},wF (xs.drop off) (ys.drop off)=some b->aE (di l len) (xs.drop off)=true->aE (di l len) (ys.drop off)=true->
  (∀ i,i < len->aE l ((xs.drop (off+i * l.length)).take l.length)=true/\aE l ((ys.drop (off+i * l.length)).take l.length)=true)/\
  wF (xs.drop off) (ys.drop off)=some ((List.range' 0 len).all fun i=>EP xs ys (off+i * l.length) l.length)
 | 0,off,b,h,hk,mO=>by
  have h1:xs.drop off = []:=by have:=sH hk; simp only [di,List.length_nil] at this; exact qR.1 this
  have h2:ys.drop off = []:=by have:=sH mO; simp only [di,List.length_nil] at this; exact qR.1 this
  refine ⟨fun i hi=>by omega,?_⟩;rw [h1,h2]; rfl
 | len+1,off,b,h,hk,mO=>by
  obtain ⟨c1,c2,h1,h2,h3⟩:=CP l.length h;rw [List.drop_drop,List.drop_drop] at h2;obtain ⟨k1,k2⟩:=xD (a:=l) (b:=di l len) hk;obtain ⟨k1',k2'⟩:=xD (a:=l) (b:=di l len) mO;rw [List.drop_drop] at k2 k2';obtain ⟨h5,h4⟩:=aa7 (len:=len) (off:=off+l.length) h2 k2 k2';refine ⟨fun i hi=>?_,?_⟩
  ·cases i with
   | zero=>simpa using ⟨k1,k1'⟩
   | succ i=>
    have:=h5 i (by omega);rwa [show off+l.length+i * l.length=off+(i+1) * l.length by rw [Nat.succ_mul]; omega] at this
  rw [h2] at h4;simp at h4;have hw:EP xs ys off l.length=c1:=by unfold EP; rw [h1]; rfl
  rw [h,h3];rw [List.range'_succ];simp only [List.all_cons,Nat.zero_mul,yI,hw,bd];congr 2;rw [h4];have:List.range' 1 len=(List.range' 0 len).map (1 + ·):=by rw [List.map_add_range']
  rw [this,List.all_map];apply congrArg (fun f=>List.all (List.range' 0 len) f);funext i;simp only [Function.comp];congr 1;rw [Nat.add_mul]; omega
theorem PR:∀ (n d:Nat) (t:TypeId) (L:Lay) (cx cy:List KV) (xs ys:List Value) (b:Bool),Hm P n t=true->lay P n t=some L->n<=d->aV P E cx xs->aV P E cy ys->aE L.ks cx=true->aE L.ks cy=true->
  wF cx cy=some b->cO P (Op.equalIn d t (Dr L.agg xs) (Dr L.agg ys))=some b
 | 0,_,_,_,_,_,_,_,_,h,_,_,_,_,_,_,_=>by simp [Hm] at h
 | n+1,0,_,_,_,_,_,_,_,_,_,h,_,_,_,_,_=>by omega
 | n+1,d+1,t,L,cx,cy,xs,ys,b,h,hL,hd,hx,hy,hkx,hky,he=>by
  have hl:=sH hkx;have hly:=sH hky;have hlx' : xs.length=L.ks.length:=by rw [hx.length,hl]
  have hly' : ys.length=L.ks.length:=by rw [hy.length,hly]
  have ajZ:∀ s,Hm P n s=true->∃ i l,P.info? s=some i/\lay P n s=some l/\i.size=l.ks.length:=by
   intro s hs;cases n with
   | zero=>simp [Hm] at hs
   | succ n=>
    simp only [Hm,ao] at hs;have h1:=hs.1;split at h1
    ·rename_i i l e1 e2
     exact ⟨i,l,e1,e2,aL h1⟩
    ·simp at h1
  have aoL:∀ (s:TypeId) (l:Lay) (i:TypeInfo) (off:Nat),Hm P n s=true->lay P n s=some l->P.info? s=some i->i.size=l.ks.length->off+l.ks.length<=cx.length->
    aE l.ks ((cx.drop off).take l.ks.length)=true->aE l.ks ((cy.drop off).take l.ks.length)=true->
    (do
     let u <- part s ⟨xs⟩ off
     let v <- part s ⟨ys⟩ off
     Op.equalIn d s u v:Sem Bool)=(do
     let u <- part s ⟨xs⟩ off
     let v <- part s ⟨ys⟩ off
     Op.equalIn d s u v)/\cO P (part s ⟨xs⟩ off)=some (Dr l.agg ((xs.drop off).take l.ks.length))/\cO P (part s ⟨ys⟩ off)=some (Dr l.agg ((ys.drop off).take l.ks.length))/\
    cO P (Op.equalIn d s (Dr l.agg ((xs.drop off).take l.ks.length)) (Dr l.agg ((ys.drop off).take l.ks.length)))=some (EP cx cy off l.ks.length):=by
   intro s l i off h1 h2 h3 h4 h5 h6 h7;refine ⟨rfl,?_,?_,?_⟩
   ·exact Sq h2 h3 h4 (by simp; omega)
   ·exact Sq h2 h3 h4 (by simp; omega)
   ·exact PR n d s l _ _ _ _ _ h1 h2 (by omega) ((hx.drop off).take _) ((hy.drop off).take _) h6 h7 (adK he off _)
  simp only [Hm,ao] at h;have h2:=h.2;obtain ⟨dd,hu,ha,h1⟩:=aa5 hL;rw [hu] at h2;unfold Op.equalIn;rw [eh (AL hu)];simp only [lay,hu] at hL;have Vb:∀ c,L.ks = [c]->∃ x y u v,cx = [x]/\cy = [y]/\xs = [u]/\ys = [v]/\VK P E x u/\VK P E y v/\eqK x y=some b/\kindOk c x=true/\kindOk c y=true:=by
   intro c hc;rw [hc] at hl hly hkx hky
   match cx,cy,hl,hly with
   | [x],[y],_,_=>
    obtain ⟨u,rfl,h2⟩:=hx.ee;obtain ⟨v,rfl,h3⟩:=hy.ee;refine ⟨x,y,u,v,rfl,rfl,rfl,rfl,h2,h3,?_,by simpa [aE] using hkx,by simpa [aE] using hky⟩;simp only [wF] at he;split at he
    ·rename_i a c h4 h5
     simp at h5;subst h5;simpa [h4] using he
    ·simp at he
  cases dd with
  | int k=>
   simp at hL;subst hL;obtain ⟨x,y,u,v,rfl,rfl,rfl,rfl,h3,h4,h5,h6,h7⟩:=Vb _ rfl;cases x <;> simp [kindOk] at h6;cases y <;> simp [kindOk] at h7;subst h6 h7;have:=h3.cg; subst this;have:=h4.cg; subst this;simp [eqK] at h5;subst h5;simp [Dr,cr]
  | bool=>
   simp at hL;subst hL;obtain ⟨x,y,u,v,rfl,rfl,rfl,rfl,h3,h4,h5,h6,h7⟩:=Vb _ rfl;cases x <;> simp [kindOk] at h6;cases y <;> simp [kindOk] at h7;have:=h3.eK; subst this;have:=h4.eK; subst this;simp [eqK] at h5;subst h5;simp [Dr,cr]
  | string=>
   simp at hL;subst hL;obtain ⟨x,y,u,v,rfl,rfl,rfl,rfl,h3,h4,h5,h6,h7⟩:=Vb _ rfl;cases x <;> simp [kindOk] at h6;cases y <;> simp [kindOk] at h7;have:=h3.vB; subst this;have:=h4.vB; subst this;simp [eqK] at h5;subst h5;simp [Dr,cr]
  | struct fs=>
   simp only [cj] at hL;obtain ⟨ks,qL,rfl⟩:=hL;simp only [ao,ma] at h2;obtain ⟨h3,h4⟩:=aa6 he qL (by simpa using hkx) (by simpa using hky) (by simpa using hl.symm);simp only [List.drop_zero] at h4;rw [he] at h4;simp only [bQ] at h4;simp only [Dr,aj];rw [eh (a:=P) (by simp [program,cO])];simp only [h2.1,HL,if_false];rw [<- Array.forIn_toList];rw [eh (I4 (g:=fun f=>EP cx cy f.offset (((lay P n f.type).map (·.ks.length)).getD 0)) (stop:=(some false,())) fun f hf=>?_)]
   ·rw [h4]
    cases (fs.toList.all fun f=>EP cx cy f.offset (((lay P n f.type).map (·.ks.length)).getD 0)) <;> rfl
   ·have h5:=fk.1 h2.2 f hf
    simp only [ao,ma,beq_eq_false_iff_ne] at h5;rw [aD h5.1];obtain ⟨l,h6,h7,h8,h9⟩:=h3 f hf;obtain ⟨i,l',e1,e2,e3⟩:=ajZ _ h5.2;rw [h6] at e2;simp at e2;subst e2;obtain ⟨_,w1,w2,w3⟩:=aoL _ l i f.offset h5.2 h6 e1 e3 h7 h8 h9;rw [eh w1,eh w2,eh w3];simp only [h6,Option.map_some,dI];cases EP cx cy f.offset l.ks.length <;> rfl
  | array len e=>
   simp only [cj] at hL;obtain ⟨l,Mi,rfl⟩:=hL;obtain ⟨h3,h4⟩:=aa7 (xs:=cx) (ys:=cy) (l:=l.ks) (len:=len) (off:=0) (by simpa using he) (by simpa using hkx) (by simpa using hky);simp only [List.drop_zero,bd] at h3 h4;rw [he] at h4;simp only [bQ] at h4;obtain ⟨i,l',e1,e2,e3⟩:=ajZ _ h2;rw [Mi] at e2;simp at e2;subst e2;simp only [Dr,aj];rw [eh (OJ e1)];rw [Std.Legacy.Range.forIn_eq_forIn_range'];rw [show List.range' [:len].start [:len].size [:len].step=List.range' 0 len from by simp [Std.Legacy.Range.size]];rw [eh (I4 (g:=fun i=>EP cx cy (i * l.ks.length) l.ks.length) (stop:=(some false,())) fun j hj=>?_)]
   ·rw [h4]
    cases ((List.range' 0 len).all fun i=>EP cx cy (i * l.ks.length) l.ks.length) <;> rfl
   ·have AH:j < len:=by simpa using hj
    obtain ⟨k1,k2⟩:=h3 j AH;have hle:j * l.ks.length+l.ks.length<=cx.length:=by
     rw [hl];simp only [BR];rw [<- Nat.succ_mul];exact Nat.mul_le_mul_right _ AH
    obtain ⟨_,w1,w2,w3⟩:=aoL _ l i (j * l.ks.length) h2 Mi e1 e3 hle k1 k2;rw [e3];rw [eh w1,eh w2,eh w3];cases EP cx cy (j * l.ks.length) l.ks.length <;> rfl
  | _=>simp at h2
theorem PS:∀ {ks:List CK} {cs:List KV} {l:List Value},aE ks cs=true->aV P E cs l->(∀ t,CK.slice t ∉ ks)->yU l=true
 | [],[],l,_,h,_=>by rw [h.b6]; rfl
 | [],_::_,_,h,_,_=>by simp [aE] at h
 | _::_,[],_,h,_,_=>by simp [aE] at h
 | c::ks,v::cs,l,h,hv,hn=>by
  obtain ⟨y,ys,rfl,h1,h2⟩:=hv.cons_inv;simp only [aE,ao] at h;have:=PS h.2 h2 (fun t ht=>hn t (by simp [ht]));simp only [yU,this,Fv];cases c with
  | int k=>cases v <;> simp [kindOk] at h; have:=h1.cg; subst this; rfl
  | bool=>cases v <;> simp [kindOk] at h; have:=h1.eK; subst this; rfl
  | str=>cases v <;> simp [kindOk] at h; have:=h1.vB; subst this; rfl
  | slice t=>exact absurd (by simp) (hn t)
  | other=>cases v <;> simp [kindOk] at h
theorem PT:∀ (n:Nat) (t:TypeId) (L:Lay),Hm P n t=true->lay P n t=some L->∀ u,CK.slice u ∉ L.ks
 | 0,_,_,h,_,_=>by simp [Hm] at h
 | n+1,t,L,h,hL,u=>by
  simp only [Hm,ao] at h;have h2:=h.2;obtain ⟨dd,hu,_,_⟩:=aa5 hL;rw [hu] at h2;simp only [lay,hu] at hL;cases dd with
  | int k=>simp at hL; subst hL; simp
  | bool=>simp at hL; subst hL; simp
  | string=>simp at hL; subst hL; simp
  | struct fs=>
   simp only [cj] at hL;obtain ⟨ks,qL,rfl⟩:=hL;simp only [ao,fk] at h2;have key:∀ (l:List Field) (off:Nat) (ks:List CK),PD (lay P n) l off=some ks->(∀ f∈l,Hm P n f.type=true)->CK.slice u ∉ ks:=by
    intro l
    induction l with
    | nil=>intro off ks h _; simp [PD] at h; subst h; simp
    | cons f l ih=>
     intro off ks h hf;simp only [PD] at h;obtain ⟨_,h⟩:=NC h;obtain ⟨L',h5,h⟩:=cE.1 h;obtain ⟨r,h6,rfl⟩:=cj.1 h;rw [jM];rintro (h7 | h7)
     ·exact PT n _ _ (hf f (by simp)) h5 u h7
     ·exact ih _ _ h6 (fun g hg=>hf g (by simp [hg])) h7
   exact key _ _ _ qL fun f hf=>(h2.2 f hf).2
  | array len e=>
   simp only [cj] at hL;obtain ⟨l,Mi,rfl⟩:=hL;have:=PT n e l h2 Mi u;have key:∀ m,CK.slice u ∉ di l.ks m:=by
    intro m
    induction m with
    | zero=>simp [di]
    | succ m ih=>simp only [di,jM,not_or]; exact ⟨this,ih⟩
   exact key _
  | _=>simp at h2
theorem ais {t:TypeId} (h:Hm P 12 t=true):lay P 12 t=some (aQ P t):=by
 simp only [Hm,ao] at h;have h1:=h.1;unfold aQ;split at h1
 ·rename_i i l e1 e2; rw [e2]; rfl
 ·simp at h1
theorem aa8 {t:TypeId} {x y:KV} {b:Bool} {lit:Bool} {u v:Value} (hx:VK P E x u) (hy:VK P E y v) (h:ajO P t x y=some b):nY P t lit u v=some b:=by
 unfold ajO at h;split at h
 ·rename_i xs ys
  obtain ⟨hc,h⟩:=NC h;simp only [ao,ma] at hc;obtain ⟨⟨⟨⟨ha,h1⟩,h2⟩,h3⟩,h4⟩:=hc;obtain ⟨l,rfl,hl⟩:=hx.kQ;obtain ⟨m,rfl,hm⟩:=hy.kQ;have hL:=ais h1;have hns:=PT 12 t _ h1 hL;have hfx:flat (.agg ⟨l⟩)=true:=PS h3 hl hns;have hfy:flat (.agg ⟨m⟩)=true:=PS h4 hm hns;have hs:=PR 12 Op.maxDepth t (aQ P t) xs ys l m b h1 hL (by unfold Op.maxDepth; omega) hl hm h3 h4 h;rw [ha] at hs;have hs:cO P (Op.equal t (.agg ⟨l⟩) (.agg ⟨m⟩))=some b:=hs;unfold nY;simp only [iu,BP,h2,HO,cz,aj];unfold eqV;split <;> simp_all
 ·rename_i a c
  split at h
  ·rename_i hu
   simp at h;subst h;have:=hx.eK; subst this;have:=hy.eK; subst this;have:cO P (Op.equal t (.bool a) (.bool c))=some (a==c):=by
    unfold Op.equal Op.maxDepth Op.equalIn;rw [eh (AL hu)];rfl
   unfold nY;simp only [iu,BP,cz,aj];unfold eqV;split <;> simp_all [flat]
  ·simp at h
 ·split at h
  ·rename_i e hu
   simp at h;subst h;have:=hx.pw; subst this;have:=hy.pw; subst this;simp [nY,iu,BP,eqV,hu]
  ·simp at h
 ·rename_i T m n es acc
  split at h
  ·rename_i e hu
   cases hn:Nat.beq n 0 with
   | true=>rw [hn] at h; simp at h
   | false=>
    rw [hn] at h;simp at h;subst h;have:=hy.pw; subst this;obtain ⟨_,bo,_,a,cap,rfl,_,hb,_⟩:=hx.lh;rcases hb with ⟨_,h0⟩ | ⟨b,off,r,rfl,_⟩
    ·subst h0; simp at hn
    ·simp [nY,iu,BP,eqV,hu]
  ·simp at h
 ·rename_i T m n es acc
  split at h
  ·rename_i e hu
   cases hn:Nat.beq n 0 with
   | true=>rw [hn] at h; simp at h
   | false=>
    rw [hn] at h;simp at h;subst h;have:=hx.pw; subst this;obtain ⟨_,bo,_,a,cap,rfl,_,hb,_⟩:=hy.lh;rcases hb with ⟨_,h0⟩ | ⟨b,off,r,rfl,_⟩
    ·subst h0; simp at hn
    ·simp [nY,iu,BP,eqV,hu]
  ·simp at h
 ·split at h
  ·rename_i e hu
   simp at h;subst h;have:=hx.Rq; subst this;have:=hy.Rq; subst this;simp [nY,iu,BP,eqV,hu]
  ·simp at h
 ·split at h
  ·rename_i e hu
   simp at h;subst h;have:=hy.Rq; subst this;obtain ⟨x,_,rfl⟩:=hx.ig;simp [nY,iu,BP,eqV,hu]
  ·simp at h
 ·split at h
  ·rename_i e hu
   simp at h;subst h;have:=hx.Rq; subst this;obtain ⟨x,_,rfl⟩:=hy.ig;simp [nY,iu,BP,eqV,hu]
  ·simp at h
 ·simp at h
theorem an8 {op:BinOp} {t:TypeId} {lit:Bool} : y6 P (amp P op t) (tV P op t lit):=by
 intro E vs us w h hg;unfold amp at hg;split at hg
 ·rename_i j a k b
  obtain ⟨x,y,rfl,h1,h2⟩:=h.kf;have:=h1.cg; subst this;have:=h2.cg; subst this;cases hs:af6 op with
  | true=>
   rw [hs,aj] at hg;cases op <;> simp [af6] at hs
   ·obtain ⟨hc,rfl⟩:=aI.jQ hg
    simp only [ma,decide_eq_false_iff_not] at hc;exact ⟨_,by simp [tV,binOp,Op.shift,hc,cr],.mkInt⟩
   ·obtain ⟨hc,rfl⟩:=aI.jQ hg
    simp only [ma,decide_eq_false_iff_not] at hc;exact ⟨_,by simp [tV,binOp,Op.shift,hc,cr],.mkInt⟩
  | false=>
   rw [hs,aH] at hg;obtain ⟨RQ,hz⟩:=hg.cond;clear hg;simp only [l9] at RQ;subst RQ;cases op with
   | shl=>simp [af6] at hs
   | shr=>simp [af6] at hs
   | quo=>
    obtain ⟨hc,rfl⟩:=aI.jQ hz;simp only [ma,decide_eq_false_iff_not] at hc;exact ⟨_,by simp [tV,binOp,Op.intDiv,hc,cr],.mkInt⟩
   | rem=>
    obtain ⟨hc,rfl⟩:=aI.jQ hz;simp only [ma,decide_eq_false_iff_not] at hc;exact ⟨_,by simp [tV,binOp,Op.intDiv,hc,cr],.mkInt⟩
   | add=>have hz:KV.int _ _=w:=hz; subst hz; exact ⟨_,by simp [tV,binOp,Op.intArith,cr],.mkInt⟩
   | sub=>have hz:KV.int _ _=w:=hz; subst hz; exact ⟨_,by simp [tV,binOp,Op.intArith,cr],.mkInt⟩
   | mul=>have hz:KV.int _ _=w:=hz; subst hz; exact ⟨_,by simp [tV,binOp,Op.intArith,cr],.mkInt⟩
   | and=>have hz:KV.int _ _=w:=hz; subst hz; exact ⟨_,by simp [tV,binOp,Op.intBits,cr],.mkInt⟩
   | or=>have hz:KV.int _ _=w:=hz; subst hz; exact ⟨_,by simp [tV,binOp,Op.intBits,cr],.mkInt⟩
   | xor=>have hz:KV.int _ _=w:=hz; subst hz; exact ⟨_,by simp [tV,binOp,Op.intBits,cr],.mkInt⟩
   | andNot=>have hz:KV.int _ _=w:=hz; subst hz; exact ⟨_,by simp [tV,binOp,Op.intBits,cr],.mkInt⟩
   | eql=>have hz:KV.bool _=w:=hz; subst hz; exact ⟨_,by simp [tV,binOp,Op.intCmp,cr],.ub⟩
   | neq=>have hz:KV.bool _=w:=hz; subst hz; exact ⟨_,by simp [tV,binOp,Op.intCmp,cr],.ub⟩
   | lss=>have hz:KV.bool _=w:=hz; subst hz; exact ⟨_,by simp [tV,binOp,Op.intCmp,cr],.ub⟩
   | leq=>have hz:KV.bool _=w:=hz; subst hz; exact ⟨_,by simp [tV,binOp,Op.intCmp,cr],.ub⟩
   | gtr=>have hz:KV.bool _=w:=hz; subst hz; exact ⟨_,by simp [tV,binOp,Op.intCmp,cr],.ub⟩
   | geq=>have hz:KV.bool _=w:=hz; subst hz; exact ⟨_,by simp [tV,binOp,Op.intCmp,cr],.ub⟩
 ·rename_i a b
  obtain ⟨x,y,rfl,h1,h2⟩:=h.kf;have:=h1.vB; subst this;have:=h2.vB; subst this;split at hg
  ·have hg:KV.bool _=w:=hg; subst hg; exact ⟨_,by simp [tV,binOp,Op.stringOp,cr],.ub⟩
  ·have hg:KV.bool _=w:=hg; subst hg; exact ⟨_,by simp [tV,binOp,Op.stringOp,cr],.ub⟩
  ·have hg:KV.bool _=w:=hg; subst hg; exact ⟨_,by simp [tV,binOp,Op.stringOp,cr],.ub⟩
  ·obtain ⟨hc,rfl⟩:=aI.jQ hg
   have hc:=dX hc;have hn : ¬ (((a.size+b.size:Nat):Int) > IntKind.i64.max):=by
    have:IntKind.i64.max=9223372036854775807:=by decide
    rw [this]; omega
   refine ⟨.string (a++b),?_,.mkStr⟩;simp only [tV,binOp,Op.stringOp];rw [aa hn];rfl
  ·exact hg.elim
 ·rename_i T m n es acc
  obtain ⟨u,v,rfl,h1,h2⟩:=h.kf;have key:ajP P t=true->Nat.blt 0 n=true->nY P t lit u v=some false:=by
   intro hs hn;refine aa8 h1 h2 ?_;unfold ajO;unfold ajP at hs;have hb:Nat.beq n 0=false:=by
    cases n with
    | zero=>simp at hn
    | succ n=>rfl
   split at hs
   ·simp only [hb,aH]
   ·simp at hs
  split at hg
  ·obtain ⟨hs,hg⟩:=hg.cond
   obtain ⟨hc,rfl⟩:=aI.jQ hg;refine ⟨.bool false,?_,.ub⟩;have:=key hs hc;unfold tV;split
   ·rename_i e; simp at e; obtain ⟨rfl,rfl⟩:=e; simp [nY,iu] at this
   ·rename_i e; simp at e; obtain ⟨rfl,rfl⟩:=e; simp [nY,iu] at this
   ·rename_i e; simp at e; obtain ⟨rfl,rfl⟩:=e; simp [this]
   ·rename_i e; exact absurd rfl (e _ _)
  ·obtain ⟨hs,hg⟩:=hg.cond
   obtain ⟨hc,rfl⟩:=aI.jQ hg;refine ⟨.bool true,?_,.ub⟩;have:=key hs hc;unfold tV;split
   ·rename_i e; simp at e; obtain ⟨rfl,rfl⟩:=e; simp [nY,iu] at this
   ·rename_i e; simp at e; obtain ⟨rfl,rfl⟩:=e; simp [nY,iu] at this
   ·rename_i e; simp at e; obtain ⟨rfl,rfl⟩:=e; simp [this]
   ·rename_i e; exact absurd rfl (e _ _)
  ·exact hg.elim
 ·rename_i x y hn1 hn2
  obtain ⟨u,v,rfl,h1,h2⟩:=h.kf;split at hg
  ·rename_i b he
   have hg:KV.bool b=w:=hg;subst hg;have:=aa8 (lit:=lit) h1 h2 he;refine ⟨.bool b,?_,.ub⟩;unfold tV;split
   ·rename_i e; simp at e; obtain ⟨rfl,rfl⟩:=e; simp [nY,iu] at this
   ·rename_i e; simp at e; obtain ⟨rfl,rfl⟩:=e; simp [nY,iu] at this
   ·rename_i e; simp at e; obtain ⟨rfl,rfl⟩:=e; simp [this]
   ·rename_i e; exact absurd rfl (e _ _)
  ·rename_i b he
   have hg:KV.bool (!b)=w:=hg;subst hg;have:=aa8 (lit:=lit) h1 h2 he;refine ⟨.bool !b,?_,.ub⟩;unfold tV;split
   ·rename_i e; simp at e; obtain ⟨rfl,rfl⟩:=e; simp [nY,iu] at this
   ·rename_i e; simp at e; obtain ⟨rfl,rfl⟩:=e; simp [nY,iu] at this
   ·rename_i e; simp at e; obtain ⟨rfl,rfl⟩:=e; simp [this]
   ·rename_i e; exact absurd rfl (e _ _)
  ·exact hg.elim
 ·exact hg.elim
theorem apw {op:UnOp} : y6 P (kUn op) (fUn P op):=by
 intro E vs us w h hg;unfold kUn at hg;split at hg
 ·rename_i b
  obtain ⟨y,rfl,h1⟩:=h.ee;have:=h1.eK; subst this;split at hg
  ·have hg:KV.bool (!b)=w:=hg
   subst hg;exact ⟨_,by simp [fUn,Op.unary,cr],.ub⟩
  ·exact hg.elim
 ·rename_i k n
  obtain ⟨y,rfl,h1⟩:=h.ee;have:=h1.cg; subst this;split at hg
  ·have hg:KV.int _ _=w:=hg
   subst hg;exact ⟨.int k (k.wrap (0 - n)),by simp [fUn,Op.unary,Op.intArith,cr],.mkInt⟩
  ·have hg:KV.int _ _=w:=hg
   subst hg;exact ⟨_,by simp [fUn,Op.unary,Op.intBits,cr],.mkInt⟩
  ·exact hg.elim
 ·exact hg.elim
theorem aa9 {mx:Bool} : y6 P (Mp mx) (Ng P fun vs=>cond mx (Builtin.max_ #[] 0 ⟨vs⟩) (Builtin.min_ #[] 0 ⟨vs⟩)):=by
 intro E vs us w h hg;unfold Mp at hg;split at hg
 ·rename_i j a k b
  obtain ⟨x,y,rfl,h1,h2⟩:=h.kf;have:=h1.cg; subst this;have:=h2.cg; subst this;obtain ⟨RQ,hz⟩:=hg.cond;clear hg;simp only [l9] at RQ;subst RQ;have hz:KV.int _ _=w:=hz;subst hz;refine ⟨_,?_,.mkInt⟩;cases mx
  ·simp [Ng,yU,flat,Builtin.min_,Builtin.min2,cr]
   omega
  ·simp [Ng,yU,flat,Builtin.max_,Builtin.max2,cr]
   omega
 ·rename_i j a k b l c
  obtain ⟨x,y,z,rfl,h1,h2,h3⟩:=h.Ty;have:=h1.cg; subst this;have:=h2.cg; subst this;have:=h3.cg; subst this;obtain ⟨RQ,hz⟩:=hg.cond;clear hg;simp only [ao,l9] at RQ;obtain ⟨rfl,rfl⟩:=RQ;have hz:KV.int _ _=w:=hz;subst hz;refine ⟨_,?_,.mkInt⟩;cases mx
  ·show some (Value.int j (if c < (if b < a then b else a) then c else (if b < a then b else a)))=some (Value.int j (min (min a b) c))
   congr 2;split <;> split at * <;> omega
  ·show some (Value.int j (if c > (if b > a then b else a) then c else (if b > a then b else a)))=some (Value.int j (max (max a b) c))
   congr 2;split <;> split at * <;> omega
 ·exact hg.elim
end Go.K
end
section
namespace Go.K
open Go Go.aG
variable {P:Program} {E:Env}
theorem AR.of {E' : Env} {A A' : ae} {x:Nat} (uc:∀ b,E'.α b=E.α b) (ha:∀ b v,A'.get b=some (.arr v)->A.get b=some (.arr v)) (h:AR A' E' x):AR A E x:=by
 obtain ⟨b,v,L,N,h1,h2⟩:=h;exact ⟨b,v,L,N,ha _ _ h1,by rw [<- uc]; exact h2⟩
theorem AF.of {E' : Env} {A A' : ae} {B B' : St} {g:Nat} (uc:∀ b,E'.α b=E.α b) (ha:∀ b v,A'.get b=some (.arr v)->A.get b=some (.arr v)) (hB:∀ x,AR A E x->B'.get x=B.get x) (h:AF A' E' B' g):AF A E B g:=by
 obtain ⟨b,v,x,L,N,cs,e,own,k,h1,h2,h3⟩:=h;have Ln:E.α b=some (x,L,N):=by rw [<- uc]; exact h2
 exact ⟨b,v,x,L,N,cs,e,own,k,ha _ _ h1,Ln,by rw [<- hB x ⟨b,v,L,N,ha _ _ h1,Ln⟩]; exact h3⟩
theorem AT.of {E' : Env} {A A' : ae} {B B' : St} {y:Nat} (uc:∀ b,E'.α b=E.α b) (ha:∀ b v,A'.get b=some (.arr v)->A.get b=some (.arr v)) (hB:∀ x,AR A E x->B'.get x=B.get x) (hm:∀ g,AF A E B g->B'.members g=B.members g) (h:AT A' E' B' y):AT A E B y:=by
 rcases h with h | ⟨g,h1,h2⟩
 ·exact .inl (h.of uc ha)
 ·have:=h1.of uc ha hB
  exact .inr ⟨g,this,by rw [<- hm g this]; exact h2⟩
theorem mv {B B' : St} (h:∀ x,x < B.next->B'.get x=B.get x):∀ y,y < B.next->∀ cs e own bN,B'.get y=some (.row cs e own bN)->∃ mg,B.get y=some (.row mg e own bN)/\mg.length=cs.length:=
 fun y hy cs _ _ _ q=>⟨cs,by rw [<- h y hy]; exact q,rfl⟩
theorem aba {B:St} {o:ct} : ∀ x,x < B.next->(B.new o).get x=B.get x:=fun x hx=>by rw [St.cp,aa (by omega)]
theorem NB.dR {E' : Env} {A A' : ae} {B B' : St} (h:NB P E A B) (hle:E.le E') (uc:∀ b,E'.α b=E.α b) (ha:∀ b v,A'.get b=some (.arr v)->A.get b=some (.arr v)) (hf:∀ b v,A'.get b=some (.iG v)->A.get b=some (.iG v))
  (hn:A.next<=A'.next) (Lw:B.next<=B'.next) (hB:∀ x,AR A E x->B'.get x=B.get x) (hz:∀ b r,E'.z b=some r->E.z b=some r\/B.next<=b) (Kj:∀ b x,E'.κ b=some x->E.κ b=some x\/(A.next<=b/\B.next<=x))
  (Kk:∀ b g,E'.φ b=some g->(∃ c,E.φ c=some g)\/B.next<=g) (hm:∀ g,AF A E B g->B'.members g=B.members g) (mem:∀ g x,x∈B.members g->x < B.next):NB P E' A' B' where
 arr b v hb:=(h.arr b v (ha _ _ hb)).mono hle (uc b) fun x L N e=>hB x ⟨b,v,L,N,ha _ _ hb,e⟩
 iG b v hb:=(h.iG b v (hf _ _ hb)).mono hle (uc b)
 z x hx:=by
  have hx':=AR.of uc ha hx;obtain ⟨b,v,L,N,h1,h2⟩:=hx';have bm:=h.eV _ _ _ _ h2;obtain ⟨h3,h4⟩:=h.z x (AR.of uc ha hx);refine ⟨?_,fun c e=>?_⟩
  ·cases hz' : E'.z x with
   | none=>rfl
   | some r=>
    rcases hz x r hz' with e | e
    ·rw [h3] at e; simp at e
    ·omega
  ·rcases Kj c x e with e | ⟨_,e⟩
   ·exact h4 c e
   ·omega
 inj b c v u x L N L' N' h1 h2 h3 h4:=h.inj b c v u x L N L' N' (ha _ _ h1) (ha _ _ h2) (by rw [<- uc]; exact h3) (by rw [<- uc]; exact h4)
 xz b c v u x y L N L' N' cs e own g k bP e' rC k' h1 h2 h3 h4 h5 h6:=by
  rw [uc] at h3 h4;rw [hB x ⟨b,v,L,N,ha _ _ h1,h3⟩] at h5;rw [hB y ⟨c,u,L',N',ha _ _ h2,h4⟩] at h6;exact h.xz b c v u x y L N L' N' cs e own g k bP e' rC k' (ha _ _ h1) (ha _ _ h2) h3 h4 h5 h6
 dis b x e:=by
  rw [uc];rcases Kj b x e with e | ⟨e,_⟩
  ·exact h.dis b x e
  ·cases hb:E.α b with
   | none=>rfl
   | some p=>have:=h.jP b p hb; omega
 nk b v hb:=by
  obtain ⟨h1,h2⟩:=h.nk b v (ha _ _ hb);refine ⟨fa h1 hn,?_⟩;cases e:E'.κ b with
  | none=>rfl
  | some x=>
   rcases Kj b x e with e | ⟨e,_⟩
   ·rw [h2] at e; simp at e
   ·omega
 jP b p e:=by rw [uc] at e; have:=h.jP b p e; omega
 eV b x L N e:=by rw [uc] at e; have:=h.eV b x L N e; omega
 vD b v x L N cs e own g k h1 h2 h3:=by
  rw [uc] at h2;have hA:=ha _ _ h1;rw [hB x ⟨b,v,L,N,hA,h2⟩] at h3;obtain ⟨h4,h5,h6⟩:=h.vD b v x L N cs e own g k hA h2 h3;refine ⟨by omega,fun f e=>?_,fun y hy cD=>?_⟩
  ·rcases Kk f g e with ⟨c,e⟩ | e
   ·exact h5 c e
   ·omega
  ·rw [hm g ⟨b,v,x,L,N,cs,_,own,k,hA,h2,h3⟩] at hy
   have bm:=mem g y hy;obtain ⟨h7,h8,h9⟩:=h6 y hy cD;refine ⟨?_,fun q=>h8 (AR.of uc ha q),fun c e=>?_⟩
   ·cases hz' : E'.z y with
    | none=>rfl
    | some r=>
     rcases hz y r hz' with e | e
     ·rw [h7] at e; simp at e
     ·omega
   ·rcases Kj c y e with e | ⟨_,e⟩
    ·exact h9 c e
    ·omega
theorem dr.I5 {A:ae} {B:St} (h:dr P E A B) {x:Nat} (q:AR A E x):x < B.next:=by
 obtain ⟨b,v,L,N,_,h2⟩:=q;exact h.ar.eV _ _ _ _ h2
structure cN (P:Program) (E:Env) (A:ae) (B:St) (E' : Env) (A' : ae) (B' : St):Prop where
 fY:dr P E' A' B'
 le:E.le E'
 next:A.next<=A'.next
 dR:∀ x,x < B.next->(∀ b,E.κ b=some x->A.get b=some wH)->¬ AT A E B x->B'.get x=B.get x
 new:∀ b x,E'.κ b=some x->E.κ b=some x\/A.next<=b/\B.next<=x
 ud:∀ b r,E'.z b=some r->E.z b=some r\/AR A E b\/B.next<=b
 su:∀ b g,E'.φ b=some g->E.φ b=some g\/B.next<=g
 o5:∀ g,g < B.next->(∀ b,E.φ b≠some g)->¬ AF A E B g->B'.members g=B.members g
 kA:∀ x,AR A' E' x->AR A E x\/B.next<=x
 kS:∀ g,AF A' E' B' g->AF A E B g\/B.next<=g
 vE:∀ g y,y∈B'.members g->y∈B.members g\/B.next<=y
 mh:∀ y,AT A' E' B' y->AT A E B y\/B.next<=y
 rows:∀ y,y < B.next->∀ cs e own bN,B'.get y=some (.row cs e own bN)->∃ mg,B.get y=some (.row mg e own bN)/\mg.length=cs.length
 Dq:∀ b,A.get b=some wH->A'.get b=some wH
theorem cN.ev {base:Nat} {E' : Env} {A A' : ae} {B B' : St} {ρ aF:Ren} {w w' : World} (h:cN P E A B E' A' B') (g:jb base ρ B w aF B' w'):Ev P base E A B ρ w E' A' B' aF w':=
 ⟨h.fY,g,h.le,h.next,h.dR,h.new,h.ud,fun b g e=>(h.su b g e).imp (fun e=>⟨b,e⟩) id,h.o5,h.kA,h.kS,h.vE,h.mh,h.rows,h.Dq⟩
theorem o6 {A:ae} {c:Nat} {o o1:hO} (hc:A.get c=some o) (ho:o≠wH):∀ b,A.get b=some wH->(A.put c o1).get b=some wH:=fun b hb=>by
 rw [ae.bA];split
 ·rename_i e
  rw [e,hc] at hb;simp only [bQ] at hb;exact absurd hb ho
 ·exact hb
theorem dr.abb {A:ae} {B:St} {o1:hO} (h:dr P E A B):∀ b,A.get b=some wH->(A.new o1).get b=some wH:=fun b hb=>by
 rw [ae.cp,aa]
 ·exact hb
 ·intro e
  have:=h.live b _ hb;omega
def I6 (P:Program) (o:Oper):ss->Prop
 | .pure f xs=>∀ (E:Env) (ρ:Ren) (ev:Operand->KV) (cF:Operand->Value) (v:KV),(∀ x∈xs,VC P E ρ (ev x) (cF x))->aI (f (xs.map ev)) v->∃ v',VC P E ρ v v'/\∀ w,(execOp cF o).run P w = .ok (.value v') w
 | .read f xs=>∀ (E:Env) (A:ae) (B:St) (ρ:Ren) (base:Nat) (w:World) (ev:Operand->KV) (cF:Operand->Value) (v:KV),KJ P E A B ρ base w->(∀ x∈xs,VC P E ρ (ev x) (cF x))->aI (f A (xs.map ev)) v->
   ∃ v',VC P E ρ v v'/\(execOp cF o).run P w = .ok (.value v') w
 | .look f xs=>∀ (E:Env) (A:ae) (B:St) (ρ:Ren) (base:Nat) (w:World) (ev:Operand->KV) (cF:Operand->Value) (v:KV),KJ P E A B ρ base w->(∀ x∈xs,VC P E ρ (ev x) (cF x))->aI (f (xs.map ev)) v->
   ∃ E' B' aF v' nx w',(execOp cF o).run P w = .ok nx w'/\aid v' nx/\VC P E' aF v v'/\Ev P base E A B ρ w E' A B' aF w'
 | .act f xs=>∀ (E:Env) (A A' : ae) (B:St) (ρ:Ren) (base:Nat) (w:World) (ev:Operand->KV) (cF:Operand->Value) (v:KV),KJ P E A B ρ base w->(∀ x∈xs,VC P E ρ (ev x) (cF x))->aI (f A (xs.map ev)) (v,A')->
   ∃ E' B' aF v' nx w',(execOp cF o).run P w = .ok nx w'/\aid v' nx/\VC P E' aF v v'/\Ev P base E A B ρ w E' A' B' aF w'
 | _=>True
theorem mid {ρ:Ren} {ev:Operand->KV} {cF:Operand->Value} {xs:List Operand} (h:∀ x∈xs,VC P E ρ (ev x) (cF x)) :
  ∃ em:Operand->Value,aV P E (xs.map ev) (xs.map em)/\AB ρ em cF xs:=by
 classical
 refine ⟨fun x=>if hx:VC P E ρ (ev x) (cF x) then hx.choose else undef,?_,?_⟩
 ·induction xs with
  | nil=>exact .nil
  | cons x xs ih=>
   refine .cons ?_ (ih fun y hy=>h y (by simp [hy]));have hx:=h x (by simp);simp only [dif_pos hx];exact hx.choose_spec.1
 ·intro x hx
  have hx:=h x hx;simp only [dif_pos hx];exact hx.choose_spec.2
theorem lift_pure {o:Oper} {f:FP} {g:List Value->Option Value} {xs:List Operand} (hc:compile P o.op = .pure g xs) (hs:y6 P f g):I6 P o (.pure f xs):=by
 intro E ρ ev cF v hv hg;obtain ⟨em,h1,h2⟩:=mid hv;obtain ⟨u,h3,h4⟩:=hs E _ _ v h1 hg;have cI:=rB P o;rw [hc] at cI;obtain ⟨v',h5,h6⟩:=cI ρ em cF u h2 h3;exact ⟨v',⟨u,h4,h5⟩,h6⟩
def agm (P:Program) (f:FR) (g:St->List Value->Option Value):Prop:=
 ∀ (E:Env) (A:ae) (B:St) (vs:List KV) (us:List Value) (v:KV),dr P E A B->aV P E vs us->aI (f A vs) v->∃ u,g B us=some u/\VK P E v u
theorem ND {o:Oper} {f:FR} {g:St->List Value->Option Value} {xs:List Operand} (hc:compile P o.op = .read g xs) (hs:agm P f g):I6 P o (.read f xs):=by
 intro E A B ρ base w ev cF v hj hv hg;obtain ⟨em,h1,h2⟩:=mid hv;obtain ⟨u,h3,h4⟩:=hs E A B _ _ v hj.k h1 hg;have cI:=rB P o;rw [hc] at cI;obtain ⟨v',h5,h6⟩:=cI ρ B base w em cF u hj.s.rel h2 h3;exact ⟨v',⟨u,h4,h5⟩,h6⟩
def aj0 (P:Program) (f:FA) (g:St->List Value->Option (Value×St)):Prop:=
 ∀ (E:Env) (A A' : ae) (B:St) (vs:List KV) (us:List Value) (v:KV),dr P E A B->aV P E vs us->aI (f A vs) (v,A')->∃ u B' E',g B us=some (u,B')/\VK P E' v u/\cN P E A B E' A' B'
theorem Xs {o:Oper} {f:FA} {g:St->List Value->Option (Value×St)} {xs:List Operand} (hc:compile P o.op = .act g xs) (hs:aj0 P f g):I6 P o (.act f xs):=by
 intro E A A' B ρ base w ev cF v hj hv hg;obtain ⟨em,h1,h2⟩:=mid hv;obtain ⟨u,B',E',h3,h4,h5⟩:=hs E A A' B _ _ v hj.k h1 hg;have cI:=rB P o;rw [hc] at cI;obtain ⟨aF,v',nx,w',h6,h7,h8,h9⟩:=cI ρ B B' base w em cF u hj.s h2 h3;exact ⟨E',B',aF,v',nx,w',h6,h7,⟨u,h4,h8⟩,h5.ev h9⟩
def aoM (P:Program) (f:FP) (g:St->List Value->Option (Value×St)):Prop:=
 ∀ (E:Env) (A:ae) (B:St) (vs:List KV) (us:List Value) (v:KV),dr P E A B->aV P E vs us->aI (f vs) v->∃ u B' E',g B us=some (u,B')/\VK P E' v u/\cN P E A B E' A B'
theorem ait {o:Oper} {f:FP} {g:St->List Value->Option (Value×St)} {xs:List Operand} (hc:compile P o.op = .act g xs) (hs:aoM P f g):I6 P o (.look f xs):=by
 intro E A B ρ base w ev cF v hj hv hg;obtain ⟨em,h1,h2⟩:=mid hv;obtain ⟨u,B',E',h3,h4,h5⟩:=hs E A B _ _ v hj.k h1 hg;have cI:=rB P o;rw [hc] at cI;obtain ⟨aF,v',nx,w',h6,h7,h8,h9⟩:=cI ρ B B' base w em cF u hj.s h2 h3;exact ⟨E',B',aF,v',nx,w',h6,h7,⟨u,h4,h8⟩,h5.ev h9⟩
theorem Xt {o:Oper} {g:List Value->Option (ct×(Nat->Value))} {xs:List Operand} (hc:compile P o.op = .make g xs) {ρ:Ren} {B:St} {base:Nat} {w:World} {em cF:Operand->Value} {obj:ct} {mk:Nat->Value} (hs:vu ρ B base w)
  (h2:AB ρ em cF xs) (h3:g (xs.map em)=some (obj,mk)):∃ aF v' w',(execOp cF o).run P w = .ok (.value v') w'/\VR aF (mk B.next) v'/\jb base ρ B w aF (B.new obj) w':=by
 have cI:=rB P o;rw [hc] at cI;obtain ⟨c,mk',h4,h5,h6⟩:=cI ρ em cF obj mk h2 h3;exact ⟨_,_,_,h5 w,h6 _ _ _ (Ren.fL _ _ _),h4.eJ hs⟩
def abc (P:Program) (f:FA) (g:List Value->Option (ct×(Nat->Value))):Prop:=
 ∀ (E:Env) (A A' : ae) (B:St) (vs:List KV) (us:List Value) (v:KV),dr P E A B->aV P E vs us->aI (f A vs) (v,A')->∃ obj mk E',g us=some (obj,mk)/\VK P E' v (mk B.next)/\cN P E A B E' A' (B.new obj)
theorem ER {o:Oper} {f:FA} {g:List Value->Option (ct×(Nat->Value))} {xs:List Operand} (hc:compile P o.op = .make g xs) (hs:abc P f g):I6 P o (.act f xs):=by
 intro E A A' B ρ base w ev cF v hj hv hg;obtain ⟨em,h1,h2⟩:=mid hv;obtain ⟨obj,mk,E',h3,h4,h5⟩:=hs E A A' B _ _ v hj.k h1 hg;obtain ⟨aF,v',w',h6,h7,h8⟩:=Xt hc hj.s h2 h3;exact ⟨E',B.new obj,aF,v',_,w',h6,rfl,⟨_,h4,h7⟩,h5.ev h8⟩
def amu (P:Program) (f:FP) (g:List Value->Option (ct×(Nat->Value))):Prop:=
 ∀ (E:Env) (A:ae) (B:St) (vs:List KV) (us:List Value) (v:KV),dr P E A B->aV P E vs us->aI (f vs) v->∃ obj mk E',g us=some (obj,mk)/\VK P E' v (mk B.next)/\cN P E A B E' A (B.new obj)
theorem adL {o:Oper} {f:FP} {g:List Value->Option (ct×(Nat->Value))} {xs:List Operand} (hc:compile P o.op = .make g xs) (hs:amu P f g):I6 P o (.look f xs):=by
 intro E A B ρ base w ev cF v hj hv hg;obtain ⟨em,h1,h2⟩:=mid hv;obtain ⟨obj,mk,E',h3,h4,h5⟩:=hs E A B _ _ v hj.k h1 hg;obtain ⟨aF,v',w',h6,h7,h8⟩:=Xt hc hj.s h2 h3;exact ⟨E',B.new obj,aF,v',_,w',h6,rfl,⟨_,h4,h7⟩,h5.ev h8⟩
def Env.lP (E:Env) (b x:Nat):Env:={ E with κ:=fun c=>if c=b then some x else E.κ c }
def Env.eM (E:Env) (b:Nat) (r:agd):Env:={ E with z:=fun c=>if c=b then some r else E.z c }
def Env.vF (E:Env) (b g:Nat):Env:={ E with φ:=fun c=>if c=b then some g else E.φ c }
theorem cN.newRow {A:ae} {B:St} {cs:List KV} {bP:List Value} {bp:Nat} (h:dr P E A B) (hv:aV P E cs bP):cN P E A B (E.lP A.next B.next) (A.new (.row cs bp)) (B.new (.row bP bp true none)):=by
 have hle:E.le (E.lP A.next B.next):=⟨fun _ _ e=>e,fun b x e=>by
  have:=h.jP b x e;simp only [Env.lP]; rw [aa (by omega)]; exact e,fun _ _ e=>e,fun _ _ e=>e⟩
 have hA:∀ (b:Nat) (v:KV),(A.new (.row cs bp)).get b=some (.arr v)->A.get b=some (.arr v):=fun b v hb=>by
  rw [ae.cp] at hb;split at hb
  ·simp at hb
  ·exact hb
 have Xu:∀ (b:Nat) (v:KV),(A.new (.row cs bp)).get b=some (.iG v)->A.get b=some (.iG v):=fun b v hb=>by
  rw [ae.cp] at hb;split at hb
  ·simp at hb
  ·exact hb
 have Cj:∀ x,AR A E x->(B.new (.row bP bp true none)).get x=B.get x:=fun x q=>by have:=h.I5 q; rw [St.cp,aa (by omega)]
 refine ⟨⟨?_,?_,?_,?_,?_,?_,?_,?_,?_,?_,?_,?_,?_,?_,h.ar.dR hle (fun _=>rfl) hA Xu (by simp) (by simp) Cj (fun _ _ e=>.inl e) (fun b x e=>?_) (fun b g e=>.inl ⟨b,e⟩) (fun _ _=>by simp) h.mem⟩,hle,by simp,?_,?_,fun _ _ e=>.inl e,fun _ _ e=>.inl e,fun _ _ _ _=>by simp,fun _ q=>.inl (q.of (fun _=>rfl) hA),fun _ q=>.inl (q.of (fun _=>rfl) hA Cj),fun _ _ q=>.inl (by simpa using q),fun _ q=>.inl (q.of (fun _=>rfl) hA Cj fun _ _=>by simp),mv aba,h.abb⟩
 ·intro b mg PU hb
  rw [ae.cp] at hb;split at hb
  ·rename_i e
   simp at hb;obtain ⟨rfl,rfl⟩:=hb;exact ⟨B.next,bP,by simp [Env.lP,e],by simp,hv.mono hle⟩
  ·obtain ⟨x,c,h1,h2,h3⟩:=h.row b mg PU hb
   have:=h.eV b x h1;exact ⟨x,c,hle.κ _ _ h1,by rw [St.cp,aa (by omega)]; exact h2,h3.mono hle⟩
 ·intro b top GC hb
  rw [ae.cp] at hb;split at hb
  ·simp at hb
  ·rcases h.aP b top GC hb with h1 | ⟨g,h1,hp0,h2⟩
   ·exact .inl h1
   ·refine .inr ⟨g,h1,hp0,fun x hx c e own f k hg=>?_⟩
    rw [St.cp] at hg;split at hg
    ·simp at hg
    ·exact h2 x (by simpa using hx) c e own f k hg
 ·intro b r hb
  have:=h.lJ b r hb;rw [St.cp,aa (by omega)];exact h.z b r hb
 ·intro b x hb
  simp only [Env.lP] at hb ⊢;split at hb
  ·simp at hb
   subst hb;cases hz:E.z B.next with
   | none=>rfl
   | some r=>have:=h.lJ _ r hz; omega
  ·exact h.apart b x hb
 ·intro b c x hb hc
  simp only [Env.lP] at hb hc;split at hb <;> split at hc
  ·omega
  ·simp at hb; subst hb; have:=h.eV c _ hc; omega
  ·simp at hc; subst hc; have:=h.eV b _ hb; omega
  ·exact h.inj b c x hb hc
 ·exact HY.new (E:=E.lP A.next B.next) (fun x y g a b c d e f hx hy=>h.gK x y g a b c d e f hx hy) (.inl fun _ _=>by simp)
 ·intro b x hb
  simp only [Env.lP] at hb;rw [ae.bX];split at hb
  ·omega
  ·have:=h.jP b x hb; omega
 ·intro b g hb; have:=h.kR b g hb; rw [ae.bX]; omega
 ·intro b o hb
  rw [ae.cp] at hb;rw [ae.bX];split at hb
  ·omega
  ·have:=h.live b o hb; omega
 ·intro b x hb
  simp only [Env.lP] at hb;rw [St.bX];split at hb
  ·simp at hb; omega
  ·have:=h.eV b x hb; omega
 ·intro b r hb; have:=h.lJ b r hb; rw [St.bX]; omega
 ·intro b g hb; have:=h.iv b g hb; rw [St.bX]; omega
 ·intro g hg; rw [St.bX] at hg; rw [St.jq]; exact h.fresh g (by omega)
 ·intro g x hx; rw [St.jq] at hx; rw [St.bX]; have:=h.mem g x hx; omega
 ·simp only [Env.lP] at e
  split at e
  ·simp at e; exact .inr (by omega)
  ·exact .inl e
 ·intro x hx _ _; rw [St.cp,aa (by omega)]
 ·intro b x hb
  simp only [Env.lP] at hb;split at hb
  ·simp at hb; exact .inr (by omega)
  ·exact .inl hb
theorem cN.abd {A:ae} {B:St} {bP:List Value} {bp:Nat} (h:dr P E A B):cN P E A B (E.eM B.next ⟨bP,bp,true,none⟩) A (B.new (.row bP bp true none)):=by
 have hle:E.le (E.eM B.next ⟨bP,bp,true,none⟩):=⟨fun _ _ e=>e,fun _ _ e=>e,fun b r e=>by
  have:=h.lJ b r e;simp only [Env.eM]; rw [aa (by omega)]; exact e,fun _ _ e=>e⟩
 have Cj:∀ x,AR A E x->(B.new (.row bP bp true none)).get x=B.get x:=fun x q=>by have:=h.I5 q; rw [St.cp,aa (by omega)]
 have PV:∀ b r,(E.eM B.next ⟨bP,bp,true,none⟩).z b=some r->E.z b=some r\/B.next<=b:=fun b r e=>by
  simp only [Env.eM] at e;split at e
  ·exact .inr (by omega)
  ·exact .inl e
 refine ⟨⟨?_,?_,?_,?_,?_,?_,?_,?_,?_,?_,?_,?_,?_,?_,h.ar.dR hle (fun _=>rfl) (fun _ _ e=>e) (fun _ _ e=>e) (aC _) (by simp) Cj PV (fun _ _ e=>.inl e) (fun b g e=>.inl ⟨b,e⟩) (fun _ _=>by simp) h.mem⟩,hle,aC _,?_,?_,fun b r e=>(PV b r e).imp id .inr,fun _ _ e=>.inl e,fun _ _ _ _=>by simp,fun _ q=>.inl q,fun _ q=>.inl (q.of (fun _=>rfl) (fun _ _ e=>e) Cj),fun _ _ q=>.inl (by simpa using q),fun _ q=>.inl (q.of (fun _=>rfl) (fun _ _ e=>e) Cj fun _ _=>by simp),mv aba,fun _ e=>e⟩
 ·intro b mg PU hb
  obtain ⟨x,c,h1,h2,h3⟩:=h.row b mg PU hb;have:=h.eV b x h1;exact ⟨x,c,hle.κ _ _ h1,by rw [St.cp,aa (by omega)]; exact h2,h3.mono hle⟩
 ·intro b top GC hb
  rcases h.aP b top GC hb with h1 | ⟨g,h1,hp0,h2⟩
  ·exact .inl h1
  ·refine .inr ⟨g,h1,hp0,fun x hx c e own f k hg=>?_⟩
   rw [St.cp] at hg;split at hg
   ·simp at hg
   ·exact h2 x (by simpa using hx) c e own f k hg
 ·intro b r hb
  simp only [Env.eM] at hb;split at hb
  ·rename_i e
   simp at hb;subst hb e;simp
  ·have:=h.lJ b r hb
   rw [St.cp,aa (by omega)];exact h.z b r hb
 ·intro b x hb
  have:=h.eV b x hb;simp only [Env.eM];rw [aa (by omega)];exact h.apart b x hb
 ·exact h.inj
 ·exact h.gK
 ·exact h.jP
 ·exact h.kR
 ·exact h.live
 ·intro b x hb; have:=h.eV b x hb; rw [St.bX]; omega
 ·intro b r hb
  simp only [Env.eM] at hb;rw [St.bX];split at hb
  ·omega
  ·have:=h.lJ b r hb; omega
 ·intro b g hb; have:=h.iv b g hb; rw [St.bX]; omega
 ·intro g hg; rw [St.bX] at hg; rw [St.jq]; exact h.fresh g (by omega)
 ·intro g x hx; rw [St.jq] at hx; rw [St.bX]; have:=h.mem g x hx; omega
 ·intro x hx _ _; rw [St.cp,aa (by omega)]
 ·intro b x hb; exact .inl hb
theorem cN.putRow {A:ae} {B:St} {b x bp:Nat} {cs:List KV} {bP:List Value} (h:dr P E A B) (hb:∃ mg e,A.get b=some (.row mg e)) (hx:E.κ b=some x) (hold:∃ mg,B.get x=some (.row mg bp true none)/\mg.length=bP.length) (hv:aV P E cs bP):cN P E A B E (A.put b (.row cs bp)) (B.put x (.row bP bp true none)):=by
 have hA:∀ (c:Nat) (v:KV),(A.put b (.row cs bp)).get c=some (.arr v)->A.get c=some (.arr v):=fun c v hb=>by
  rw [ae.bA] at hb;split at hb
  ·simp at hb
  ·exact hb
 have Xu:∀ (c:Nat) (v:KV),(A.put b (.row cs bp)).get c=some (.iG v)->A.get c=some (.iG v):=fun c v hb=>by
  rw [ae.bA] at hb;split at hb
  ·simp at hb
  ·exact hb
 have Cj:∀ y,AR A E y->(B.put x (.row bP bp true none)).get y=B.get y:=fun y q=>by
  rw [St.bA,aa];intro e;subst e;exact (h.ar.z _ q).2 b hx
 refine ⟨⟨?_,?_,?_,h.apart,h.inj,h.gK.put (.inl fun _ _=>by simp),h.jP,h.kR,?_,h.eV,h.lJ,h.iv,?_,?_,h.ar.dR (Env.le_refl _) (fun _=>rfl) hA Xu (aC _) (aC _) Cj (fun _ _ e=>.inl e) (fun _ _ e=>.inl e) (fun b g e=>.inl ⟨b,e⟩) (fun _ _=>by simp) h.mem⟩,Env.le_refl _,aC _,?_,fun _ _ e=>.inl e,fun _ _ e=>.inl e,fun _ _ e=>.inl e,fun _ _ _ _=>by simp,fun _ q=>.inl (q.of (fun _=>rfl) hA),fun _ q=>.inl (q.of (fun _=>rfl) hA Cj),fun _ _ q=>.inl (by simpa using q),fun _ q=>.inl (q.of (fun _=>rfl) hA Cj fun _ _=>by simp),fun y _ c e own bN q=>by
  rw [St.bA] at q;split at q
  ·rename_i e2
   simp at q;obtain ⟨rfl,rfl,rfl,rfl⟩:=q;obtain ⟨c0,h1,h2⟩:=hold;exact ⟨c0,by rw [e2]; exact h1,h2⟩
  ·exact ⟨c,q,rfl⟩,by
  obtain ⟨mg,e0,hb⟩:=hb;exact o6 hb (by simp)⟩
 ·intro c mg PU hc
  rw [ae.bA] at hc;split at hc
  ·rename_i e
   simp at hc;obtain ⟨rfl,rfl⟩:=hc;exact ⟨x,bP,by rw [e]; exact hx,by simp,hv⟩
  ·rename_i cD
   obtain ⟨y,d,h1,h2,h3⟩:=h.row c mg PU hc;refine ⟨y,d,h1,?_,h3⟩;rw [St.bA,aa (fun e=>cD (h.inj c b x (by rw [<- e]; exact h1) hx))];exact h2
 ·intro c top GC hc
  rw [ae.bA] at hc;split at hc
  ·simp at hc
  ·rcases h.aP c top GC hc with h1 | ⟨g,h1,hp0,h2⟩
   ·exact .inl h1
   ·refine .inr ⟨g,h1,hp0,fun y hy d e own f k hg=>?_⟩
    rw [St.bA] at hg;split at hg
    ·simp at hg
    ·exact h2 y (by simpa using hy) d e own f k hg
 ·intro c r hc
  rw [St.bA,aa]
  ·exact h.z c r hc
  ·intro e
   have:=h.apart b x hx;rw [<- e,hc] at this;simp at this
 ·intro c o hc
  rw [ae.bA] at hc;rw [ae.sF];split at hc
  ·rename_i e
   obtain ⟨mg,e0,hb⟩:=hb;rw [e]; exact h.live b _ hb
  ·exact h.live c o hc
 ·intro g hg; rw [St.wK]; exact h.fresh g hg
 ·intro g y hy; rw [St.wK] at hy; exact h.mem g y hy
 ·intro y hy hn _
  rw [St.bA,aa (fun e=>by
   obtain ⟨mg,e0,hb⟩:=hb;have:=hn b (by rw [e]; exact hx);rw [hb] at this;simp at this)]
theorem an9 {n:Nat} : abc P (Et n) (afT n):=by
 intro E A A' B vs us v h hv hg;unfold Et at hg;split at hg
 ·rename_i x
  obtain ⟨y,rfl,h1⟩:=hv.ee;obtain ⟨ho,hg⟩:=hg.cond;have hg:(KV.ptr A.next 0,A.new (.row x.cells n))=(v,A'):=hg;simp only [dt] at hg;obtain ⟨rfl,rfl⟩:=hg;have hc:=h1.cells (Bl ho);have Kl:y.cells.toList.all scalar=true:=fk.2 (hc.scalar ho);exact ⟨HP n y,IK,E.lP A.next B.next,by simp [afT,Kl],.Cg (by simp [Env.lP]),cN.newRow h hc⟩
 ·exact hg.elim
theorem alf {t:TypeId} {z:Value} (hz:yp P t=some z) (hf:flat z=true) (Kl:z.cells.toList.all scalar=true) (ho:gJ (fE z).cells=true):abc P (YJ (oY P t) (fE z).cells) (Nc P t):=by
 intro E A A' B vs us v h hv hg;have hg:(KV.ptr A.next 0,A.new (.row (fE z).cells (oY P t)))=(v,A'):=hg;simp only [dt] at hg;obtain ⟨rfl,rfl⟩:=hg;exact ⟨HP (oY P t) z,IK,E.lP A.next B.next,by simp only [Nc,hz,dQ,hf,Kl,cz,aj],.Cg (by simp [Env.lP]),cN.newRow h (EO ho)⟩
theorem PW {cs:List KV} {l:List Value} (h:aV P E cs l):∀ n,aV P E (di cs n) (fD l n)
 | 0=>.nil
 | n+1=>aV.append h (PW h n)
theorem ac9 {n b:Nat} {z:Value} (ho:gJ (fE z).cells=true):abc P (PI n b (fE z).cells) (FX n b z):=by
 intro E A A' B vs us v h hv hg;unfold PI at hg;split at hg
 ·rename_i k l k' c
  obtain ⟨x,y,rfl,h1,h2⟩:=hv.kf;have:=h1.cg; subst this;have:=h2.cg; subst this;obtain ⟨hc,hg⟩:=aI.jQ hg;simp only [dt] at hg;obtain ⟨rfl,rfl⟩:=hg;simp only [ao,l9] at hc;obtain ⟨⟨h3,h4⟩,h5⟩:=hc;obtain ⟨l',rfl⟩:=Int.eq_ofNat_of_zero_le h3;obtain ⟨c',rfl⟩:=Int.eq_ofNat_of_zero_le (Int.le_trans h3 h4);have h6:Nat.ble l' c' = true:=Nat.ble_eq_true_of_le (by omega);refine ⟨.row (fD z.cells.toList c') n true none,fun k=>.slice (some ⟨k,0,none⟩) l' c',E.lP A.next B.next,?_,.ajY (by simp [Env.lP]),cN.newRow h (PW (EO ho) c')⟩;have h5:Nat.ble (b * c') 281474976710656=true:=h5;show cond (Nat.ble l' c'&&Nat.ble (b * c') 281474976710656) _ _=_;rw [h6,h5];rfl
 ·exact hg.elim
theorem dr.rowAt {A:ae} {B:St} (h:dr P E A B) {b x:Nat} {cs:List KV} (hr:rowAt A b=some cs) (hx:E.κ b=some x):∃ bP bp,B.get x=some (.row bP bp true none)/\aV P E cs bP:=by
 unfold K.rowAt at hr;split at hr
 ·rename_i c e hg
  simp at hr;subst hr;obtain ⟨y,d,h1,h2,h3⟩:=h.row _ _ _ hg;rw [hx] at h1;simp at h1;subst h1;exact ⟨d,_,h2,h3⟩
 ·simp at hr
theorem PX (e:KV):∀ (cs:List CK) (k:Nat),(leaves e cs k).length=cs.length
 | [],_=>rfl
 | c::cs,k=>by simp [leaves,PX e cs]
theorem aeW {c:CK} {v:KV} (h:kindOk c v=true):leaf c v=v:=by
 cases c with
 | int k=>cases v <;> simp [kindOk] at h; subst h; rfl
 | bool=>cases v <;> simp [kindOk] at h; rfl
 | str=>cases v <;> simp [kindOk] at h; rfl
 | slice t=>
  cases v <;> simp [kindOk] at h;rename_i T m n es acc;cases m <;> simp at h;subst h;rfl
 | other=>cases v <;> simp [kindOk] at h
theorem Ds:∀ {ks:List CK} {cs:List KV} {i:Nat} {c:CK},aE ks cs=true->ks[i]? = some c->∃ v,cs[i]? = some v/\kindOk c v=true
 | [],_,i,c,_,h=>by simp at h
 | _::_,[],_,_,h,_=>by simp [aE] at h
 | k::ks,v::cs,0,c,h,e=>by
  simp only [aE,ao] at h;simp at e;subst e;exact ⟨v,rfl,h.1⟩
 | k::ks,v::cs,i+1,c,h,e=>by
  simp only [aE,ao] at h;obtain ⟨u,h1,h2⟩:=Ds (i:=i) h.2 (by simpa using e);exact ⟨u,by simpa using h1,h2⟩
theorem gL:∀ {l:Lay} {es:List KV} {i:Nat} {e:KV},dJ l es=true->es[i]? = some e->cv l e=true
 | l,[],i,e,_,h=>by simp at h
 | l,x::es,0,e,h,he=>by
  simp only [dJ,ao] at h;simp at he;subst he;exact h.1
 | l,x::es,i+1,e,h,he=>by
  simp only [dJ,ao] at h;exact gL h.2 (by simpa using he)
theorem gq {l:Lay} {e:KV} (h:cv l e=true):aE l.ks e.cells=true/\yK e=true:=by
 cases e <;> simp [cv] at h <;> first | exact ⟨h.2,rfl⟩ | skip
 obtain ⟨h1,h2⟩:=h;cases hk:l.ks with
 | nil=>rw [hk] at h2; simp [aE] at h2
 | cons c cs=>rw [hk] at h2; cases c <;> simp [aE,kindOk] at h2
theorem TB {e:KV} {ks:List CK} (hk:aE ks e.cells=true):∀ {cs:List CK} {k:Nat},(∀ m c,cs[m]? = some c->ks[k+m]? = some c)->leaves e cs k=(e.cells.drop k).take cs.length
 | [],k,_=>by simp [leaves]
 | c::cs,k,h=>by
  obtain ⟨v,h1,h2⟩:=Ds hk (by simpa using h 0 c rfl);have bm:k < e.cells.length:=(cH.1 h1).1;have ih:=TB hk (cs:=cs) (k:=k+1) (fun m d hm=>by have:=h (m+1) d (by simpa using hm); rwa [show k+(m+1)=k+1+m by omega] at this);simp only [leaves];have e1:e.cells.getD k .bh=v:=by simp [List.getD,h1]
  rw [e1,aeW h2];rw [show Nat.succ k=k+1 from rfl,ih,List.drop_eq_getElem_cons bm];have e2:e.cells[k] = v:=by
   have:=cJ bm;rw [this] at h1;simpa using h1
  simp [e2]
theorem dr.Ly {A:ae} {B:St} (h:dr P E A B) {b x L N' : Nat} {v:KV} (hr:Ly A b=some v) (hx:E.α b=some (x,L,N')) :
  ∃ T N es acc,v = .ts T .any N es acc/\hX P T N es acc/\1<=aU P T/\∃ cs e own bN bo,N' = N/\B.get x=some (.row cs e own bN)/\aV P E es bo/\qP (aU P T) 0 cs bo/\L=cs.length/\e=aU P T:=by
 unfold K.Ly at hr;split at hr
 ·rename_i u hg
  simp at hr; subst hr;obtain ⟨T,N,es,acc,h1,h2,h3,h4⟩:=h.ar.arr b _ hg;refine ⟨T,N,es,acc,h1,h2,h3,?_⟩;rcases h4 with ⟨_,h5⟩ | ⟨y,cs,bN,bo,h4,h5,h6,h7⟩
  ·rw [hx] at h5; simp at h5
  ·rw [hx] at h4
   simp only [bQ,dt] at h4;obtain ⟨rfl,rfl,rfl⟩:=h4;exact ⟨cs,_,_,bN,bo,rfl,h5,h6,h7,rfl,rfl⟩
 ·rename_i u hg
  simp at hr; subst hr;obtain ⟨T,N,es,acc,h1,h2,h3,h4⟩:=h.ar.iG b _ hg;refine ⟨T,N,es,acc,h1,h2,h3,?_⟩;rcases h4 with ⟨_,h5⟩ | ⟨y,r,bo,h4,h5,h6,h7,h8⟩
  ·rw [hx] at h5; simp at h5
  ·rw [hx] at h4
   simp only [bQ,dt] at h4;obtain ⟨rfl,rfl,rfl⟩:=h4;exact ⟨r.cs,_,_,_,bo,rfl,h.z _ _ h5,h7,h8,rfl,h6⟩
 ·simp at hr
theorem abe {t T Tc:TypeId} {k x base bp:Nat} {own:Bool} {bN:Option (Nat×Nat)} {e:KV} {u:Value} {cs:List Value} {B:St} (hz:B.get x=some (.row cs bp own bN)) (hc:Z8 P t Tc=true) (hw:aac P T Tc k) (Dt:cv (aQ P T) e=true)
  (h7:VK P E e u) (dT:u.cells.size=aU P T) (qU:∀ (m:Nat) (y:Value),u.cells[m]? = some y->cs[base+m]? = some y):∃ w,Nd P t B [.pointer (some ⟨x,base+k,none⟩)] = some w/\VK P E (Pe (aQ P t).agg (leaves e (aQ P t).ks k)) w:=by
 simp only [Z8,ao,l9] at hc;obtain ⟨⟨⟨⟨hTc,hpl⟩,ha⟩,hn⟩,aoN⟩:=hc;have:=aL hTc;subst this;obtain ⟨aoa,aob⟩:=gq Dt;have hlv:=TB aoa (cs:=(aQ P Tc).ks) (k:=k) hw.is;rw [hlv];have Ls:=h7.cells aob;have hlen:e.cells.length=aU P T:=by have:=Ls.length; simp at this; omega
 have mR:(aQ P Tc).ks.length<=e.cells.length - k:=by
  have:=congrArg List.length hlv;rw [PX] at this;simp at this;omega
 have fv:∀ m,m < (aQ P Tc).ks.length->cs[base+k+m]? = u.cells.toList[k+m]?:=by
  intro m hm;have bm:k+m < u.cells.size:=by omega
  have:=qU (k+m) u.cells[k+m] (by simp [bm]);rw [show base+(k+m)=base+k+m by omega] at this;rw [this];simp [bm]
 have aiu:takeN (aQ P Tc).ks.length (IJ (base+k) cs)=some ((u.cells.toList.drop k).take (aQ P Tc).ks.length):=by
  have hle:(aQ P Tc).ks.length<=(cs.drop (base+k)).length:=by
   cases Mi:(aQ P Tc).ks.length with
   | zero=>omega
   | succ q=>
    have:=fv q (by omega);have bm:k+q < u.cells.toList.length:=by simp; omega
    rw [cJ bm] at this;have:=(cH.1 this).1;simp;omega
  rw [vt,MA hle];congr 1;apply List.ext_getElem?;intro m;rw [mn,mn];split
  ·rename_i hm
   rw [pf,pf];exact fv m hm
  ·rfl
 have hrel:aV P E (e.cells.drop k |>.take (aQ P Tc).ks.length) ((u.cells.toList.drop k).take (aQ P Tc).ks.length):=(Ls.drop k).take _;cases Ch:(aQ P Tc).agg with
 | true=>
  rw [Ch] at ha;refine ⟨.agg ⟨(u.cells.toList.drop k).take (aQ P Tc).ks.length⟩,?_,.rR hrel⟩;simp [Nd,loadAt,ha,hn,St.AG,cK,CJ,hz,aiu]
 | false=>
  rw [Ch] at ha;have hl1:(aQ P Tc).ks.length=1:=by
   rw [Ch] at aoN;exact aL (by simpa using aoN)
  rw [hl1] at aiu hrel;have bm:k < e.cells.length:=by omega
  rw [hl1];rw [List.drop_eq_getElem_cons bm] at hrel ⊢;simp only [List.take_succ_cons,List.take_zero] at hrel ⊢;obtain ⟨w,h8,h9⟩:=hrel.ee;refine ⟨w,?_,h9⟩;simp [Nd,loadAt,ha,St.AG,cK,CJ,hz,aiu,h8]
theorem agn {t:TypeId} : agm P (AJ P t) (Nd P t):=by
 intro E A B vs us v h hv hg;unfold AJ at hg;split at hg
 ·rename_i b off
  obtain ⟨y,rfl,h1⟩:=hv.ee;obtain ⟨x,hx,rfl⟩:=h1.ig;split at hg
  ·rename_i ag n ha hn
   split at hg
   ·rename_i l hl
    obtain ⟨cs,h2,h3⟩:=cE.1 hl;obtain ⟨bP,bp,h4,h5⟩:=h.rowAt h2 hx;obtain ⟨r,h6,h7,_⟩:=h5.yX h3;cases ag with
    | true=>
     have hg:KV.agg l=v:=hg;subst hg;refine ⟨.agg ⟨r⟩,?_,.rR h7⟩;simp [Nd,loadAt,ha,hn,St.AG,cK,CJ,h4,h6]
    | false=>
     rw [aH] at hg;split at hg
     ·rename_i u
      have hg:u=v:=hg;subst hg;obtain ⟨w,rfl,h8⟩:=h7.ee;have hlen:n=1:=by
       obtain ⟨e,hle⟩:=Ro h3;have:=congrArg List.length e;rw [kZ,Nat.min_eq_left hle] at this;simpa using this.symm
      subst hlen;exact ⟨w,by simp [Nd,loadAt,ha,St.AG,cK,CJ,h4,h6],h8⟩
     ·exact hg.elim
   ·exact hg.elim
  ·exact hg.elim
 ·rename_i T Tc i k es acc
  obtain ⟨y,rfl,h1⟩:=hv.ee;obtain ⟨hc,hg⟩:=hg.cond;have hg:Pe (aQ P t).agg (leaves (acc i) (aQ P t).ks k)=v:=hg;subst hg;obtain ⟨ht,bo,h2,hi,hw,b,off,r,rfl,h4,h5⟩:=h1.NA;have aql:=ht.acc i hi;have hei:es[i]? = some (acc i):=by rw [aql]; simp [List.getD,hi]
  obtain ⟨u,h6,h7⟩:=h2.get hei;obtain ⟨dT,qU⟩:=h5 i u h6;exact abe (h.z b r h4) hc hw (gL ht.typed hei) h7 dT qU
 ·rename_i T Tc b i k
  obtain ⟨y,rfl,h1⟩:=hv.ee;split at hg
  ·rename_i T' m N es acc hA
   obtain ⟨hc,hg⟩:=hg.cond;have hg:Pe (aQ P t).agg (leaves (acc i) (aQ P t).ks k)=v:=hg;subst hg;simp only [ao] at hc;have:=aL hc.1;subst this;obtain ⟨x,L,N',h2,hw,hi,rfl⟩:=h1.KC;obtain ⟨T2,N2,pt,ay,Dh,ht,h1s,cs,e,own,bN,bo,h3,h4,h5,h6,_⟩:=h.Ly hA h2;simp only [KV.ts.injEq] at Dh;obtain ⟨rfl,rfl,rfl,rfl,rfl⟩:=Dh;have bm:i < es.length:=by rw [<- ht.len,<- h3]; exact hi
   have hei:es[i]? = some (acc i):=by rw [ht.acc i (by rw [ht.len]; exact bm)]; simp [List.getD,bm]
   obtain ⟨u,h7,h8⟩:=h5.get hei;obtain ⟨dT,qU⟩:=h6 i u h7;rw [bd] at qU;exact abe h4 hc.2 hw (gL ht.typed hei) h8 dT qU
  ·exact hg.elim
 ·exact hg.elim
end Go.K
end
section
namespace Go.K
open Go Go.aG
variable {P:Program} {E:Env}
theorem VK.amv {T:TypeId} {m:Mk} {n:Nat} {es:List KV} {acc:Nat->KV} {u:Value} (h:VK P E (.ts T m n es acc) u):VK P E (.ts T .any n es acc) u:=by
 obtain ⟨ht,bo,h1,a,cap,rfl,h2,h3,_⟩:=h.lh;simp only [VK];exact ⟨ht,bo,h1,a,cap,rfl,h2,h3,trivial⟩
theorem VK.aiv {T:TypeId} {acc:Nat->KV} : VK P E (.ts T .any 0 [] acc) (.slice none 0 0):=by
 simp only [VK];exact ⟨⟨rfl,fun i h=>by omega,rfl⟩,[],.nil,none,0,rfl,aC _,.inl ⟨rfl,rfl⟩,trivial⟩
theorem VK.apx {b:Bool} {v:KV} {u:Value} (h:VK P E v u):VK P E (cond b v .bh) u:=by
 cases b with
 | false=>exact .vC
 | true=>exact h
theorem VK.nV {c:CK} {v:KV} {u:Value} (h:VK P E v u):VK P E (nV c v) u:=by
 unfold K.nV;split
 ·have:=h.pw; subst this; exact .aiv
 ·rename_i t t' m n es acc
  cases hb:Nat.beq t t' with
  | false=>exact .vC
  | true=>
   have:=aL hb;subst this;exact h.amv
 ·exact VK.apx h
theorem aV.Dl:∀ {ks:List CK} {cs:List KV} {l:List Value},aV P E cs l->cs.length=ks.length->aV P E (Dl ks cs) l
 | [],[],l,h,_=>h
 | [],_::_,_,_,e=>by simp at e
 | _::_,[],_,_,e=>by simp at e
 | c::ks,v::cs,l,h,e=>by
  obtain ⟨y,ys,rfl,h1,h2⟩:=h.cons_inv;exact .cons h1.nV (aV.Dl h2 (by simpa using e))
theorem VK.dN {l:Lay} {v:KV} {u:Value} (h:VK P E v u):VK P E (dN l v) u:=by
 unfold K.dN;split
 ·rename_i cs
  obtain ⟨m,rfl,h1⟩:=h.kQ;cases hb:(l.agg&&Nat.beq cs.length l.ks.length) with
  | false=>exact .vC
  | true=>
   simp only [ao] at hb;exact .rR (h1.Dl (aL hb.2))
 ·cases l.agg with
  | true=>exact .vC
  | false=>
   rw [aH];split
   ·exact h.nV
   ·exact .vC
theorem Vc (d:Nat) (v:KV):b8 P (d+1) v=(match v with
 | .ts t _ n _ acc=>.ts t .any n ((List.range n).map fun i=>gV P (b8 P d) t (acc i)) (fun i=>gV P (b8 P d) t (acc i))
 | v=>v):=rfl
theorem ada (d:Nat) {c:CK} {v:KV} (h:kindOk c v=true):kindOk c (b8 P d v)=true:=by
 cases d with
 | zero=>exact h
 | succ d=>
  rw [Vc];split
  ·rename_i t m n es acc
   cases c <;> simp [kindOk] at h;cases m <;> simp at h;simp [kindOk,h]
  ·exact h
theorem I7 (d:Nat):∀ {ks:List CK} {cs:List KV},aE ks cs=true->aE ks (cs.map (b8 P d))=true
 | [],[],_=>rfl
 | [],_::_,h=>by simp [aE] at h
 | _::_,[],h=>by simp [aE] at h
 | c::ks,v::cs,h=>by
  simp only [aE,ao] at h;simp only [List.map_cons,aE,ao];exact ⟨ada d h.1,I7 d h.2⟩
theorem ue:∀ {ks:List CK} {vs:List KV},aE ks vs=true->vs.length=ks.length
 | [],[],_=>rfl
 | [],_::_,h=>by simp [aE] at h
 | _::_,[],h=>by simp [aE] at h
 | k::ks,v::vs,h=>by
  simp only [aE,ao] at h;simp [ue h.2]
theorem o7 {l:Lay} : ∀ {es:List KV},(∀ (i:Nat) e,es[i]? = some e->cv l e=true)->dJ l es=true
 | [],_=>rfl
 | e::es,h=>by
  simp only [dJ,ao];exact ⟨h 0 e rfl,o7 fun i x hx=>h (i+1) x (by simpa using hx)⟩
theorem NF {l:Lay} {v:KV} (h:cv l v=true):leaves v l.ks 0=v.cells/\aE l.ks v.cells=true/\(v=Pe l.agg v.cells):=by
 have hk:aE l.ks v.cells=true/\(v=Pe l.agg v.cells):=by
  by_cases ha:∃ cs,v = .agg cs
  ·obtain ⟨cs,rfl⟩:=ha
   simp only [cv,ao] at h;refine ⟨h.2,?_⟩;rw [h.1]; rfl
  ·have h1:(!l.agg&&aE l.ks [v])=true:=by
    cases v <;> first | exact h | exact absurd ⟨_,rfl⟩ ha | simp [cv] at h
   have hc:v.cells = [v]:=by cases v <;> first | rfl | exact absurd ⟨_,rfl⟩ ha
   simp only [ao,ma] at h1;rw [hc,h1.1];exact ⟨h1.2,rfl⟩
 refine ⟨?_,hk.1,hk.2⟩;rw [TB (e:=v) (ks:=l.ks) hk.1 (fun m c e=>by rw [bd]; exact e)];show (v.cells.drop 0).take l.ks.length=v.cells;rw [List.drop_zero,<- ue hk.1,List.take_length]
theorem abf {l:Lay} {cs:List KV} {v:KV} (h:cv l v=true) (hk:aE l.ks cs=true) (hlen:cs.length=v.cells.length):cv l (Pe l.agg cs)=true:=by
 by_cases ha:∃ ds,v = .agg ds
 ·obtain ⟨ds,rfl⟩:=ha
  simp only [cv,ao] at h;rw [h.1];show (l.agg&&aE l.ks cs)=true;rw [h.1,hk]; rfl
 ·have h1:(!l.agg&&aE l.ks [v])=true:=by
   cases v <;> first | exact h | exact absurd ⟨_,rfl⟩ ha | simp [cv] at h
  have hc:v.cells = [v]:=by cases v <;> first | rfl | exact absurd ⟨_,rfl⟩ ha
  simp only [ao,ma] at h1;rw [hc] at hlen
  match cs,hlen with
  | [c],_=>
   rw [h1.1];show cv l c=true;have Vb:one c=true:=by
    cases qL:l.ks with
    | nil=>rw [qL] at hk; simp [aE] at hk
    | cons a arD=>rw [qL] at hk; simp only [aE,ao] at hk; cases a <;> cases c <;> first | rfl | simp [kindOk] at hk
   cases c <;> first | (simp [one] at Vb; done) | (simp only [cv,h1.1,HO,BN]; exact hk)
mutual
theorem VK.b8:∀ (d:Nat) {v:KV} {u:Value},VK P E v u->VK P E (K.b8 P d v) u
 | 0,_,_,h=>h
 | d+1,v,u,h=>by
  rw [Vc];split
  ·rename_i t m n es acc
   obtain ⟨ht,bo,h1,a,cap,rfl,h2,h3,_⟩:=h.lh;simp only [VK];have Dt:∀ i,i < n->∃ e e',es[i]? = some e/\bo[i]? = some e'/\acc i=e/\cv (aQ P t) e=true/\VK P E e e':=by
    intro i hi;have hl:i < es.length:=by rw [<- ht.len]; exact hi
    have e1:=cJ hl;obtain ⟨e',e2,e3⟩:=h1.get e1;exact ⟨_,e',e1,e2,by rw [ht.acc i hi,fH,e1]; rfl,gL ht.typed e1,e3⟩
   have hlen:bo.length=n:=by rw [h1.length,ht.len]
   refine ⟨⟨by simp,fun i hi=>?_,?_⟩,bo,?_,a,cap,rfl,h2,h3,trivial⟩
   ·rw [fH,pg,List.getElem?_range hi]; rfl
   ·refine o7 fun i e he=>?_
    rw [pg] at he;by_cases hi:i < n
    ·rw [List.getElem?_range hi] at he
     simp only [Option.map_some,bQ] at he;obtain ⟨x,x',_,_,q3,q4,_⟩:=Dt i hi;rw [<- he,q3,gV];obtain ⟨r1,r2,_⟩:=NF q4;rw [r1];exact abf q4 (I7 d r2) (by simp)
    ·rw [List.getElem?_eq_none (by simp; omega)] at he; simp at he
   ·refine aV.aeR (by simp [hlen]) fun i e e' he Lv=>?_
    rw [pg] at he;by_cases hi:i < n
    ·rw [List.getElem?_range hi] at he
     simp only [Option.map_some,bQ] at he;obtain ⟨x,x',_,q2,q3,q4,q5⟩:=Dt i hi;rw [Lv] at q2;simp only [bQ] at q2;subst q2;rw [<- he,q3];exact VK.gV d q4 q5
    ·rw [List.getElem?_eq_none (by simp; omega)] at he; simp at he
  ·exact h
theorem VK.gV (d:Nat) {t:TypeId} {v:KV} {u:Value} (hk:cv (aQ P t) v=true) (h:VK P E v u):VK P E (K.gV P (K.b8 P d) t v) u:=by
 obtain ⟨r1,r2,r3⟩:=NF hk;rw [K.gV,r1];by_cases ha:∃ cs,v = .agg cs
 ·obtain ⟨cs,rfl⟩:=ha
  obtain ⟨l,rfl,h1⟩:=h.kQ;have Ch:(aQ P t).agg=true:=by simp only [cv,ao] at hk; exact hk.1
  rw [Ch];exact .rR (aV.ago d h1)
 ·have hc:v.cells = [v]:=by cases v <;> first | rfl | exact absurd ⟨_,rfl⟩ ha
  have Ch:(aQ P t).agg=false:=by
   cases v <;> first | (simp only [cv,ao,ma] at hk; exact hk.1) | exact absurd ⟨_,rfl⟩ ha | simp [cv] at hk
  rw [Ch,hc];exact VK.b8 d h
theorem aV.ago (d:Nat):∀ {cs:List KV} {l:List Value},aV P E cs l->aV P E (cs.map (K.b8 P d)) l
 | [],l,h=>h
 | c::cs,l,h=>by
  obtain ⟨y,ys,rfl,h1,h2⟩:=h.cons_inv;exact .cons (VK.b8 d h1) (aV.ago d h2)
end
theorem agp {c:CK} {v:KV} (h:kindOk c v=true):one v=true:=by
 cases c <;> cases v <;> simp [kindOk] at h <;> rfl
theorem HZ:∀ {ks:List CK} {cs:List KV},aE ks cs=true->gJ cs=true
 | [],[],_=>rfl
 | [],_::_,h=>by simp [aE] at h
 | _::_,[],h=>by simp [aE] at h
 | c::ks,v::cs,h=>by
  simp only [aE,ao] at h;simp [gJ,agp h.1,HZ h.2]
def bz:List Value->List Value
 | []=>[]
 | v::vs=>v.cells.toList++bz vs
theorem hZ {n:Nat} : ∀ {es:List Value},(∀ v∈es,v.cells.size=n)->(bz es).length=es.length * n
 | [],_=>by simp [bz]
 | v::es,h=>by
  simp only [bz,kF,qT];rw [hZ fun u hu=>h u (by simp [hu])];have:=h v (by simp);simp only [Array.length_toList,this,Nat.succ_mul];omega
theorem lQ {n:Nat} : ∀ {es:List Value},(∀ v∈es,v.cells.size=n)->qP n 0 (bz es) es
 | [],_,i,x,h=>by simp at h
 | v::es,hs,i,x,h=>by
  have hv:=hs v (by simp);cases i with
  | zero=>
   simp at h;subst h;refine ⟨hv,fun k y hy=>?_⟩;simp only [bz,Nat.zero_mul,bd];have bm:k < v.cells.size:=(r8.1 hy).1;rw [qS (by simpa using bm)];simpa using hy
  | succ i=>
   obtain ⟨h1,h2⟩:=lQ (es:=es) (fun u hu=>hs u (by simp [hu])) i x (by simpa using h);refine ⟨h1,fun k y hy=>?_⟩;have:=h2 k y hy;simp only [bz];rw [tS (by simp [hv,Nat.succ_mul]; omega)];rw [<- this];congr 1;simp [hv,Nat.succ_mul];omega
theorem Bm:∀ (a b:List Value),bz (a++b)=bz a++bz b
 | [],b=>rfl
 | v::a,b=>by simp [bz,Bm a b]
theorem Bn:∀ {es:List Value},(∀ v∈es,∀ c∈v.cells.toList,scalar c=true)->∀ c∈bz es,scalar c=true
 | [],_,c,h=>by simp [bz] at h
 | v::es,hs,c,h=>by
  simp only [bz,jM] at h;rcases h with h | h
  ·exact hs v (by simp) c h
  ·exact Bn (fun u hu=>hs u (by simp [hu])) c h
theorem YQ {n:Nat} : ∀ {es:List Value} {i:Nat} {v:Value},(∀ u∈es,u.cells.size=n)->v.cells.size=n->i < es.length->gH (i * n) (bz es) v.cells.toList=some (bz (es.set i v))
 | [],i,v,_,_,h=>by simp at h
 | u::es,0,v,hs,hv,_=>by
  simp only [Nat.zero_mul,bz,List.set_cons_zero];have key:∀ (a b r:List Value),a.length=b.length->gH 0 (a++r) b=some (b++r):=by
   intro a
   induction a with
   | nil=>intro b r h; cases b <;> simp_all [Ce]
   | cons x a ih=>
    intro b r h;cases b with
    | nil=>simp at h
    | cons y b=>rw [List.cons_append,yT,ih b r (by simpa using h)]; rfl
  exact key _ _ _ (by simp [hs u (by simp),hv])
 | u::es,i+1,v,hs,hv,h=>by
  have ih:=YQ (es:=es) (i:=i) (fun w hw=>hs w (by simp [hw])) hv (by simpa using h);simp only [bz,List.set_cons_succ];have key:∀ (a r vs q:List Value) (m:Nat),gH m r vs=some q->gH (a.length+m) (a++r) vs=some (a++q):=by
   intro a
   induction a with
   | nil=>intro r vs q m h; simpa using h
   | cons x a ih=>
    intro r vs q m h;rw [qT,show a.length+1+m=(a.length+m)+1 by omega,List.cons_append,uI,ih r vs q m h];rfl
  have:=key u.cells.toList _ _ _ _ ih;rw [show u.cells.toList.length+i * n=(i+1) * n by simp [hs u (by simp),Nat.succ_mul]; omega] at this;exact this
def sC (es:List Value):List (Nat×Value)->List Value
 | []=>es
 | (i,v)::rest=>sC (es.set i v) rest
theorem LD:∀ (ps:List (Nat×Value)) (es:List Value),(sC es ps).length=es.length
 | [],_=>rfl
 | p::ps,es=>by simp [sC,LD ps]
theorem TC {n:Nat} (hn:1<=n):∀ {ps:List (Nat×Value)} {es:List Value},(∀ u∈es,u.cells.size=n)->(∀ p∈ps,p.2.cells.size=n/\p.1 < es.length)->
  Db (CL n) (bz es) ps=some (bz (sC es ps))/\∀ u∈sC es ps,u.cells.size=n
 | [],es,hs,_=>⟨rfl,hs⟩
 | (i,v)::ps,es,hs,hp=>by
  obtain ⟨h1,h2⟩:=hp (i,v) (by simp);have h3:=YQ hs h1 h2;have OI:∀ u∈es.set i v,u.cells.size=n:=by
   intro u hu;rcases List.mem_or_eq_of_mem_set hu with h | h
   ·exact hs u h
   ·subst h; exact h1
  obtain ⟨h4,h5⟩:=TC hn (ps:=ps) OI (fun p hq=>by have:=hp p (by simp [hq]); simpa using this);refine ⟨?_,h5⟩;simp only [Db,CL];have e1:Nat.beq v.cells.size n=true:=by rw [h1]; simp
  have e2:Nat.ble 1 n=true:=Nat.ble_eq_true_of_le hn;rw [e1,e2];simp only [cz,aj,h3,dQ];exact h4
theorem TD {v:KV} {u:Value} (h:VK P E v u):∀ {es:List KV} {bo:List Value} (i:Nat),aV P E es bo->aV P E (setAt es i v) (bo.set i u)
 | [],bo,i,q=>by rw [q.b6]; cases i <;> exact .nil
 | x::es,bo,0,q=>by
  obtain ⟨y,ys,rfl,h1,h2⟩:=q.cons_inv;exact .cons h h2
 | x::es,bo,i+1,q=>by
  obtain ⟨y,ys,rfl,h1,h2⟩:=q.cons_inv;exact .cons h1 (TD h i h2)
theorem TE {l:Lay} : ∀ {is:List Nat} {vs:List KV} {us:List Value} {es:List KV} {bo:List Value},aV P E vs us->aV P E es bo->aV P E (GB es ((AD is vs).map fun p=>(p.1,dN l p.2))) (sC bo (zipIdx is us))
 | [],vs,us,es,bo,_,h=>by simpa [AD,zipIdx,GB,sC] using h
 | i::is,[],us,es,bo,hv,h=>by rw [hv.b6]; simpa [AD,zipIdx,GB,sC] using h
 | i::is,v::vs,us,es,bo,hv,h=>by
  obtain ⟨y,ys,rfl,h1,h2⟩:=hv.cons_inv;simp only [AD,zipIdx,List.map_cons,GB,sC];exact TE h2 (TD h1.dN i h)
theorem FF:∀ (es:List KV) (i:Nat) (v:KV),(setAt es i v).length=es.length
 | [],0,_=>rfl
 | [],_+1,_=>rfl
 | _::_,0,_=>rfl
 | e::es,i+1,v=>by simp [setAt,FF es i v]
theorem LF:∀ (ps:List (Nat×KV)) (es:List KV),(GB es ps).length=es.length
 | [],_=>rfl
 | p::ps,es=>by simp [GB,LF ps,FF]
theorem aeX {n:Nat} : ∀ {is:List Nat} (us:List Value),EK n is=true->∀ p∈zipIdx is us,p.1 < n/\p.2∈us
 | [],us,_,p,h=>by simp [zipIdx] at h
 | i::is,[],_,p,h=>by simp [zipIdx] at h
 | i::is,u::us,h,p,hp=>by
  simp only [EK,ao,bI] at h;simp only [zipIdx,de] at hp;rcases hp with rfl | hp
  ·exact ⟨h.1,by simp⟩
  ·obtain ⟨h1,h2⟩:=aeX us h.2 p hp
   exact ⟨h1,by simp [h2]⟩
theorem Du (z:Value):∀ n,fD z.cells.toList n=bz (List.replicate n z)
 | 0=>rfl
 | n+1=>by simp [fD,List.replicate_succ,bz,Du z n]
theorem NG {z:KV} {u:Value} (h:VK P E z u):∀ n,aV P E (di [z] n) (List.replicate n u)
 | 0=>.nil
 | n+1=>by simpa [di,List.replicate_succ] using aV.cons h (NG h n)
theorem mw {l:Lay} : ∀ {es:List KV} {bo:List Value},dJ l es=true->aV P E es bo->∀ u∈bo,u.cells.size=l.ks.length/\∀ c∈u.cells.toList,scalar c=true
 | [],bo,_,h,u,hu=>by rw [h.b6] at hu; simp at hu
 | e::es,bo,Dt,h,u,hu=>by
  obtain ⟨y,ys,rfl,h1,h2⟩:=h.cons_inv;simp only [dJ,ao] at Dt;rcases de.1 hu with rfl | hu
  ·obtain ⟨k1,k2⟩:=gq Dt.1
   have hc:=h1.cells k2;refine ⟨?_,hc.scalar (HZ k1)⟩;have:=hc.length;have:=sH k1;simp at *;omega
  ·exact mw Dt.2 h2 u hu
theorem Xv {l:Lay} : ∀ {vs:List KV} {us:List Value},aV P E vs us->aV P E (vs.map (dN l)) us
 | [],_,h=>h
 | v::vs,us,h=>by
  obtain ⟨y,ys,rfl,h1,h2⟩:=h.cons_inv;exact .cons h1.dN (Xv h2)
theorem adb {e:TypeId} {n len:Nat} {z:Value} {is:List Nat} (hn:(aQ P e).ks.length=n) (h1n:1<=n) (hz:z.cells.size=n) (hb:EK len is=true) :
  amu P (PE (aQ P e) e (dN (aQ P e) (fE z)) len is) (tU n z len is):=by
 intro E A B vs us v h hv hg;unfold PE at hg;obtain ⟨hc,hg⟩:=aI.cond hg;simp only [ao] at hc;obtain ⟨⟨hk,hvs⟩,Dt⟩:=hc;have hg:KV.ts e .exact len _ _=v:=hg;subst hg;have Xw:VK P E (dN (aQ P e) (fE z)) z:=(VK.fE z).dN;have hrel:=TE (l:=aQ P e) (is:=is) hv (NG Xw len);have hlen:(GB (di [dN (aQ P e) (fE z)] len) ((AD is vs).map fun p=>(p.1,dN (aQ P e) p.2))).length=len:=by
  rw [LF,BR]; simp
 have aeY:∀ p∈zipIdx is us,p.2.cells.size=n/\p.1 < (List.replicate len z).length:=by
  intro p hp;obtain ⟨h5,h6⟩:=aeX us hb p hp;have hm:aV P E (vs.map (dN (aQ P e))) us:=Xv hv;exact ⟨by rw [<- hn]; exact (mw hvs hm p.2 h6).1,by simpa using h5⟩
 obtain ⟨h3,h4⟩:=TC h1n (ps:=zipIdx is us) (es:=List.replicate len z) (fun u hu=>by rw [(List.mem_replicate.1 hu).2]; exact hz) aeY;have wN:=mw Dt hrel;have qM:(bz (sC (List.replicate len z) (zipIdx is us))).all scalar=true:=fk.2 (Bn fun u hu=>(wN u hu).2);refine ⟨.row (bz (sC (List.replicate len z) (zipIdx is us))) n true none,fun b=>.slice (some ⟨b,0,none⟩) len len,E.eM B.next ⟨_,n,true,none⟩,?_,?_,cN.abd h⟩
 ·unfold tU
  rw [Du,h3];simp only [dQ];rw [qM,I3 hv hk];rfl
 ·have aiw:=hrel.mono (cN.abd (bP:=bz (sC (List.replicate len z) (zipIdx is us))) (bp:=n) h).le
  have k7:(sC (List.replicate len z) (zipIdx is us)).length=len:=by rw [LD]; simp
  simp only [VK];refine ⟨⟨hlen.symm,fun i _=>rfl,Dt⟩,_,aiw,some ⟨B.next,0,none⟩,len,rfl,aC _,.inr ⟨B.next,0,⟨bz (sC (List.replicate len z) (zipIdx is us)),n,true,none⟩,rfl,by simp [Env.eM],hn.symm,?_⟩,rfl,fun b off hb=>?_⟩
  ·have:=lQ h4
   unfold aU;rw [hn];exact this
  ·simp at hb
   obtain ⟨rfl,rfl⟩:=hb;refine ⟨⟨bz (sC (List.replicate len z) (zipIdx is us)),n,true,none⟩,by simp [Env.eM],rfl,rfl,?_⟩;simp only [aU,hn];rw [hZ h4,k7];omega
theorem aeZ {n len:Nat} {z:Value} {is:List Nat} (ho:gJ (fE z).cells=true):abc P (Tn n (fE z).cells len is) (tU n z len is):=by
 intro E A A' B vs us v h hv hg;unfold Tn at hg;split at hg
 ·rename_i cs hf
  obtain ⟨hk,hg⟩:=aI.cond hg;simp only [ao] at hk;have hg:(KV.sl A.next 0 len len,A.new (.row cs n))=(v,A'):=hg;simp only [dt] at hg;obtain ⟨rfl,rfl⟩:=hg;obtain ⟨h2,h3⟩:=aa2 is hv;obtain ⟨r',e,hr⟩:=aa1 h2 h3 (fun p hp=>by have:=aa3 is vs p hp; exact fk.1 hk.1 _ this) (PW (EO (P:=P) (E:=E) ho) len) hf;refine ⟨.row r' n true none,fun b=>.slice (some ⟨b,0,none⟩) len len,E.lP A.next B.next,?_,.ajY (by simp [Env.lP]),cN.newRow h hr⟩;unfold tU;rw [e];simp only [dQ];rw [I3 hv hk.1,fk.2 (hr.scalar hk.2)];rfl
 ·exact hg.elim
theorem F2 {m cap:Nat} {lo hi:Bool} {r:List KV} {r' : List Value} {x y:Int} (h:Sp m lo hi r=some (x,y)) (hr:aV P E r r') (h0:0<=x) (h1:x<=y) (h2:y<=(m:Int)) (hc:m<=cap) :
  wD m cap lo hi false r' = some (x.toNat,y.toNat,cap):=by
 obtain ⟨x',rfl⟩:=Int.eq_ofNat_of_zero_le h0;obtain ⟨y',rfl⟩:=Int.eq_ofNat_of_zero_le (Int.le_trans h0 h1);have hb:∀ (k:IntKind) (i n:Nat),i<=n->Zz n (.int k (i:Int))=some i:=by
  intro k i n h;show kN (.ofNat i) (Nat.succ n)=some i;exact qX (by omega)
 match r,h with
 | [],h=>
  rw [hr.b6];cases lo <;> cases hi <;> simp [Sp] at h;obtain ⟨h3,h4⟩:=h;simp [wD];omega
 | [.int k a],h=>
  obtain ⟨u,rfl,h3⟩:=hr.ee;have:=h3.cg; subst this;cases lo <;> cases hi <;> simp [Sp] at h
  ·obtain ⟨h4,rfl⟩:=h
   simp only [wD];rw [hb k y' cap (by omega)];simp;omega
  ·obtain ⟨rfl,h4⟩:=h
   simp only [wD];rw [hb k x' m (by omega)];simp;omega
 | [.int k a,.int k' c],h=>
  obtain ⟨u,v,rfl,h3,h4⟩:=hr.kf;have:=h3.cg; subst this;have:=h4.cg; subst this;cases lo <;> cases hi <;> simp [Sp] at h;obtain ⟨rfl,rfl⟩:=h;simp only [wD];rw [hb k' y' cap (by omega)];simp only [dQ];rw [hb k x' y' (by omega)];simp
theorem Sr {l:Lay} : ∀ {es:List KV} (n:Nat),dJ l es=true->dJ l (es.drop n)=true
 | es,0,h=>by simpa using h
 | [],n+1,_=>rfl
 | e::es,n+1,h=>by
  simp only [dJ,ao] at h;simpa using Sr n h.2
theorem Ss {l:Lay} : ∀ {es:List KV} (n:Nat),dJ l es=true->dJ l (es.take n)=true
 | es,0,h=>rfl
 | [],n+1,_=>rfl
 | e::es,n+1,h=>by
  simp only [dJ,ao] at h;simp [dJ,h.1,Ss n h.2]
theorem OK {l:Lay} : ∀ {es fs:List KV},dJ l es=true->dJ l fs=true->dJ l (es++fs)=true
 | [],fs,_,h=>h
 | e::es,fs,h,k=>by
  simp only [dJ,ao] at h;simp [dJ,h.1,OK h.2 k]
theorem qP.part {sz off x k:Nat} {cs es:List Value} (h:qP sz off cs es):qP sz (off+x * sz) cs ((es.drop x).take k):=by
 intro i v hv;rw [mn] at hv;split at hv
 ·rw [pf] at hv
  obtain ⟨h1,h2⟩:=h (x+i) v hv;refine ⟨h1,fun j y hj=>?_⟩;rw [<- h2 j y hj];congr 1;rw [Nat.add_mul];omega
 ·simp at hv
theorem Xx {es:List KV} {i:Nat} (h:i < es.length):es[i]? = some (es.getD i .bh):=by simp [List.getD,h]
theorem agq {n:Nat} {lo hi:Bool} (_:1<=n):agm P (Xh P n lo hi) (vr n lo hi false):=by
 intro E A B vs us v h hv hg;unfold Xh at hg;split at hg
 ·rename_i T mk m es acc r
  split at hg
  ·rename_i x y hb
   obtain ⟨dT,hg⟩:=hg.cond;have dT:=aL dT;obtain ⟨hc,rfl⟩:=aI.jQ hg;simp only [ao,l9] at hc;obtain ⟨⟨h0,h1⟩,h2⟩:=hc;obtain ⟨u,r',rfl,h3,h4⟩:=hv.cons_inv;obtain ⟨ht,bo,h5,a,cap,rfl,h6,h7,_⟩:=h3.lh;have Lw:=F2 hb h4 h0 h1 h2 h6;have hlen:=ht.len;have hle:((es.drop x.toNat).take (y.toNat - x.toNat)).length=y.toNat - x.toNat:=by simp; omega
   have hT:hX P T (y.toNat - x.toNat) ((es.drop x.toNat).take (y.toNat - x.toNat)) (fun i=>acc (x.toNat+i)):=by
    refine ⟨hle.symm,fun i hi=>?_,Ss _ (Sr _ ht.typed)⟩;rw [ht.acc _ (by omega)];simp only [List.getD];rw [mn,aD hi,pf]
   rcases h7 with ⟨rfl,hm⟩ | ⟨b,off,rr,rfl,h8,h9,px⟩
   ·refine ⟨.slice none (y.toNat - x.toNat) (cap - x.toNat),by simp [vr,Lw],?_⟩
    simp only [VK];exact ⟨hT,_,(h5.drop _).take _,none,_,rfl,by omega,.inl ⟨rfl,by omega⟩,trivial⟩
   ·have fv:=h.z b rr h8
    have UQ:rr.bp=n:=by rw [h9]; exact dT
    refine ⟨.slice (some ⟨b,off+x.toNat * n,none⟩) (y.toNat - x.toNat) (cap - x.toNat),?_,?_⟩
    ·simp [vr,Lw,cK,Dc,fv,UQ]
    ·simp only [VK]
     refine ⟨hT,_,(h5.drop _).take _,_,_,rfl,by omega,.inr ⟨b,off+x.toNat * n,rr,rfl,h8,h9,?_⟩,trivial⟩;have:aU P T=n:=dT;rw [this] at px ⊢;exact px.part
  ·exact hg.elim
 ·rename_i b o len cap r
  split at hg
  ·rename_i cs bp fv
   split at hg
   ·rename_i x y hb
    obtain ⟨dT,hg⟩:=hg.cond;have dT:=aL dT;obtain ⟨hc,rfl⟩:=aI.jQ hg;simp only [ao,l9] at hc;obtain ⟨⟨⟨h0,h1⟩,h2⟩,h6⟩:=hc;obtain ⟨u,r',rfl,h3,h4⟩:=hv.cons_inv;obtain ⟨z,hz,rfl⟩:=h3.Rp;have Lw:=F2 hb h4 h0 h1 h2 h6;obtain ⟨z',bP,e1,e2,_⟩:=h.row b cs bp fv;rw [hz] at e1;simp at e1;subst e1;refine ⟨.slice (some ⟨z,o+x.toNat * n,none⟩) (y.toNat - x.toNat) (cap - x.toNat),?_,.ajY hz⟩;simp [vr,Lw,cK,Dc,e2,dT]
   ·exact hg.elim
  ·exact hg.elim
 ·rename_i T b o m r
  split at hg
  ·rename_i T' mk N es acc hA
   split at hg
   ·rename_i x y hb
    obtain ⟨dT,hg⟩:=hg.cond;obtain ⟨hc,rfl⟩:=aI.jQ hg;simp only [ao] at dT;have hT:=aL dT.2;have aoO:aU P T=n:=aL dT.1;subst hT;simp only [ao,l9] at hc;obtain ⟨⟨h0,h1⟩,h2⟩:=hc;obtain ⟨u,r',rfl,h3,h4⟩:=hv.cons_inv;rcases h3.yL with ⟨rfl,rfl,rfl⟩ | ⟨z,L,N',c,e1,rfl,e2,e3,e4⟩
    ·have Lw:=F2 hb h4 h0 h1 h2 (aC _)
     have hx0:x.toNat=0:=by omega
     have hy0:y.toNat=0:=by omega
     refine ⟨.slice none (y.toNat - x.toNat) (0 - x.toNat),by simp [vr,Lw],.PN (.inl ⟨by omega,by omega,by rw [hx0,hy0]⟩)⟩
    ·have Lw:=F2 hb h4 h0 h1 h2 e2
     obtain ⟨T2,N2,pt,ay,Dh,_,_,cs,e,own,bN,bo,_,h5,_,_,_,h7⟩:=h.Ly hA e1;simp only [KV.ts.injEq] at Dh;obtain ⟨rfl,_⟩:=Dh;refine ⟨.slice (some ⟨z,o * aU P T+x.toNat * n,none⟩) (y.toNat - x.toNat) (c - x.toNat),?_,.PN (.inr ⟨z,L,N',c - x.toNat,e1,?_,by omega,by omega,?_⟩)⟩
     ·simp [vr,Lw,cK,Dc,h5,h7,aoO]
     ·simp only [Value.slice.injEq,bQ,Addr.mk.injEq,and_true,true_and]
      rw [aoO,Nat.add_mul]
     ·rw [<- e4]
      congr 1;omega
   ·exact hg.elim
  ·exact hg.elim
 ·exact hg.elim
theorem ae0 {len n:Nat} {lo hi:Bool} : agm P (Tr len n lo hi) (Nh len n lo hi false):=by
 intro E A B vs us v h hv hg;unfold Tr at hg;split at hg
 ·rename_i b o r
  split at hg
  ·rename_i cs bp fv
   split at hg
   ·rename_i x y hb
    obtain ⟨dT,hg⟩:=hg.cond;simp only [ao] at dT;have yM:=aL dT.1;have hsz2:=dX dT.2;obtain ⟨hc,rfl⟩:=aI.jQ hg;simp only [ao,l9] at hc;obtain ⟨⟨h0,h1⟩,h2⟩:=hc;obtain ⟨u,r',rfl,h3,h4⟩:=hv.cons_inv;obtain ⟨z,hz,rfl⟩:=h3.ig;have Lw:=F2 hb h4 h0 h1 h2 (aC _);obtain ⟨z',bP,e1,e2,e3⟩:=h.row b cs bp fv;rw [hz] at e1;simp at e1;subst e1;have hlen:=e3.length;refine ⟨.slice (some ⟨z,o+x.toNat * n,none⟩) (y.toNat - x.toNat) (len - x.toNat),?_,.ajY hz⟩;have wM:Nat.ble (o+len * n) bP.length=true:=Nat.ble_eq_true_of_le (by omega);simp [Nh,Lw,cK,Dc,rowLen,e2,yM,wM]
    try omega
   ·exact hg.elim
  ·exact hg.elim
 ·exact hg.elim
theorem ae1 {lo hi:Bool} : y6 P (Ts lo hi) (IM lo hi):=by
 intro E vs us v hv hg;unfold Ts at hg;split at hg
 ·rename_i s r
  split at hg
  ·rename_i x y hb
   obtain ⟨hc,rfl⟩:=aI.jQ hg;simp only [ao,l9] at hc;obtain ⟨⟨h0,h1⟩,h2⟩:=hc;obtain ⟨u,r',rfl,h3,h4⟩:=hv.cons_inv;have:=h3.vB; subst this;have Lw:=F2 hb h4 h0 h1 h2 (aC _);exact ⟨_,by simp [IM,Lw],.mkStr⟩
  ·exact hg.elim
 ·exact hg.elim
theorem ae2:agm P (fun _=>Nv) IQ:=by
 intro E A B vs us v h hv hg;have hg:aI (Nv vs) v:=hg;unfold Nv at hg;split at hg
 ·obtain ⟨u,rfl,h1⟩:=hv.ee
  have:=h1.pw; subst this;have hg:KV.str ⟨⟨[]⟩⟩=v:=hg;subst hg;exact ⟨_,rfl,.mkStr⟩
 ·rename_i T mk m es acc _
  obtain ⟨u,rfl,h1⟩:=hv.ee;obtain ⟨hc,rfl⟩:=aI.jQ hg;obtain ⟨ht,bo,h5,a,cap,rfl,h6,h7,_⟩:=h1.lh;have hlen:=ht.len;rcases h7 with ⟨rfl,hm⟩ | ⟨b,off,rr,rfl,h8,h9,px⟩
  ·have:es = []:=qR.1 (by omega)
   subst this;exact ⟨_,rfl,.mkStr⟩
  ·have fv:=h.z b rr h8
   have Bo:∀ (i:Nat) (w:Value),bo[i]? = some w->∃ e,es[i]? = some e/\w = .int .u8 (byteOf e).toNat/\w.cells.size=1:=by
    intro i w hw;have hi:i < es.length:=by rw [<- h5.length]; exact (cH.1 hw).1
    obtain ⟨w',e1,e2⟩:=h5.get (Xx hi);rw [hw] at e1;simp at e1;subst e1;have rS:=fk.1 hc _ (gu (Xx hi));refine ⟨_,Xx hi,?_⟩
    revert e2 rS
    generalize es.getD i .bh=e;intro e2 rS;cases e <;> simp [ajS] at rS;rename_i k q;cases k <;> simp at rS;have:=e2.cg; subst this;refine ⟨?_,rfl⟩;simp only [byteOf,Value.int.injEq,true_and];obtain ⟨p,rfl⟩:=Int.eq_ofNat_of_zero_le rS.1;have hp:p < 256:=by omega
    simp [UInt8.toNat_ofNat',Nat.mod_eq_of_lt hp]
   have aqm:bo=es.map fun e=>.int .u8 (byteOf e).toNat:=by
    apply List.ext_getElem?;intro i;cases hw:bo[i]? with
    | none=>
     have:es.length<=i:=by rw [<- h5.length]; exact ZZ.1 hw
     simp [this]
    | some w=>
     obtain ⟨e,e1,e2,_⟩:=Bo i w hw;simp [e1,e2]
   have yM:∀ i w,bo[i]? = some w->aU P T=1:=fun i w hw=>by
    obtain ⟨_,_,_,GD⟩:=Bo i w hw;rw [<- (px i w hw).1]; exact GD
   have Gz:B.AG ⟨b,off,none⟩ m=some bo:=by
    simp only [St.AG,cK,Option.isNone_none,aj,CJ,fv,dQ];have vb:bo.length=m:=by rw [h5.length]; exact hlen.symm
    have qU:∀ i,i < m->rr.cs[off+i]? = bo[i]?:=by
     intro i hi;have WQ:i < bo.length:=by omega
     have hw:bo[i]? = some bo[i]:=cJ WQ;have h1':=yM i _ hw;obtain ⟨h12,h13⟩:=px i _ hw;obtain ⟨e,e1,e2,_⟩:=Bo i _ hw;have:=h13 0 bo[i] (by rw [e2]; rfl);rw [h1'] at this;rw [hw,<- this];congr 1;omega
    have hle:m<=(rr.cs.drop off).length:=by
     cases hm0:m with
     | zero=>omega
     | succ q=>
      have:=qU q (by omega);have hq:q < bo.length:=by omega
      rw [cJ hq] at this;have:=(cH.1 this).1;simp;omega
    rw [vt,MA hle];congr 1;apply List.ext_getElem?;intro i;rw [mn];split
    ·rename_i hi
     rw [pf];exact qU i hi
    ·rename_i hi
     exact (ZZ.2 (by omega)).symm
   have aeH:∀ (l:List KV),Kr (l.map fun e=>.int .u8 (byteOf e).toNat)=some (l.map byteOf):=by
    intro l
    induction l with
    | nil=>rfl
    | cons e l ih=>
     have hb:=(byteOf e).toNat_lt;show cond (Nat.blt (byteOf e).toNat 256) ((Kr (l.map fun e=>.int .u8 (byteOf e).toNat)).map (UInt8.ofNat (byteOf e).toNat::·)) none=_;have:Nat.blt (byteOf e).toNat 256=true:=by rw [bI]; omega
     rw [this,aj,ih];simp
   refine ⟨.string ⟨⟨es.map byteOf⟩⟩,?_,.mkStr⟩;simp only [IQ,Gz,dQ];rw [aqm,aeH];rfl
 ·exact hg.elim
theorem abg {b lo hi:Nat} : ∀ {L:List Nat} {B:St},(∀ x∈L,rQ (B.get x) lo hi=false)->B.kill b lo hi L=B
 | [],B,_=>rfl
 | x::L,B,h=>by
  simp only [St.kill];rw [h x (by simp),Bool.and_false,aH];exact abg fun y hy=>h y (by simp [hy])
theorem cN.aj1 {A:ae} {B:St} (sz:Nat) (h:dr P E A B):cN P E A B E (A.new (.aP 0 sz)) B:=by
 have hn:E.φ A.next=none:=by
  cases Kk:E.φ A.next with
  | none=>rfl
  | some g=>have:=h.kR _ g Kk; omega
 have hA:∀ (b:Nat) (v:KV),(A.new (.aP 0 sz)).get b=some (.arr v)->A.get b=some (.arr v):=fun b v hb=>by
  rw [ae.cp] at hb;split at hb
  ·simp at hb
  ·exact hb
 have Xu:∀ (b:Nat) (v:KV),(A.new (.aP 0 sz)).get b=some (.iG v)->A.get b=some (.iG v):=fun b v hb=>by
  rw [ae.cp] at hb;split at hb
  ·simp at hb
  ·exact hb
 refine ⟨⟨?_,?_,h.z,h.apart,h.inj,h.gK.new (.inr hn),fun b x e=>?_,fun b g e=>?_,?_,h.eV,h.lJ,h.iv,h.fresh,h.mem,h.ar.dR (Env.le_refl _) (fun _=>rfl) hA Xu (by simp) (aC _) (fun _ _=>rfl) (fun _ _ e=>.inl e) (fun _ _ e=>.inl e) (fun b g e=>.inl ⟨b,e⟩) (fun _ _=>rfl) h.mem⟩,Env.le_refl _,by simp,fun _ _ _ _=>rfl,fun _ _ e=>.inl e,fun _ _ e=>.inl e,fun _ _ e=>.inl e,fun _ _ _ _=>rfl,fun _ q=>.inl (q.of (fun _=>rfl) hA),fun _ q=>.inl (q.of (fun _=>rfl) hA fun _ _=>rfl),fun _ _ q=>.inl q,fun _ q=>.inl (q.of (fun _=>rfl) hA (fun _ _=>rfl) fun _ _=>rfl),mv fun _ _=>rfl,h.abb⟩
 ·intro b cs bp hb
  rw [ae.cp] at hb;split at hb
  ·simp at hb
  ·exact h.row b cs bp hb
 ·intro b top GC hb
  rw [ae.cp] at hb;split at hb
  ·rename_i e
   simp at hb;refine .inl ⟨hb.1.symm,?_⟩;cases Kk:E.φ b with
   | none=>rfl
   | some g=>have:=h.kR b g Kk; omega
  ·exact h.aP b top GC hb
 ·have:=h.jP b x e; rw [ae.bX]; omega
 ·have:=h.kR b g e; rw [ae.bX]; omega
 ·intro b o hb
  rw [ae.cp] at hb;rw [ae.bX];split at hb
  ·omega
  ·have:=h.live b o hb; omega
theorem cN.grow {A:ae} {B:St} {f g top Su sz:Nat} {c:List Value} (h:dr P E A B) (hA:A.get f=some (.aP top sz)) (hf:(E.φ f=none/\g=B.next)\/E.φ f=some g) (hc:c.length=Su * sz) (ht:top<=Su) (Hk:0 < Su) :
  cN P E A B ((E.eM B.next ⟨c,sz,true,some (g,0)⟩).vF f g) (A.put f (.aP Su sz)) (B.grow g 0 c sz):=by
 have n5:∀ x,(B.grow g 0 c sz).get x=if x=B.next then some (.row c sz true (some (g,0))) else B.get x:=fun x=>by simp [St.grow]
 have mS:∀ q,(B.grow g 0 c sz).members q=if q=g then B.next::B.members g else B.members q:=fun q=>by simp [St.grow,St.Fy]
 have fZ:(B.grow g 0 c sz).next=B.next+1:=rfl;have hlef:=h.live f _ hA;have hle:E.le ((E.eM B.next ⟨c,sz,true,some (g,0)⟩).vF f g):=by
  refine ⟨fun _ _ e=>e,fun _ _ e=>e,fun b r e=>?_,fun b q e=>?_⟩
  ·have:=h.lJ b r e
   simp only [Env.vF,Env.eM]; rw [aa (by omega)]; exact e
  ·simp only [Env.vF,Env.eM]
   split
   ·rename_i e2
    subst e2;rcases hf with ⟨h1,_⟩ | h1
    ·rw [h1] at e; simp at e
    ·rw [h1] at e; exact e
   ·exact e
 have hg:g<=B.next:=by
  rcases hf with ⟨_,h1⟩ | h1
  ·omega
  ·have:=h.iv f g h1; omega
 generalize hB' : B.grow g 0 c sz=B' at n5 mS fZ;have Vd:∀ (b:Nat) (v:KV),(A.put f (.aP Su sz)).get b=some (.arr v)->A.get b=some (.arr v):=fun b v hb=>by
  rw [ae.bA] at hb;split at hb
  ·simp at hb
  ·exact hb
 have Xu:∀ (b:Nat) (v:KV),(A.put f (.aP Su sz)).get b=some (.iG v)->A.get b=some (.iG v):=fun b v hb=>by
  rw [ae.bA] at hb;split at hb
  ·simp at hb
  ·exact hb
 have Cj:∀ x,x < B.next->B'.get x=B.get x:=fun x hx=>by rw [n5,aa (by omega)]
 have PV:∀ b r,((E.eM B.next ⟨c,sz,true,some (g,0)⟩).vF f g).z b=some r->E.z b=some r\/B.next<=b:=fun b r e=>by
  simp only [Env.vF,Env.eM] at e;split at e
  ·exact .inr (by omega)
  ·exact .inl e
 have aoP:∀ b q,((E.eM B.next ⟨c,sz,true,some (g,0)⟩).vF f g).φ b=some q->E.φ b=some q\/B.next<=q:=fun b q e=>by
  simp only [Env.vF,Env.eM] at e;split at e
  ·rename_i e2
   simp at e;subst e e2;rcases hf with ⟨_,h1⟩ | h1
   ·exact .inr (by omega)
   ·exact .inl h1
  ·exact .inl e
 have TF:∀ q,AF A E B q->B'.members q=B.members q:=fun q hq=>by
  rw [mS,aa];intro e2;subst e2;obtain ⟨b,v,x,L,N,cs,e,own,k,h1,h2,h3⟩:=hq;obtain ⟨h4,h5,_⟩:=h.ar.vD b v x L N cs e own q k h1 h2 h3;rcases hf with ⟨_,h1⟩ | h1
  ·omega
  ·exact h5 f h1
 have aix:∀ q y,y∈B'.members q->y∈B.members q\/B.next<=y:=fun q y hy=>by
  rw [mS] at hy;split at hy
  ·rename_i e2
   subst e2;rcases de.1 hy with hy | hy
   ·exact .inr (by omega)
   ·exact .inl hy
  ·exact .inl hy
 refine ⟨⟨?_,?_,?_,?_,?_,?_,?_,?_,?_,?_,?_,?_,?_,?_,h.ar.dR hle (fun _=>rfl) Vd Xu (aC _) (by omega) (fun x q=>Cj x (h.I5 q)) PV (fun _ _ e=>.inl e) (fun b q e=>(aoP b q e).imp (fun e=>⟨b,e⟩) id) TF h.mem⟩,hle,aC _,?_,fun b x e=>.inl e,fun b r e=>(PV b r e).imp id .inr,aoP,fun q hq hn _=>by
  rw [mS,aa];intro e2;subst e2;rcases hf with ⟨_,h1⟩ | h1
  ·omega
  ·exact hn f h1,fun _ q=>.inl (q.of (fun _=>rfl) Vd),fun _ q=>.inl (q.of (fun _=>rfl) Vd fun x q=>Cj x (h.I5 q)),aix,fun _ q=>.inl (q.of (fun _=>rfl) Vd (fun x q=>Cj x (h.I5 q)) TF),mv Cj,o6 hA (by simp)⟩
 ·intro b cs bp hb
  rw [ae.bA] at hb;split at hb
  ·simp at hb
  ·obtain ⟨x,c2,h1,h2,h3⟩:=h.row b cs bp hb
   have:=h.eV b x h1;exact ⟨x,c2,h1,by rw [n5,aa (by omega)]; exact h2,h3.mono hle⟩
 ·intro b t GC hb
  rw [ae.bA] at hb;split at hb
  ·rename_i e
   simp at hb;obtain ⟨rfl,rfl⟩:=hb;subst e;refine .inr ⟨g,by simp [Env.vF],Hk,fun x hx cs e own q k hr=>?_⟩;rw [n5] at hr;rw [mS,aD rfl] at hx;split at hr
   ·simp at hr
    obtain ⟨rfl,rfl,_,_,rfl⟩:=hr;exact ⟨rfl,Nat.le_of_eq hc⟩
   ·rename_i cD
    rcases de.1 hx with hx | hx
    ·exact absurd hx cD
    ·rcases hf with ⟨_,h1⟩ | h1
     ·rw [h1,h.fresh _ (aC _)] at hx; simp at hx
     ·rcases h.aP b top sz hA with ⟨_,h2⟩ | ⟨g2,h2,_,h3⟩
      ·rw [h1] at h2; simp at h2
      ·rw [h1] at h2
       simp at h2;subst h2;obtain ⟨h4,h5⟩:=h3 x hx cs e own q k hr;exact ⟨h4,hD h5 (Nat.mul_le_mul_right _ ht)⟩
  ·rename_i F3
   rcases h.aP b t GC hb with ⟨h1,h2⟩ | ⟨g2,h2,hp2,h3⟩
   ·exact .inl ⟨h1,by simp only [Env.vF,Env.eM]; rw [aa F3]; exact h2⟩
   ·have cD:g2≠g:=by
     intro e;subst e;rcases hf with ⟨_,h1⟩ | h1
     ·have:=h.iv b g2 h2; omega
     ·exact F3 (h.gK b f g2 _ _ _ _ hb hA h2 h1)
    refine .inr ⟨g2,by simp only [Env.vF,Env.eM]; rw [aa F3]; exact h2,hp2,fun x hx cs e own q k hr=>?_⟩;rw [mS,aa cD] at hx;have:=h.mem g2 x hx;rw [n5,aa (by omega)] at hr;exact h3 x hx cs e own q k hr
 ·intro b r hb
  simp only [Env.vF,Env.eM] at hb;rw [n5];split at hb
  ·rename_i e; simp at hb; subst hb; rw [aD e]
  ·rename_i e; rw [aa e]; exact h.z b r hb
 ·intro b x hb
  have hb:E.κ b=some x:=hb;have:=h.eV b x hb;simp only [Env.vF,Env.eM];rw [aa (by omega)];exact h.apart b x hb
 ·exact h.inj
 ·intro b d q tb sb td sd lb ld hb hd
  simp only [Env.vF,Env.eM] at hb hd;rw [ae.bA] at lb ld;have key:∀ d t s,d≠f->A.get d=some (.aP t s)->E.φ d≠some g:=by
   intro d t s hd hl e;rcases hf with ⟨_,h1⟩ | h1
   ·have:=h.iv d g e; omega
   ·exact hd (h.gK d f g _ _ _ _ hl hA e h1)
  by_cases e1:b=f <;> by_cases e2:d=f
  ·omega
  ·rw [aD e1] at hb; rw [aa e2] at hd ld; simp at hb; subst hb; exact absurd hd (key d _ _ e2 ld)
  ·rw [aD e2] at hd; rw [aa e1] at hb lb; simp at hd; subst hd; exact absurd hb (key b _ _ e1 lb)
  ·rw [aa e1] at hb lb; rw [aa e2] at hd ld; exact h.gK b d q _ _ _ _ lb ld hb hd
 ·exact h.jP
 ·intro b q hb
  simp only [Env.vF,Env.eM] at hb;rw [ae.sF];split at hb
  ·omega
  ·exact h.kR b q hb
 ·intro b o hb
  rw [ae.bA] at hb;rw [ae.sF];split at hb
  ·omega
  ·exact h.live b o hb
 ·intro b x hb; have:=h.eV b x hb; omega
 ·intro b r hb
  simp only [Env.vF,Env.eM] at hb;rw [fZ];split at hb
  ·omega
  ·have:=h.lJ b r hb; omega
 ·intro b q hb
  simp only [Env.vF,Env.eM] at hb;rw [fZ];split at hb
  ·simp at hb; omega
  ·have:=h.iv b q hb; omega
 ·intro q hq
  rw [fZ] at hq;rw [mS,aa (by omega)];exact h.fresh q (by omega)
 ·intro q x hx
  rw [fZ];rw [mS] at hx;split at hx
  ·rcases de.1 hx with hx | hx
   ·omega
   ·have:=h.mem g x hx; omega
  ·have:=h.mem q x hx; omega
 ·intro x hx _ _; rw [n5,aa (by omega)]
end Go.K
end
